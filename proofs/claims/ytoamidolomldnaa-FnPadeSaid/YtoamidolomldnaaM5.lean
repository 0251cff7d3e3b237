/- Texts of the own layer and contracts, part 5: Tab. -/
import Derived.Test.YtoamidolomldnaaProg
import Derived.KernelRfl
import Derived.Test.YtoamidolomldnaaM4
/- What the loaded program says of its types. Written by a program (gentab.py). -/
namespace Go.Proofs
open Go.Abs
theorem Try.mixed : Try.prog.follows .mixedOrders = true := by kernel_rfl
@[go_sem] theorem Try.kind1 : kindT Try.prog 1 = some none := by kernel_rfl
@[go_sem] theorem Try.cof1 : Try.prog.cellsOf 1 = 1 := by kernel_rfl
@[go_sem] theorem Try.kind2 : kindT Try.prog 2 = some none := by kernel_rfl
@[go_sem] theorem Try.info2 : infoT Try.prog 2 = some (1, 8, [.val (.int .i64 0)]) := by kernel_rfl
@[go_sem] theorem Try.cof2 : Try.prog.cellsOf 2 = 1 := by kernel_rfl
@[go_sem] theorem Try.und2 : Try.prog.underlying 2 = some (.int .i64) := by kernel_rfl
@[go_sem] theorem Try.kind3 : kindT Try.prog 3 = some none := by kernel_rfl
@[go_sem] theorem Try.info3 : infoT Try.prog 3 = some (1, 8, [.val (.int .i64 0)]) := by kernel_rfl
@[go_sem] theorem Try.cof3 : Try.prog.cellsOf 3 = 1 := by kernel_rfl
@[go_sem] theorem Try.und3 : Try.prog.underlying 3 = some (.int .i64) := by kernel_rfl
@[go_sem] theorem Try.kind4 : kindT Try.prog 4 = some none := by kernel_rfl
@[go_sem] theorem Try.isbool4 : boolT Try.prog 4 = true := by kernel_rfl
@[go_sem] theorem Try.info4 : infoT Try.prog 4 = some (1, 1, [.val (.bool false)]) := by kernel_rfl
@[go_sem] theorem Try.cof4 : Try.prog.cellsOf 4 = 1 := by kernel_rfl
@[go_sem] theorem Try.kind5 : kindT Try.prog 5 = some none := by kernel_rfl
@[go_sem] theorem Try.info5 : infoT Try.prog 5 = some (1, 1, [.val (.int .u8 0)]) := by kernel_rfl
@[go_sem] theorem Try.cof5 : Try.prog.cellsOf 5 = 1 := by kernel_rfl
@[go_sem] theorem Try.und5 : Try.prog.underlying 5 = some (.int .u8) := by kernel_rfl
@[go_sem] theorem Try.kind6 : kindT Try.prog 6 = some none := by kernel_rfl
@[go_sem] theorem Try.info6 : infoT Try.prog 6 = some (1, 1, [.val (.int .u8 0)]) := by kernel_rfl
@[go_sem] theorem Try.cof6 : Try.prog.cellsOf 6 = 1 := by kernel_rfl
@[go_sem] theorem Try.und6 : Try.prog.underlying 6 = some (.int .u8) := by kernel_rfl
@[go_sem] theorem Try.kind7 : kindT Try.prog 7 = some (some 4) := by kernel_rfl
@[go_sem] theorem Try.fld7_0 : fldT Try.prog 7 0 = some 0 := by kernel_rfl
@[go_sem] theorem Try.fl17_0 : fld1T Try.prog 7 0 = some 0 := by kernel_rfl
@[go_sem] theorem Try.pl7_0 : plT Try.prog 7 0 = some 0 := by kernel_rfl
@[go_sem] theorem Try.fld7_1 : fldT Try.prog 7 1 = some 1 := by kernel_rfl
@[go_sem] theorem Try.fl17_1 : fld1T Try.prog 7 1 = some 1 := by kernel_rfl
@[go_sem] theorem Try.pl7_1 : plT Try.prog 7 1 = some 1 := by kernel_rfl
@[go_sem] theorem Try.fld7_2 : fldT Try.prog 7 2 = some 2 := by kernel_rfl
@[go_sem] theorem Try.fl17_2 : fld1T Try.prog 7 2 = some 2 := by kernel_rfl
@[go_sem] theorem Try.pl7_2 : plT Try.prog 7 2 = some 2 := by kernel_rfl
@[go_sem] theorem Try.fld7_3 : fldT Try.prog 7 3 = some 3 := by kernel_rfl
@[go_sem] theorem Try.fl17_3 : fld1T Try.prog 7 3 = some 3 := by kernel_rfl
@[go_sem] theorem Try.pl7_3 : plT Try.prog 7 3 = some 3 := by kernel_rfl
@[go_sem] theorem Try.plk7 : plOk Try.prog 7 = true := by kernel_rfl
@[go_sem] theorem Try.info7 : infoT Try.prog 7 = some (4, 24, [.val (.int .i64 0), .val (.int .i64 0), .val (.bool false), .val (.int .u8 0)]) := by kernel_rfl
@[go_sem] theorem Try.cof7 : Try.prog.cellsOf 7 = 4 := by kernel_rfl
@[go_sem] theorem Try.kind8 : kindT Try.prog 8 = some (some 4) := by kernel_rfl
@[go_sem] theorem Try.fld8_0 : fldT Try.prog 8 0 = some 0 := by kernel_rfl
@[go_sem] theorem Try.fl18_0 : fld1T Try.prog 8 0 = some 0 := by kernel_rfl
@[go_sem] theorem Try.pl8_0 : plT Try.prog 8 0 = some 0 := by kernel_rfl
@[go_sem] theorem Try.fld8_1 : fldT Try.prog 8 1 = some 1 := by kernel_rfl
@[go_sem] theorem Try.fl18_1 : fld1T Try.prog 8 1 = some 1 := by kernel_rfl
@[go_sem] theorem Try.pl8_1 : plT Try.prog 8 1 = some 1 := by kernel_rfl
@[go_sem] theorem Try.fld8_2 : fldT Try.prog 8 2 = some 2 := by kernel_rfl
@[go_sem] theorem Try.fl18_2 : fld1T Try.prog 8 2 = some 2 := by kernel_rfl
@[go_sem] theorem Try.pl8_2 : plT Try.prog 8 2 = some 2 := by kernel_rfl
@[go_sem] theorem Try.fld8_3 : fldT Try.prog 8 3 = some 3 := by kernel_rfl
@[go_sem] theorem Try.fl18_3 : fld1T Try.prog 8 3 = some 3 := by kernel_rfl
@[go_sem] theorem Try.pl8_3 : plT Try.prog 8 3 = some 3 := by kernel_rfl
@[go_sem] theorem Try.plk8 : plOk Try.prog 8 = true := by kernel_rfl
@[go_sem] theorem Try.info8 : infoT Try.prog 8 = some (4, 24, [.val (.int .i64 0), .val (.int .i64 0), .val (.bool false), .val (.int .u8 0)]) := by kernel_rfl
@[go_sem] theorem Try.cof8 : Try.prog.cellsOf 8 = 4 := by kernel_rfl
@[go_sem] theorem Try.kind9 : kindT Try.prog 9 = some none := by kernel_rfl
@[go_sem] theorem Try.elem9 : elemT Try.prog 9 = none := by kernel_rfl
@[go_sem] theorem Try.info9 : infoT Try.prog 9 = some (1, 16, [.val (.string ⟨#[]⟩)]) := by kernel_rfl
@[go_sem] theorem Try.cof9 : Try.prog.cellsOf 9 = 1 := by kernel_rfl
theorem Try.und9 : Try.prog.underlying 9 = some (.string) := by kernel_rfl
@[go_sem] theorem Try.kind10 : kindT Try.prog 10 = some none := by kernel_rfl
@[go_sem] theorem Try.elem10 : elemT Try.prog 10 = none := by kernel_rfl
@[go_sem] theorem Try.info10 : infoT Try.prog 10 = some (1, 16, [.val (.string ⟨#[]⟩)]) := by kernel_rfl
@[go_sem] theorem Try.cof10 : Try.prog.cellsOf 10 = 1 := by kernel_rfl
theorem Try.und10 : Try.prog.underlying 10 = some (.string) := by kernel_rfl
@[go_sem] theorem Try.kind11 : kindT Try.prog 11 = some none := by kernel_rfl
@[go_sem] theorem Try.elem11 : elemT Try.prog 11 = none := by kernel_rfl
@[go_sem] theorem Try.info11 : infoT Try.prog 11 = some (1, 16, [.val (.string ⟨#[]⟩)]) := by kernel_rfl
@[go_sem] theorem Try.cof11 : Try.prog.cellsOf 11 = 1 := by kernel_rfl
theorem Try.und11 : Try.prog.underlying 11 = some (.string) := by kernel_rfl
@[go_sem] theorem Try.kind12 : kindT Try.prog 12 = some none := by kernel_rfl
@[go_sem] theorem Try.info12 : infoT Try.prog 12 = some (1, 8, [.val (.int .u64 0)]) := by kernel_rfl
@[go_sem] theorem Try.cof12 : Try.prog.cellsOf 12 = 1 := by kernel_rfl
@[go_sem] theorem Try.und12 : Try.prog.underlying 12 = some (.int .u64) := by kernel_rfl
@[go_sem] theorem Try.kind13 : kindT Try.prog 13 = some (some 2) := by kernel_rfl
@[go_sem] theorem Try.fld13_0 : fldT Try.prog 13 0 = some 0 := by kernel_rfl
@[go_sem] theorem Try.fl113_0 : fld1T Try.prog 13 0 = some 0 := by kernel_rfl
@[go_sem] theorem Try.pl13_0 : plT Try.prog 13 0 = some 0 := by kernel_rfl
@[go_sem] theorem Try.fld13_1 : fldT Try.prog 13 1 = some 1 := by kernel_rfl
@[go_sem] theorem Try.fl113_1 : fld1T Try.prog 13 1 = some 1 := by kernel_rfl
@[go_sem] theorem Try.pl13_1 : plT Try.prog 13 1 = some 1 := by kernel_rfl
@[go_sem] theorem Try.plk13 : plOk Try.prog 13 = true := by kernel_rfl
@[go_sem] theorem Try.info13 : infoT Try.prog 13 = some (2, 24, [.val (.string ⟨#[]⟩), .val (.int .u64 0)]) := by kernel_rfl
@[go_sem] theorem Try.cof13 : Try.prog.cellsOf 13 = 2 := by kernel_rfl
@[go_sem] theorem Try.kind14 : kindT Try.prog 14 = some (some 2) := by kernel_rfl
@[go_sem] theorem Try.fld14_0 : fldT Try.prog 14 0 = some 0 := by kernel_rfl
@[go_sem] theorem Try.fl114_0 : fld1T Try.prog 14 0 = some 0 := by kernel_rfl
@[go_sem] theorem Try.pl14_0 : plT Try.prog 14 0 = some 0 := by kernel_rfl
@[go_sem] theorem Try.fld14_1 : fldT Try.prog 14 1 = some 1 := by kernel_rfl
@[go_sem] theorem Try.fl114_1 : fld1T Try.prog 14 1 = some 1 := by kernel_rfl
@[go_sem] theorem Try.pl14_1 : plT Try.prog 14 1 = some 1 := by kernel_rfl
@[go_sem] theorem Try.plk14 : plOk Try.prog 14 = true := by kernel_rfl
@[go_sem] theorem Try.info14 : infoT Try.prog 14 = some (2, 24, [.val (.string ⟨#[]⟩), .val (.int .u64 0)]) := by kernel_rfl
@[go_sem] theorem Try.cof14 : Try.prog.cellsOf 14 = 2 := by kernel_rfl
@[go_sem] theorem Try.kind15 : kindT Try.prog 15 = some none := by kernel_rfl
@[go_sem] theorem Try.elem15 : elemT Try.prog 15 = none := by kernel_rfl
@[go_sem] theorem Try.cof15 : Try.prog.cellsOf 15 = 1 := by kernel_rfl
@[go_sem] theorem Try.kind16 : kindT Try.prog 16 = some none := by kernel_rfl
@[go_sem] theorem Try.elem16 : elemT Try.prog 16 = none := by kernel_rfl
@[go_sem] theorem Try.cof16 : Try.prog.cellsOf 16 = 1 := by kernel_rfl
@[go_sem] theorem Try.kind17 : kindT Try.prog 17 = some none := by kernel_rfl
@[go_sem] theorem Try.elem17 : elemT Try.prog 17 = none := by kernel_rfl
@[go_sem] theorem Try.cof17 : Try.prog.cellsOf 17 = 1 := by kernel_rfl
@[go_sem] theorem Try.kind18 : kindT Try.prog 18 = some (some 1) := by kernel_rfl
@[go_sem] theorem Try.fld18_0 : fldT Try.prog 18 0 = some 0 := by kernel_rfl
@[go_sem] theorem Try.fl118_0 : fld1T Try.prog 18 0 = some 0 := by kernel_rfl
@[go_sem] theorem Try.pl18_0 : plT Try.prog 18 0 = some 0 := by kernel_rfl
@[go_sem] theorem Try.plk18 : plOk Try.prog 18 = true := by kernel_rfl
@[go_sem] theorem Try.cof18 : Try.prog.cellsOf 18 = 1 := by kernel_rfl
@[go_sem] theorem Try.kind19 : kindT Try.prog 19 = some (some 1) := by kernel_rfl
@[go_sem] theorem Try.fld19_0 : fldT Try.prog 19 0 = some 0 := by kernel_rfl
@[go_sem] theorem Try.fl119_0 : fld1T Try.prog 19 0 = some 0 := by kernel_rfl
@[go_sem] theorem Try.pl19_0 : plT Try.prog 19 0 = some 0 := by kernel_rfl
@[go_sem] theorem Try.plk19 : plOk Try.prog 19 = true := by kernel_rfl
@[go_sem] theorem Try.cof19 : Try.prog.cellsOf 19 = 1 := by kernel_rfl
@[go_sem] theorem Try.kind21 : kindT Try.prog 21 = some none := by kernel_rfl
@[go_sem] theorem Try.info21 : infoT Try.prog 21 = some (1, 4, [.val (.int .i32 0)]) := by kernel_rfl
@[go_sem] theorem Try.cof21 : Try.prog.cellsOf 21 = 1 := by kernel_rfl
@[go_sem] theorem Try.und21 : Try.prog.underlying 21 = some (.int .i32) := by kernel_rfl
@[go_sem] theorem Try.kind22 : kindT Try.prog 22 = some none := by kernel_rfl
@[go_sem] theorem Try.elem22 : elemT Try.prog 22 = some 23 := by kernel_rfl
@[go_sem] theorem Try.info22 : infoT Try.prog 22 = some (1, 24, [.val (.slice none 0 0)]) := by kernel_rfl
@[go_sem] theorem Try.cof22 : Try.prog.cellsOf 22 = 1 := by kernel_rfl
theorem Try.und22 : Try.prog.underlying 22 = some (.slice 23) := by kernel_rfl
@[go_sem] theorem Try.kind23 : kindT Try.prog 23 = some none := by kernel_rfl
@[go_sem] theorem Try.elem23 : elemT Try.prog 23 = some 2 := by kernel_rfl
@[go_sem] theorem Try.info23 : infoT Try.prog 23 = some (1, 24, [.val (.slice none 0 0)]) := by kernel_rfl
@[go_sem] theorem Try.cof23 : Try.prog.cellsOf 23 = 1 := by kernel_rfl
theorem Try.und23 : Try.prog.underlying 23 = some (.slice 2) := by kernel_rfl
@[go_sem] theorem Try.kind24 : kindT Try.prog 24 = some (some 2) := by kernel_rfl
@[go_sem] theorem Try.fld24_0 : fldT Try.prog 24 0 = some 0 := by kernel_rfl
@[go_sem] theorem Try.fl124_0 : fld1T Try.prog 24 0 = some 0 := by kernel_rfl
@[go_sem] theorem Try.pl24_0 : plT Try.prog 24 0 = some 0 := by kernel_rfl
@[go_sem] theorem Try.fld24_1 : fldT Try.prog 24 1 = some 1 := by kernel_rfl
@[go_sem] theorem Try.fl124_1 : fld1T Try.prog 24 1 = some 1 := by kernel_rfl
@[go_sem] theorem Try.pl24_1 : plT Try.prog 24 1 = some 1 := by kernel_rfl
@[go_sem] theorem Try.plk24 : plOk Try.prog 24 = true := by kernel_rfl
@[go_sem] theorem Try.info24 : infoT Try.prog 24 = some (2, 48, [.val (.slice none 0 0), .val (.slice none 0 0)]) := by kernel_rfl
@[go_sem] theorem Try.cof24 : Try.prog.cellsOf 24 = 2 := by kernel_rfl
@[go_sem] theorem Try.kind25 : kindT Try.prog 25 = some (some 2) := by kernel_rfl
@[go_sem] theorem Try.fld25_0 : fldT Try.prog 25 0 = some 0 := by kernel_rfl
@[go_sem] theorem Try.fl125_0 : fld1T Try.prog 25 0 = some 0 := by kernel_rfl
@[go_sem] theorem Try.pl25_0 : plT Try.prog 25 0 = some 0 := by kernel_rfl
@[go_sem] theorem Try.fld25_1 : fldT Try.prog 25 1 = some 1 := by kernel_rfl
@[go_sem] theorem Try.fl125_1 : fld1T Try.prog 25 1 = some 1 := by kernel_rfl
@[go_sem] theorem Try.pl25_1 : plT Try.prog 25 1 = some 1 := by kernel_rfl
@[go_sem] theorem Try.plk25 : plOk Try.prog 25 = true := by kernel_rfl
@[go_sem] theorem Try.info25 : infoT Try.prog 25 = some (2, 48, [.val (.slice none 0 0), .val (.slice none 0 0)]) := by kernel_rfl
@[go_sem] theorem Try.cof25 : Try.prog.cellsOf 25 = 2 := by kernel_rfl
@[go_sem] theorem Try.kind26 : kindT Try.prog 26 = some none := by kernel_rfl
@[go_sem] theorem Try.cof26 : Try.prog.cellsOf 26 = 1 := by kernel_rfl
@[go_sem] theorem Try.kind28 : kindT Try.prog 28 = some none := by kernel_rfl
@[go_sem] theorem Try.cof28 : Try.prog.cellsOf 28 = 1 := by kernel_rfl
@[go_sem] theorem Try.kind29 : kindT Try.prog 29 = some (some 2) := by kernel_rfl
@[go_sem] theorem Try.fld29_0 : fldT Try.prog 29 0 = some 0 := by kernel_rfl
@[go_sem] theorem Try.fl129_0 : fld1T Try.prog 29 0 = some 0 := by kernel_rfl
@[go_sem] theorem Try.pl29_0 : plT Try.prog 29 0 = some 0 := by kernel_rfl
@[go_sem] theorem Try.fld29_1 : fldT Try.prog 29 1 = some 1 := by kernel_rfl
@[go_sem] theorem Try.fl129_1 : fld1T Try.prog 29 1 = some 1 := by kernel_rfl
@[go_sem] theorem Try.pl29_1 : plT Try.prog 29 1 = some 1 := by kernel_rfl
@[go_sem] theorem Try.plk29 : plOk Try.prog 29 = true := by kernel_rfl
@[go_sem] theorem Try.info29 : infoT Try.prog 29 = some (2, 48, [.val (.slice none 0 0), .val (.slice none 0 0)]) := by kernel_rfl
@[go_sem] theorem Try.cof29 : Try.prog.cellsOf 29 = 2 := by kernel_rfl
@[go_sem] theorem Try.kind30 : kindT Try.prog 30 = some none := by kernel_rfl
@[go_sem] theorem Try.cof30 : Try.prog.cellsOf 30 = 1 := by kernel_rfl
@[go_sem] theorem Try.kind31 : kindT Try.prog 31 = some none := by kernel_rfl
@[go_sem] theorem Try.cof31 : Try.prog.cellsOf 31 = 1 := by kernel_rfl
@[go_sem] theorem Try.kind32 : kindT Try.prog 32 = some none := by kernel_rfl
@[go_sem] theorem Try.cof32 : Try.prog.cellsOf 32 = 1 := by kernel_rfl
@[go_sem] theorem Try.kind33 : kindT Try.prog 33 = some none := by kernel_rfl
@[go_sem] theorem Try.cof33 : Try.prog.cellsOf 33 = 1 := by kernel_rfl
@[go_sem] theorem Try.kind35 : kindT Try.prog 35 = some none := by kernel_rfl
@[go_sem] theorem Try.cof35 : Try.prog.cellsOf 35 = 1 := by kernel_rfl
@[go_sem] theorem Try.kind36 : kindT Try.prog 36 = some none := by kernel_rfl
@[go_sem] theorem Try.cof36 : Try.prog.cellsOf 36 = 1 := by kernel_rfl
@[go_sem] theorem Try.kind37 : kindT Try.prog 37 = some none := by kernel_rfl
@[go_sem] theorem Try.cof37 : Try.prog.cellsOf 37 = 1 := by kernel_rfl
@[go_sem] theorem Try.kind38 : kindT Try.prog 38 = some none := by kernel_rfl
@[go_sem] theorem Try.cof38 : Try.prog.cellsOf 38 = 1 := by kernel_rfl
@[go_sem] theorem Try.kind39 : kindT Try.prog 39 = some none := by kernel_rfl
@[go_sem] theorem Try.cof39 : Try.prog.cellsOf 39 = 1 := by kernel_rfl
@[go_sem] theorem Try.kind40 : kindT Try.prog 40 = some none := by kernel_rfl
@[go_sem] theorem Try.cof40 : Try.prog.cellsOf 40 = 1 := by kernel_rfl
@[go_sem] theorem Try.kind41 : kindT Try.prog 41 = some none := by kernel_rfl
@[go_sem] theorem Try.cof41 : Try.prog.cellsOf 41 = 1 := by kernel_rfl
@[go_sem] theorem Try.kind42 : kindT Try.prog 42 = some none := by kernel_rfl
@[go_sem] theorem Try.cof42 : Try.prog.cellsOf 42 = 1 := by kernel_rfl
@[go_sem] theorem Try.kind43 : kindT Try.prog 43 = some none := by kernel_rfl
@[go_sem] theorem Try.elem43 : elemT Try.prog 43 = some 210 := by kernel_rfl
@[go_sem] theorem Try.info43 : infoT Try.prog 43 = some (1, 24, [.val (.slice none 0 0)]) := by kernel_rfl
@[go_sem] theorem Try.cof43 : Try.prog.cellsOf 43 = 1 := by kernel_rfl
theorem Try.und43 : Try.prog.underlying 43 = some (.slice 210) := by kernel_rfl
@[go_sem] theorem Try.kind44 : kindT Try.prog 44 = some (some 2) := by kernel_rfl
@[go_sem] theorem Try.fld44_0 : fldT Try.prog 44 0 = some 0 := by kernel_rfl
@[go_sem] theorem Try.fl144_0 : fld1T Try.prog 44 0 = some 0 := by kernel_rfl
@[go_sem] theorem Try.pl44_0 : plT Try.prog 44 0 = some 0 := by kernel_rfl
@[go_sem] theorem Try.fld44_1 : fldT Try.prog 44 1 = some 1 := by kernel_rfl
@[go_sem] theorem Try.fl144_1 : fld1T Try.prog 44 1 = some 1 := by kernel_rfl
@[go_sem] theorem Try.pl44_1 : plT Try.prog 44 1 = some 1 := by kernel_rfl
@[go_sem] theorem Try.plk44 : plOk Try.prog 44 = true := by kernel_rfl
@[go_sem] theorem Try.info44 : infoT Try.prog 44 = some (2, 32, [.val (.int .i64 0), .val (.slice none 0 0)]) := by kernel_rfl
@[go_sem] theorem Try.cof44 : Try.prog.cellsOf 44 = 2 := by kernel_rfl
@[go_sem] theorem Try.kind45 : kindT Try.prog 45 = some (some 2) := by kernel_rfl
@[go_sem] theorem Try.fld45_0 : fldT Try.prog 45 0 = some 0 := by kernel_rfl
@[go_sem] theorem Try.fl145_0 : fld1T Try.prog 45 0 = some 0 := by kernel_rfl
@[go_sem] theorem Try.pl45_0 : plT Try.prog 45 0 = some 0 := by kernel_rfl
@[go_sem] theorem Try.fld45_1 : fldT Try.prog 45 1 = some 1 := by kernel_rfl
@[go_sem] theorem Try.fl145_1 : fld1T Try.prog 45 1 = some 1 := by kernel_rfl
@[go_sem] theorem Try.pl45_1 : plT Try.prog 45 1 = some 1 := by kernel_rfl
@[go_sem] theorem Try.plk45 : plOk Try.prog 45 = true := by kernel_rfl
@[go_sem] theorem Try.info45 : infoT Try.prog 45 = some (2, 32, [.val (.int .i64 0), .val (.slice none 0 0)]) := by kernel_rfl
@[go_sem] theorem Try.cof45 : Try.prog.cellsOf 45 = 2 := by kernel_rfl
@[go_sem] theorem Try.kind46 : kindT Try.prog 46 = some (some 7) := by kernel_rfl
@[go_sem] theorem Try.fld46_0 : fldT Try.prog 46 0 = some 0 := by kernel_rfl
@[go_sem] theorem Try.fl146_0 : fld1T Try.prog 46 0 = some 0 := by kernel_rfl
@[go_sem] theorem Try.pl46_0 : plT Try.prog 46 0 = some 0 := by kernel_rfl
@[go_sem] theorem Try.fld46_1 : fldT Try.prog 46 1 = some 1 := by kernel_rfl
@[go_sem] theorem Try.fl146_1 : fld1T Try.prog 46 1 = some 1 := by kernel_rfl
@[go_sem] theorem Try.pl46_1 : plT Try.prog 46 1 = some 1 := by kernel_rfl
@[go_sem] theorem Try.fld46_2 : fldT Try.prog 46 2 = some 2 := by kernel_rfl
@[go_sem] theorem Try.fld46_3 : fldT Try.prog 46 3 = some 4 := by kernel_rfl
@[go_sem] theorem Try.fld46_4 : fldT Try.prog 46 4 = some 6 := by kernel_rfl
@[go_sem] theorem Try.fl146_4 : fld1T Try.prog 46 4 = some 6 := by kernel_rfl
@[go_sem] theorem Try.pl46_4 : plT Try.prog 46 4 = some 6 := by kernel_rfl
@[go_sem] theorem Try.plk46 : plOk Try.prog 46 = true := by kernel_rfl
@[go_sem] theorem Try.info46 : infoT Try.prog 46 = some (7, 152, [.val (.slice none 0 0), .val (.slice none 0 0), .val (.slice none 0 0), .val (.slice none 0 0), .val (.int .i64 0), .val (.slice none 0 0), .val (.slice none 0 0)]) := by kernel_rfl
@[go_sem] theorem Try.cof46 : Try.prog.cellsOf 46 = 7 := by kernel_rfl
@[go_sem] theorem Try.kind47 : kindT Try.prog 47 = some (some 7) := by kernel_rfl
@[go_sem] theorem Try.fld47_0 : fldT Try.prog 47 0 = some 0 := by kernel_rfl
@[go_sem] theorem Try.fl147_0 : fld1T Try.prog 47 0 = some 0 := by kernel_rfl
@[go_sem] theorem Try.pl47_0 : plT Try.prog 47 0 = some 0 := by kernel_rfl
@[go_sem] theorem Try.fld47_1 : fldT Try.prog 47 1 = some 1 := by kernel_rfl
@[go_sem] theorem Try.fl147_1 : fld1T Try.prog 47 1 = some 1 := by kernel_rfl
@[go_sem] theorem Try.pl47_1 : plT Try.prog 47 1 = some 1 := by kernel_rfl
@[go_sem] theorem Try.fld47_2 : fldT Try.prog 47 2 = some 2 := by kernel_rfl
@[go_sem] theorem Try.fld47_3 : fldT Try.prog 47 3 = some 4 := by kernel_rfl
@[go_sem] theorem Try.fld47_4 : fldT Try.prog 47 4 = some 6 := by kernel_rfl
@[go_sem] theorem Try.fl147_4 : fld1T Try.prog 47 4 = some 6 := by kernel_rfl
@[go_sem] theorem Try.pl47_4 : plT Try.prog 47 4 = some 6 := by kernel_rfl
@[go_sem] theorem Try.plk47 : plOk Try.prog 47 = true := by kernel_rfl
@[go_sem] theorem Try.info47 : infoT Try.prog 47 = some (7, 152, [.val (.slice none 0 0), .val (.slice none 0 0), .val (.slice none 0 0), .val (.slice none 0 0), .val (.int .i64 0), .val (.slice none 0 0), .val (.slice none 0 0)]) := by kernel_rfl
@[go_sem] theorem Try.cof47 : Try.prog.cellsOf 47 = 7 := by kernel_rfl
@[go_sem] theorem Try.kind48 : kindT Try.prog 48 = some none := by kernel_rfl
@[go_sem] theorem Try.cof48 : Try.prog.cellsOf 48 = 1 := by kernel_rfl
@[go_sem] theorem Try.kind49 : kindT Try.prog 49 = some none := by kernel_rfl
@[go_sem] theorem Try.cof49 : Try.prog.cellsOf 49 = 1 := by kernel_rfl
@[go_sem] theorem Try.kind50 : kindT Try.prog 50 = some none := by kernel_rfl
@[go_sem] theorem Try.elem50 : elemT Try.prog 50 = some 177 := by kernel_rfl
@[go_sem] theorem Try.info50 : infoT Try.prog 50 = some (1, 24, [.val (.slice none 0 0)]) := by kernel_rfl
@[go_sem] theorem Try.cof50 : Try.prog.cellsOf 50 = 1 := by kernel_rfl
theorem Try.und50 : Try.prog.underlying 50 = some (.slice 177) := by kernel_rfl
@[go_sem] theorem Try.kind51 : kindT Try.prog 51 = some (some 2) := by kernel_rfl
@[go_sem] theorem Try.fld51_0 : fldT Try.prog 51 0 = some 0 := by kernel_rfl
@[go_sem] theorem Try.fl151_0 : fld1T Try.prog 51 0 = some 0 := by kernel_rfl
@[go_sem] theorem Try.pl51_0 : plT Try.prog 51 0 = some 0 := by kernel_rfl
@[go_sem] theorem Try.fld51_1 : fldT Try.prog 51 1 = some 1 := by kernel_rfl
@[go_sem] theorem Try.fl151_1 : fld1T Try.prog 51 1 = some 1 := by kernel_rfl
@[go_sem] theorem Try.pl51_1 : plT Try.prog 51 1 = some 1 := by kernel_rfl
@[go_sem] theorem Try.plk51 : plOk Try.prog 51 = true := by kernel_rfl
@[go_sem] theorem Try.info51 : infoT Try.prog 51 = some (2, 32, [.val (.int .i64 0), .val (.slice none 0 0)]) := by kernel_rfl
@[go_sem] theorem Try.cof51 : Try.prog.cellsOf 51 = 2 := by kernel_rfl
@[go_sem] theorem Try.kind52 : kindT Try.prog 52 = some (some 2) := by kernel_rfl
@[go_sem] theorem Try.fld52_0 : fldT Try.prog 52 0 = some 0 := by kernel_rfl
@[go_sem] theorem Try.fl152_0 : fld1T Try.prog 52 0 = some 0 := by kernel_rfl
@[go_sem] theorem Try.pl52_0 : plT Try.prog 52 0 = some 0 := by kernel_rfl
@[go_sem] theorem Try.fld52_1 : fldT Try.prog 52 1 = some 1 := by kernel_rfl
@[go_sem] theorem Try.fl152_1 : fld1T Try.prog 52 1 = some 1 := by kernel_rfl
@[go_sem] theorem Try.pl52_1 : plT Try.prog 52 1 = some 1 := by kernel_rfl
@[go_sem] theorem Try.plk52 : plOk Try.prog 52 = true := by kernel_rfl
@[go_sem] theorem Try.info52 : infoT Try.prog 52 = some (2, 32, [.val (.int .i64 0), .val (.slice none 0 0)]) := by kernel_rfl
@[go_sem] theorem Try.cof52 : Try.prog.cellsOf 52 = 2 := by kernel_rfl
@[go_sem] theorem Try.kind53 : kindT Try.prog 53 = some (some 7) := by kernel_rfl
@[go_sem] theorem Try.fld53_0 : fldT Try.prog 53 0 = some 0 := by kernel_rfl
@[go_sem] theorem Try.fl153_0 : fld1T Try.prog 53 0 = some 0 := by kernel_rfl
@[go_sem] theorem Try.pl53_0 : plT Try.prog 53 0 = some 0 := by kernel_rfl
@[go_sem] theorem Try.fld53_1 : fldT Try.prog 53 1 = some 1 := by kernel_rfl
@[go_sem] theorem Try.fl153_1 : fld1T Try.prog 53 1 = some 1 := by kernel_rfl
@[go_sem] theorem Try.pl53_1 : plT Try.prog 53 1 = some 1 := by kernel_rfl
@[go_sem] theorem Try.fld53_2 : fldT Try.prog 53 2 = some 2 := by kernel_rfl
@[go_sem] theorem Try.fld53_3 : fldT Try.prog 53 3 = some 4 := by kernel_rfl
@[go_sem] theorem Try.fld53_4 : fldT Try.prog 53 4 = some 6 := by kernel_rfl
@[go_sem] theorem Try.fl153_4 : fld1T Try.prog 53 4 = some 6 := by kernel_rfl
@[go_sem] theorem Try.pl53_4 : plT Try.prog 53 4 = some 6 := by kernel_rfl
@[go_sem] theorem Try.plk53 : plOk Try.prog 53 = true := by kernel_rfl
@[go_sem] theorem Try.info53 : infoT Try.prog 53 = some (7, 152, [.val (.slice none 0 0), .val (.slice none 0 0), .val (.slice none 0 0), .val (.slice none 0 0), .val (.int .i64 0), .val (.slice none 0 0), .val (.slice none 0 0)]) := by kernel_rfl
@[go_sem] theorem Try.cof53 : Try.prog.cellsOf 53 = 7 := by kernel_rfl
@[go_sem] theorem Try.kind54 : kindT Try.prog 54 = some (some 7) := by kernel_rfl
@[go_sem] theorem Try.fld54_0 : fldT Try.prog 54 0 = some 0 := by kernel_rfl
@[go_sem] theorem Try.fl154_0 : fld1T Try.prog 54 0 = some 0 := by kernel_rfl
@[go_sem] theorem Try.pl54_0 : plT Try.prog 54 0 = some 0 := by kernel_rfl
@[go_sem] theorem Try.fld54_1 : fldT Try.prog 54 1 = some 1 := by kernel_rfl
@[go_sem] theorem Try.fl154_1 : fld1T Try.prog 54 1 = some 1 := by kernel_rfl
@[go_sem] theorem Try.pl54_1 : plT Try.prog 54 1 = some 1 := by kernel_rfl
@[go_sem] theorem Try.fld54_2 : fldT Try.prog 54 2 = some 2 := by kernel_rfl
@[go_sem] theorem Try.fld54_3 : fldT Try.prog 54 3 = some 4 := by kernel_rfl
@[go_sem] theorem Try.fld54_4 : fldT Try.prog 54 4 = some 6 := by kernel_rfl
@[go_sem] theorem Try.fl154_4 : fld1T Try.prog 54 4 = some 6 := by kernel_rfl
@[go_sem] theorem Try.pl54_4 : plT Try.prog 54 4 = some 6 := by kernel_rfl
@[go_sem] theorem Try.plk54 : plOk Try.prog 54 = true := by kernel_rfl
@[go_sem] theorem Try.info54 : infoT Try.prog 54 = some (7, 152, [.val (.slice none 0 0), .val (.slice none 0 0), .val (.slice none 0 0), .val (.slice none 0 0), .val (.int .i64 0), .val (.slice none 0 0), .val (.slice none 0 0)]) := by kernel_rfl
@[go_sem] theorem Try.cof54 : Try.prog.cellsOf 54 = 7 := by kernel_rfl
@[go_sem] theorem Try.kind55 : kindT Try.prog 55 = some none := by kernel_rfl
@[go_sem] theorem Try.cof55 : Try.prog.cellsOf 55 = 1 := by kernel_rfl
@[go_sem] theorem Try.kind56 : kindT Try.prog 56 = some none := by kernel_rfl
@[go_sem] theorem Try.cof56 : Try.prog.cellsOf 56 = 1 := by kernel_rfl
@[go_sem] theorem Try.kind57 : kindT Try.prog 57 = some none := by kernel_rfl
@[go_sem] theorem Try.cof57 : Try.prog.cellsOf 57 = 1 := by kernel_rfl
@[go_sem] theorem Try.kind58 : kindT Try.prog 58 = some none := by kernel_rfl
@[go_sem] theorem Try.elem58 : elemT Try.prog 58 = some 5 := by kernel_rfl
@[go_sem] theorem Try.info58 : infoT Try.prog 58 = some (1, 24, [.val (.slice none 0 0)]) := by kernel_rfl
@[go_sem] theorem Try.cof58 : Try.prog.cellsOf 58 = 1 := by kernel_rfl
theorem Try.und58 : Try.prog.underlying 58 = some (.slice 5) := by kernel_rfl
@[go_sem] theorem Try.kind59 : kindT Try.prog 59 = some none := by kernel_rfl
@[go_sem] theorem Try.cof59 : Try.prog.cellsOf 59 = 1 := by kernel_rfl
@[go_sem] theorem Try.kind61 : kindT Try.prog 61 = some none := by kernel_rfl
@[go_sem] theorem Try.cof61 : Try.prog.cellsOf 61 = 1 := by kernel_rfl
@[go_sem] theorem Try.kind63 : kindT Try.prog 63 = some none := by kernel_rfl
@[go_sem] theorem Try.cof63 : Try.prog.cellsOf 63 = 1 := by kernel_rfl
@[go_sem] theorem Try.kind64 : kindT Try.prog 64 = some none := by kernel_rfl
@[go_sem] theorem Try.cof64 : Try.prog.cellsOf 64 = 1 := by kernel_rfl
@[go_sem] theorem Try.kind65 : kindT Try.prog 65 = some none := by kernel_rfl
@[go_sem] theorem Try.cof65 : Try.prog.cellsOf 65 = 1 := by kernel_rfl
@[go_sem] theorem Try.kind66 : kindT Try.prog 66 = some none := by kernel_rfl
@[go_sem] theorem Try.cof66 : Try.prog.cellsOf 66 = 1 := by kernel_rfl
@[go_sem] theorem Try.kind67 : kindT Try.prog 67 = some none := by kernel_rfl
@[go_sem] theorem Try.cof67 : Try.prog.cellsOf 67 = 1 := by kernel_rfl
@[go_sem] theorem Try.kind69 : kindT Try.prog 69 = some none := by kernel_rfl
@[go_sem] theorem Try.cof69 : Try.prog.cellsOf 69 = 1 := by kernel_rfl
@[go_sem] theorem Try.kind70 : kindT Try.prog 70 = some none := by kernel_rfl
@[go_sem] theorem Try.cof70 : Try.prog.cellsOf 70 = 1 := by kernel_rfl
@[go_sem] theorem Try.kind71 : kindT Try.prog 71 = some none := by kernel_rfl
@[go_sem] theorem Try.cof71 : Try.prog.cellsOf 71 = 1 := by kernel_rfl
@[go_sem] theorem Try.kind73 : kindT Try.prog 73 = some none := by kernel_rfl
@[go_sem] theorem Try.cof73 : Try.prog.cellsOf 73 = 1 := by kernel_rfl
@[go_sem] theorem Try.kind74 : kindT Try.prog 74 = some none := by kernel_rfl
@[go_sem] theorem Try.elem74 : elemT Try.prog 74 = none := by kernel_rfl
@[go_sem] theorem Try.cof74 : Try.prog.cellsOf 74 = 1 := by kernel_rfl
@[go_sem] theorem Try.kind75 : kindT Try.prog 75 = some none := by kernel_rfl
@[go_sem] theorem Try.cof75 : Try.prog.cellsOf 75 = 1 := by kernel_rfl
@[go_sem] theorem Try.kind76 : kindT Try.prog 76 = some none := by kernel_rfl
@[go_sem] theorem Try.info76 : infoT Try.prog 76 = some (1, 8, [.val (.int .u64 0)]) := by kernel_rfl
@[go_sem] theorem Try.cof76 : Try.prog.cellsOf 76 = 1 := by kernel_rfl
@[go_sem] theorem Try.und76 : Try.prog.underlying 76 = some (.int .u64) := by kernel_rfl
@[go_sem] theorem Try.kind77 : kindT Try.prog 77 = some none := by kernel_rfl
@[go_sem] theorem Try.cof77 : Try.prog.cellsOf 77 = 1 := by kernel_rfl
@[go_sem] theorem Try.kind78 : kindT Try.prog 78 = some none := by kernel_rfl
@[go_sem] theorem Try.cof78 : Try.prog.cellsOf 78 = 1 := by kernel_rfl
@[go_sem] theorem Try.kind79 : kindT Try.prog 79 = some none := by kernel_rfl
@[go_sem] theorem Try.cof79 : Try.prog.cellsOf 79 = 1 := by kernel_rfl
@[go_sem] theorem Try.kind80 : kindT Try.prog 80 = some none := by kernel_rfl
@[go_sem] theorem Try.cof80 : Try.prog.cellsOf 80 = 1 := by kernel_rfl
@[go_sem] theorem Try.kind81 : kindT Try.prog 81 = some none := by kernel_rfl
@[go_sem] theorem Try.cof81 : Try.prog.cellsOf 81 = 1 := by kernel_rfl
@[go_sem] theorem Try.kind83 : kindT Try.prog 83 = some none := by kernel_rfl
@[go_sem] theorem Try.cof83 : Try.prog.cellsOf 83 = 1 := by kernel_rfl
@[go_sem] theorem Try.kind84 : kindT Try.prog 84 = some none := by kernel_rfl
@[go_sem] theorem Try.cof84 : Try.prog.cellsOf 84 = 1 := by kernel_rfl
@[go_sem] theorem Try.kind85 : kindT Try.prog 85 = some none := by kernel_rfl
@[go_sem] theorem Try.cof85 : Try.prog.cellsOf 85 = 1 := by kernel_rfl
@[go_sem] theorem Try.kind86 : kindT Try.prog 86 = some none := by kernel_rfl
@[go_sem] theorem Try.cof86 : Try.prog.cellsOf 86 = 1 := by kernel_rfl
@[go_sem] theorem Try.kind87 : kindT Try.prog 87 = some none := by kernel_rfl
@[go_sem] theorem Try.cof87 : Try.prog.cellsOf 87 = 1 := by kernel_rfl
@[go_sem] theorem Try.kind88 : kindT Try.prog 88 = some none := by kernel_rfl
@[go_sem] theorem Try.cof88 : Try.prog.cellsOf 88 = 1 := by kernel_rfl
@[go_sem] theorem Try.kind89 : kindT Try.prog 89 = some none := by kernel_rfl
@[go_sem] theorem Try.cof89 : Try.prog.cellsOf 89 = 1 := by kernel_rfl
@[go_sem] theorem Try.kind90 : kindT Try.prog 90 = some none := by kernel_rfl
@[go_sem] theorem Try.cof90 : Try.prog.cellsOf 90 = 1 := by kernel_rfl
@[go_sem] theorem Try.kind92 : kindT Try.prog 92 = some none := by kernel_rfl
@[go_sem] theorem Try.cof92 : Try.prog.cellsOf 92 = 1 := by kernel_rfl
@[go_sem] theorem Try.kind93 : kindT Try.prog 93 = some none := by kernel_rfl
@[go_sem] theorem Try.cof93 : Try.prog.cellsOf 93 = 1 := by kernel_rfl
@[go_sem] theorem Try.kind94 : kindT Try.prog 94 = some none := by kernel_rfl
@[go_sem] theorem Try.cof94 : Try.prog.cellsOf 94 = 1 := by kernel_rfl
@[go_sem] theorem Try.kind95 : kindT Try.prog 95 = some none := by kernel_rfl
@[go_sem] theorem Try.cof95 : Try.prog.cellsOf 95 = 1 := by kernel_rfl
@[go_sem] theorem Try.kind96 : kindT Try.prog 96 = some none := by kernel_rfl
@[go_sem] theorem Try.cof96 : Try.prog.cellsOf 96 = 1 := by kernel_rfl
@[go_sem] theorem Try.kind97 : kindT Try.prog 97 = some none := by kernel_rfl
@[go_sem] theorem Try.cof97 : Try.prog.cellsOf 97 = 1 := by kernel_rfl
@[go_sem] theorem Try.kind99 : kindT Try.prog 99 = some none := by kernel_rfl
@[go_sem] theorem Try.cof99 : Try.prog.cellsOf 99 = 1 := by kernel_rfl
@[go_sem] theorem Try.kind100 : kindT Try.prog 100 = some none := by kernel_rfl
@[go_sem] theorem Try.cof100 : Try.prog.cellsOf 100 = 1 := by kernel_rfl
@[go_sem] theorem Try.kind101 : kindT Try.prog 101 = some none := by kernel_rfl
@[go_sem] theorem Try.cof101 : Try.prog.cellsOf 101 = 1 := by kernel_rfl
@[go_sem] theorem Try.kind102 : kindT Try.prog 102 = some none := by kernel_rfl
@[go_sem] theorem Try.cof102 : Try.prog.cellsOf 102 = 1 := by kernel_rfl
@[go_sem] theorem Try.kind103 : kindT Try.prog 103 = some none := by kernel_rfl
@[go_sem] theorem Try.cof103 : Try.prog.cellsOf 103 = 1 := by kernel_rfl
@[go_sem] theorem Try.kind104 : kindT Try.prog 104 = some none := by kernel_rfl
@[go_sem] theorem Try.cof104 : Try.prog.cellsOf 104 = 1 := by kernel_rfl
@[go_sem] theorem Try.kind105 : kindT Try.prog 105 = some none := by kernel_rfl
@[go_sem] theorem Try.cof105 : Try.prog.cellsOf 105 = 1 := by kernel_rfl
@[go_sem] theorem Try.kind106 : kindT Try.prog 106 = some none := by kernel_rfl
@[go_sem] theorem Try.cof106 : Try.prog.cellsOf 106 = 1 := by kernel_rfl
@[go_sem] theorem Try.kind108 : kindT Try.prog 108 = some none := by kernel_rfl
@[go_sem] theorem Try.cof108 : Try.prog.cellsOf 108 = 1 := by kernel_rfl
@[go_sem] theorem Try.kind109 : kindT Try.prog 109 = some none := by kernel_rfl
@[go_sem] theorem Try.cof109 : Try.prog.cellsOf 109 = 1 := by kernel_rfl
@[go_sem] theorem Try.kind110 : kindT Try.prog 110 = some none := by kernel_rfl
@[go_sem] theorem Try.cof110 : Try.prog.cellsOf 110 = 1 := by kernel_rfl
@[go_sem] theorem Try.kind112 : kindT Try.prog 112 = some none := by kernel_rfl
@[go_sem] theorem Try.cof112 : Try.prog.cellsOf 112 = 1 := by kernel_rfl
@[go_sem] theorem Try.kind113 : kindT Try.prog 113 = some none := by kernel_rfl
@[go_sem] theorem Try.cof113 : Try.prog.cellsOf 113 = 1 := by kernel_rfl
@[go_sem] theorem Try.kind114 : kindT Try.prog 114 = some none := by kernel_rfl
@[go_sem] theorem Try.cof114 : Try.prog.cellsOf 114 = 1 := by kernel_rfl
@[go_sem] theorem Try.kind115 : kindT Try.prog 115 = some none := by kernel_rfl
@[go_sem] theorem Try.cof115 : Try.prog.cellsOf 115 = 1 := by kernel_rfl
@[go_sem] theorem Try.kind116 : kindT Try.prog 116 = some none := by kernel_rfl
@[go_sem] theorem Try.cof116 : Try.prog.cellsOf 116 = 1 := by kernel_rfl
@[go_sem] theorem Try.kind117 : kindT Try.prog 117 = some none := by kernel_rfl
@[go_sem] theorem Try.cof117 : Try.prog.cellsOf 117 = 1 := by kernel_rfl
@[go_sem] theorem Try.kind118 : kindT Try.prog 118 = some none := by kernel_rfl
@[go_sem] theorem Try.cof118 : Try.prog.cellsOf 118 = 1 := by kernel_rfl
@[go_sem] theorem Try.kind119 : kindT Try.prog 119 = some none := by kernel_rfl
@[go_sem] theorem Try.cof119 : Try.prog.cellsOf 119 = 1 := by kernel_rfl
@[go_sem] theorem Try.kind120 : kindT Try.prog 120 = some none := by kernel_rfl
@[go_sem] theorem Try.cof120 : Try.prog.cellsOf 120 = 1 := by kernel_rfl
@[go_sem] theorem Try.kind121 : kindT Try.prog 121 = some none := by kernel_rfl
@[go_sem] theorem Try.cof121 : Try.prog.cellsOf 121 = 1 := by kernel_rfl
@[go_sem] theorem Try.kind122 : kindT Try.prog 122 = some none := by kernel_rfl
@[go_sem] theorem Try.elem122 : elemT Try.prog 122 = none := by kernel_rfl
@[go_sem] theorem Try.cof122 : Try.prog.cellsOf 122 = 1 := by kernel_rfl
@[go_sem] theorem Try.kind123 : kindT Try.prog 123 = some none := by kernel_rfl
@[go_sem] theorem Try.cof123 : Try.prog.cellsOf 123 = 1 := by kernel_rfl
@[go_sem] theorem Try.kind124 : kindT Try.prog 124 = some none := by kernel_rfl
@[go_sem] theorem Try.cof124 : Try.prog.cellsOf 124 = 1 := by kernel_rfl
@[go_sem] theorem Try.kind125 : kindT Try.prog 125 = some none := by kernel_rfl
@[go_sem] theorem Try.cof125 : Try.prog.cellsOf 125 = 1 := by kernel_rfl
@[go_sem] theorem Try.kind126 : kindT Try.prog 126 = some none := by kernel_rfl
@[go_sem] theorem Try.cof126 : Try.prog.cellsOf 126 = 1 := by kernel_rfl
@[go_sem] theorem Try.kind127 : kindT Try.prog 127 = some none := by kernel_rfl
@[go_sem] theorem Try.cof127 : Try.prog.cellsOf 127 = 1 := by kernel_rfl
@[go_sem] theorem Try.kind128 : kindT Try.prog 128 = some none := by kernel_rfl
@[go_sem] theorem Try.cof128 : Try.prog.cellsOf 128 = 1 := by kernel_rfl
@[go_sem] theorem Try.kind129 : kindT Try.prog 129 = some none := by kernel_rfl
@[go_sem] theorem Try.cof129 : Try.prog.cellsOf 129 = 1 := by kernel_rfl
@[go_sem] theorem Try.kind130 : kindT Try.prog 130 = some none := by kernel_rfl
@[go_sem] theorem Try.cof130 : Try.prog.cellsOf 130 = 1 := by kernel_rfl
@[go_sem] theorem Try.kind131 : kindT Try.prog 131 = some none := by kernel_rfl
@[go_sem] theorem Try.cof131 : Try.prog.cellsOf 131 = 1 := by kernel_rfl
@[go_sem] theorem Try.kind132 : kindT Try.prog 132 = some none := by kernel_rfl
@[go_sem] theorem Try.cof132 : Try.prog.cellsOf 132 = 1 := by kernel_rfl
@[go_sem] theorem Try.kind133 : kindT Try.prog 133 = some none := by kernel_rfl
@[go_sem] theorem Try.cof133 : Try.prog.cellsOf 133 = 1 := by kernel_rfl
@[go_sem] theorem Try.kind134 : kindT Try.prog 134 = some none := by kernel_rfl
@[go_sem] theorem Try.cof134 : Try.prog.cellsOf 134 = 1 := by kernel_rfl
@[go_sem] theorem Try.kind135 : kindT Try.prog 135 = some none := by kernel_rfl
@[go_sem] theorem Try.cof135 : Try.prog.cellsOf 135 = 1 := by kernel_rfl
@[go_sem] theorem Try.kind136 : kindT Try.prog 136 = some none := by kernel_rfl
@[go_sem] theorem Try.cof136 : Try.prog.cellsOf 136 = 1 := by kernel_rfl
@[go_sem] theorem Try.kind137 : kindT Try.prog 137 = some none := by kernel_rfl
@[go_sem] theorem Try.elem137 : elemT Try.prog 137 = some 142 := by kernel_rfl
@[go_sem] theorem Try.info137 : infoT Try.prog 137 = some (1, 24, [.val (.slice none 0 0)]) := by kernel_rfl
@[go_sem] theorem Try.cof137 : Try.prog.cellsOf 137 = 1 := by kernel_rfl
theorem Try.und137 : Try.prog.underlying 137 = some (.slice 142) := by kernel_rfl
@[go_sem] theorem Try.kind138 : kindT Try.prog 138 = some none := by kernel_rfl
@[go_sem] theorem Try.cof138 : Try.prog.cellsOf 138 = 1 := by kernel_rfl
@[go_sem] theorem Try.kind139 : kindT Try.prog 139 = some none := by kernel_rfl
@[go_sem] theorem Try.cof139 : Try.prog.cellsOf 139 = 1 := by kernel_rfl
@[go_sem] theorem Try.kind140 : kindT Try.prog 140 = some none := by kernel_rfl
@[go_sem] theorem Try.cof140 : Try.prog.cellsOf 140 = 1 := by kernel_rfl
@[go_sem] theorem Try.kind141 : kindT Try.prog 141 = some none := by kernel_rfl
@[go_sem] theorem Try.elem141 : elemT Try.prog 141 = none := by kernel_rfl
@[go_sem] theorem Try.map141 : mapT Try.prog 141 = true := by kernel_rfl
@[go_sem] theorem Try.ismap141 : isMapT Try.prog 141 = true := by kernel_rfl
@[go_sem] theorem Try.info141 : infoT Try.prog 141 = some (1, 8, [.val (.map none)]) := by kernel_rfl
@[go_sem] theorem Try.cof141 : Try.prog.cellsOf 141 = 1 := by kernel_rfl
@[go_sem] theorem Try.kind142 : kindT Try.prog 142 = some none := by kernel_rfl
@[go_sem] theorem Try.elem142 : elemT Try.prog 142 = none := by kernel_rfl
@[go_sem] theorem Try.map142 : mapT Try.prog 142 = true := by kernel_rfl
@[go_sem] theorem Try.ismap142 : isMapT Try.prog 142 = true := by kernel_rfl
@[go_sem] theorem Try.info142 : infoT Try.prog 142 = some (1, 8, [.val (.map none)]) := by kernel_rfl
@[go_sem] theorem Try.cof142 : Try.prog.cellsOf 142 = 1 := by kernel_rfl
@[go_sem] theorem Try.kind143 : kindT Try.prog 143 = some none := by kernel_rfl
@[go_sem] theorem Try.cof143 : Try.prog.cellsOf 143 = 1 := by kernel_rfl
@[go_sem] theorem Try.kind144 : kindT Try.prog 144 = some (some 3) := by kernel_rfl
@[go_sem] theorem Try.fld144_0 : fldT Try.prog 144 0 = some 0 := by kernel_rfl
@[go_sem] theorem Try.fl1144_0 : fld1T Try.prog 144 0 = some 0 := by kernel_rfl
@[go_sem] theorem Try.pl144_0 : plT Try.prog 144 0 = some 0 := by kernel_rfl
@[go_sem] theorem Try.fld144_1 : fldT Try.prog 144 1 = some 1 := by kernel_rfl
@[go_sem] theorem Try.fl1144_1 : fld1T Try.prog 144 1 = some 1 := by kernel_rfl
@[go_sem] theorem Try.pl144_1 : plT Try.prog 144 1 = some 1 := by kernel_rfl
@[go_sem] theorem Try.fld144_2 : fldT Try.prog 144 2 = some 2 := by kernel_rfl
@[go_sem] theorem Try.fl1144_2 : fld1T Try.prog 144 2 = some 2 := by kernel_rfl
@[go_sem] theorem Try.pl144_2 : plT Try.prog 144 2 = some 2 := by kernel_rfl
@[go_sem] theorem Try.plk144 : plOk Try.prog 144 = true := by kernel_rfl
@[go_sem] theorem Try.info144 : infoT Try.prog 144 = some (3, 40, [.val (.slice none 0 0), .val (.int .i64 0), .val (.int .u64 0)]) := by kernel_rfl
@[go_sem] theorem Try.cof144 : Try.prog.cellsOf 144 = 3 := by kernel_rfl
@[go_sem] theorem Try.kind145 : kindT Try.prog 145 = some (some 3) := by kernel_rfl
@[go_sem] theorem Try.fld145_0 : fldT Try.prog 145 0 = some 0 := by kernel_rfl
@[go_sem] theorem Try.fl1145_0 : fld1T Try.prog 145 0 = some 0 := by kernel_rfl
@[go_sem] theorem Try.pl145_0 : plT Try.prog 145 0 = some 0 := by kernel_rfl
@[go_sem] theorem Try.fld145_1 : fldT Try.prog 145 1 = some 1 := by kernel_rfl
@[go_sem] theorem Try.fl1145_1 : fld1T Try.prog 145 1 = some 1 := by kernel_rfl
@[go_sem] theorem Try.pl145_1 : plT Try.prog 145 1 = some 1 := by kernel_rfl
@[go_sem] theorem Try.fld145_2 : fldT Try.prog 145 2 = some 2 := by kernel_rfl
@[go_sem] theorem Try.fl1145_2 : fld1T Try.prog 145 2 = some 2 := by kernel_rfl
@[go_sem] theorem Try.pl145_2 : plT Try.prog 145 2 = some 2 := by kernel_rfl
@[go_sem] theorem Try.plk145 : plOk Try.prog 145 = true := by kernel_rfl
@[go_sem] theorem Try.info145 : infoT Try.prog 145 = some (3, 40, [.val (.slice none 0 0), .val (.int .i64 0), .val (.int .u64 0)]) := by kernel_rfl
@[go_sem] theorem Try.cof145 : Try.prog.cellsOf 145 = 3 := by kernel_rfl
@[go_sem] theorem Try.kind146 : kindT Try.prog 146 = some none := by kernel_rfl
@[go_sem] theorem Try.cof146 : Try.prog.cellsOf 146 = 1 := by kernel_rfl
@[go_sem] theorem Try.kind147 : kindT Try.prog 147 = some none := by kernel_rfl
@[go_sem] theorem Try.cof147 : Try.prog.cellsOf 147 = 1 := by kernel_rfl
@[go_sem] theorem Try.kind148 : kindT Try.prog 148 = some none := by kernel_rfl
@[go_sem] theorem Try.cof148 : Try.prog.cellsOf 148 = 1 := by kernel_rfl
@[go_sem] theorem Try.kind149 : kindT Try.prog 149 = some none := by kernel_rfl
@[go_sem] theorem Try.cof149 : Try.prog.cellsOf 149 = 1 := by kernel_rfl
@[go_sem] theorem Try.kind150 : kindT Try.prog 150 = some none := by kernel_rfl
@[go_sem] theorem Try.cof150 : Try.prog.cellsOf 150 = 1 := by kernel_rfl
@[go_sem] theorem Try.kind151 : kindT Try.prog 151 = some none := by kernel_rfl
@[go_sem] theorem Try.cof151 : Try.prog.cellsOf 151 = 1 := by kernel_rfl
@[go_sem] theorem Try.kind152 : kindT Try.prog 152 = some none := by kernel_rfl
@[go_sem] theorem Try.cof152 : Try.prog.cellsOf 152 = 1 := by kernel_rfl
@[go_sem] theorem Try.kind153 : kindT Try.prog 153 = some none := by kernel_rfl
@[go_sem] theorem Try.cof153 : Try.prog.cellsOf 153 = 1 := by kernel_rfl
@[go_sem] theorem Try.kind154 : kindT Try.prog 154 = some none := by kernel_rfl
@[go_sem] theorem Try.cof154 : Try.prog.cellsOf 154 = 1 := by kernel_rfl
@[go_sem] theorem Try.kind155 : kindT Try.prog 155 = some none := by kernel_rfl
@[go_sem] theorem Try.cof155 : Try.prog.cellsOf 155 = 1 := by kernel_rfl
@[go_sem] theorem Try.kind156 : kindT Try.prog 156 = some none := by kernel_rfl
@[go_sem] theorem Try.elem156 : elemT Try.prog 156 = some 158 := by kernel_rfl
@[go_sem] theorem Try.info156 : infoT Try.prog 156 = some (1, 24, [.val (.slice none 0 0)]) := by kernel_rfl
@[go_sem] theorem Try.cof156 : Try.prog.cellsOf 156 = 1 := by kernel_rfl
theorem Try.und156 : Try.prog.underlying 156 = some (.slice 158) := by kernel_rfl
@[go_sem] theorem Try.kind157 : kindT Try.prog 157 = some (some 7) := by kernel_rfl
@[go_sem] theorem Try.elem157 : elemT Try.prog 157 = none := by kernel_rfl
@[go_sem] theorem Try.arr157 : arrT Try.prog 157 = some (7, 1, true) := by kernel_rfl
@[go_sem] theorem Try.pl157_0 : plT Try.prog 157 0 = some 0 := by kernel_rfl
@[go_sem] theorem Try.pl157_1 : plT Try.prog 157 1 = some 1 := by kernel_rfl
@[go_sem] theorem Try.pl157_2 : plT Try.prog 157 2 = some 2 := by kernel_rfl
@[go_sem] theorem Try.pl157_3 : plT Try.prog 157 3 = some 3 := by kernel_rfl
@[go_sem] theorem Try.pl157_4 : plT Try.prog 157 4 = some 4 := by kernel_rfl
@[go_sem] theorem Try.pl157_5 : plT Try.prog 157 5 = some 5 := by kernel_rfl
@[go_sem] theorem Try.pl157_6 : plT Try.prog 157 6 = some 6 := by kernel_rfl
@[go_sem] theorem Try.plk157 : plOk Try.prog 157 = true := by kernel_rfl
@[go_sem] theorem Try.info157 : infoT Try.prog 157 = some (7, 168, [.val (.slice none 0 0), .val (.slice none 0 0), .val (.slice none 0 0), .val (.slice none 0 0), .val (.slice none 0 0), .val (.slice none 0 0), .val (.slice none 0 0)]) := by kernel_rfl
@[go_sem] theorem Try.cof157 : Try.prog.cellsOf 157 = 7 := by kernel_rfl
@[go_sem] theorem Try.kind158 : kindT Try.prog 158 = some (some 7) := by kernel_rfl
@[go_sem] theorem Try.elem158 : elemT Try.prog 158 = none := by kernel_rfl
@[go_sem] theorem Try.arr158 : arrT Try.prog 158 = some (7, 1, true) := by kernel_rfl
@[go_sem] theorem Try.pl158_0 : plT Try.prog 158 0 = some 0 := by kernel_rfl
@[go_sem] theorem Try.pl158_1 : plT Try.prog 158 1 = some 1 := by kernel_rfl
@[go_sem] theorem Try.pl158_2 : plT Try.prog 158 2 = some 2 := by kernel_rfl
@[go_sem] theorem Try.pl158_3 : plT Try.prog 158 3 = some 3 := by kernel_rfl
@[go_sem] theorem Try.pl158_4 : plT Try.prog 158 4 = some 4 := by kernel_rfl
@[go_sem] theorem Try.pl158_5 : plT Try.prog 158 5 = some 5 := by kernel_rfl
@[go_sem] theorem Try.pl158_6 : plT Try.prog 158 6 = some 6 := by kernel_rfl
@[go_sem] theorem Try.plk158 : plOk Try.prog 158 = true := by kernel_rfl
@[go_sem] theorem Try.info158 : infoT Try.prog 158 = some (7, 168, [.val (.slice none 0 0), .val (.slice none 0 0), .val (.slice none 0 0), .val (.slice none 0 0), .val (.slice none 0 0), .val (.slice none 0 0), .val (.slice none 0 0)]) := by kernel_rfl
@[go_sem] theorem Try.cof158 : Try.prog.cellsOf 158 = 7 := by kernel_rfl
@[go_sem] theorem Try.kind159 : kindT Try.prog 159 = some none := by kernel_rfl
@[go_sem] theorem Try.cof159 : Try.prog.cellsOf 159 = 1 := by kernel_rfl
@[go_sem] theorem Try.kind160 : kindT Try.prog 160 = some none := by kernel_rfl
@[go_sem] theorem Try.cof160 : Try.prog.cellsOf 160 = 1 := by kernel_rfl
@[go_sem] theorem Try.kind161 : kindT Try.prog 161 = some none := by kernel_rfl
@[go_sem] theorem Try.cof161 : Try.prog.cellsOf 161 = 1 := by kernel_rfl
@[go_sem] theorem Try.kind162 : kindT Try.prog 162 = some none := by kernel_rfl
@[go_sem] theorem Try.cof162 : Try.prog.cellsOf 162 = 1 := by kernel_rfl
@[go_sem] theorem Try.kind163 : kindT Try.prog 163 = some none := by kernel_rfl
@[go_sem] theorem Try.cof163 : Try.prog.cellsOf 163 = 1 := by kernel_rfl
@[go_sem] theorem Try.kind164 : kindT Try.prog 164 = some none := by kernel_rfl
@[go_sem] theorem Try.cof164 : Try.prog.cellsOf 164 = 1 := by kernel_rfl
@[go_sem] theorem Try.kind165 : kindT Try.prog 165 = some none := by kernel_rfl
@[go_sem] theorem Try.cof165 : Try.prog.cellsOf 165 = 1 := by kernel_rfl
@[go_sem] theorem Try.kind166 : kindT Try.prog 166 = some none := by kernel_rfl
@[go_sem] theorem Try.cof166 : Try.prog.cellsOf 166 = 1 := by kernel_rfl
@[go_sem] theorem Try.kind167 : kindT Try.prog 167 = some none := by kernel_rfl
@[go_sem] theorem Try.cof167 : Try.prog.cellsOf 167 = 1 := by kernel_rfl
@[go_sem] theorem Try.kind168 : kindT Try.prog 168 = some none := by kernel_rfl
@[go_sem] theorem Try.cof168 : Try.prog.cellsOf 168 = 1 := by kernel_rfl
@[go_sem] theorem Try.kind169 : kindT Try.prog 169 = some none := by kernel_rfl
@[go_sem] theorem Try.cof169 : Try.prog.cellsOf 169 = 1 := by kernel_rfl
@[go_sem] theorem Try.kind170 : kindT Try.prog 170 = some none := by kernel_rfl
@[go_sem] theorem Try.cof170 : Try.prog.cellsOf 170 = 1 := by kernel_rfl
@[go_sem] theorem Try.kind171 : kindT Try.prog 171 = some none := by kernel_rfl
@[go_sem] theorem Try.cof171 : Try.prog.cellsOf 171 = 1 := by kernel_rfl
@[go_sem] theorem Try.kind172 : kindT Try.prog 172 = some none := by kernel_rfl
@[go_sem] theorem Try.cof172 : Try.prog.cellsOf 172 = 1 := by kernel_rfl
@[go_sem] theorem Try.kind173 : kindT Try.prog 173 = some none := by kernel_rfl
@[go_sem] theorem Try.cof173 : Try.prog.cellsOf 173 = 1 := by kernel_rfl
@[go_sem] theorem Try.kind174 : kindT Try.prog 174 = some none := by kernel_rfl
@[go_sem] theorem Try.cof174 : Try.prog.cellsOf 174 = 1 := by kernel_rfl
@[go_sem] theorem Try.kind175 : kindT Try.prog 175 = some none := by kernel_rfl
@[go_sem] theorem Try.cof175 : Try.prog.cellsOf 175 = 1 := by kernel_rfl
@[go_sem] theorem Try.kind176 : kindT Try.prog 176 = some none := by kernel_rfl
@[go_sem] theorem Try.cof176 : Try.prog.cellsOf 176 = 1 := by kernel_rfl
@[go_sem] theorem Try.kind177 : kindT Try.prog 177 = some none := by kernel_rfl
@[go_sem] theorem Try.elem177 : elemT Try.prog 177 = some 179 := by kernel_rfl
@[go_sem] theorem Try.info177 : infoT Try.prog 177 = some (1, 24, [.val (.slice none 0 0)]) := by kernel_rfl
@[go_sem] theorem Try.cof177 : Try.prog.cellsOf 177 = 1 := by kernel_rfl
theorem Try.und177 : Try.prog.underlying 177 = some (.slice 179) := by kernel_rfl
@[go_sem] theorem Try.kind178 : kindT Try.prog 178 = some (some 2) := by kernel_rfl
@[go_sem] theorem Try.fld178_0 : fldT Try.prog 178 0 = some 0 := by kernel_rfl
@[go_sem] theorem Try.fl1178_0 : fld1T Try.prog 178 0 = some 0 := by kernel_rfl
@[go_sem] theorem Try.pl178_0 : plT Try.prog 178 0 = some 0 := by kernel_rfl
@[go_sem] theorem Try.fld178_1 : fldT Try.prog 178 1 = some 1 := by kernel_rfl
@[go_sem] theorem Try.fl1178_1 : fld1T Try.prog 178 1 = some 1 := by kernel_rfl
@[go_sem] theorem Try.pl178_1 : plT Try.prog 178 1 = some 1 := by kernel_rfl
@[go_sem] theorem Try.plk178 : plOk Try.prog 178 = true := by kernel_rfl
@[go_sem] theorem Try.info178 : infoT Try.prog 178 = some (2, 32, [.val (.int .i64 0), .val (.slice none 0 0)]) := by kernel_rfl
@[go_sem] theorem Try.cof178 : Try.prog.cellsOf 178 = 2 := by kernel_rfl
@[go_sem] theorem Try.kind179 : kindT Try.prog 179 = some (some 2) := by kernel_rfl
@[go_sem] theorem Try.fld179_0 : fldT Try.prog 179 0 = some 0 := by kernel_rfl
@[go_sem] theorem Try.fl1179_0 : fld1T Try.prog 179 0 = some 0 := by kernel_rfl
@[go_sem] theorem Try.pl179_0 : plT Try.prog 179 0 = some 0 := by kernel_rfl
@[go_sem] theorem Try.fld179_1 : fldT Try.prog 179 1 = some 1 := by kernel_rfl
@[go_sem] theorem Try.fl1179_1 : fld1T Try.prog 179 1 = some 1 := by kernel_rfl
@[go_sem] theorem Try.pl179_1 : plT Try.prog 179 1 = some 1 := by kernel_rfl
@[go_sem] theorem Try.plk179 : plOk Try.prog 179 = true := by kernel_rfl
@[go_sem] theorem Try.info179 : infoT Try.prog 179 = some (2, 32, [.val (.int .i64 0), .val (.slice none 0 0)]) := by kernel_rfl
@[go_sem] theorem Try.cof179 : Try.prog.cellsOf 179 = 2 := by kernel_rfl
@[go_sem] theorem Try.kind180 : kindT Try.prog 180 = some none := by kernel_rfl
@[go_sem] theorem Try.cof180 : Try.prog.cellsOf 180 = 1 := by kernel_rfl
@[go_sem] theorem Try.kind181 : kindT Try.prog 181 = some none := by kernel_rfl
@[go_sem] theorem Try.cof181 : Try.prog.cellsOf 181 = 1 := by kernel_rfl
@[go_sem] theorem Try.kind182 : kindT Try.prog 182 = some (some 3) := by kernel_rfl
@[go_sem] theorem Try.fld182_0 : fldT Try.prog 182 0 = some 0 := by kernel_rfl
@[go_sem] theorem Try.fl1182_0 : fld1T Try.prog 182 0 = some 0 := by kernel_rfl
@[go_sem] theorem Try.pl182_0 : plT Try.prog 182 0 = some 0 := by kernel_rfl
@[go_sem] theorem Try.fld182_1 : fldT Try.prog 182 1 = some 1 := by kernel_rfl
@[go_sem] theorem Try.fl1182_1 : fld1T Try.prog 182 1 = some 1 := by kernel_rfl
@[go_sem] theorem Try.pl182_1 : plT Try.prog 182 1 = some 1 := by kernel_rfl
@[go_sem] theorem Try.fld182_2 : fldT Try.prog 182 2 = some 2 := by kernel_rfl
@[go_sem] theorem Try.fl1182_2 : fld1T Try.prog 182 2 = some 2 := by kernel_rfl
@[go_sem] theorem Try.pl182_2 : plT Try.prog 182 2 = some 2 := by kernel_rfl
@[go_sem] theorem Try.plk182 : plOk Try.prog 182 = true := by kernel_rfl
@[go_sem] theorem Try.info182 : infoT Try.prog 182 = some (3, 40, [.val (.slice none 0 0), .val (.int .i64 0), .val (.int .u64 0)]) := by kernel_rfl
@[go_sem] theorem Try.cof182 : Try.prog.cellsOf 182 = 3 := by kernel_rfl
@[go_sem] theorem Try.kind183 : kindT Try.prog 183 = some (some 3) := by kernel_rfl
@[go_sem] theorem Try.fld183_0 : fldT Try.prog 183 0 = some 0 := by kernel_rfl
@[go_sem] theorem Try.fl1183_0 : fld1T Try.prog 183 0 = some 0 := by kernel_rfl
@[go_sem] theorem Try.pl183_0 : plT Try.prog 183 0 = some 0 := by kernel_rfl
@[go_sem] theorem Try.fld183_1 : fldT Try.prog 183 1 = some 1 := by kernel_rfl
@[go_sem] theorem Try.fl1183_1 : fld1T Try.prog 183 1 = some 1 := by kernel_rfl
@[go_sem] theorem Try.pl183_1 : plT Try.prog 183 1 = some 1 := by kernel_rfl
@[go_sem] theorem Try.fld183_2 : fldT Try.prog 183 2 = some 2 := by kernel_rfl
@[go_sem] theorem Try.fl1183_2 : fld1T Try.prog 183 2 = some 2 := by kernel_rfl
@[go_sem] theorem Try.pl183_2 : plT Try.prog 183 2 = some 2 := by kernel_rfl
@[go_sem] theorem Try.plk183 : plOk Try.prog 183 = true := by kernel_rfl
@[go_sem] theorem Try.info183 : infoT Try.prog 183 = some (3, 40, [.val (.slice none 0 0), .val (.int .i64 0), .val (.int .u64 0)]) := by kernel_rfl
@[go_sem] theorem Try.cof183 : Try.prog.cellsOf 183 = 3 := by kernel_rfl
@[go_sem] theorem Try.kind184 : kindT Try.prog 184 = some none := by kernel_rfl
@[go_sem] theorem Try.info184 : infoT Try.prog 184 = some (1, 8, [.val (.int .u64 0)]) := by kernel_rfl
@[go_sem] theorem Try.cof184 : Try.prog.cellsOf 184 = 1 := by kernel_rfl
@[go_sem] theorem Try.und184 : Try.prog.underlying 184 = some (.int .u64) := by kernel_rfl
@[go_sem] theorem Try.kind185 : kindT Try.prog 185 = some none := by kernel_rfl
@[go_sem] theorem Try.cof185 : Try.prog.cellsOf 185 = 1 := by kernel_rfl
@[go_sem] theorem Try.kind186 : kindT Try.prog 186 = some none := by kernel_rfl
@[go_sem] theorem Try.cof186 : Try.prog.cellsOf 186 = 1 := by kernel_rfl
@[go_sem] theorem Try.kind187 : kindT Try.prog 187 = some none := by kernel_rfl
@[go_sem] theorem Try.cof187 : Try.prog.cellsOf 187 = 1 := by kernel_rfl
@[go_sem] theorem Try.kind188 : kindT Try.prog 188 = some none := by kernel_rfl
@[go_sem] theorem Try.cof188 : Try.prog.cellsOf 188 = 1 := by kernel_rfl
@[go_sem] theorem Try.kind189 : kindT Try.prog 189 = some (some 3) := by kernel_rfl
@[go_sem] theorem Try.elem189 : elemT Try.prog 189 = none := by kernel_rfl
@[go_sem] theorem Try.arr189 : arrT Try.prog 189 = some (3, 1, true) := by kernel_rfl
@[go_sem] theorem Try.pl189_0 : plT Try.prog 189 0 = some 0 := by kernel_rfl
@[go_sem] theorem Try.pl189_1 : plT Try.prog 189 1 = some 1 := by kernel_rfl
@[go_sem] theorem Try.pl189_2 : plT Try.prog 189 2 = some 2 := by kernel_rfl
@[go_sem] theorem Try.plk189 : plOk Try.prog 189 = true := by kernel_rfl
@[go_sem] theorem Try.info189 : infoT Try.prog 189 = some (3, 24, [.val (.int .i64 0), .val (.int .i64 0), .val (.int .i64 0)]) := by kernel_rfl
@[go_sem] theorem Try.cof189 : Try.prog.cellsOf 189 = 3 := by kernel_rfl
@[go_sem] theorem Try.kind190 : kindT Try.prog 190 = some (some 3) := by kernel_rfl
@[go_sem] theorem Try.elem190 : elemT Try.prog 190 = none := by kernel_rfl
@[go_sem] theorem Try.arr190 : arrT Try.prog 190 = some (3, 1, true) := by kernel_rfl
@[go_sem] theorem Try.pl190_0 : plT Try.prog 190 0 = some 0 := by kernel_rfl
@[go_sem] theorem Try.pl190_1 : plT Try.prog 190 1 = some 1 := by kernel_rfl
@[go_sem] theorem Try.pl190_2 : plT Try.prog 190 2 = some 2 := by kernel_rfl
@[go_sem] theorem Try.plk190 : plOk Try.prog 190 = true := by kernel_rfl
@[go_sem] theorem Try.info190 : infoT Try.prog 190 = some (3, 24, [.val (.int .i64 0), .val (.int .i64 0), .val (.int .i64 0)]) := by kernel_rfl
@[go_sem] theorem Try.cof190 : Try.prog.cellsOf 190 = 3 := by kernel_rfl
@[go_sem] theorem Try.kind191 : kindT Try.prog 191 = some none := by kernel_rfl
@[go_sem] theorem Try.cof191 : Try.prog.cellsOf 191 = 1 := by kernel_rfl
@[go_sem] theorem Try.kind192 : kindT Try.prog 192 = some none := by kernel_rfl
@[go_sem] theorem Try.cof192 : Try.prog.cellsOf 192 = 1 := by kernel_rfl
@[go_sem] theorem Try.kind193 : kindT Try.prog 193 = some none := by kernel_rfl
@[go_sem] theorem Try.cof193 : Try.prog.cellsOf 193 = 1 := by kernel_rfl
@[go_sem] theorem Try.kind194 : kindT Try.prog 194 = some none := by kernel_rfl
@[go_sem] theorem Try.cof194 : Try.prog.cellsOf 194 = 1 := by kernel_rfl
@[go_sem] theorem Try.kind195 : kindT Try.prog 195 = some none := by kernel_rfl
@[go_sem] theorem Try.cof195 : Try.prog.cellsOf 195 = 1 := by kernel_rfl
@[go_sem] theorem Try.kind196 : kindT Try.prog 196 = some none := by kernel_rfl
@[go_sem] theorem Try.cof196 : Try.prog.cellsOf 196 = 1 := by kernel_rfl
@[go_sem] theorem Try.kind197 : kindT Try.prog 197 = some none := by kernel_rfl
@[go_sem] theorem Try.cof197 : Try.prog.cellsOf 197 = 1 := by kernel_rfl
@[go_sem] theorem Try.kind198 : kindT Try.prog 198 = some none := by kernel_rfl
@[go_sem] theorem Try.cof198 : Try.prog.cellsOf 198 = 1 := by kernel_rfl
@[go_sem] theorem Try.kind199 : kindT Try.prog 199 = some none := by kernel_rfl
@[go_sem] theorem Try.cof199 : Try.prog.cellsOf 199 = 1 := by kernel_rfl
@[go_sem] theorem Try.kind200 : kindT Try.prog 200 = some none := by kernel_rfl
@[go_sem] theorem Try.cof200 : Try.prog.cellsOf 200 = 1 := by kernel_rfl
@[go_sem] theorem Try.kind201 : kindT Try.prog 201 = some none := by kernel_rfl
@[go_sem] theorem Try.cof201 : Try.prog.cellsOf 201 = 1 := by kernel_rfl
@[go_sem] theorem Try.kind202 : kindT Try.prog 202 = some none := by kernel_rfl
@[go_sem] theorem Try.cof202 : Try.prog.cellsOf 202 = 1 := by kernel_rfl
@[go_sem] theorem Try.kind203 : kindT Try.prog 203 = some none := by kernel_rfl
@[go_sem] theorem Try.cof203 : Try.prog.cellsOf 203 = 1 := by kernel_rfl
@[go_sem] theorem Try.kind204 : kindT Try.prog 204 = some none := by kernel_rfl
@[go_sem] theorem Try.cof204 : Try.prog.cellsOf 204 = 1 := by kernel_rfl
@[go_sem] theorem Try.kind205 : kindT Try.prog 205 = some none := by kernel_rfl
@[go_sem] theorem Try.cof205 : Try.prog.cellsOf 205 = 1 := by kernel_rfl
@[go_sem] theorem Try.kind206 : kindT Try.prog 206 = some none := by kernel_rfl
@[go_sem] theorem Try.cof206 : Try.prog.cellsOf 206 = 1 := by kernel_rfl
@[go_sem] theorem Try.kind207 : kindT Try.prog 207 = some none := by kernel_rfl
@[go_sem] theorem Try.cof207 : Try.prog.cellsOf 207 = 1 := by kernel_rfl
@[go_sem] theorem Try.kind208 : kindT Try.prog 208 = some none := by kernel_rfl
@[go_sem] theorem Try.cof208 : Try.prog.cellsOf 208 = 1 := by kernel_rfl
@[go_sem] theorem Try.kind209 : kindT Try.prog 209 = some none := by kernel_rfl
@[go_sem] theorem Try.cof209 : Try.prog.cellsOf 209 = 1 := by kernel_rfl
@[go_sem] theorem Try.kind210 : kindT Try.prog 210 = some none := by kernel_rfl
@[go_sem] theorem Try.elem210 : elemT Try.prog 210 = some 228 := by kernel_rfl
@[go_sem] theorem Try.info210 : infoT Try.prog 210 = some (1, 24, [.val (.slice none 0 0)]) := by kernel_rfl
@[go_sem] theorem Try.cof210 : Try.prog.cellsOf 210 = 1 := by kernel_rfl
theorem Try.und210 : Try.prog.underlying 210 = some (.slice 228) := by kernel_rfl
@[go_sem] theorem Try.kind211 : kindT Try.prog 211 = some none := by kernel_rfl
@[go_sem] theorem Try.cof211 : Try.prog.cellsOf 211 = 1 := by kernel_rfl
@[go_sem] theorem Try.kind212 : kindT Try.prog 212 = some none := by kernel_rfl
@[go_sem] theorem Try.cof212 : Try.prog.cellsOf 212 = 1 := by kernel_rfl
@[go_sem] theorem Try.kind213 : kindT Try.prog 213 = some none := by kernel_rfl
@[go_sem] theorem Try.cof213 : Try.prog.cellsOf 213 = 1 := by kernel_rfl
@[go_sem] theorem Try.kind214 : kindT Try.prog 214 = some none := by kernel_rfl
@[go_sem] theorem Try.cof214 : Try.prog.cellsOf 214 = 1 := by kernel_rfl
@[go_sem] theorem Try.kind215 : kindT Try.prog 215 = some none := by kernel_rfl
@[go_sem] theorem Try.cof215 : Try.prog.cellsOf 215 = 1 := by kernel_rfl
@[go_sem] theorem Try.kind216 : kindT Try.prog 216 = some none := by kernel_rfl
@[go_sem] theorem Try.cof216 : Try.prog.cellsOf 216 = 1 := by kernel_rfl
@[go_sem] theorem Try.kind217 : kindT Try.prog 217 = some none := by kernel_rfl
@[go_sem] theorem Try.cof217 : Try.prog.cellsOf 217 = 1 := by kernel_rfl
@[go_sem] theorem Try.kind218 : kindT Try.prog 218 = some none := by kernel_rfl
@[go_sem] theorem Try.cof218 : Try.prog.cellsOf 218 = 1 := by kernel_rfl
@[go_sem] theorem Try.kind219 : kindT Try.prog 219 = some none := by kernel_rfl
@[go_sem] theorem Try.elem219 : elemT Try.prog 219 = some 9 := by kernel_rfl
@[go_sem] theorem Try.info219 : infoT Try.prog 219 = some (1, 24, [.val (.slice none 0 0)]) := by kernel_rfl
@[go_sem] theorem Try.cof219 : Try.prog.cellsOf 219 = 1 := by kernel_rfl
theorem Try.und219 : Try.prog.underlying 219 = some (.slice 9) := by kernel_rfl
@[go_sem] theorem Try.kind220 : kindT Try.prog 220 = some none := by kernel_rfl
@[go_sem] theorem Try.cof220 : Try.prog.cellsOf 220 = 1 := by kernel_rfl
@[go_sem] theorem Try.kind221 : kindT Try.prog 221 = some none := by kernel_rfl
@[go_sem] theorem Try.cof221 : Try.prog.cellsOf 221 = 1 := by kernel_rfl
@[go_sem] theorem Try.kind223 : kindT Try.prog 223 = some none := by kernel_rfl
@[go_sem] theorem Try.cof223 : Try.prog.cellsOf 223 = 1 := by kernel_rfl
@[go_sem] theorem Try.kind224 : kindT Try.prog 224 = some none := by kernel_rfl
@[go_sem] theorem Try.cof224 : Try.prog.cellsOf 224 = 1 := by kernel_rfl
@[go_sem] theorem Try.kind225 : kindT Try.prog 225 = some none := by kernel_rfl
@[go_sem] theorem Try.cof225 : Try.prog.cellsOf 225 = 1 := by kernel_rfl
@[go_sem] theorem Try.kind226 : kindT Try.prog 226 = some none := by kernel_rfl
@[go_sem] theorem Try.cof226 : Try.prog.cellsOf 226 = 1 := by kernel_rfl
@[go_sem] theorem Try.kind227 : kindT Try.prog 227 = some none := by kernel_rfl
@[go_sem] theorem Try.cof227 : Try.prog.cellsOf 227 = 1 := by kernel_rfl
@[go_sem] theorem Try.kind228 : kindT Try.prog 228 = some (some 2) := by kernel_rfl
@[go_sem] theorem Try.fld228_0 : fldT Try.prog 228 0 = some 0 := by kernel_rfl
@[go_sem] theorem Try.fl1228_0 : fld1T Try.prog 228 0 = some 0 := by kernel_rfl
@[go_sem] theorem Try.pl228_0 : plT Try.prog 228 0 = some 0 := by kernel_rfl
@[go_sem] theorem Try.fld228_1 : fldT Try.prog 228 1 = some 1 := by kernel_rfl
@[go_sem] theorem Try.fl1228_1 : fld1T Try.prog 228 1 = some 1 := by kernel_rfl
@[go_sem] theorem Try.pl228_1 : plT Try.prog 228 1 = some 1 := by kernel_rfl
@[go_sem] theorem Try.plk228 : plOk Try.prog 228 = true := by kernel_rfl
@[go_sem] theorem Try.info228 : infoT Try.prog 228 = some (2, 32, [.val (.int .i64 0), .val (.slice none 0 0)]) := by kernel_rfl
@[go_sem] theorem Try.cof228 : Try.prog.cellsOf 228 = 2 := by kernel_rfl
@[go_sem] theorem Try.kind229 : kindT Try.prog 229 = some none := by kernel_rfl
@[go_sem] theorem Try.cof229 : Try.prog.cellsOf 229 = 1 := by kernel_rfl
@[go_sem] theorem Try.kind230 : kindT Try.prog 230 = some none := by kernel_rfl
@[go_sem] theorem Try.cof230 : Try.prog.cellsOf 230 = 1 := by kernel_rfl
@[go_sem] theorem Try.kind231 : kindT Try.prog 231 = some none := by kernel_rfl
@[go_sem] theorem Try.cof231 : Try.prog.cellsOf 231 = 1 := by kernel_rfl
@[go_sem] theorem Try.kind232 : kindT Try.prog 232 = some none := by kernel_rfl
@[go_sem] theorem Try.cof232 : Try.prog.cellsOf 232 = 1 := by kernel_rfl
@[go_sem] theorem Try.kind233 : kindT Try.prog 233 = some none := by kernel_rfl
@[go_sem] theorem Try.cof233 : Try.prog.cellsOf 233 = 1 := by kernel_rfl
@[go_sem] theorem Try.kind234 : kindT Try.prog 234 = some none := by kernel_rfl
@[go_sem] theorem Try.cof234 : Try.prog.cellsOf 234 = 1 := by kernel_rfl
@[go_sem] theorem Try.kind235 : kindT Try.prog 235 = some none := by kernel_rfl
@[go_sem] theorem Try.info235 : infoT Try.prog 235 = some (1, 4, [.val (.int .u32 0)]) := by kernel_rfl
@[go_sem] theorem Try.cof235 : Try.prog.cellsOf 235 = 1 := by kernel_rfl
@[go_sem] theorem Try.und235 : Try.prog.underlying 235 = some (.int .u32) := by kernel_rfl
@[go_sem] theorem Try.kind237 : kindT Try.prog 237 = some none := by kernel_rfl
@[go_sem] theorem Try.cof237 : Try.prog.cellsOf 237 = 1 := by kernel_rfl
@[go_sem] theorem Try.kind239 : kindT Try.prog 239 = some none := by kernel_rfl
@[go_sem] theorem Try.cof239 : Try.prog.cellsOf 239 = 1 := by kernel_rfl
@[go_sem] theorem Try.kind240 : kindT Try.prog 240 = some none := by kernel_rfl
@[go_sem] theorem Try.cof240 : Try.prog.cellsOf 240 = 1 := by kernel_rfl
@[go_sem] theorem Try.kind241 : kindT Try.prog 241 = some none := by kernel_rfl
@[go_sem] theorem Try.cof241 : Try.prog.cellsOf 241 = 1 := by kernel_rfl
@[go_sem] theorem Try.kind242 : kindT Try.prog 242 = some none := by kernel_rfl
@[go_sem] theorem Try.info242 : infoT Try.prog 242 = some (1, 8, [.val (.int .i64 0)]) := by kernel_rfl
@[go_sem] theorem Try.cof242 : Try.prog.cellsOf 242 = 1 := by kernel_rfl
@[go_sem] theorem Try.und242 : Try.prog.underlying 242 = some (.int .i64) := by kernel_rfl
@[go_sem] theorem Try.kind244 : kindT Try.prog 244 = some none := by kernel_rfl
@[go_sem] theorem Try.cof244 : Try.prog.cellsOf 244 = 1 := by kernel_rfl
@[go_sem] theorem Try.kind245 : kindT Try.prog 245 = some none := by kernel_rfl
@[go_sem] theorem Try.cof245 : Try.prog.cellsOf 245 = 1 := by kernel_rfl
@[go_sem] theorem Try.kind246 : kindT Try.prog 246 = some none := by kernel_rfl
@[go_sem] theorem Try.cof246 : Try.prog.cellsOf 246 = 1 := by kernel_rfl
@[go_sem] theorem Try.kind248 : kindT Try.prog 248 = some none := by kernel_rfl
@[go_sem] theorem Try.cof248 : Try.prog.cellsOf 248 = 1 := by kernel_rfl
@[go_sem] theorem Try.kind249 : kindT Try.prog 249 = some none := by kernel_rfl
@[go_sem] theorem Try.cof249 : Try.prog.cellsOf 249 = 1 := by kernel_rfl
@[go_sem] theorem Try.kind250 : kindT Try.prog 250 = some none := by kernel_rfl
@[go_sem] theorem Try.cof250 : Try.prog.cellsOf 250 = 1 := by kernel_rfl
@[go_sem] theorem Try.kind251 : kindT Try.prog 251 = some none := by kernel_rfl
@[go_sem] theorem Try.info251 : infoT Try.prog 251 = some (1, 8, [.val (.int .u64 0)]) := by kernel_rfl
@[go_sem] theorem Try.cof251 : Try.prog.cellsOf 251 = 1 := by kernel_rfl
@[go_sem] theorem Try.und251 : Try.prog.underlying 251 = some (.int .u64) := by kernel_rfl
@[go_sem] theorem Try.kind252 : kindT Try.prog 252 = some none := by kernel_rfl
@[go_sem] theorem Try.cof252 : Try.prog.cellsOf 252 = 1 := by kernel_rfl
@[go_sem] theorem Try.kind253 : kindT Try.prog 253 = some none := by kernel_rfl
@[go_sem] theorem Try.cof253 : Try.prog.cellsOf 253 = 1 := by kernel_rfl
@[go_sem] theorem Try.kind254 : kindT Try.prog 254 = some none := by kernel_rfl
@[go_sem] theorem Try.cof254 : Try.prog.cellsOf 254 = 1 := by kernel_rfl
@[go_sem] theorem Try.kind255 : kindT Try.prog 255 = some none := by kernel_rfl
@[go_sem] theorem Try.elem255 : elemT Try.prog 255 = none := by kernel_rfl
@[go_sem] theorem Try.cof255 : Try.prog.cellsOf 255 = 1 := by kernel_rfl
@[go_sem] theorem Try.kind256 : kindT Try.prog 256 = some none := by kernel_rfl
@[go_sem] theorem Try.cof256 : Try.prog.cellsOf 256 = 1 := by kernel_rfl
@[go_sem] theorem Try.kind257 : kindT Try.prog 257 = some none := by kernel_rfl
@[go_sem] theorem Try.elem257 : elemT Try.prog 257 = none := by kernel_rfl
@[go_sem] theorem Try.cof257 : Try.prog.cellsOf 257 = 1 := by kernel_rfl
@[go_sem] theorem Try.kind259 : kindT Try.prog 259 = some none := by kernel_rfl
@[go_sem] theorem Try.cof259 : Try.prog.cellsOf 259 = 1 := by kernel_rfl
@[go_sem] theorem Try.kind260 : kindT Try.prog 260 = some none := by kernel_rfl
@[go_sem] theorem Try.cof260 : Try.prog.cellsOf 260 = 1 := by kernel_rfl
@[go_sem] theorem Try.kind261 : kindT Try.prog 261 = some (some 4) := by kernel_rfl
@[go_sem] theorem Try.fld261_0 : fldT Try.prog 261 0 = some 0 := by kernel_rfl
@[go_sem] theorem Try.fl1261_0 : fld1T Try.prog 261 0 = some 0 := by kernel_rfl
@[go_sem] theorem Try.pl261_0 : plT Try.prog 261 0 = some 0 := by kernel_rfl
@[go_sem] theorem Try.fld261_1 : fldT Try.prog 261 1 = some 1 := by kernel_rfl
@[go_sem] theorem Try.fl1261_1 : fld1T Try.prog 261 1 = some 1 := by kernel_rfl
@[go_sem] theorem Try.pl261_1 : plT Try.prog 261 1 = some 1 := by kernel_rfl
@[go_sem] theorem Try.fld261_2 : fldT Try.prog 261 2 = some 2 := by kernel_rfl
@[go_sem] theorem Try.fl1261_2 : fld1T Try.prog 261 2 = some 2 := by kernel_rfl
@[go_sem] theorem Try.pl261_2 : plT Try.prog 261 2 = some 2 := by kernel_rfl
@[go_sem] theorem Try.fld261_3 : fldT Try.prog 261 3 = some 3 := by kernel_rfl
@[go_sem] theorem Try.fl1261_3 : fld1T Try.prog 261 3 = some 3 := by kernel_rfl
@[go_sem] theorem Try.pl261_3 : plT Try.prog 261 3 = some 3 := by kernel_rfl
@[go_sem] theorem Try.plk261 : plOk Try.prog 261 = true := by kernel_rfl
@[go_sem] theorem Try.cof261 : Try.prog.cellsOf 261 = 4 := by kernel_rfl
@[go_sem] theorem Try.kind262 : kindT Try.prog 262 = some (some 4) := by kernel_rfl
@[go_sem] theorem Try.fld262_0 : fldT Try.prog 262 0 = some 0 := by kernel_rfl
@[go_sem] theorem Try.fl1262_0 : fld1T Try.prog 262 0 = some 0 := by kernel_rfl
@[go_sem] theorem Try.pl262_0 : plT Try.prog 262 0 = some 0 := by kernel_rfl
@[go_sem] theorem Try.fld262_1 : fldT Try.prog 262 1 = some 1 := by kernel_rfl
@[go_sem] theorem Try.fl1262_1 : fld1T Try.prog 262 1 = some 1 := by kernel_rfl
@[go_sem] theorem Try.pl262_1 : plT Try.prog 262 1 = some 1 := by kernel_rfl
@[go_sem] theorem Try.fld262_2 : fldT Try.prog 262 2 = some 2 := by kernel_rfl
@[go_sem] theorem Try.fl1262_2 : fld1T Try.prog 262 2 = some 2 := by kernel_rfl
@[go_sem] theorem Try.pl262_2 : plT Try.prog 262 2 = some 2 := by kernel_rfl
@[go_sem] theorem Try.fld262_3 : fldT Try.prog 262 3 = some 3 := by kernel_rfl
@[go_sem] theorem Try.fl1262_3 : fld1T Try.prog 262 3 = some 3 := by kernel_rfl
@[go_sem] theorem Try.pl262_3 : plT Try.prog 262 3 = some 3 := by kernel_rfl
@[go_sem] theorem Try.plk262 : plOk Try.prog 262 = true := by kernel_rfl
@[go_sem] theorem Try.cof262 : Try.prog.cellsOf 262 = 4 := by kernel_rfl
@[go_sem] theorem Try.kind263 : kindT Try.prog 263 = some (some 0) := by kernel_rfl
@[go_sem] theorem Try.elem263 : elemT Try.prog 263 = none := by kernel_rfl
@[go_sem] theorem Try.arr263 : arrT Try.prog 263 = some (0, 1, true) := by kernel_rfl
@[go_sem] theorem Try.plk263 : plOk Try.prog 263 = true := by kernel_rfl
@[go_sem] theorem Try.info263 : infoT Try.prog 263 = some (0, 0, []) := by kernel_rfl
@[go_sem] theorem Try.cof263 : Try.prog.cellsOf 263 = 0 := by kernel_rfl
@[go_sem] theorem Try.kind264 : kindT Try.prog 264 = some (some 0) := by kernel_rfl
@[go_sem] theorem Try.plk264 : plOk Try.prog 264 = true := by kernel_rfl
@[go_sem] theorem Try.info264 : infoT Try.prog 264 = some (0, 0, []) := by kernel_rfl
@[go_sem] theorem Try.cof264 : Try.prog.cellsOf 264 = 0 := by kernel_rfl
@[go_sem] theorem Try.kind265 : kindT Try.prog 265 = some (some 0) := by kernel_rfl
@[go_sem] theorem Try.plk265 : plOk Try.prog 265 = true := by kernel_rfl
@[go_sem] theorem Try.info265 : infoT Try.prog 265 = some (0, 0, []) := by kernel_rfl
@[go_sem] theorem Try.cof265 : Try.prog.cellsOf 265 = 0 := by kernel_rfl
@[go_sem] theorem Try.kind266 : kindT Try.prog 266 = some none := by kernel_rfl
@[go_sem] theorem Try.info266 : infoT Try.prog 266 = some (1, 1, [.val (.int .u8 0)]) := by kernel_rfl
@[go_sem] theorem Try.cof266 : Try.prog.cellsOf 266 = 1 := by kernel_rfl
@[go_sem] theorem Try.und266 : Try.prog.underlying 266 = some (.int .u8) := by kernel_rfl
@[go_sem] theorem Try.kind267 : kindT Try.prog 267 = some none := by kernel_rfl
@[go_sem] theorem Try.info267 : infoT Try.prog 267 = some (1, 1, [.val (.int .u8 0)]) := by kernel_rfl
@[go_sem] theorem Try.cof267 : Try.prog.cellsOf 267 = 1 := by kernel_rfl
@[go_sem] theorem Try.und267 : Try.prog.underlying 267 = some (.int .u8) := by kernel_rfl
@[go_sem] theorem Try.kind268 : kindT Try.prog 268 = some none := by kernel_rfl
@[go_sem] theorem Try.cof268 : Try.prog.cellsOf 268 = 1 := by kernel_rfl
@[go_sem] theorem Try.kind269 : kindT Try.prog 269 = some none := by kernel_rfl
@[go_sem] theorem Try.elem269 : elemT Try.prog 269 = none := by kernel_rfl
@[go_sem] theorem Try.cof269 : Try.prog.cellsOf 269 = 1 := by kernel_rfl
@[go_sem] theorem Try.kind270 : kindT Try.prog 270 = some none := by kernel_rfl
@[go_sem] theorem Try.info270 : infoT Try.prog 270 = some (1, 4, [.val (.int .i32 0)]) := by kernel_rfl
@[go_sem] theorem Try.cof270 : Try.prog.cellsOf 270 = 1 := by kernel_rfl
@[go_sem] theorem Try.und270 : Try.prog.underlying 270 = some (.int .i32) := by kernel_rfl
@[go_sem] theorem Try.kind271 : kindT Try.prog 271 = some none := by kernel_rfl
@[go_sem] theorem Try.info271 : infoT Try.prog 271 = some (1, 4, [.val (.int .i32 0)]) := by kernel_rfl
@[go_sem] theorem Try.cof271 : Try.prog.cellsOf 271 = 1 := by kernel_rfl
@[go_sem] theorem Try.und271 : Try.prog.underlying 271 = some (.int .i32) := by kernel_rfl
@[go_sem] theorem Try.kind272 : kindT Try.prog 272 = some (some 11) := by kernel_rfl
@[go_sem] theorem Try.fld272_0 : fldT Try.prog 272 0 = some 0 := by kernel_rfl
@[go_sem] theorem Try.fl1272_0 : fld1T Try.prog 272 0 = some 0 := by kernel_rfl
@[go_sem] theorem Try.pl272_0 : plT Try.prog 272 0 = some 0 := by kernel_rfl
@[go_sem] theorem Try.fld272_1 : fldT Try.prog 272 1 = some 1 := by kernel_rfl
@[go_sem] theorem Try.fl1272_1 : fld1T Try.prog 272 1 = some 1 := by kernel_rfl
@[go_sem] theorem Try.pl272_1 : plT Try.prog 272 1 = some 1 := by kernel_rfl
@[go_sem] theorem Try.fld272_2 : fldT Try.prog 272 2 = some 2 := by kernel_rfl
@[go_sem] theorem Try.fl1272_2 : fld1T Try.prog 272 2 = some 2 := by kernel_rfl
@[go_sem] theorem Try.pl272_2 : plT Try.prog 272 2 = some 2 := by kernel_rfl
@[go_sem] theorem Try.fld272_3 : fldT Try.prog 272 3 = some 3 := by kernel_rfl
@[go_sem] theorem Try.fl1272_3 : fld1T Try.prog 272 3 = some 3 := by kernel_rfl
@[go_sem] theorem Try.pl272_3 : plT Try.prog 272 3 = some 3 := by kernel_rfl
@[go_sem] theorem Try.fld272_4 : fldT Try.prog 272 4 = some 4 := by kernel_rfl
@[go_sem] theorem Try.fl1272_4 : fld1T Try.prog 272 4 = some 4 := by kernel_rfl
@[go_sem] theorem Try.pl272_4 : plT Try.prog 272 4 = some 4 := by kernel_rfl
@[go_sem] theorem Try.fld272_5 : fldT Try.prog 272 5 = some 5 := by kernel_rfl
@[go_sem] theorem Try.fl1272_5 : fld1T Try.prog 272 5 = some 5 := by kernel_rfl
@[go_sem] theorem Try.pl272_5 : plT Try.prog 272 5 = some 5 := by kernel_rfl
@[go_sem] theorem Try.fld272_6 : fldT Try.prog 272 6 = some 6 := by kernel_rfl
@[go_sem] theorem Try.fl1272_6 : fld1T Try.prog 272 6 = some 6 := by kernel_rfl
@[go_sem] theorem Try.pl272_6 : plT Try.prog 272 6 = some 6 := by kernel_rfl
@[go_sem] theorem Try.fld272_7 : fldT Try.prog 272 7 = some 7 := by kernel_rfl
@[go_sem] theorem Try.fl1272_7 : fld1T Try.prog 272 7 = some 7 := by kernel_rfl
@[go_sem] theorem Try.pl272_7 : plT Try.prog 272 7 = some 7 := by kernel_rfl
@[go_sem] theorem Try.fld272_8 : fldT Try.prog 272 8 = some 8 := by kernel_rfl
@[go_sem] theorem Try.fl1272_8 : fld1T Try.prog 272 8 = some 8 := by kernel_rfl
@[go_sem] theorem Try.pl272_8 : plT Try.prog 272 8 = some 8 := by kernel_rfl
@[go_sem] theorem Try.fld272_9 : fldT Try.prog 272 9 = some 9 := by kernel_rfl
@[go_sem] theorem Try.fl1272_9 : fld1T Try.prog 272 9 = some 9 := by kernel_rfl
@[go_sem] theorem Try.pl272_9 : plT Try.prog 272 9 = some 9 := by kernel_rfl
@[go_sem] theorem Try.fld272_10 : fldT Try.prog 272 10 = some 10 := by kernel_rfl
@[go_sem] theorem Try.fl1272_10 : fld1T Try.prog 272 10 = some 10 := by kernel_rfl
@[go_sem] theorem Try.pl272_10 : plT Try.prog 272 10 = some 10 := by kernel_rfl
@[go_sem] theorem Try.plk272 : plOk Try.prog 272 = true := by kernel_rfl
@[go_sem] theorem Try.cof272 : Try.prog.cellsOf 272 = 11 := by kernel_rfl
@[go_sem] theorem Try.kind273 : kindT Try.prog 273 = some (some 11) := by kernel_rfl
@[go_sem] theorem Try.fld273_0 : fldT Try.prog 273 0 = some 0 := by kernel_rfl
@[go_sem] theorem Try.fl1273_0 : fld1T Try.prog 273 0 = some 0 := by kernel_rfl
@[go_sem] theorem Try.pl273_0 : plT Try.prog 273 0 = some 0 := by kernel_rfl
@[go_sem] theorem Try.fld273_1 : fldT Try.prog 273 1 = some 1 := by kernel_rfl
@[go_sem] theorem Try.fl1273_1 : fld1T Try.prog 273 1 = some 1 := by kernel_rfl
@[go_sem] theorem Try.pl273_1 : plT Try.prog 273 1 = some 1 := by kernel_rfl
@[go_sem] theorem Try.fld273_2 : fldT Try.prog 273 2 = some 2 := by kernel_rfl
@[go_sem] theorem Try.fl1273_2 : fld1T Try.prog 273 2 = some 2 := by kernel_rfl
@[go_sem] theorem Try.pl273_2 : plT Try.prog 273 2 = some 2 := by kernel_rfl
@[go_sem] theorem Try.fld273_3 : fldT Try.prog 273 3 = some 3 := by kernel_rfl
@[go_sem] theorem Try.fl1273_3 : fld1T Try.prog 273 3 = some 3 := by kernel_rfl
@[go_sem] theorem Try.pl273_3 : plT Try.prog 273 3 = some 3 := by kernel_rfl
@[go_sem] theorem Try.fld273_4 : fldT Try.prog 273 4 = some 4 := by kernel_rfl
@[go_sem] theorem Try.fl1273_4 : fld1T Try.prog 273 4 = some 4 := by kernel_rfl
@[go_sem] theorem Try.pl273_4 : plT Try.prog 273 4 = some 4 := by kernel_rfl
@[go_sem] theorem Try.fld273_5 : fldT Try.prog 273 5 = some 5 := by kernel_rfl
@[go_sem] theorem Try.fl1273_5 : fld1T Try.prog 273 5 = some 5 := by kernel_rfl
@[go_sem] theorem Try.pl273_5 : plT Try.prog 273 5 = some 5 := by kernel_rfl
@[go_sem] theorem Try.fld273_6 : fldT Try.prog 273 6 = some 6 := by kernel_rfl
@[go_sem] theorem Try.fl1273_6 : fld1T Try.prog 273 6 = some 6 := by kernel_rfl
@[go_sem] theorem Try.pl273_6 : plT Try.prog 273 6 = some 6 := by kernel_rfl
@[go_sem] theorem Try.fld273_7 : fldT Try.prog 273 7 = some 7 := by kernel_rfl
@[go_sem] theorem Try.fl1273_7 : fld1T Try.prog 273 7 = some 7 := by kernel_rfl
@[go_sem] theorem Try.pl273_7 : plT Try.prog 273 7 = some 7 := by kernel_rfl
@[go_sem] theorem Try.fld273_8 : fldT Try.prog 273 8 = some 8 := by kernel_rfl
@[go_sem] theorem Try.fl1273_8 : fld1T Try.prog 273 8 = some 8 := by kernel_rfl
@[go_sem] theorem Try.pl273_8 : plT Try.prog 273 8 = some 8 := by kernel_rfl
@[go_sem] theorem Try.fld273_9 : fldT Try.prog 273 9 = some 9 := by kernel_rfl
@[go_sem] theorem Try.fl1273_9 : fld1T Try.prog 273 9 = some 9 := by kernel_rfl
@[go_sem] theorem Try.pl273_9 : plT Try.prog 273 9 = some 9 := by kernel_rfl
@[go_sem] theorem Try.fld273_10 : fldT Try.prog 273 10 = some 10 := by kernel_rfl
@[go_sem] theorem Try.fl1273_10 : fld1T Try.prog 273 10 = some 10 := by kernel_rfl
@[go_sem] theorem Try.pl273_10 : plT Try.prog 273 10 = some 10 := by kernel_rfl
@[go_sem] theorem Try.plk273 : plOk Try.prog 273 = true := by kernel_rfl
@[go_sem] theorem Try.cof273 : Try.prog.cellsOf 273 = 11 := by kernel_rfl
@[go_sem] theorem Try.kind274 : kindT Try.prog 274 = some none := by kernel_rfl
@[go_sem] theorem Try.cof274 : Try.prog.cellsOf 274 = 1 := by kernel_rfl
end Go.Proofs
