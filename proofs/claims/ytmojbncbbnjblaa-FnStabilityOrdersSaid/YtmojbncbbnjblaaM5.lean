/- Texts of the own layer and contracts, part 5: Tab Srt. -/
import Derived.Test.YtmojbncbbnjblaaProg
import Derived.KernelRfl
import Derived.Shelf.SlSortCmp.NoneTotal
import Derived.Test.YtmojbncbbnjblaaM4
/- What the loaded program says of its types. Written by a program (gentab.py). -/
namespace Go.Proofs
open Go.Abs
theorem Try.mixed : Try.prog.follows .mixedOrders = true := by kernel_rfl
@[go_sem] theorem Try.kind1 : kindT Try.prog 1 = some none := by kernel_rfl
@[go_sem] theorem Try.cof1 : Try.prog.cellsOf 1 = 1 := by kernel_rfl
@[go_sem] theorem Try.kind2 : kindT Try.prog 2 = some none := by kernel_rfl
@[go_sem] theorem Try.info2 : infoT Try.prog 2 = some (1, 8, [.val (.int .i64 0)]) := by kernel_rfl
@[go_sem] theorem Try.cof2 : Try.prog.cellsOf 2 = 1 := by kernel_rfl
@[go_sem] theorem Try.und2 : Try.prog.underlying 2 = some (.int .i64) := by kernel_rfl
@[go_sem] theorem Try.kind3 : kindT Try.prog 3 = some none := by kernel_rfl
@[go_sem] theorem Try.info3 : infoT Try.prog 3 = some (1, 8, [.val (.int .i64 0)]) := by kernel_rfl
@[go_sem] theorem Try.cof3 : Try.prog.cellsOf 3 = 1 := by kernel_rfl
@[go_sem] theorem Try.und3 : Try.prog.underlying 3 = some (.int .i64) := by kernel_rfl
@[go_sem] theorem Try.kind4 : kindT Try.prog 4 = some none := by kernel_rfl
@[go_sem] theorem Try.isbool4 : boolT Try.prog 4 = true := by kernel_rfl
@[go_sem] theorem Try.info4 : infoT Try.prog 4 = some (1, 1, [.val (.bool false)]) := by kernel_rfl
@[go_sem] theorem Try.cof4 : Try.prog.cellsOf 4 = 1 := by kernel_rfl
@[go_sem] theorem Try.kind5 : kindT Try.prog 5 = some none := by kernel_rfl
@[go_sem] theorem Try.info5 : infoT Try.prog 5 = some (1, 1, [.val (.int .u8 0)]) := by kernel_rfl
@[go_sem] theorem Try.cof5 : Try.prog.cellsOf 5 = 1 := by kernel_rfl
@[go_sem] theorem Try.und5 : Try.prog.underlying 5 = some (.int .u8) := by kernel_rfl
@[go_sem] theorem Try.kind6 : kindT Try.prog 6 = some none := by kernel_rfl
@[go_sem] theorem Try.info6 : infoT Try.prog 6 = some (1, 1, [.val (.int .u8 0)]) := by kernel_rfl
@[go_sem] theorem Try.cof6 : Try.prog.cellsOf 6 = 1 := by kernel_rfl
@[go_sem] theorem Try.und6 : Try.prog.underlying 6 = some (.int .u8) := by kernel_rfl
@[go_sem] theorem Try.kind7 : kindT Try.prog 7 = some (some 4) := by kernel_rfl
@[go_sem] theorem Try.fld7_0 : fldT Try.prog 7 0 = some 0 := by kernel_rfl
@[go_sem] theorem Try.fl17_0 : fld1T Try.prog 7 0 = some 0 := by kernel_rfl
@[go_sem] theorem Try.pl7_0 : plT Try.prog 7 0 = some 0 := by kernel_rfl
@[go_sem] theorem Try.fld7_1 : fldT Try.prog 7 1 = some 1 := by kernel_rfl
@[go_sem] theorem Try.fl17_1 : fld1T Try.prog 7 1 = some 1 := by kernel_rfl
@[go_sem] theorem Try.pl7_1 : plT Try.prog 7 1 = some 1 := by kernel_rfl
@[go_sem] theorem Try.fld7_2 : fldT Try.prog 7 2 = some 2 := by kernel_rfl
@[go_sem] theorem Try.fl17_2 : fld1T Try.prog 7 2 = some 2 := by kernel_rfl
@[go_sem] theorem Try.pl7_2 : plT Try.prog 7 2 = some 2 := by kernel_rfl
@[go_sem] theorem Try.fld7_3 : fldT Try.prog 7 3 = some 3 := by kernel_rfl
@[go_sem] theorem Try.fl17_3 : fld1T Try.prog 7 3 = some 3 := by kernel_rfl
@[go_sem] theorem Try.pl7_3 : plT Try.prog 7 3 = some 3 := by kernel_rfl
@[go_sem] theorem Try.plk7 : plOk Try.prog 7 = true := by kernel_rfl
@[go_sem] theorem Try.info7 : infoT Try.prog 7 = some (4, 24, [.val (.int .i64 0), .val (.int .i64 0), .val (.bool false), .val (.int .u8 0)]) := by kernel_rfl
@[go_sem] theorem Try.cof7 : Try.prog.cellsOf 7 = 4 := by kernel_rfl
@[go_sem] theorem Try.kind8 : kindT Try.prog 8 = some (some 4) := by kernel_rfl
@[go_sem] theorem Try.fld8_0 : fldT Try.prog 8 0 = some 0 := by kernel_rfl
@[go_sem] theorem Try.fl18_0 : fld1T Try.prog 8 0 = some 0 := by kernel_rfl
@[go_sem] theorem Try.pl8_0 : plT Try.prog 8 0 = some 0 := by kernel_rfl
@[go_sem] theorem Try.fld8_1 : fldT Try.prog 8 1 = some 1 := by kernel_rfl
@[go_sem] theorem Try.fl18_1 : fld1T Try.prog 8 1 = some 1 := by kernel_rfl
@[go_sem] theorem Try.pl8_1 : plT Try.prog 8 1 = some 1 := by kernel_rfl
@[go_sem] theorem Try.fld8_2 : fldT Try.prog 8 2 = some 2 := by kernel_rfl
@[go_sem] theorem Try.fl18_2 : fld1T Try.prog 8 2 = some 2 := by kernel_rfl
@[go_sem] theorem Try.pl8_2 : plT Try.prog 8 2 = some 2 := by kernel_rfl
@[go_sem] theorem Try.fld8_3 : fldT Try.prog 8 3 = some 3 := by kernel_rfl
@[go_sem] theorem Try.fl18_3 : fld1T Try.prog 8 3 = some 3 := by kernel_rfl
@[go_sem] theorem Try.pl8_3 : plT Try.prog 8 3 = some 3 := by kernel_rfl
@[go_sem] theorem Try.plk8 : plOk Try.prog 8 = true := by kernel_rfl
@[go_sem] theorem Try.info8 : infoT Try.prog 8 = some (4, 24, [.val (.int .i64 0), .val (.int .i64 0), .val (.bool false), .val (.int .u8 0)]) := by kernel_rfl
@[go_sem] theorem Try.cof8 : Try.prog.cellsOf 8 = 4 := by kernel_rfl
@[go_sem] theorem Try.kind9 : kindT Try.prog 9 = some none := by kernel_rfl
@[go_sem] theorem Try.elem9 : elemT Try.prog 9 = none := by kernel_rfl
@[go_sem] theorem Try.info9 : infoT Try.prog 9 = some (1, 16, [.val (.string ⟨#[]⟩)]) := by kernel_rfl
@[go_sem] theorem Try.cof9 : Try.prog.cellsOf 9 = 1 := by kernel_rfl
theorem Try.und9 : Try.prog.underlying 9 = some (.string) := by kernel_rfl
@[go_sem] theorem Try.kind10 : kindT Try.prog 10 = some none := by kernel_rfl
@[go_sem] theorem Try.elem10 : elemT Try.prog 10 = none := by kernel_rfl
@[go_sem] theorem Try.info10 : infoT Try.prog 10 = some (1, 16, [.val (.string ⟨#[]⟩)]) := by kernel_rfl
@[go_sem] theorem Try.cof10 : Try.prog.cellsOf 10 = 1 := by kernel_rfl
theorem Try.und10 : Try.prog.underlying 10 = some (.string) := by kernel_rfl
@[go_sem] theorem Try.kind11 : kindT Try.prog 11 = some none := by kernel_rfl
@[go_sem] theorem Try.elem11 : elemT Try.prog 11 = none := by kernel_rfl
@[go_sem] theorem Try.info11 : infoT Try.prog 11 = some (1, 16, [.val (.string ⟨#[]⟩)]) := by kernel_rfl
@[go_sem] theorem Try.cof11 : Try.prog.cellsOf 11 = 1 := by kernel_rfl
theorem Try.und11 : Try.prog.underlying 11 = some (.string) := by kernel_rfl
@[go_sem] theorem Try.kind12 : kindT Try.prog 12 = some none := by kernel_rfl
@[go_sem] theorem Try.info12 : infoT Try.prog 12 = some (1, 8, [.val (.int .u64 0)]) := by kernel_rfl
@[go_sem] theorem Try.cof12 : Try.prog.cellsOf 12 = 1 := by kernel_rfl
@[go_sem] theorem Try.und12 : Try.prog.underlying 12 = some (.int .u64) := by kernel_rfl
@[go_sem] theorem Try.kind13 : kindT Try.prog 13 = some (some 2) := by kernel_rfl
@[go_sem] theorem Try.fld13_0 : fldT Try.prog 13 0 = some 0 := by kernel_rfl
@[go_sem] theorem Try.fl113_0 : fld1T Try.prog 13 0 = some 0 := by kernel_rfl
@[go_sem] theorem Try.pl13_0 : plT Try.prog 13 0 = some 0 := by kernel_rfl
@[go_sem] theorem Try.fld13_1 : fldT Try.prog 13 1 = some 1 := by kernel_rfl
@[go_sem] theorem Try.fl113_1 : fld1T Try.prog 13 1 = some 1 := by kernel_rfl
@[go_sem] theorem Try.pl13_1 : plT Try.prog 13 1 = some 1 := by kernel_rfl
@[go_sem] theorem Try.plk13 : plOk Try.prog 13 = true := by kernel_rfl
@[go_sem] theorem Try.info13 : infoT Try.prog 13 = some (2, 24, [.val (.string ⟨#[]⟩), .val (.int .u64 0)]) := by kernel_rfl
@[go_sem] theorem Try.cof13 : Try.prog.cellsOf 13 = 2 := by kernel_rfl
@[go_sem] theorem Try.kind14 : kindT Try.prog 14 = some (some 2) := by kernel_rfl
@[go_sem] theorem Try.fld14_0 : fldT Try.prog 14 0 = some 0 := by kernel_rfl
@[go_sem] theorem Try.fl114_0 : fld1T Try.prog 14 0 = some 0 := by kernel_rfl
@[go_sem] theorem Try.pl14_0 : plT Try.prog 14 0 = some 0 := by kernel_rfl
@[go_sem] theorem Try.fld14_1 : fldT Try.prog 14 1 = some 1 := by kernel_rfl
@[go_sem] theorem Try.fl114_1 : fld1T Try.prog 14 1 = some 1 := by kernel_rfl
@[go_sem] theorem Try.pl14_1 : plT Try.prog 14 1 = some 1 := by kernel_rfl
@[go_sem] theorem Try.plk14 : plOk Try.prog 14 = true := by kernel_rfl
@[go_sem] theorem Try.info14 : infoT Try.prog 14 = some (2, 24, [.val (.string ⟨#[]⟩), .val (.int .u64 0)]) := by kernel_rfl
@[go_sem] theorem Try.cof14 : Try.prog.cellsOf 14 = 2 := by kernel_rfl
@[go_sem] theorem Try.kind15 : kindT Try.prog 15 = some none := by kernel_rfl
@[go_sem] theorem Try.elem15 : elemT Try.prog 15 = none := by kernel_rfl
@[go_sem] theorem Try.cof15 : Try.prog.cellsOf 15 = 1 := by kernel_rfl
@[go_sem] theorem Try.kind16 : kindT Try.prog 16 = some none := by kernel_rfl
@[go_sem] theorem Try.elem16 : elemT Try.prog 16 = none := by kernel_rfl
@[go_sem] theorem Try.cof16 : Try.prog.cellsOf 16 = 1 := by kernel_rfl
@[go_sem] theorem Try.kind17 : kindT Try.prog 17 = some none := by kernel_rfl
@[go_sem] theorem Try.elem17 : elemT Try.prog 17 = none := by kernel_rfl
@[go_sem] theorem Try.cof17 : Try.prog.cellsOf 17 = 1 := by kernel_rfl
@[go_sem] theorem Try.kind18 : kindT Try.prog 18 = some (some 1) := by kernel_rfl
@[go_sem] theorem Try.fld18_0 : fldT Try.prog 18 0 = some 0 := by kernel_rfl
@[go_sem] theorem Try.fl118_0 : fld1T Try.prog 18 0 = some 0 := by kernel_rfl
@[go_sem] theorem Try.pl18_0 : plT Try.prog 18 0 = some 0 := by kernel_rfl
@[go_sem] theorem Try.plk18 : plOk Try.prog 18 = true := by kernel_rfl
@[go_sem] theorem Try.cof18 : Try.prog.cellsOf 18 = 1 := by kernel_rfl
@[go_sem] theorem Try.kind19 : kindT Try.prog 19 = some (some 1) := by kernel_rfl
@[go_sem] theorem Try.fld19_0 : fldT Try.prog 19 0 = some 0 := by kernel_rfl
@[go_sem] theorem Try.fl119_0 : fld1T Try.prog 19 0 = some 0 := by kernel_rfl
@[go_sem] theorem Try.pl19_0 : plT Try.prog 19 0 = some 0 := by kernel_rfl
@[go_sem] theorem Try.plk19 : plOk Try.prog 19 = true := by kernel_rfl
@[go_sem] theorem Try.cof19 : Try.prog.cellsOf 19 = 1 := by kernel_rfl
@[go_sem] theorem Try.kind21 : kindT Try.prog 21 = some none := by kernel_rfl
@[go_sem] theorem Try.info21 : infoT Try.prog 21 = some (1, 4, [.val (.int .i32 0)]) := by kernel_rfl
@[go_sem] theorem Try.cof21 : Try.prog.cellsOf 21 = 1 := by kernel_rfl
@[go_sem] theorem Try.und21 : Try.prog.underlying 21 = some (.int .i32) := by kernel_rfl
@[go_sem] theorem Try.kind22 : kindT Try.prog 22 = some none := by kernel_rfl
@[go_sem] theorem Try.elem22 : elemT Try.prog 22 = some 5 := by kernel_rfl
@[go_sem] theorem Try.info22 : infoT Try.prog 22 = some (1, 24, [.val (.slice none 0 0)]) := by kernel_rfl
@[go_sem] theorem Try.cof22 : Try.prog.cellsOf 22 = 1 := by kernel_rfl
theorem Try.und22 : Try.prog.underlying 22 = some (.slice 5) := by kernel_rfl
@[go_sem] theorem Try.kind23 : kindT Try.prog 23 = some none := by kernel_rfl
@[go_sem] theorem Try.cof23 : Try.prog.cellsOf 23 = 1 := by kernel_rfl
@[go_sem] theorem Try.kind24 : kindT Try.prog 24 = some none := by kernel_rfl
@[go_sem] theorem Try.elem24 : elemT Try.prog 24 = some 129 := by kernel_rfl
@[go_sem] theorem Try.info24 : infoT Try.prog 24 = some (1, 24, [.val (.slice none 0 0)]) := by kernel_rfl
@[go_sem] theorem Try.cof24 : Try.prog.cellsOf 24 = 1 := by kernel_rfl
theorem Try.und24 : Try.prog.underlying 24 = some (.slice 129) := by kernel_rfl
@[go_sem] theorem Try.kind25 : kindT Try.prog 25 = some (some 2) := by kernel_rfl
@[go_sem] theorem Try.fld25_0 : fldT Try.prog 25 0 = some 0 := by kernel_rfl
@[go_sem] theorem Try.fl125_0 : fld1T Try.prog 25 0 = some 0 := by kernel_rfl
@[go_sem] theorem Try.pl25_0 : plT Try.prog 25 0 = some 0 := by kernel_rfl
@[go_sem] theorem Try.fld25_1 : fldT Try.prog 25 1 = some 1 := by kernel_rfl
@[go_sem] theorem Try.fl125_1 : fld1T Try.prog 25 1 = some 1 := by kernel_rfl
@[go_sem] theorem Try.pl25_1 : plT Try.prog 25 1 = some 1 := by kernel_rfl
@[go_sem] theorem Try.plk25 : plOk Try.prog 25 = true := by kernel_rfl
@[go_sem] theorem Try.info25 : infoT Try.prog 25 = some (2, 32, [.val (.int .i64 0), .val (.slice none 0 0)]) := by kernel_rfl
@[go_sem] theorem Try.cof25 : Try.prog.cellsOf 25 = 2 := by kernel_rfl
@[go_sem] theorem Try.kind26 : kindT Try.prog 26 = some (some 2) := by kernel_rfl
@[go_sem] theorem Try.fld26_0 : fldT Try.prog 26 0 = some 0 := by kernel_rfl
@[go_sem] theorem Try.fl126_0 : fld1T Try.prog 26 0 = some 0 := by kernel_rfl
@[go_sem] theorem Try.pl26_0 : plT Try.prog 26 0 = some 0 := by kernel_rfl
@[go_sem] theorem Try.fld26_1 : fldT Try.prog 26 1 = some 1 := by kernel_rfl
@[go_sem] theorem Try.fl126_1 : fld1T Try.prog 26 1 = some 1 := by kernel_rfl
@[go_sem] theorem Try.pl26_1 : plT Try.prog 26 1 = some 1 := by kernel_rfl
@[go_sem] theorem Try.plk26 : plOk Try.prog 26 = true := by kernel_rfl
@[go_sem] theorem Try.info26 : infoT Try.prog 26 = some (2, 32, [.val (.int .i64 0), .val (.slice none 0 0)]) := by kernel_rfl
@[go_sem] theorem Try.cof26 : Try.prog.cellsOf 26 = 2 := by kernel_rfl
@[go_sem] theorem Try.kind27 : kindT Try.prog 27 = some none := by kernel_rfl
@[go_sem] theorem Try.elem27 : elemT Try.prog 27 = some 2 := by kernel_rfl
@[go_sem] theorem Try.info27 : infoT Try.prog 27 = some (1, 24, [.val (.slice none 0 0)]) := by kernel_rfl
@[go_sem] theorem Try.cof27 : Try.prog.cellsOf 27 = 1 := by kernel_rfl
theorem Try.und27 : Try.prog.underlying 27 = some (.slice 2) := by kernel_rfl
@[go_sem] theorem Try.kind29 : kindT Try.prog 29 = some none := by kernel_rfl
@[go_sem] theorem Try.cof29 : Try.prog.cellsOf 29 = 1 := by kernel_rfl
@[go_sem] theorem Try.kind30 : kindT Try.prog 30 = some none := by kernel_rfl
@[go_sem] theorem Try.elem30 : elemT Try.prog 30 = some 27 := by kernel_rfl
@[go_sem] theorem Try.info30 : infoT Try.prog 30 = some (1, 24, [.val (.slice none 0 0)]) := by kernel_rfl
@[go_sem] theorem Try.cof30 : Try.prog.cellsOf 30 = 1 := by kernel_rfl
theorem Try.und30 : Try.prog.underlying 30 = some (.slice 27) := by kernel_rfl
@[go_sem] theorem Try.kind32 : kindT Try.prog 32 = some none := by kernel_rfl
@[go_sem] theorem Try.cof32 : Try.prog.cellsOf 32 = 1 := by kernel_rfl
@[go_sem] theorem Try.kind33 : kindT Try.prog 33 = some none := by kernel_rfl
@[go_sem] theorem Try.cof33 : Try.prog.cellsOf 33 = 1 := by kernel_rfl
@[go_sem] theorem Try.kind34 : kindT Try.prog 34 = some none := by kernel_rfl
@[go_sem] theorem Try.elem34 : elemT Try.prog 34 = none := by kernel_rfl
@[go_sem] theorem Try.cof34 : Try.prog.cellsOf 34 = 1 := by kernel_rfl
@[go_sem] theorem Try.kind35 : kindT Try.prog 35 = some none := by kernel_rfl
@[go_sem] theorem Try.cof35 : Try.prog.cellsOf 35 = 1 := by kernel_rfl
@[go_sem] theorem Try.kind36 : kindT Try.prog 36 = some none := by kernel_rfl
@[go_sem] theorem Try.info36 : infoT Try.prog 36 = some (1, 8, [.val (.int .u64 0)]) := by kernel_rfl
@[go_sem] theorem Try.cof36 : Try.prog.cellsOf 36 = 1 := by kernel_rfl
@[go_sem] theorem Try.und36 : Try.prog.underlying 36 = some (.int .u64) := by kernel_rfl
@[go_sem] theorem Try.kind37 : kindT Try.prog 37 = some none := by kernel_rfl
@[go_sem] theorem Try.cof37 : Try.prog.cellsOf 37 = 1 := by kernel_rfl
@[go_sem] theorem Try.kind38 : kindT Try.prog 38 = some none := by kernel_rfl
@[go_sem] theorem Try.cof38 : Try.prog.cellsOf 38 = 1 := by kernel_rfl
@[go_sem] theorem Try.kind39 : kindT Try.prog 39 = some none := by kernel_rfl
@[go_sem] theorem Try.cof39 : Try.prog.cellsOf 39 = 1 := by kernel_rfl
@[go_sem] theorem Try.kind41 : kindT Try.prog 41 = some none := by kernel_rfl
@[go_sem] theorem Try.cof41 : Try.prog.cellsOf 41 = 1 := by kernel_rfl
@[go_sem] theorem Try.kind42 : kindT Try.prog 42 = some none := by kernel_rfl
@[go_sem] theorem Try.cof42 : Try.prog.cellsOf 42 = 1 := by kernel_rfl
@[go_sem] theorem Try.kind43 : kindT Try.prog 43 = some none := by kernel_rfl
@[go_sem] theorem Try.cof43 : Try.prog.cellsOf 43 = 1 := by kernel_rfl
@[go_sem] theorem Try.kind44 : kindT Try.prog 44 = some (some 2) := by kernel_rfl
@[go_sem] theorem Try.fld44_0 : fldT Try.prog 44 0 = some 0 := by kernel_rfl
@[go_sem] theorem Try.fl144_0 : fld1T Try.prog 44 0 = some 0 := by kernel_rfl
@[go_sem] theorem Try.pl44_0 : plT Try.prog 44 0 = some 0 := by kernel_rfl
@[go_sem] theorem Try.fld44_1 : fldT Try.prog 44 1 = some 1 := by kernel_rfl
@[go_sem] theorem Try.fl144_1 : fld1T Try.prog 44 1 = some 1 := by kernel_rfl
@[go_sem] theorem Try.pl44_1 : plT Try.prog 44 1 = some 1 := by kernel_rfl
@[go_sem] theorem Try.plk44 : plOk Try.prog 44 = true := by kernel_rfl
@[go_sem] theorem Try.info44 : infoT Try.prog 44 = some (2, 48, [.val (.slice none 0 0), .val (.slice none 0 0)]) := by kernel_rfl
@[go_sem] theorem Try.cof44 : Try.prog.cellsOf 44 = 2 := by kernel_rfl
@[go_sem] theorem Try.kind45 : kindT Try.prog 45 = some (some 2) := by kernel_rfl
@[go_sem] theorem Try.fld45_0 : fldT Try.prog 45 0 = some 0 := by kernel_rfl
@[go_sem] theorem Try.fl145_0 : fld1T Try.prog 45 0 = some 0 := by kernel_rfl
@[go_sem] theorem Try.pl45_0 : plT Try.prog 45 0 = some 0 := by kernel_rfl
@[go_sem] theorem Try.fld45_1 : fldT Try.prog 45 1 = some 1 := by kernel_rfl
@[go_sem] theorem Try.fl145_1 : fld1T Try.prog 45 1 = some 1 := by kernel_rfl
@[go_sem] theorem Try.pl45_1 : plT Try.prog 45 1 = some 1 := by kernel_rfl
@[go_sem] theorem Try.plk45 : plOk Try.prog 45 = true := by kernel_rfl
@[go_sem] theorem Try.info45 : infoT Try.prog 45 = some (2, 48, [.val (.slice none 0 0), .val (.slice none 0 0)]) := by kernel_rfl
@[go_sem] theorem Try.cof45 : Try.prog.cellsOf 45 = 2 := by kernel_rfl
@[go_sem] theorem Try.kind47 : kindT Try.prog 47 = some none := by kernel_rfl
@[go_sem] theorem Try.cof47 : Try.prog.cellsOf 47 = 1 := by kernel_rfl
@[go_sem] theorem Try.kind48 : kindT Try.prog 48 = some none := by kernel_rfl
@[go_sem] theorem Try.cof48 : Try.prog.cellsOf 48 = 1 := by kernel_rfl
@[go_sem] theorem Try.kind50 : kindT Try.prog 50 = some none := by kernel_rfl
@[go_sem] theorem Try.cof50 : Try.prog.cellsOf 50 = 1 := by kernel_rfl
@[go_sem] theorem Try.kind51 : kindT Try.prog 51 = some none := by kernel_rfl
@[go_sem] theorem Try.cof51 : Try.prog.cellsOf 51 = 1 := by kernel_rfl
@[go_sem] theorem Try.kind52 : kindT Try.prog 52 = some none := by kernel_rfl
@[go_sem] theorem Try.cof52 : Try.prog.cellsOf 52 = 1 := by kernel_rfl
@[go_sem] theorem Try.kind54 : kindT Try.prog 54 = some none := by kernel_rfl
@[go_sem] theorem Try.cof54 : Try.prog.cellsOf 54 = 1 := by kernel_rfl
@[go_sem] theorem Try.kind55 : kindT Try.prog 55 = some none := by kernel_rfl
@[go_sem] theorem Try.cof55 : Try.prog.cellsOf 55 = 1 := by kernel_rfl
@[go_sem] theorem Try.kind56 : kindT Try.prog 56 = some none := by kernel_rfl
@[go_sem] theorem Try.cof56 : Try.prog.cellsOf 56 = 1 := by kernel_rfl
@[go_sem] theorem Try.kind57 : kindT Try.prog 57 = some none := by kernel_rfl
@[go_sem] theorem Try.cof57 : Try.prog.cellsOf 57 = 1 := by kernel_rfl
@[go_sem] theorem Try.kind58 : kindT Try.prog 58 = some (some 2) := by kernel_rfl
@[go_sem] theorem Try.fld58_0 : fldT Try.prog 58 0 = some 0 := by kernel_rfl
@[go_sem] theorem Try.fl158_0 : fld1T Try.prog 58 0 = some 0 := by kernel_rfl
@[go_sem] theorem Try.pl58_0 : plT Try.prog 58 0 = some 0 := by kernel_rfl
@[go_sem] theorem Try.fld58_1 : fldT Try.prog 58 1 = some 1 := by kernel_rfl
@[go_sem] theorem Try.fl158_1 : fld1T Try.prog 58 1 = some 1 := by kernel_rfl
@[go_sem] theorem Try.pl58_1 : plT Try.prog 58 1 = some 1 := by kernel_rfl
@[go_sem] theorem Try.plk58 : plOk Try.prog 58 = true := by kernel_rfl
@[go_sem] theorem Try.info58 : infoT Try.prog 58 = some (2, 48, [.val (.slice none 0 0), .val (.slice none 0 0)]) := by kernel_rfl
@[go_sem] theorem Try.cof58 : Try.prog.cellsOf 58 = 2 := by kernel_rfl
@[go_sem] theorem Try.kind59 : kindT Try.prog 59 = some none := by kernel_rfl
@[go_sem] theorem Try.cof59 : Try.prog.cellsOf 59 = 1 := by kernel_rfl
@[go_sem] theorem Try.kind60 : kindT Try.prog 60 = some none := by kernel_rfl
@[go_sem] theorem Try.cof60 : Try.prog.cellsOf 60 = 1 := by kernel_rfl
@[go_sem] theorem Try.kind61 : kindT Try.prog 61 = some none := by kernel_rfl
@[go_sem] theorem Try.cof61 : Try.prog.cellsOf 61 = 1 := by kernel_rfl
@[go_sem] theorem Try.kind62 : kindT Try.prog 62 = some none := by kernel_rfl
@[go_sem] theorem Try.cof62 : Try.prog.cellsOf 62 = 1 := by kernel_rfl
@[go_sem] theorem Try.kind63 : kindT Try.prog 63 = some none := by kernel_rfl
@[go_sem] theorem Try.cof63 : Try.prog.cellsOf 63 = 1 := by kernel_rfl
@[go_sem] theorem Try.kind64 : kindT Try.prog 64 = some none := by kernel_rfl
@[go_sem] theorem Try.cof64 : Try.prog.cellsOf 64 = 1 := by kernel_rfl
@[go_sem] theorem Try.kind65 : kindT Try.prog 65 = some none := by kernel_rfl
@[go_sem] theorem Try.cof65 : Try.prog.cellsOf 65 = 1 := by kernel_rfl
@[go_sem] theorem Try.kind66 : kindT Try.prog 66 = some none := by kernel_rfl
@[go_sem] theorem Try.cof66 : Try.prog.cellsOf 66 = 1 := by kernel_rfl
@[go_sem] theorem Try.kind67 : kindT Try.prog 67 = some none := by kernel_rfl
@[go_sem] theorem Try.cof67 : Try.prog.cellsOf 67 = 1 := by kernel_rfl
@[go_sem] theorem Try.kind68 : kindT Try.prog 68 = some none := by kernel_rfl
@[go_sem] theorem Try.cof68 : Try.prog.cellsOf 68 = 1 := by kernel_rfl
@[go_sem] theorem Try.kind69 : kindT Try.prog 69 = some none := by kernel_rfl
@[go_sem] theorem Try.cof69 : Try.prog.cellsOf 69 = 1 := by kernel_rfl
@[go_sem] theorem Try.kind70 : kindT Try.prog 70 = some none := by kernel_rfl
@[go_sem] theorem Try.cof70 : Try.prog.cellsOf 70 = 1 := by kernel_rfl
@[go_sem] theorem Try.kind71 : kindT Try.prog 71 = some none := by kernel_rfl
@[go_sem] theorem Try.elem71 : elemT Try.prog 71 = none := by kernel_rfl
@[go_sem] theorem Try.cof71 : Try.prog.cellsOf 71 = 1 := by kernel_rfl
@[go_sem] theorem Try.kind72 : kindT Try.prog 72 = some none := by kernel_rfl
@[go_sem] theorem Try.cof72 : Try.prog.cellsOf 72 = 1 := by kernel_rfl
@[go_sem] theorem Try.kind73 : kindT Try.prog 73 = some none := by kernel_rfl
@[go_sem] theorem Try.cof73 : Try.prog.cellsOf 73 = 1 := by kernel_rfl
@[go_sem] theorem Try.kind74 : kindT Try.prog 74 = some none := by kernel_rfl
@[go_sem] theorem Try.cof74 : Try.prog.cellsOf 74 = 1 := by kernel_rfl
@[go_sem] theorem Try.kind75 : kindT Try.prog 75 = some none := by kernel_rfl
@[go_sem] theorem Try.cof75 : Try.prog.cellsOf 75 = 1 := by kernel_rfl
@[go_sem] theorem Try.kind76 : kindT Try.prog 76 = some none := by kernel_rfl
@[go_sem] theorem Try.cof76 : Try.prog.cellsOf 76 = 1 := by kernel_rfl
@[go_sem] theorem Try.kind77 : kindT Try.prog 77 = some none := by kernel_rfl
@[go_sem] theorem Try.elem77 : elemT Try.prog 77 = some 91 := by kernel_rfl
@[go_sem] theorem Try.info77 : infoT Try.prog 77 = some (1, 24, [.val (.slice none 0 0)]) := by kernel_rfl
@[go_sem] theorem Try.cof77 : Try.prog.cellsOf 77 = 1 := by kernel_rfl
theorem Try.und77 : Try.prog.underlying 77 = some (.slice 91) := by kernel_rfl
@[go_sem] theorem Try.kind78 : kindT Try.prog 78 = some none := by kernel_rfl
@[go_sem] theorem Try.cof78 : Try.prog.cellsOf 78 = 1 := by kernel_rfl
@[go_sem] theorem Try.kind79 : kindT Try.prog 79 = some none := by kernel_rfl
@[go_sem] theorem Try.cof79 : Try.prog.cellsOf 79 = 1 := by kernel_rfl
@[go_sem] theorem Try.kind80 : kindT Try.prog 80 = some none := by kernel_rfl
@[go_sem] theorem Try.cof80 : Try.prog.cellsOf 80 = 1 := by kernel_rfl
@[go_sem] theorem Try.kind81 : kindT Try.prog 81 = some none := by kernel_rfl
@[go_sem] theorem Try.cof81 : Try.prog.cellsOf 81 = 1 := by kernel_rfl
@[go_sem] theorem Try.kind82 : kindT Try.prog 82 = some none := by kernel_rfl
@[go_sem] theorem Try.cof82 : Try.prog.cellsOf 82 = 1 := by kernel_rfl
@[go_sem] theorem Try.kind83 : kindT Try.prog 83 = some (some 3) := by kernel_rfl
@[go_sem] theorem Try.fld83_0 : fldT Try.prog 83 0 = some 0 := by kernel_rfl
@[go_sem] theorem Try.fl183_0 : fld1T Try.prog 83 0 = some 0 := by kernel_rfl
@[go_sem] theorem Try.pl83_0 : plT Try.prog 83 0 = some 0 := by kernel_rfl
@[go_sem] theorem Try.fld83_1 : fldT Try.prog 83 1 = some 1 := by kernel_rfl
@[go_sem] theorem Try.fl183_1 : fld1T Try.prog 83 1 = some 1 := by kernel_rfl
@[go_sem] theorem Try.pl83_1 : plT Try.prog 83 1 = some 1 := by kernel_rfl
@[go_sem] theorem Try.fld83_2 : fldT Try.prog 83 2 = some 2 := by kernel_rfl
@[go_sem] theorem Try.fl183_2 : fld1T Try.prog 83 2 = some 2 := by kernel_rfl
@[go_sem] theorem Try.pl83_2 : plT Try.prog 83 2 = some 2 := by kernel_rfl
@[go_sem] theorem Try.plk83 : plOk Try.prog 83 = true := by kernel_rfl
@[go_sem] theorem Try.info83 : infoT Try.prog 83 = some (3, 40, [.val (.slice none 0 0), .val (.int .i64 0), .val (.int .u64 0)]) := by kernel_rfl
@[go_sem] theorem Try.cof83 : Try.prog.cellsOf 83 = 3 := by kernel_rfl
@[go_sem] theorem Try.kind84 : kindT Try.prog 84 = some (some 3) := by kernel_rfl
@[go_sem] theorem Try.fld84_0 : fldT Try.prog 84 0 = some 0 := by kernel_rfl
@[go_sem] theorem Try.fl184_0 : fld1T Try.prog 84 0 = some 0 := by kernel_rfl
@[go_sem] theorem Try.pl84_0 : plT Try.prog 84 0 = some 0 := by kernel_rfl
@[go_sem] theorem Try.fld84_1 : fldT Try.prog 84 1 = some 1 := by kernel_rfl
@[go_sem] theorem Try.fl184_1 : fld1T Try.prog 84 1 = some 1 := by kernel_rfl
@[go_sem] theorem Try.pl84_1 : plT Try.prog 84 1 = some 1 := by kernel_rfl
@[go_sem] theorem Try.fld84_2 : fldT Try.prog 84 2 = some 2 := by kernel_rfl
@[go_sem] theorem Try.fl184_2 : fld1T Try.prog 84 2 = some 2 := by kernel_rfl
@[go_sem] theorem Try.pl84_2 : plT Try.prog 84 2 = some 2 := by kernel_rfl
@[go_sem] theorem Try.plk84 : plOk Try.prog 84 = true := by kernel_rfl
@[go_sem] theorem Try.info84 : infoT Try.prog 84 = some (3, 40, [.val (.slice none 0 0), .val (.int .i64 0), .val (.int .u64 0)]) := by kernel_rfl
@[go_sem] theorem Try.cof84 : Try.prog.cellsOf 84 = 3 := by kernel_rfl
@[go_sem] theorem Try.kind85 : kindT Try.prog 85 = some none := by kernel_rfl
@[go_sem] theorem Try.cof85 : Try.prog.cellsOf 85 = 1 := by kernel_rfl
@[go_sem] theorem Try.kind86 : kindT Try.prog 86 = some none := by kernel_rfl
@[go_sem] theorem Try.elem86 : elemT Try.prog 86 = some 88 := by kernel_rfl
@[go_sem] theorem Try.info86 : infoT Try.prog 86 = some (1, 24, [.val (.slice none 0 0)]) := by kernel_rfl
@[go_sem] theorem Try.cof86 : Try.prog.cellsOf 86 = 1 := by kernel_rfl
theorem Try.und86 : Try.prog.underlying 86 = some (.slice 88) := by kernel_rfl
@[go_sem] theorem Try.kind87 : kindT Try.prog 87 = some (some 7) := by kernel_rfl
@[go_sem] theorem Try.elem87 : elemT Try.prog 87 = none := by kernel_rfl
@[go_sem] theorem Try.arr87 : arrT Try.prog 87 = some (7, 1, true) := by kernel_rfl
@[go_sem] theorem Try.pl87_0 : plT Try.prog 87 0 = some 0 := by kernel_rfl
@[go_sem] theorem Try.pl87_1 : plT Try.prog 87 1 = some 1 := by kernel_rfl
@[go_sem] theorem Try.pl87_2 : plT Try.prog 87 2 = some 2 := by kernel_rfl
@[go_sem] theorem Try.pl87_3 : plT Try.prog 87 3 = some 3 := by kernel_rfl
@[go_sem] theorem Try.pl87_4 : plT Try.prog 87 4 = some 4 := by kernel_rfl
@[go_sem] theorem Try.pl87_5 : plT Try.prog 87 5 = some 5 := by kernel_rfl
@[go_sem] theorem Try.pl87_6 : plT Try.prog 87 6 = some 6 := by kernel_rfl
@[go_sem] theorem Try.plk87 : plOk Try.prog 87 = true := by kernel_rfl
@[go_sem] theorem Try.info87 : infoT Try.prog 87 = some (7, 168, [.val (.slice none 0 0), .val (.slice none 0 0), .val (.slice none 0 0), .val (.slice none 0 0), .val (.slice none 0 0), .val (.slice none 0 0), .val (.slice none 0 0)]) := by kernel_rfl
@[go_sem] theorem Try.cof87 : Try.prog.cellsOf 87 = 7 := by kernel_rfl
@[go_sem] theorem Try.kind88 : kindT Try.prog 88 = some (some 7) := by kernel_rfl
@[go_sem] theorem Try.elem88 : elemT Try.prog 88 = none := by kernel_rfl
@[go_sem] theorem Try.arr88 : arrT Try.prog 88 = some (7, 1, true) := by kernel_rfl
@[go_sem] theorem Try.pl88_0 : plT Try.prog 88 0 = some 0 := by kernel_rfl
@[go_sem] theorem Try.pl88_1 : plT Try.prog 88 1 = some 1 := by kernel_rfl
@[go_sem] theorem Try.pl88_2 : plT Try.prog 88 2 = some 2 := by kernel_rfl
@[go_sem] theorem Try.pl88_3 : plT Try.prog 88 3 = some 3 := by kernel_rfl
@[go_sem] theorem Try.pl88_4 : plT Try.prog 88 4 = some 4 := by kernel_rfl
@[go_sem] theorem Try.pl88_5 : plT Try.prog 88 5 = some 5 := by kernel_rfl
@[go_sem] theorem Try.pl88_6 : plT Try.prog 88 6 = some 6 := by kernel_rfl
@[go_sem] theorem Try.plk88 : plOk Try.prog 88 = true := by kernel_rfl
@[go_sem] theorem Try.info88 : infoT Try.prog 88 = some (7, 168, [.val (.slice none 0 0), .val (.slice none 0 0), .val (.slice none 0 0), .val (.slice none 0 0), .val (.slice none 0 0), .val (.slice none 0 0), .val (.slice none 0 0)]) := by kernel_rfl
@[go_sem] theorem Try.cof88 : Try.prog.cellsOf 88 = 7 := by kernel_rfl
@[go_sem] theorem Try.kind89 : kindT Try.prog 89 = some none := by kernel_rfl
@[go_sem] theorem Try.cof89 : Try.prog.cellsOf 89 = 1 := by kernel_rfl
@[go_sem] theorem Try.kind90 : kindT Try.prog 90 = some none := by kernel_rfl
@[go_sem] theorem Try.elem90 : elemT Try.prog 90 = none := by kernel_rfl
@[go_sem] theorem Try.map90 : mapT Try.prog 90 = true := by kernel_rfl
@[go_sem] theorem Try.ismap90 : isMapT Try.prog 90 = true := by kernel_rfl
@[go_sem] theorem Try.info90 : infoT Try.prog 90 = some (1, 8, [.val (.map none)]) := by kernel_rfl
@[go_sem] theorem Try.cof90 : Try.prog.cellsOf 90 = 1 := by kernel_rfl
@[go_sem] theorem Try.kind91 : kindT Try.prog 91 = some none := by kernel_rfl
@[go_sem] theorem Try.elem91 : elemT Try.prog 91 = none := by kernel_rfl
@[go_sem] theorem Try.map91 : mapT Try.prog 91 = true := by kernel_rfl
@[go_sem] theorem Try.ismap91 : isMapT Try.prog 91 = true := by kernel_rfl
@[go_sem] theorem Try.info91 : infoT Try.prog 91 = some (1, 8, [.val (.map none)]) := by kernel_rfl
@[go_sem] theorem Try.cof91 : Try.prog.cellsOf 91 = 1 := by kernel_rfl
@[go_sem] theorem Try.kind92 : kindT Try.prog 92 = some none := by kernel_rfl
@[go_sem] theorem Try.cof92 : Try.prog.cellsOf 92 = 1 := by kernel_rfl
@[go_sem] theorem Try.kind93 : kindT Try.prog 93 = some none := by kernel_rfl
@[go_sem] theorem Try.cof93 : Try.prog.cellsOf 93 = 1 := by kernel_rfl
@[go_sem] theorem Try.kind94 : kindT Try.prog 94 = some none := by kernel_rfl
@[go_sem] theorem Try.cof94 : Try.prog.cellsOf 94 = 1 := by kernel_rfl
@[go_sem] theorem Try.kind95 : kindT Try.prog 95 = some none := by kernel_rfl
@[go_sem] theorem Try.cof95 : Try.prog.cellsOf 95 = 1 := by kernel_rfl
@[go_sem] theorem Try.kind96 : kindT Try.prog 96 = some none := by kernel_rfl
@[go_sem] theorem Try.cof96 : Try.prog.cellsOf 96 = 1 := by kernel_rfl
@[go_sem] theorem Try.kind97 : kindT Try.prog 97 = some none := by kernel_rfl
@[go_sem] theorem Try.cof97 : Try.prog.cellsOf 97 = 1 := by kernel_rfl
@[go_sem] theorem Try.kind98 : kindT Try.prog 98 = some none := by kernel_rfl
@[go_sem] theorem Try.cof98 : Try.prog.cellsOf 98 = 1 := by kernel_rfl
@[go_sem] theorem Try.kind99 : kindT Try.prog 99 = some none := by kernel_rfl
@[go_sem] theorem Try.cof99 : Try.prog.cellsOf 99 = 1 := by kernel_rfl
@[go_sem] theorem Try.kind100 : kindT Try.prog 100 = some none := by kernel_rfl
@[go_sem] theorem Try.cof100 : Try.prog.cellsOf 100 = 1 := by kernel_rfl
@[go_sem] theorem Try.kind101 : kindT Try.prog 101 = some none := by kernel_rfl
@[go_sem] theorem Try.cof101 : Try.prog.cellsOf 101 = 1 := by kernel_rfl
@[go_sem] theorem Try.kind102 : kindT Try.prog 102 = some none := by kernel_rfl
@[go_sem] theorem Try.cof102 : Try.prog.cellsOf 102 = 1 := by kernel_rfl
@[go_sem] theorem Try.kind104 : kindT Try.prog 104 = some none := by kernel_rfl
@[go_sem] theorem Try.cof104 : Try.prog.cellsOf 104 = 1 := by kernel_rfl
@[go_sem] theorem Try.kind105 : kindT Try.prog 105 = some none := by kernel_rfl
@[go_sem] theorem Try.cof105 : Try.prog.cellsOf 105 = 1 := by kernel_rfl
@[go_sem] theorem Try.kind106 : kindT Try.prog 106 = some none := by kernel_rfl
@[go_sem] theorem Try.cof106 : Try.prog.cellsOf 106 = 1 := by kernel_rfl
@[go_sem] theorem Try.kind107 : kindT Try.prog 107 = some none := by kernel_rfl
@[go_sem] theorem Try.cof107 : Try.prog.cellsOf 107 = 1 := by kernel_rfl
@[go_sem] theorem Try.kind108 : kindT Try.prog 108 = some none := by kernel_rfl
@[go_sem] theorem Try.cof108 : Try.prog.cellsOf 108 = 1 := by kernel_rfl
@[go_sem] theorem Try.kind109 : kindT Try.prog 109 = some none := by kernel_rfl
@[go_sem] theorem Try.cof109 : Try.prog.cellsOf 109 = 1 := by kernel_rfl
@[go_sem] theorem Try.kind110 : kindT Try.prog 110 = some none := by kernel_rfl
@[go_sem] theorem Try.cof110 : Try.prog.cellsOf 110 = 1 := by kernel_rfl
@[go_sem] theorem Try.kind111 : kindT Try.prog 111 = some none := by kernel_rfl
@[go_sem] theorem Try.cof111 : Try.prog.cellsOf 111 = 1 := by kernel_rfl
@[go_sem] theorem Try.kind112 : kindT Try.prog 112 = some none := by kernel_rfl
@[go_sem] theorem Try.cof112 : Try.prog.cellsOf 112 = 1 := by kernel_rfl
@[go_sem] theorem Try.kind113 : kindT Try.prog 113 = some none := by kernel_rfl
@[go_sem] theorem Try.cof113 : Try.prog.cellsOf 113 = 1 := by kernel_rfl
@[go_sem] theorem Try.kind114 : kindT Try.prog 114 = some none := by kernel_rfl
@[go_sem] theorem Try.cof114 : Try.prog.cellsOf 114 = 1 := by kernel_rfl
@[go_sem] theorem Try.kind115 : kindT Try.prog 115 = some none := by kernel_rfl
@[go_sem] theorem Try.cof115 : Try.prog.cellsOf 115 = 1 := by kernel_rfl
@[go_sem] theorem Try.kind116 : kindT Try.prog 116 = some none := by kernel_rfl
@[go_sem] theorem Try.cof116 : Try.prog.cellsOf 116 = 1 := by kernel_rfl
@[go_sem] theorem Try.kind117 : kindT Try.prog 117 = some none := by kernel_rfl
@[go_sem] theorem Try.cof117 : Try.prog.cellsOf 117 = 1 := by kernel_rfl
@[go_sem] theorem Try.kind118 : kindT Try.prog 118 = some none := by kernel_rfl
@[go_sem] theorem Try.cof118 : Try.prog.cellsOf 118 = 1 := by kernel_rfl
@[go_sem] theorem Try.kind120 : kindT Try.prog 120 = some none := by kernel_rfl
@[go_sem] theorem Try.cof120 : Try.prog.cellsOf 120 = 1 := by kernel_rfl
@[go_sem] theorem Try.kind121 : kindT Try.prog 121 = some none := by kernel_rfl
@[go_sem] theorem Try.cof121 : Try.prog.cellsOf 121 = 1 := by kernel_rfl
@[go_sem] theorem Try.kind123 : kindT Try.prog 123 = some none := by kernel_rfl
@[go_sem] theorem Try.cof123 : Try.prog.cellsOf 123 = 1 := by kernel_rfl
@[go_sem] theorem Try.kind124 : kindT Try.prog 124 = some none := by kernel_rfl
@[go_sem] theorem Try.cof124 : Try.prog.cellsOf 124 = 1 := by kernel_rfl
@[go_sem] theorem Try.kind125 : kindT Try.prog 125 = some none := by kernel_rfl
@[go_sem] theorem Try.cof125 : Try.prog.cellsOf 125 = 1 := by kernel_rfl
@[go_sem] theorem Try.kind126 : kindT Try.prog 126 = some none := by kernel_rfl
@[go_sem] theorem Try.cof126 : Try.prog.cellsOf 126 = 1 := by kernel_rfl
@[go_sem] theorem Try.kind127 : kindT Try.prog 127 = some (some 3) := by kernel_rfl
@[go_sem] theorem Try.fld127_0 : fldT Try.prog 127 0 = some 0 := by kernel_rfl
@[go_sem] theorem Try.fl1127_0 : fld1T Try.prog 127 0 = some 0 := by kernel_rfl
@[go_sem] theorem Try.pl127_0 : plT Try.prog 127 0 = some 0 := by kernel_rfl
@[go_sem] theorem Try.fld127_1 : fldT Try.prog 127 1 = some 1 := by kernel_rfl
@[go_sem] theorem Try.fl1127_1 : fld1T Try.prog 127 1 = some 1 := by kernel_rfl
@[go_sem] theorem Try.pl127_1 : plT Try.prog 127 1 = some 1 := by kernel_rfl
@[go_sem] theorem Try.fld127_2 : fldT Try.prog 127 2 = some 2 := by kernel_rfl
@[go_sem] theorem Try.fl1127_2 : fld1T Try.prog 127 2 = some 2 := by kernel_rfl
@[go_sem] theorem Try.pl127_2 : plT Try.prog 127 2 = some 2 := by kernel_rfl
@[go_sem] theorem Try.plk127 : plOk Try.prog 127 = true := by kernel_rfl
@[go_sem] theorem Try.info127 : infoT Try.prog 127 = some (3, 40, [.val (.slice none 0 0), .val (.int .i64 0), .val (.int .u64 0)]) := by kernel_rfl
@[go_sem] theorem Try.cof127 : Try.prog.cellsOf 127 = 3 := by kernel_rfl
@[go_sem] theorem Try.kind128 : kindT Try.prog 128 = some (some 3) := by kernel_rfl
@[go_sem] theorem Try.fld128_0 : fldT Try.prog 128 0 = some 0 := by kernel_rfl
@[go_sem] theorem Try.fl1128_0 : fld1T Try.prog 128 0 = some 0 := by kernel_rfl
@[go_sem] theorem Try.pl128_0 : plT Try.prog 128 0 = some 0 := by kernel_rfl
@[go_sem] theorem Try.fld128_1 : fldT Try.prog 128 1 = some 1 := by kernel_rfl
@[go_sem] theorem Try.fl1128_1 : fld1T Try.prog 128 1 = some 1 := by kernel_rfl
@[go_sem] theorem Try.pl128_1 : plT Try.prog 128 1 = some 1 := by kernel_rfl
@[go_sem] theorem Try.fld128_2 : fldT Try.prog 128 2 = some 2 := by kernel_rfl
@[go_sem] theorem Try.fl1128_2 : fld1T Try.prog 128 2 = some 2 := by kernel_rfl
@[go_sem] theorem Try.pl128_2 : plT Try.prog 128 2 = some 2 := by kernel_rfl
@[go_sem] theorem Try.plk128 : plOk Try.prog 128 = true := by kernel_rfl
@[go_sem] theorem Try.info128 : infoT Try.prog 128 = some (3, 40, [.val (.slice none 0 0), .val (.int .i64 0), .val (.int .u64 0)]) := by kernel_rfl
@[go_sem] theorem Try.cof128 : Try.prog.cellsOf 128 = 3 := by kernel_rfl
@[go_sem] theorem Try.kind129 : kindT Try.prog 129 = some none := by kernel_rfl
@[go_sem] theorem Try.elem129 : elemT Try.prog 129 = some 137 := by kernel_rfl
@[go_sem] theorem Try.info129 : infoT Try.prog 129 = some (1, 24, [.val (.slice none 0 0)]) := by kernel_rfl
@[go_sem] theorem Try.cof129 : Try.prog.cellsOf 129 = 1 := by kernel_rfl
theorem Try.und129 : Try.prog.underlying 129 = some (.slice 137) := by kernel_rfl
@[go_sem] theorem Try.kind130 : kindT Try.prog 130 = some none := by kernel_rfl
@[go_sem] theorem Try.cof130 : Try.prog.cellsOf 130 = 1 := by kernel_rfl
@[go_sem] theorem Try.kind131 : kindT Try.prog 131 = some none := by kernel_rfl
@[go_sem] theorem Try.cof131 : Try.prog.cellsOf 131 = 1 := by kernel_rfl
@[go_sem] theorem Try.kind132 : kindT Try.prog 132 = some none := by kernel_rfl
@[go_sem] theorem Try.cof132 : Try.prog.cellsOf 132 = 1 := by kernel_rfl
@[go_sem] theorem Try.kind133 : kindT Try.prog 133 = some none := by kernel_rfl
@[go_sem] theorem Try.cof133 : Try.prog.cellsOf 133 = 1 := by kernel_rfl
@[go_sem] theorem Try.kind134 : kindT Try.prog 134 = some none := by kernel_rfl
@[go_sem] theorem Try.cof134 : Try.prog.cellsOf 134 = 1 := by kernel_rfl
@[go_sem] theorem Try.kind135 : kindT Try.prog 135 = some none := by kernel_rfl
@[go_sem] theorem Try.cof135 : Try.prog.cellsOf 135 = 1 := by kernel_rfl
@[go_sem] theorem Try.kind136 : kindT Try.prog 136 = some (some 2) := by kernel_rfl
@[go_sem] theorem Try.fld136_0 : fldT Try.prog 136 0 = some 0 := by kernel_rfl
@[go_sem] theorem Try.fl1136_0 : fld1T Try.prog 136 0 = some 0 := by kernel_rfl
@[go_sem] theorem Try.pl136_0 : plT Try.prog 136 0 = some 0 := by kernel_rfl
@[go_sem] theorem Try.fld136_1 : fldT Try.prog 136 1 = some 1 := by kernel_rfl
@[go_sem] theorem Try.fl1136_1 : fld1T Try.prog 136 1 = some 1 := by kernel_rfl
@[go_sem] theorem Try.pl136_1 : plT Try.prog 136 1 = some 1 := by kernel_rfl
@[go_sem] theorem Try.plk136 : plOk Try.prog 136 = true := by kernel_rfl
@[go_sem] theorem Try.info136 : infoT Try.prog 136 = some (2, 32, [.val (.int .i64 0), .val (.slice none 0 0)]) := by kernel_rfl
@[go_sem] theorem Try.cof136 : Try.prog.cellsOf 136 = 2 := by kernel_rfl
@[go_sem] theorem Try.kind137 : kindT Try.prog 137 = some (some 2) := by kernel_rfl
@[go_sem] theorem Try.fld137_0 : fldT Try.prog 137 0 = some 0 := by kernel_rfl
@[go_sem] theorem Try.fl1137_0 : fld1T Try.prog 137 0 = some 0 := by kernel_rfl
@[go_sem] theorem Try.pl137_0 : plT Try.prog 137 0 = some 0 := by kernel_rfl
@[go_sem] theorem Try.fld137_1 : fldT Try.prog 137 1 = some 1 := by kernel_rfl
@[go_sem] theorem Try.fl1137_1 : fld1T Try.prog 137 1 = some 1 := by kernel_rfl
@[go_sem] theorem Try.pl137_1 : plT Try.prog 137 1 = some 1 := by kernel_rfl
@[go_sem] theorem Try.plk137 : plOk Try.prog 137 = true := by kernel_rfl
@[go_sem] theorem Try.info137 : infoT Try.prog 137 = some (2, 32, [.val (.int .i64 0), .val (.slice none 0 0)]) := by kernel_rfl
@[go_sem] theorem Try.cof137 : Try.prog.cellsOf 137 = 2 := by kernel_rfl
@[go_sem] theorem Try.kind138 : kindT Try.prog 138 = some none := by kernel_rfl
@[go_sem] theorem Try.cof138 : Try.prog.cellsOf 138 = 1 := by kernel_rfl
@[go_sem] theorem Try.kind139 : kindT Try.prog 139 = some none := by kernel_rfl
@[go_sem] theorem Try.cof139 : Try.prog.cellsOf 139 = 1 := by kernel_rfl
@[go_sem] theorem Try.kind140 : kindT Try.prog 140 = some none := by kernel_rfl
@[go_sem] theorem Try.cof140 : Try.prog.cellsOf 140 = 1 := by kernel_rfl
@[go_sem] theorem Try.kind141 : kindT Try.prog 141 = some none := by kernel_rfl
@[go_sem] theorem Try.info141 : infoT Try.prog 141 = some (1, 8, [.val (.int .u64 0)]) := by kernel_rfl
@[go_sem] theorem Try.cof141 : Try.prog.cellsOf 141 = 1 := by kernel_rfl
@[go_sem] theorem Try.und141 : Try.prog.underlying 141 = some (.int .u64) := by kernel_rfl
@[go_sem] theorem Try.kind142 : kindT Try.prog 142 = some none := by kernel_rfl
@[go_sem] theorem Try.cof142 : Try.prog.cellsOf 142 = 1 := by kernel_rfl
@[go_sem] theorem Try.kind143 : kindT Try.prog 143 = some none := by kernel_rfl
@[go_sem] theorem Try.cof143 : Try.prog.cellsOf 143 = 1 := by kernel_rfl
@[go_sem] theorem Try.kind144 : kindT Try.prog 144 = some none := by kernel_rfl
@[go_sem] theorem Try.cof144 : Try.prog.cellsOf 144 = 1 := by kernel_rfl
@[go_sem] theorem Try.kind145 : kindT Try.prog 145 = some (some 3) := by kernel_rfl
@[go_sem] theorem Try.elem145 : elemT Try.prog 145 = none := by kernel_rfl
@[go_sem] theorem Try.arr145 : arrT Try.prog 145 = some (3, 1, true) := by kernel_rfl
@[go_sem] theorem Try.pl145_0 : plT Try.prog 145 0 = some 0 := by kernel_rfl
@[go_sem] theorem Try.pl145_1 : plT Try.prog 145 1 = some 1 := by kernel_rfl
@[go_sem] theorem Try.pl145_2 : plT Try.prog 145 2 = some 2 := by kernel_rfl
@[go_sem] theorem Try.plk145 : plOk Try.prog 145 = true := by kernel_rfl
@[go_sem] theorem Try.info145 : infoT Try.prog 145 = some (3, 24, [.val (.int .i64 0), .val (.int .i64 0), .val (.int .i64 0)]) := by kernel_rfl
@[go_sem] theorem Try.cof145 : Try.prog.cellsOf 145 = 3 := by kernel_rfl
@[go_sem] theorem Try.kind146 : kindT Try.prog 146 = some (some 3) := by kernel_rfl
@[go_sem] theorem Try.elem146 : elemT Try.prog 146 = none := by kernel_rfl
@[go_sem] theorem Try.arr146 : arrT Try.prog 146 = some (3, 1, true) := by kernel_rfl
@[go_sem] theorem Try.pl146_0 : plT Try.prog 146 0 = some 0 := by kernel_rfl
@[go_sem] theorem Try.pl146_1 : plT Try.prog 146 1 = some 1 := by kernel_rfl
@[go_sem] theorem Try.pl146_2 : plT Try.prog 146 2 = some 2 := by kernel_rfl
@[go_sem] theorem Try.plk146 : plOk Try.prog 146 = true := by kernel_rfl
@[go_sem] theorem Try.info146 : infoT Try.prog 146 = some (3, 24, [.val (.int .i64 0), .val (.int .i64 0), .val (.int .i64 0)]) := by kernel_rfl
@[go_sem] theorem Try.cof146 : Try.prog.cellsOf 146 = 3 := by kernel_rfl
@[go_sem] theorem Try.kind147 : kindT Try.prog 147 = some none := by kernel_rfl
@[go_sem] theorem Try.cof147 : Try.prog.cellsOf 147 = 1 := by kernel_rfl
@[go_sem] theorem Try.kind148 : kindT Try.prog 148 = some none := by kernel_rfl
@[go_sem] theorem Try.cof148 : Try.prog.cellsOf 148 = 1 := by kernel_rfl
@[go_sem] theorem Try.kind149 : kindT Try.prog 149 = some none := by kernel_rfl
@[go_sem] theorem Try.cof149 : Try.prog.cellsOf 149 = 1 := by kernel_rfl
@[go_sem] theorem Try.kind150 : kindT Try.prog 150 = some none := by kernel_rfl
@[go_sem] theorem Try.cof150 : Try.prog.cellsOf 150 = 1 := by kernel_rfl
@[go_sem] theorem Try.kind151 : kindT Try.prog 151 = some none := by kernel_rfl
@[go_sem] theorem Try.cof151 : Try.prog.cellsOf 151 = 1 := by kernel_rfl
@[go_sem] theorem Try.kind152 : kindT Try.prog 152 = some none := by kernel_rfl
@[go_sem] theorem Try.cof152 : Try.prog.cellsOf 152 = 1 := by kernel_rfl
@[go_sem] theorem Try.kind153 : kindT Try.prog 153 = some none := by kernel_rfl
@[go_sem] theorem Try.cof153 : Try.prog.cellsOf 153 = 1 := by kernel_rfl
@[go_sem] theorem Try.kind154 : kindT Try.prog 154 = some none := by kernel_rfl
@[go_sem] theorem Try.cof154 : Try.prog.cellsOf 154 = 1 := by kernel_rfl
@[go_sem] theorem Try.kind155 : kindT Try.prog 155 = some none := by kernel_rfl
@[go_sem] theorem Try.cof155 : Try.prog.cellsOf 155 = 1 := by kernel_rfl
@[go_sem] theorem Try.kind156 : kindT Try.prog 156 = some none := by kernel_rfl
@[go_sem] theorem Try.cof156 : Try.prog.cellsOf 156 = 1 := by kernel_rfl
@[go_sem] theorem Try.kind157 : kindT Try.prog 157 = some none := by kernel_rfl
@[go_sem] theorem Try.cof157 : Try.prog.cellsOf 157 = 1 := by kernel_rfl
@[go_sem] theorem Try.kind158 : kindT Try.prog 158 = some none := by kernel_rfl
@[go_sem] theorem Try.cof158 : Try.prog.cellsOf 158 = 1 := by kernel_rfl
@[go_sem] theorem Try.kind159 : kindT Try.prog 159 = some none := by kernel_rfl
@[go_sem] theorem Try.cof159 : Try.prog.cellsOf 159 = 1 := by kernel_rfl
@[go_sem] theorem Try.kind160 : kindT Try.prog 160 = some none := by kernel_rfl
@[go_sem] theorem Try.cof160 : Try.prog.cellsOf 160 = 1 := by kernel_rfl
@[go_sem] theorem Try.kind161 : kindT Try.prog 161 = some none := by kernel_rfl
@[go_sem] theorem Try.cof161 : Try.prog.cellsOf 161 = 1 := by kernel_rfl
@[go_sem] theorem Try.kind162 : kindT Try.prog 162 = some none := by kernel_rfl
@[go_sem] theorem Try.cof162 : Try.prog.cellsOf 162 = 1 := by kernel_rfl
@[go_sem] theorem Try.kind163 : kindT Try.prog 163 = some none := by kernel_rfl
@[go_sem] theorem Try.cof163 : Try.prog.cellsOf 163 = 1 := by kernel_rfl
@[go_sem] theorem Try.kind164 : kindT Try.prog 164 = some none := by kernel_rfl
@[go_sem] theorem Try.cof164 : Try.prog.cellsOf 164 = 1 := by kernel_rfl
@[go_sem] theorem Try.kind165 : kindT Try.prog 165 = some none := by kernel_rfl
@[go_sem] theorem Try.cof165 : Try.prog.cellsOf 165 = 1 := by kernel_rfl
@[go_sem] theorem Try.kind166 : kindT Try.prog 166 = some none := by kernel_rfl
@[go_sem] theorem Try.cof166 : Try.prog.cellsOf 166 = 1 := by kernel_rfl
@[go_sem] theorem Try.kind167 : kindT Try.prog 167 = some none := by kernel_rfl
@[go_sem] theorem Try.cof167 : Try.prog.cellsOf 167 = 1 := by kernel_rfl
@[go_sem] theorem Try.kind168 : kindT Try.prog 168 = some none := by kernel_rfl
@[go_sem] theorem Try.cof168 : Try.prog.cellsOf 168 = 1 := by kernel_rfl
@[go_sem] theorem Try.kind169 : kindT Try.prog 169 = some none := by kernel_rfl
@[go_sem] theorem Try.cof169 : Try.prog.cellsOf 169 = 1 := by kernel_rfl
@[go_sem] theorem Try.kind170 : kindT Try.prog 170 = some none := by kernel_rfl
@[go_sem] theorem Try.cof170 : Try.prog.cellsOf 170 = 1 := by kernel_rfl
@[go_sem] theorem Try.kind171 : kindT Try.prog 171 = some none := by kernel_rfl
@[go_sem] theorem Try.cof171 : Try.prog.cellsOf 171 = 1 := by kernel_rfl
@[go_sem] theorem Try.kind172 : kindT Try.prog 172 = some none := by kernel_rfl
@[go_sem] theorem Try.elem172 : elemT Try.prog 172 = some 9 := by kernel_rfl
@[go_sem] theorem Try.info172 : infoT Try.prog 172 = some (1, 24, [.val (.slice none 0 0)]) := by kernel_rfl
@[go_sem] theorem Try.cof172 : Try.prog.cellsOf 172 = 1 := by kernel_rfl
theorem Try.und172 : Try.prog.underlying 172 = some (.slice 9) := by kernel_rfl
@[go_sem] theorem Try.kind173 : kindT Try.prog 173 = some none := by kernel_rfl
@[go_sem] theorem Try.cof173 : Try.prog.cellsOf 173 = 1 := by kernel_rfl
@[go_sem] theorem Try.kind174 : kindT Try.prog 174 = some none := by kernel_rfl
@[go_sem] theorem Try.cof174 : Try.prog.cellsOf 174 = 1 := by kernel_rfl
@[go_sem] theorem Try.kind176 : kindT Try.prog 176 = some none := by kernel_rfl
@[go_sem] theorem Try.cof176 : Try.prog.cellsOf 176 = 1 := by kernel_rfl
@[go_sem] theorem Try.kind177 : kindT Try.prog 177 = some none := by kernel_rfl
@[go_sem] theorem Try.cof177 : Try.prog.cellsOf 177 = 1 := by kernel_rfl
@[go_sem] theorem Try.kind178 : kindT Try.prog 178 = some none := by kernel_rfl
@[go_sem] theorem Try.cof178 : Try.prog.cellsOf 178 = 1 := by kernel_rfl
@[go_sem] theorem Try.kind179 : kindT Try.prog 179 = some none := by kernel_rfl
@[go_sem] theorem Try.cof179 : Try.prog.cellsOf 179 = 1 := by kernel_rfl
@[go_sem] theorem Try.kind180 : kindT Try.prog 180 = some none := by kernel_rfl
@[go_sem] theorem Try.cof180 : Try.prog.cellsOf 180 = 1 := by kernel_rfl
@[go_sem] theorem Try.kind181 : kindT Try.prog 181 = some none := by kernel_rfl
@[go_sem] theorem Try.cof181 : Try.prog.cellsOf 181 = 1 := by kernel_rfl
@[go_sem] theorem Try.kind182 : kindT Try.prog 182 = some none := by kernel_rfl
@[go_sem] theorem Try.cof182 : Try.prog.cellsOf 182 = 1 := by kernel_rfl
@[go_sem] theorem Try.kind183 : kindT Try.prog 183 = some none := by kernel_rfl
@[go_sem] theorem Try.cof183 : Try.prog.cellsOf 183 = 1 := by kernel_rfl
@[go_sem] theorem Try.kind184 : kindT Try.prog 184 = some none := by kernel_rfl
@[go_sem] theorem Try.info184 : infoT Try.prog 184 = some (1, 4, [.val (.int .u32 0)]) := by kernel_rfl
@[go_sem] theorem Try.cof184 : Try.prog.cellsOf 184 = 1 := by kernel_rfl
@[go_sem] theorem Try.und184 : Try.prog.underlying 184 = some (.int .u32) := by kernel_rfl
@[go_sem] theorem Try.kind186 : kindT Try.prog 186 = some none := by kernel_rfl
@[go_sem] theorem Try.cof186 : Try.prog.cellsOf 186 = 1 := by kernel_rfl
@[go_sem] theorem Try.kind188 : kindT Try.prog 188 = some none := by kernel_rfl
@[go_sem] theorem Try.cof188 : Try.prog.cellsOf 188 = 1 := by kernel_rfl
@[go_sem] theorem Try.kind189 : kindT Try.prog 189 = some none := by kernel_rfl
@[go_sem] theorem Try.cof189 : Try.prog.cellsOf 189 = 1 := by kernel_rfl
@[go_sem] theorem Try.kind190 : kindT Try.prog 190 = some (some 4) := by kernel_rfl
@[go_sem] theorem Try.fld190_0 : fldT Try.prog 190 0 = some 0 := by kernel_rfl
@[go_sem] theorem Try.fl1190_0 : fld1T Try.prog 190 0 = some 0 := by kernel_rfl
@[go_sem] theorem Try.pl190_0 : plT Try.prog 190 0 = some 0 := by kernel_rfl
@[go_sem] theorem Try.fld190_1 : fldT Try.prog 190 1 = some 1 := by kernel_rfl
@[go_sem] theorem Try.fl1190_1 : fld1T Try.prog 190 1 = some 1 := by kernel_rfl
@[go_sem] theorem Try.pl190_1 : plT Try.prog 190 1 = some 1 := by kernel_rfl
@[go_sem] theorem Try.fld190_2 : fldT Try.prog 190 2 = some 2 := by kernel_rfl
@[go_sem] theorem Try.fl1190_2 : fld1T Try.prog 190 2 = some 2 := by kernel_rfl
@[go_sem] theorem Try.pl190_2 : plT Try.prog 190 2 = some 2 := by kernel_rfl
@[go_sem] theorem Try.fld190_3 : fldT Try.prog 190 3 = some 3 := by kernel_rfl
@[go_sem] theorem Try.fl1190_3 : fld1T Try.prog 190 3 = some 3 := by kernel_rfl
@[go_sem] theorem Try.pl190_3 : plT Try.prog 190 3 = some 3 := by kernel_rfl
@[go_sem] theorem Try.plk190 : plOk Try.prog 190 = true := by kernel_rfl
@[go_sem] theorem Try.cof190 : Try.prog.cellsOf 190 = 4 := by kernel_rfl
@[go_sem] theorem Try.kind191 : kindT Try.prog 191 = some (some 4) := by kernel_rfl
@[go_sem] theorem Try.fld191_0 : fldT Try.prog 191 0 = some 0 := by kernel_rfl
@[go_sem] theorem Try.fl1191_0 : fld1T Try.prog 191 0 = some 0 := by kernel_rfl
@[go_sem] theorem Try.pl191_0 : plT Try.prog 191 0 = some 0 := by kernel_rfl
@[go_sem] theorem Try.fld191_1 : fldT Try.prog 191 1 = some 1 := by kernel_rfl
@[go_sem] theorem Try.fl1191_1 : fld1T Try.prog 191 1 = some 1 := by kernel_rfl
@[go_sem] theorem Try.pl191_1 : plT Try.prog 191 1 = some 1 := by kernel_rfl
@[go_sem] theorem Try.fld191_2 : fldT Try.prog 191 2 = some 2 := by kernel_rfl
@[go_sem] theorem Try.fl1191_2 : fld1T Try.prog 191 2 = some 2 := by kernel_rfl
@[go_sem] theorem Try.pl191_2 : plT Try.prog 191 2 = some 2 := by kernel_rfl
@[go_sem] theorem Try.fld191_3 : fldT Try.prog 191 3 = some 3 := by kernel_rfl
@[go_sem] theorem Try.fl1191_3 : fld1T Try.prog 191 3 = some 3 := by kernel_rfl
@[go_sem] theorem Try.pl191_3 : plT Try.prog 191 3 = some 3 := by kernel_rfl
@[go_sem] theorem Try.plk191 : plOk Try.prog 191 = true := by kernel_rfl
@[go_sem] theorem Try.cof191 : Try.prog.cellsOf 191 = 4 := by kernel_rfl
@[go_sem] theorem Try.kind192 : kindT Try.prog 192 = some (some 0) := by kernel_rfl
@[go_sem] theorem Try.elem192 : elemT Try.prog 192 = none := by kernel_rfl
@[go_sem] theorem Try.arr192 : arrT Try.prog 192 = some (0, 1, true) := by kernel_rfl
@[go_sem] theorem Try.plk192 : plOk Try.prog 192 = true := by kernel_rfl
@[go_sem] theorem Try.info192 : infoT Try.prog 192 = some (0, 0, []) := by kernel_rfl
@[go_sem] theorem Try.cof192 : Try.prog.cellsOf 192 = 0 := by kernel_rfl
@[go_sem] theorem Try.kind193 : kindT Try.prog 193 = some (some 0) := by kernel_rfl
@[go_sem] theorem Try.plk193 : plOk Try.prog 193 = true := by kernel_rfl
@[go_sem] theorem Try.info193 : infoT Try.prog 193 = some (0, 0, []) := by kernel_rfl
@[go_sem] theorem Try.cof193 : Try.prog.cellsOf 193 = 0 := by kernel_rfl
@[go_sem] theorem Try.kind194 : kindT Try.prog 194 = some (some 0) := by kernel_rfl
@[go_sem] theorem Try.plk194 : plOk Try.prog 194 = true := by kernel_rfl
@[go_sem] theorem Try.info194 : infoT Try.prog 194 = some (0, 0, []) := by kernel_rfl
@[go_sem] theorem Try.cof194 : Try.prog.cellsOf 194 = 0 := by kernel_rfl
@[go_sem] theorem Try.kind195 : kindT Try.prog 195 = some none := by kernel_rfl
@[go_sem] theorem Try.info195 : infoT Try.prog 195 = some (1, 1, [.val (.int .u8 0)]) := by kernel_rfl
@[go_sem] theorem Try.cof195 : Try.prog.cellsOf 195 = 1 := by kernel_rfl
@[go_sem] theorem Try.und195 : Try.prog.underlying 195 = some (.int .u8) := by kernel_rfl
@[go_sem] theorem Try.kind196 : kindT Try.prog 196 = some none := by kernel_rfl
@[go_sem] theorem Try.info196 : infoT Try.prog 196 = some (1, 1, [.val (.int .u8 0)]) := by kernel_rfl
@[go_sem] theorem Try.cof196 : Try.prog.cellsOf 196 = 1 := by kernel_rfl
@[go_sem] theorem Try.und196 : Try.prog.underlying 196 = some (.int .u8) := by kernel_rfl
@[go_sem] theorem Try.kind197 : kindT Try.prog 197 = some none := by kernel_rfl
@[go_sem] theorem Try.cof197 : Try.prog.cellsOf 197 = 1 := by kernel_rfl
@[go_sem] theorem Try.kind198 : kindT Try.prog 198 = some none := by kernel_rfl
@[go_sem] theorem Try.elem198 : elemT Try.prog 198 = none := by kernel_rfl
@[go_sem] theorem Try.cof198 : Try.prog.cellsOf 198 = 1 := by kernel_rfl
@[go_sem] theorem Try.kind199 : kindT Try.prog 199 = some none := by kernel_rfl
@[go_sem] theorem Try.info199 : infoT Try.prog 199 = some (1, 4, [.val (.int .i32 0)]) := by kernel_rfl
@[go_sem] theorem Try.cof199 : Try.prog.cellsOf 199 = 1 := by kernel_rfl
@[go_sem] theorem Try.und199 : Try.prog.underlying 199 = some (.int .i32) := by kernel_rfl
@[go_sem] theorem Try.kind200 : kindT Try.prog 200 = some none := by kernel_rfl
@[go_sem] theorem Try.info200 : infoT Try.prog 200 = some (1, 4, [.val (.int .i32 0)]) := by kernel_rfl
@[go_sem] theorem Try.cof200 : Try.prog.cellsOf 200 = 1 := by kernel_rfl
@[go_sem] theorem Try.und200 : Try.prog.underlying 200 = some (.int .i32) := by kernel_rfl
@[go_sem] theorem Try.kind201 : kindT Try.prog 201 = some (some 11) := by kernel_rfl
@[go_sem] theorem Try.fld201_0 : fldT Try.prog 201 0 = some 0 := by kernel_rfl
@[go_sem] theorem Try.fl1201_0 : fld1T Try.prog 201 0 = some 0 := by kernel_rfl
@[go_sem] theorem Try.pl201_0 : plT Try.prog 201 0 = some 0 := by kernel_rfl
@[go_sem] theorem Try.fld201_1 : fldT Try.prog 201 1 = some 1 := by kernel_rfl
@[go_sem] theorem Try.fl1201_1 : fld1T Try.prog 201 1 = some 1 := by kernel_rfl
@[go_sem] theorem Try.pl201_1 : plT Try.prog 201 1 = some 1 := by kernel_rfl
@[go_sem] theorem Try.fld201_2 : fldT Try.prog 201 2 = some 2 := by kernel_rfl
@[go_sem] theorem Try.fl1201_2 : fld1T Try.prog 201 2 = some 2 := by kernel_rfl
@[go_sem] theorem Try.pl201_2 : plT Try.prog 201 2 = some 2 := by kernel_rfl
@[go_sem] theorem Try.fld201_3 : fldT Try.prog 201 3 = some 3 := by kernel_rfl
@[go_sem] theorem Try.fl1201_3 : fld1T Try.prog 201 3 = some 3 := by kernel_rfl
@[go_sem] theorem Try.pl201_3 : plT Try.prog 201 3 = some 3 := by kernel_rfl
@[go_sem] theorem Try.fld201_4 : fldT Try.prog 201 4 = some 4 := by kernel_rfl
@[go_sem] theorem Try.fl1201_4 : fld1T Try.prog 201 4 = some 4 := by kernel_rfl
@[go_sem] theorem Try.pl201_4 : plT Try.prog 201 4 = some 4 := by kernel_rfl
@[go_sem] theorem Try.fld201_5 : fldT Try.prog 201 5 = some 5 := by kernel_rfl
@[go_sem] theorem Try.fl1201_5 : fld1T Try.prog 201 5 = some 5 := by kernel_rfl
@[go_sem] theorem Try.pl201_5 : plT Try.prog 201 5 = some 5 := by kernel_rfl
@[go_sem] theorem Try.fld201_6 : fldT Try.prog 201 6 = some 6 := by kernel_rfl
@[go_sem] theorem Try.fl1201_6 : fld1T Try.prog 201 6 = some 6 := by kernel_rfl
@[go_sem] theorem Try.pl201_6 : plT Try.prog 201 6 = some 6 := by kernel_rfl
@[go_sem] theorem Try.fld201_7 : fldT Try.prog 201 7 = some 7 := by kernel_rfl
@[go_sem] theorem Try.fl1201_7 : fld1T Try.prog 201 7 = some 7 := by kernel_rfl
@[go_sem] theorem Try.pl201_7 : plT Try.prog 201 7 = some 7 := by kernel_rfl
@[go_sem] theorem Try.fld201_8 : fldT Try.prog 201 8 = some 8 := by kernel_rfl
@[go_sem] theorem Try.fl1201_8 : fld1T Try.prog 201 8 = some 8 := by kernel_rfl
@[go_sem] theorem Try.pl201_8 : plT Try.prog 201 8 = some 8 := by kernel_rfl
@[go_sem] theorem Try.fld201_9 : fldT Try.prog 201 9 = some 9 := by kernel_rfl
@[go_sem] theorem Try.fl1201_9 : fld1T Try.prog 201 9 = some 9 := by kernel_rfl
@[go_sem] theorem Try.pl201_9 : plT Try.prog 201 9 = some 9 := by kernel_rfl
@[go_sem] theorem Try.fld201_10 : fldT Try.prog 201 10 = some 10 := by kernel_rfl
@[go_sem] theorem Try.fl1201_10 : fld1T Try.prog 201 10 = some 10 := by kernel_rfl
@[go_sem] theorem Try.pl201_10 : plT Try.prog 201 10 = some 10 := by kernel_rfl
@[go_sem] theorem Try.plk201 : plOk Try.prog 201 = true := by kernel_rfl
@[go_sem] theorem Try.cof201 : Try.prog.cellsOf 201 = 11 := by kernel_rfl
@[go_sem] theorem Try.kind202 : kindT Try.prog 202 = some (some 11) := by kernel_rfl
@[go_sem] theorem Try.fld202_0 : fldT Try.prog 202 0 = some 0 := by kernel_rfl
@[go_sem] theorem Try.fl1202_0 : fld1T Try.prog 202 0 = some 0 := by kernel_rfl
@[go_sem] theorem Try.pl202_0 : plT Try.prog 202 0 = some 0 := by kernel_rfl
@[go_sem] theorem Try.fld202_1 : fldT Try.prog 202 1 = some 1 := by kernel_rfl
@[go_sem] theorem Try.fl1202_1 : fld1T Try.prog 202 1 = some 1 := by kernel_rfl
@[go_sem] theorem Try.pl202_1 : plT Try.prog 202 1 = some 1 := by kernel_rfl
@[go_sem] theorem Try.fld202_2 : fldT Try.prog 202 2 = some 2 := by kernel_rfl
@[go_sem] theorem Try.fl1202_2 : fld1T Try.prog 202 2 = some 2 := by kernel_rfl
@[go_sem] theorem Try.pl202_2 : plT Try.prog 202 2 = some 2 := by kernel_rfl
@[go_sem] theorem Try.fld202_3 : fldT Try.prog 202 3 = some 3 := by kernel_rfl
@[go_sem] theorem Try.fl1202_3 : fld1T Try.prog 202 3 = some 3 := by kernel_rfl
@[go_sem] theorem Try.pl202_3 : plT Try.prog 202 3 = some 3 := by kernel_rfl
@[go_sem] theorem Try.fld202_4 : fldT Try.prog 202 4 = some 4 := by kernel_rfl
@[go_sem] theorem Try.fl1202_4 : fld1T Try.prog 202 4 = some 4 := by kernel_rfl
@[go_sem] theorem Try.pl202_4 : plT Try.prog 202 4 = some 4 := by kernel_rfl
@[go_sem] theorem Try.fld202_5 : fldT Try.prog 202 5 = some 5 := by kernel_rfl
@[go_sem] theorem Try.fl1202_5 : fld1T Try.prog 202 5 = some 5 := by kernel_rfl
@[go_sem] theorem Try.pl202_5 : plT Try.prog 202 5 = some 5 := by kernel_rfl
@[go_sem] theorem Try.fld202_6 : fldT Try.prog 202 6 = some 6 := by kernel_rfl
@[go_sem] theorem Try.fl1202_6 : fld1T Try.prog 202 6 = some 6 := by kernel_rfl
@[go_sem] theorem Try.pl202_6 : plT Try.prog 202 6 = some 6 := by kernel_rfl
@[go_sem] theorem Try.fld202_7 : fldT Try.prog 202 7 = some 7 := by kernel_rfl
@[go_sem] theorem Try.fl1202_7 : fld1T Try.prog 202 7 = some 7 := by kernel_rfl
@[go_sem] theorem Try.pl202_7 : plT Try.prog 202 7 = some 7 := by kernel_rfl
@[go_sem] theorem Try.fld202_8 : fldT Try.prog 202 8 = some 8 := by kernel_rfl
@[go_sem] theorem Try.fl1202_8 : fld1T Try.prog 202 8 = some 8 := by kernel_rfl
@[go_sem] theorem Try.pl202_8 : plT Try.prog 202 8 = some 8 := by kernel_rfl
@[go_sem] theorem Try.fld202_9 : fldT Try.prog 202 9 = some 9 := by kernel_rfl
@[go_sem] theorem Try.fl1202_9 : fld1T Try.prog 202 9 = some 9 := by kernel_rfl
@[go_sem] theorem Try.pl202_9 : plT Try.prog 202 9 = some 9 := by kernel_rfl
@[go_sem] theorem Try.fld202_10 : fldT Try.prog 202 10 = some 10 := by kernel_rfl
@[go_sem] theorem Try.fl1202_10 : fld1T Try.prog 202 10 = some 10 := by kernel_rfl
@[go_sem] theorem Try.pl202_10 : plT Try.prog 202 10 = some 10 := by kernel_rfl
@[go_sem] theorem Try.plk202 : plOk Try.prog 202 = true := by kernel_rfl
@[go_sem] theorem Try.cof202 : Try.prog.cellsOf 202 = 11 := by kernel_rfl
@[go_sem] theorem Try.kind203 : kindT Try.prog 203 = some none := by kernel_rfl
@[go_sem] theorem Try.cof203 : Try.prog.cellsOf 203 = 1 := by kernel_rfl
end Go.Proofs

/- Layings of the library's sort at the program's own types. -/
namespace Go.Proofs.Ytmojbncbbnjblaa
open Go.Shelf Go.Sort
set_option maxRecDepth 100000

end Go.Proofs.Ytmojbncbbnjblaa
