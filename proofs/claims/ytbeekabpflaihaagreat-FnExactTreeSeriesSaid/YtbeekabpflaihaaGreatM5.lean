/- Texts of the own layer and contracts, part 5: Tab Srt. -/
import Derived.Test.YtbeekabpflaihaaGreatProg
import Derived.KernelRfl
import Derived.Shelf.SlSortCmp.NoneTotal
import Derived.Test.YtbeekabpflaihaaGreatM4
/- What the loaded program says of its types. Written by a program (gentab.py). -/
namespace Go.Proofs
open Go.Abs
instance Tryz.drawK : DrawK := ⟨0⟩
theorem Tryz.mixed : Tryz.prog.follows .mixedOrders = true := by kernel_rfl
@[go_sem] theorem Tryz.kind1 : kindT Tryz.prog 1 = some none := by kernel_rfl
@[go_sem] theorem Tryz.cof1 : Tryz.prog.cellsOf 1 = 1 := by kernel_rfl
@[go_sem] theorem Tryz.kind2 : kindT Tryz.prog 2 = some none := by kernel_rfl
@[go_sem] theorem Tryz.info2 : infoT Tryz.prog 2 = some (1, 8, [.val (.int .i64 0)]) := by kernel_rfl
@[go_sem] theorem Tryz.cof2 : Tryz.prog.cellsOf 2 = 1 := by kernel_rfl
@[go_sem] theorem Tryz.und2 : Tryz.prog.underlying 2 = some (.int .i64) := by kernel_rfl
@[go_sem] theorem Tryz.kind3 : kindT Tryz.prog 3 = some none := by kernel_rfl
@[go_sem] theorem Tryz.info3 : infoT Tryz.prog 3 = some (1, 8, [.val (.int .i64 0)]) := by kernel_rfl
@[go_sem] theorem Tryz.cof3 : Tryz.prog.cellsOf 3 = 1 := by kernel_rfl
@[go_sem] theorem Tryz.und3 : Tryz.prog.underlying 3 = some (.int .i64) := by kernel_rfl
@[go_sem] theorem Tryz.kind4 : kindT Tryz.prog 4 = some none := by kernel_rfl
@[go_sem] theorem Tryz.isbool4 : boolT Tryz.prog 4 = true := by kernel_rfl
@[go_sem] theorem Tryz.info4 : infoT Tryz.prog 4 = some (1, 1, [.val (.bool false)]) := by kernel_rfl
@[go_sem] theorem Tryz.cof4 : Tryz.prog.cellsOf 4 = 1 := by kernel_rfl
@[go_sem] theorem Tryz.kind5 : kindT Tryz.prog 5 = some none := by kernel_rfl
@[go_sem] theorem Tryz.info5 : infoT Tryz.prog 5 = some (1, 1, [.val (.int .u8 0)]) := by kernel_rfl
@[go_sem] theorem Tryz.cof5 : Tryz.prog.cellsOf 5 = 1 := by kernel_rfl
@[go_sem] theorem Tryz.und5 : Tryz.prog.underlying 5 = some (.int .u8) := by kernel_rfl
@[go_sem] theorem Tryz.kind6 : kindT Tryz.prog 6 = some none := by kernel_rfl
@[go_sem] theorem Tryz.info6 : infoT Tryz.prog 6 = some (1, 1, [.val (.int .u8 0)]) := by kernel_rfl
@[go_sem] theorem Tryz.cof6 : Tryz.prog.cellsOf 6 = 1 := by kernel_rfl
@[go_sem] theorem Tryz.und6 : Tryz.prog.underlying 6 = some (.int .u8) := by kernel_rfl
@[go_sem] theorem Tryz.kind7 : kindT Tryz.prog 7 = some (some 4) := by kernel_rfl
@[go_sem] theorem Tryz.fld7_0 : fldT Tryz.prog 7 0 = some 0 := by kernel_rfl
@[go_sem] theorem Tryz.fl17_0 : fld1T Tryz.prog 7 0 = some 0 := by kernel_rfl
@[go_sem] theorem Tryz.pl7_0 : plT Tryz.prog 7 0 = some 0 := by kernel_rfl
@[go_sem] theorem Tryz.fld7_1 : fldT Tryz.prog 7 1 = some 1 := by kernel_rfl
@[go_sem] theorem Tryz.fl17_1 : fld1T Tryz.prog 7 1 = some 1 := by kernel_rfl
@[go_sem] theorem Tryz.pl7_1 : plT Tryz.prog 7 1 = some 1 := by kernel_rfl
@[go_sem] theorem Tryz.fld7_2 : fldT Tryz.prog 7 2 = some 2 := by kernel_rfl
@[go_sem] theorem Tryz.fl17_2 : fld1T Tryz.prog 7 2 = some 2 := by kernel_rfl
@[go_sem] theorem Tryz.pl7_2 : plT Tryz.prog 7 2 = some 2 := by kernel_rfl
@[go_sem] theorem Tryz.fld7_3 : fldT Tryz.prog 7 3 = some 3 := by kernel_rfl
@[go_sem] theorem Tryz.fl17_3 : fld1T Tryz.prog 7 3 = some 3 := by kernel_rfl
@[go_sem] theorem Tryz.pl7_3 : plT Tryz.prog 7 3 = some 3 := by kernel_rfl
@[go_sem] theorem Tryz.plk7 : plOk Tryz.prog 7 = true := by kernel_rfl
@[go_sem] theorem Tryz.info7 : infoT Tryz.prog 7 = some (4, 24, [.val (.int .i64 0), .val (.int .i64 0), .val (.bool false), .val (.int .u8 0)]) := by kernel_rfl
@[go_sem] theorem Tryz.cof7 : Tryz.prog.cellsOf 7 = 4 := by kernel_rfl
@[go_sem] theorem Tryz.kind8 : kindT Tryz.prog 8 = some (some 4) := by kernel_rfl
@[go_sem] theorem Tryz.fld8_0 : fldT Tryz.prog 8 0 = some 0 := by kernel_rfl
@[go_sem] theorem Tryz.fl18_0 : fld1T Tryz.prog 8 0 = some 0 := by kernel_rfl
@[go_sem] theorem Tryz.pl8_0 : plT Tryz.prog 8 0 = some 0 := by kernel_rfl
@[go_sem] theorem Tryz.fld8_1 : fldT Tryz.prog 8 1 = some 1 := by kernel_rfl
@[go_sem] theorem Tryz.fl18_1 : fld1T Tryz.prog 8 1 = some 1 := by kernel_rfl
@[go_sem] theorem Tryz.pl8_1 : plT Tryz.prog 8 1 = some 1 := by kernel_rfl
@[go_sem] theorem Tryz.fld8_2 : fldT Tryz.prog 8 2 = some 2 := by kernel_rfl
@[go_sem] theorem Tryz.fl18_2 : fld1T Tryz.prog 8 2 = some 2 := by kernel_rfl
@[go_sem] theorem Tryz.pl8_2 : plT Tryz.prog 8 2 = some 2 := by kernel_rfl
@[go_sem] theorem Tryz.fld8_3 : fldT Tryz.prog 8 3 = some 3 := by kernel_rfl
@[go_sem] theorem Tryz.fl18_3 : fld1T Tryz.prog 8 3 = some 3 := by kernel_rfl
@[go_sem] theorem Tryz.pl8_3 : plT Tryz.prog 8 3 = some 3 := by kernel_rfl
@[go_sem] theorem Tryz.plk8 : plOk Tryz.prog 8 = true := by kernel_rfl
@[go_sem] theorem Tryz.info8 : infoT Tryz.prog 8 = some (4, 24, [.val (.int .i64 0), .val (.int .i64 0), .val (.bool false), .val (.int .u8 0)]) := by kernel_rfl
@[go_sem] theorem Tryz.cof8 : Tryz.prog.cellsOf 8 = 4 := by kernel_rfl
@[go_sem] theorem Tryz.kind9 : kindT Tryz.prog 9 = some none := by kernel_rfl
@[go_sem] theorem Tryz.elem9 : elemT Tryz.prog 9 = none := by kernel_rfl
@[go_sem] theorem Tryz.info9 : infoT Tryz.prog 9 = some (1, 16, [.val (.string ⟨#[]⟩)]) := by kernel_rfl
@[go_sem] theorem Tryz.cof9 : Tryz.prog.cellsOf 9 = 1 := by kernel_rfl
theorem Tryz.und9 : Tryz.prog.underlying 9 = some (.string) := by kernel_rfl
@[go_sem] theorem Tryz.kind10 : kindT Tryz.prog 10 = some none := by kernel_rfl
@[go_sem] theorem Tryz.elem10 : elemT Tryz.prog 10 = none := by kernel_rfl
@[go_sem] theorem Tryz.info10 : infoT Tryz.prog 10 = some (1, 16, [.val (.string ⟨#[]⟩)]) := by kernel_rfl
@[go_sem] theorem Tryz.cof10 : Tryz.prog.cellsOf 10 = 1 := by kernel_rfl
theorem Tryz.und10 : Tryz.prog.underlying 10 = some (.string) := by kernel_rfl
@[go_sem] theorem Tryz.kind11 : kindT Tryz.prog 11 = some none := by kernel_rfl
@[go_sem] theorem Tryz.elem11 : elemT Tryz.prog 11 = none := by kernel_rfl
@[go_sem] theorem Tryz.info11 : infoT Tryz.prog 11 = some (1, 16, [.val (.string ⟨#[]⟩)]) := by kernel_rfl
@[go_sem] theorem Tryz.cof11 : Tryz.prog.cellsOf 11 = 1 := by kernel_rfl
theorem Tryz.und11 : Tryz.prog.underlying 11 = some (.string) := by kernel_rfl
@[go_sem] theorem Tryz.kind12 : kindT Tryz.prog 12 = some none := by kernel_rfl
@[go_sem] theorem Tryz.info12 : infoT Tryz.prog 12 = some (1, 8, [.val (.int .u64 0)]) := by kernel_rfl
@[go_sem] theorem Tryz.cof12 : Tryz.prog.cellsOf 12 = 1 := by kernel_rfl
@[go_sem] theorem Tryz.und12 : Tryz.prog.underlying 12 = some (.int .u64) := by kernel_rfl
@[go_sem] theorem Tryz.kind13 : kindT Tryz.prog 13 = some (some 2) := by kernel_rfl
@[go_sem] theorem Tryz.fld13_0 : fldT Tryz.prog 13 0 = some 0 := by kernel_rfl
@[go_sem] theorem Tryz.fl113_0 : fld1T Tryz.prog 13 0 = some 0 := by kernel_rfl
@[go_sem] theorem Tryz.pl13_0 : plT Tryz.prog 13 0 = some 0 := by kernel_rfl
@[go_sem] theorem Tryz.fld13_1 : fldT Tryz.prog 13 1 = some 1 := by kernel_rfl
@[go_sem] theorem Tryz.fl113_1 : fld1T Tryz.prog 13 1 = some 1 := by kernel_rfl
@[go_sem] theorem Tryz.pl13_1 : plT Tryz.prog 13 1 = some 1 := by kernel_rfl
@[go_sem] theorem Tryz.plk13 : plOk Tryz.prog 13 = true := by kernel_rfl
@[go_sem] theorem Tryz.info13 : infoT Tryz.prog 13 = some (2, 24, [.val (.string ⟨#[]⟩), .val (.int .u64 0)]) := by kernel_rfl
@[go_sem] theorem Tryz.cof13 : Tryz.prog.cellsOf 13 = 2 := by kernel_rfl
@[go_sem] theorem Tryz.kind14 : kindT Tryz.prog 14 = some (some 2) := by kernel_rfl
@[go_sem] theorem Tryz.fld14_0 : fldT Tryz.prog 14 0 = some 0 := by kernel_rfl
@[go_sem] theorem Tryz.fl114_0 : fld1T Tryz.prog 14 0 = some 0 := by kernel_rfl
@[go_sem] theorem Tryz.pl14_0 : plT Tryz.prog 14 0 = some 0 := by kernel_rfl
@[go_sem] theorem Tryz.fld14_1 : fldT Tryz.prog 14 1 = some 1 := by kernel_rfl
@[go_sem] theorem Tryz.fl114_1 : fld1T Tryz.prog 14 1 = some 1 := by kernel_rfl
@[go_sem] theorem Tryz.pl14_1 : plT Tryz.prog 14 1 = some 1 := by kernel_rfl
@[go_sem] theorem Tryz.plk14 : plOk Tryz.prog 14 = true := by kernel_rfl
@[go_sem] theorem Tryz.info14 : infoT Tryz.prog 14 = some (2, 24, [.val (.string ⟨#[]⟩), .val (.int .u64 0)]) := by kernel_rfl
@[go_sem] theorem Tryz.cof14 : Tryz.prog.cellsOf 14 = 2 := by kernel_rfl
@[go_sem] theorem Tryz.kind15 : kindT Tryz.prog 15 = some none := by kernel_rfl
@[go_sem] theorem Tryz.elem15 : elemT Tryz.prog 15 = none := by kernel_rfl
@[go_sem] theorem Tryz.cof15 : Tryz.prog.cellsOf 15 = 1 := by kernel_rfl
@[go_sem] theorem Tryz.kind16 : kindT Tryz.prog 16 = some none := by kernel_rfl
@[go_sem] theorem Tryz.elem16 : elemT Tryz.prog 16 = none := by kernel_rfl
@[go_sem] theorem Tryz.cof16 : Tryz.prog.cellsOf 16 = 1 := by kernel_rfl
@[go_sem] theorem Tryz.kind17 : kindT Tryz.prog 17 = some none := by kernel_rfl
@[go_sem] theorem Tryz.elem17 : elemT Tryz.prog 17 = none := by kernel_rfl
@[go_sem] theorem Tryz.cof17 : Tryz.prog.cellsOf 17 = 1 := by kernel_rfl
@[go_sem] theorem Tryz.kind18 : kindT Tryz.prog 18 = some (some 1) := by kernel_rfl
@[go_sem] theorem Tryz.fld18_0 : fldT Tryz.prog 18 0 = some 0 := by kernel_rfl
@[go_sem] theorem Tryz.fl118_0 : fld1T Tryz.prog 18 0 = some 0 := by kernel_rfl
@[go_sem] theorem Tryz.pl18_0 : plT Tryz.prog 18 0 = some 0 := by kernel_rfl
@[go_sem] theorem Tryz.plk18 : plOk Tryz.prog 18 = true := by kernel_rfl
@[go_sem] theorem Tryz.cof18 : Tryz.prog.cellsOf 18 = 1 := by kernel_rfl
@[go_sem] theorem Tryz.kind19 : kindT Tryz.prog 19 = some (some 1) := by kernel_rfl
@[go_sem] theorem Tryz.fld19_0 : fldT Tryz.prog 19 0 = some 0 := by kernel_rfl
@[go_sem] theorem Tryz.fl119_0 : fld1T Tryz.prog 19 0 = some 0 := by kernel_rfl
@[go_sem] theorem Tryz.pl19_0 : plT Tryz.prog 19 0 = some 0 := by kernel_rfl
@[go_sem] theorem Tryz.plk19 : plOk Tryz.prog 19 = true := by kernel_rfl
@[go_sem] theorem Tryz.cof19 : Tryz.prog.cellsOf 19 = 1 := by kernel_rfl
@[go_sem] theorem Tryz.kind21 : kindT Tryz.prog 21 = some none := by kernel_rfl
@[go_sem] theorem Tryz.info21 : infoT Tryz.prog 21 = some (1, 4, [.val (.int .i32 0)]) := by kernel_rfl
@[go_sem] theorem Tryz.cof21 : Tryz.prog.cellsOf 21 = 1 := by kernel_rfl
@[go_sem] theorem Tryz.und21 : Tryz.prog.underlying 21 = some (.int .i32) := by kernel_rfl
@[go_sem] theorem Tryz.kind22 : kindT Tryz.prog 22 = some none := by kernel_rfl
@[go_sem] theorem Tryz.elem22 : elemT Tryz.prog 22 = some 2 := by kernel_rfl
@[go_sem] theorem Tryz.info22 : infoT Tryz.prog 22 = some (1, 24, [.val (.slice none 0 0)]) := by kernel_rfl
@[go_sem] theorem Tryz.cof22 : Tryz.prog.cellsOf 22 = 1 := by kernel_rfl
theorem Tryz.und22 : Tryz.prog.underlying 22 = some (.slice 2) := by kernel_rfl
@[go_sem] theorem Tryz.kind23 : kindT Tryz.prog 23 = some none := by kernel_rfl
@[go_sem] theorem Tryz.elem23 : elemT Tryz.prog 23 = some 123 := by kernel_rfl
@[go_sem] theorem Tryz.info23 : infoT Tryz.prog 23 = some (1, 24, [.val (.slice none 0 0)]) := by kernel_rfl
@[go_sem] theorem Tryz.cof23 : Tryz.prog.cellsOf 23 = 1 := by kernel_rfl
theorem Tryz.und23 : Tryz.prog.underlying 23 = some (.slice 123) := by kernel_rfl
@[go_sem] theorem Tryz.kind24 : kindT Tryz.prog 24 = some (some 2) := by kernel_rfl
@[go_sem] theorem Tryz.fld24_0 : fldT Tryz.prog 24 0 = some 0 := by kernel_rfl
@[go_sem] theorem Tryz.fl124_0 : fld1T Tryz.prog 24 0 = some 0 := by kernel_rfl
@[go_sem] theorem Tryz.pl24_0 : plT Tryz.prog 24 0 = some 0 := by kernel_rfl
@[go_sem] theorem Tryz.fld24_1 : fldT Tryz.prog 24 1 = some 1 := by kernel_rfl
@[go_sem] theorem Tryz.fl124_1 : fld1T Tryz.prog 24 1 = some 1 := by kernel_rfl
@[go_sem] theorem Tryz.pl24_1 : plT Tryz.prog 24 1 = some 1 := by kernel_rfl
@[go_sem] theorem Tryz.plk24 : plOk Tryz.prog 24 = true := by kernel_rfl
@[go_sem] theorem Tryz.info24 : infoT Tryz.prog 24 = some (2, 32, [.val (.int .i64 0), .val (.slice none 0 0)]) := by kernel_rfl
@[go_sem] theorem Tryz.cof24 : Tryz.prog.cellsOf 24 = 2 := by kernel_rfl
@[go_sem] theorem Tryz.kind25 : kindT Tryz.prog 25 = some (some 2) := by kernel_rfl
@[go_sem] theorem Tryz.fld25_0 : fldT Tryz.prog 25 0 = some 0 := by kernel_rfl
@[go_sem] theorem Tryz.fl125_0 : fld1T Tryz.prog 25 0 = some 0 := by kernel_rfl
@[go_sem] theorem Tryz.pl25_0 : plT Tryz.prog 25 0 = some 0 := by kernel_rfl
@[go_sem] theorem Tryz.fld25_1 : fldT Tryz.prog 25 1 = some 1 := by kernel_rfl
@[go_sem] theorem Tryz.fl125_1 : fld1T Tryz.prog 25 1 = some 1 := by kernel_rfl
@[go_sem] theorem Tryz.pl25_1 : plT Tryz.prog 25 1 = some 1 := by kernel_rfl
@[go_sem] theorem Tryz.plk25 : plOk Tryz.prog 25 = true := by kernel_rfl
@[go_sem] theorem Tryz.info25 : infoT Tryz.prog 25 = some (2, 32, [.val (.int .i64 0), .val (.slice none 0 0)]) := by kernel_rfl
@[go_sem] theorem Tryz.cof25 : Tryz.prog.cellsOf 25 = 2 := by kernel_rfl
@[go_sem] theorem Tryz.kind26 : kindT Tryz.prog 26 = some none := by kernel_rfl
@[go_sem] theorem Tryz.cof26 : Tryz.prog.cellsOf 26 = 1 := by kernel_rfl
@[go_sem] theorem Tryz.kind27 : kindT Tryz.prog 27 = some none := by kernel_rfl
@[go_sem] theorem Tryz.elem27 : elemT Tryz.prog 27 = some 22 := by kernel_rfl
@[go_sem] theorem Tryz.info27 : infoT Tryz.prog 27 = some (1, 24, [.val (.slice none 0 0)]) := by kernel_rfl
@[go_sem] theorem Tryz.cof27 : Tryz.prog.cellsOf 27 = 1 := by kernel_rfl
theorem Tryz.und27 : Tryz.prog.underlying 27 = some (.slice 22) := by kernel_rfl
@[go_sem] theorem Tryz.kind29 : kindT Tryz.prog 29 = some none := by kernel_rfl
@[go_sem] theorem Tryz.cof29 : Tryz.prog.cellsOf 29 = 1 := by kernel_rfl
@[go_sem] theorem Tryz.kind30 : kindT Tryz.prog 30 = some none := by kernel_rfl
@[go_sem] theorem Tryz.cof30 : Tryz.prog.cellsOf 30 = 1 := by kernel_rfl
@[go_sem] theorem Tryz.kind31 : kindT Tryz.prog 31 = some none := by kernel_rfl
@[go_sem] theorem Tryz.elem31 : elemT Tryz.prog 31 = some 125 := by kernel_rfl
@[go_sem] theorem Tryz.info31 : infoT Tryz.prog 31 = some (1, 24, [.val (.slice none 0 0)]) := by kernel_rfl
@[go_sem] theorem Tryz.cof31 : Tryz.prog.cellsOf 31 = 1 := by kernel_rfl
theorem Tryz.und31 : Tryz.prog.underlying 31 = some (.slice 125) := by kernel_rfl
@[go_sem] theorem Tryz.kind32 : kindT Tryz.prog 32 = some (some 2) := by kernel_rfl
@[go_sem] theorem Tryz.fld32_0 : fldT Tryz.prog 32 0 = some 0 := by kernel_rfl
@[go_sem] theorem Tryz.fl132_0 : fld1T Tryz.prog 32 0 = some 0 := by kernel_rfl
@[go_sem] theorem Tryz.pl32_0 : plT Tryz.prog 32 0 = some 0 := by kernel_rfl
@[go_sem] theorem Tryz.fld32_1 : fldT Tryz.prog 32 1 = some 1 := by kernel_rfl
@[go_sem] theorem Tryz.fl132_1 : fld1T Tryz.prog 32 1 = some 1 := by kernel_rfl
@[go_sem] theorem Tryz.pl32_1 : plT Tryz.prog 32 1 = some 1 := by kernel_rfl
@[go_sem] theorem Tryz.plk32 : plOk Tryz.prog 32 = true := by kernel_rfl
@[go_sem] theorem Tryz.info32 : infoT Tryz.prog 32 = some (2, 32, [.val (.int .i64 0), .val (.slice none 0 0)]) := by kernel_rfl
@[go_sem] theorem Tryz.cof32 : Tryz.prog.cellsOf 32 = 2 := by kernel_rfl
@[go_sem] theorem Tryz.kind33 : kindT Tryz.prog 33 = some (some 2) := by kernel_rfl
@[go_sem] theorem Tryz.fld33_0 : fldT Tryz.prog 33 0 = some 0 := by kernel_rfl
@[go_sem] theorem Tryz.fl133_0 : fld1T Tryz.prog 33 0 = some 0 := by kernel_rfl
@[go_sem] theorem Tryz.pl33_0 : plT Tryz.prog 33 0 = some 0 := by kernel_rfl
@[go_sem] theorem Tryz.fld33_1 : fldT Tryz.prog 33 1 = some 1 := by kernel_rfl
@[go_sem] theorem Tryz.fl133_1 : fld1T Tryz.prog 33 1 = some 1 := by kernel_rfl
@[go_sem] theorem Tryz.pl33_1 : plT Tryz.prog 33 1 = some 1 := by kernel_rfl
@[go_sem] theorem Tryz.plk33 : plOk Tryz.prog 33 = true := by kernel_rfl
@[go_sem] theorem Tryz.info33 : infoT Tryz.prog 33 = some (2, 32, [.val (.int .i64 0), .val (.slice none 0 0)]) := by kernel_rfl
@[go_sem] theorem Tryz.cof33 : Tryz.prog.cellsOf 33 = 2 := by kernel_rfl
@[go_sem] theorem Tryz.kind34 : kindT Tryz.prog 34 = some none := by kernel_rfl
@[go_sem] theorem Tryz.cof34 : Tryz.prog.cellsOf 34 = 1 := by kernel_rfl
@[go_sem] theorem Tryz.kind35 : kindT Tryz.prog 35 = some none := by kernel_rfl
@[go_sem] theorem Tryz.cof35 : Tryz.prog.cellsOf 35 = 1 := by kernel_rfl
@[go_sem] theorem Tryz.kind36 : kindT Tryz.prog 36 = some none := by kernel_rfl
@[go_sem] theorem Tryz.cof36 : Tryz.prog.cellsOf 36 = 1 := by kernel_rfl
@[go_sem] theorem Tryz.kind37 : kindT Tryz.prog 37 = some none := by kernel_rfl
@[go_sem] theorem Tryz.cof37 : Tryz.prog.cellsOf 37 = 1 := by kernel_rfl
@[go_sem] theorem Tryz.kind38 : kindT Tryz.prog 38 = some none := by kernel_rfl
@[go_sem] theorem Tryz.cof38 : Tryz.prog.cellsOf 38 = 1 := by kernel_rfl
@[go_sem] theorem Tryz.kind39 : kindT Tryz.prog 39 = some none := by kernel_rfl
@[go_sem] theorem Tryz.cof39 : Tryz.prog.cellsOf 39 = 1 := by kernel_rfl
@[go_sem] theorem Tryz.kind40 : kindT Tryz.prog 40 = some none := by kernel_rfl
@[go_sem] theorem Tryz.cof40 : Tryz.prog.cellsOf 40 = 1 := by kernel_rfl
@[go_sem] theorem Tryz.kind41 : kindT Tryz.prog 41 = some none := by kernel_rfl
@[go_sem] theorem Tryz.cof41 : Tryz.prog.cellsOf 41 = 1 := by kernel_rfl
@[go_sem] theorem Tryz.kind42 : kindT Tryz.prog 42 = some none := by kernel_rfl
@[go_sem] theorem Tryz.elem42 : elemT Tryz.prog 42 = some 5 := by kernel_rfl
@[go_sem] theorem Tryz.info42 : infoT Tryz.prog 42 = some (1, 24, [.val (.slice none 0 0)]) := by kernel_rfl
@[go_sem] theorem Tryz.cof42 : Tryz.prog.cellsOf 42 = 1 := by kernel_rfl
theorem Tryz.und42 : Tryz.prog.underlying 42 = some (.slice 5) := by kernel_rfl
@[go_sem] theorem Tryz.kind43 : kindT Tryz.prog 43 = some none := by kernel_rfl
@[go_sem] theorem Tryz.cof43 : Tryz.prog.cellsOf 43 = 1 := by kernel_rfl
@[go_sem] theorem Tryz.kind44 : kindT Tryz.prog 44 = some (some 2) := by kernel_rfl
@[go_sem] theorem Tryz.fld44_0 : fldT Tryz.prog 44 0 = some 0 := by kernel_rfl
@[go_sem] theorem Tryz.fl144_0 : fld1T Tryz.prog 44 0 = some 0 := by kernel_rfl
@[go_sem] theorem Tryz.pl44_0 : plT Tryz.prog 44 0 = some 0 := by kernel_rfl
@[go_sem] theorem Tryz.fld44_1 : fldT Tryz.prog 44 1 = some 1 := by kernel_rfl
@[go_sem] theorem Tryz.fl144_1 : fld1T Tryz.prog 44 1 = some 1 := by kernel_rfl
@[go_sem] theorem Tryz.pl44_1 : plT Tryz.prog 44 1 = some 1 := by kernel_rfl
@[go_sem] theorem Tryz.plk44 : plOk Tryz.prog 44 = true := by kernel_rfl
@[go_sem] theorem Tryz.info44 : infoT Tryz.prog 44 = some (2, 48, [.val (.slice none 0 0), .val (.slice none 0 0)]) := by kernel_rfl
@[go_sem] theorem Tryz.cof44 : Tryz.prog.cellsOf 44 = 2 := by kernel_rfl
@[go_sem] theorem Tryz.kind45 : kindT Tryz.prog 45 = some (some 2) := by kernel_rfl
@[go_sem] theorem Tryz.fld45_0 : fldT Tryz.prog 45 0 = some 0 := by kernel_rfl
@[go_sem] theorem Tryz.fl145_0 : fld1T Tryz.prog 45 0 = some 0 := by kernel_rfl
@[go_sem] theorem Tryz.pl45_0 : plT Tryz.prog 45 0 = some 0 := by kernel_rfl
@[go_sem] theorem Tryz.fld45_1 : fldT Tryz.prog 45 1 = some 1 := by kernel_rfl
@[go_sem] theorem Tryz.fl145_1 : fld1T Tryz.prog 45 1 = some 1 := by kernel_rfl
@[go_sem] theorem Tryz.pl45_1 : plT Tryz.prog 45 1 = some 1 := by kernel_rfl
@[go_sem] theorem Tryz.plk45 : plOk Tryz.prog 45 = true := by kernel_rfl
@[go_sem] theorem Tryz.info45 : infoT Tryz.prog 45 = some (2, 48, [.val (.slice none 0 0), .val (.slice none 0 0)]) := by kernel_rfl
@[go_sem] theorem Tryz.cof45 : Tryz.prog.cellsOf 45 = 2 := by kernel_rfl
@[go_sem] theorem Tryz.kind47 : kindT Tryz.prog 47 = some none := by kernel_rfl
@[go_sem] theorem Tryz.cof47 : Tryz.prog.cellsOf 47 = 1 := by kernel_rfl
@[go_sem] theorem Tryz.kind49 : kindT Tryz.prog 49 = some none := by kernel_rfl
@[go_sem] theorem Tryz.cof49 : Tryz.prog.cellsOf 49 = 1 := by kernel_rfl
@[go_sem] theorem Tryz.kind50 : kindT Tryz.prog 50 = some none := by kernel_rfl
@[go_sem] theorem Tryz.cof50 : Tryz.prog.cellsOf 50 = 1 := by kernel_rfl
@[go_sem] theorem Tryz.kind51 : kindT Tryz.prog 51 = some none := by kernel_rfl
@[go_sem] theorem Tryz.elem51 : elemT Tryz.prog 51 = none := by kernel_rfl
@[go_sem] theorem Tryz.cof51 : Tryz.prog.cellsOf 51 = 1 := by kernel_rfl
@[go_sem] theorem Tryz.kind52 : kindT Tryz.prog 52 = some none := by kernel_rfl
@[go_sem] theorem Tryz.cof52 : Tryz.prog.cellsOf 52 = 1 := by kernel_rfl
@[go_sem] theorem Tryz.kind53 : kindT Tryz.prog 53 = some none := by kernel_rfl
@[go_sem] theorem Tryz.info53 : infoT Tryz.prog 53 = some (1, 8, [.val (.int .u64 0)]) := by kernel_rfl
@[go_sem] theorem Tryz.cof53 : Tryz.prog.cellsOf 53 = 1 := by kernel_rfl
@[go_sem] theorem Tryz.und53 : Tryz.prog.underlying 53 = some (.int .u64) := by kernel_rfl
@[go_sem] theorem Tryz.kind54 : kindT Tryz.prog 54 = some none := by kernel_rfl
@[go_sem] theorem Tryz.cof54 : Tryz.prog.cellsOf 54 = 1 := by kernel_rfl
@[go_sem] theorem Tryz.kind56 : kindT Tryz.prog 56 = some none := by kernel_rfl
@[go_sem] theorem Tryz.cof56 : Tryz.prog.cellsOf 56 = 1 := by kernel_rfl
@[go_sem] theorem Tryz.kind57 : kindT Tryz.prog 57 = some none := by kernel_rfl
@[go_sem] theorem Tryz.cof57 : Tryz.prog.cellsOf 57 = 1 := by kernel_rfl
@[go_sem] theorem Tryz.kind58 : kindT Tryz.prog 58 = some none := by kernel_rfl
@[go_sem] theorem Tryz.cof58 : Tryz.prog.cellsOf 58 = 1 := by kernel_rfl
@[go_sem] theorem Tryz.kind59 : kindT Tryz.prog 59 = some none := by kernel_rfl
@[go_sem] theorem Tryz.cof59 : Tryz.prog.cellsOf 59 = 1 := by kernel_rfl
@[go_sem] theorem Tryz.kind60 : kindT Tryz.prog 60 = some none := by kernel_rfl
@[go_sem] theorem Tryz.cof60 : Tryz.prog.cellsOf 60 = 1 := by kernel_rfl
@[go_sem] theorem Tryz.kind62 : kindT Tryz.prog 62 = some none := by kernel_rfl
@[go_sem] theorem Tryz.cof62 : Tryz.prog.cellsOf 62 = 1 := by kernel_rfl
@[go_sem] theorem Tryz.kind64 : kindT Tryz.prog 64 = some none := by kernel_rfl
@[go_sem] theorem Tryz.cof64 : Tryz.prog.cellsOf 64 = 1 := by kernel_rfl
@[go_sem] theorem Tryz.kind65 : kindT Tryz.prog 65 = some none := by kernel_rfl
@[go_sem] theorem Tryz.cof65 : Tryz.prog.cellsOf 65 = 1 := by kernel_rfl
@[go_sem] theorem Tryz.kind66 : kindT Tryz.prog 66 = some none := by kernel_rfl
@[go_sem] theorem Tryz.cof66 : Tryz.prog.cellsOf 66 = 1 := by kernel_rfl
@[go_sem] theorem Tryz.kind67 : kindT Tryz.prog 67 = some none := by kernel_rfl
@[go_sem] theorem Tryz.cof67 : Tryz.prog.cellsOf 67 = 1 := by kernel_rfl
@[go_sem] theorem Tryz.kind68 : kindT Tryz.prog 68 = some none := by kernel_rfl
@[go_sem] theorem Tryz.cof68 : Tryz.prog.cellsOf 68 = 1 := by kernel_rfl
@[go_sem] theorem Tryz.kind69 : kindT Tryz.prog 69 = some none := by kernel_rfl
@[go_sem] theorem Tryz.cof69 : Tryz.prog.cellsOf 69 = 1 := by kernel_rfl
@[go_sem] theorem Tryz.kind70 : kindT Tryz.prog 70 = some none := by kernel_rfl
@[go_sem] theorem Tryz.cof70 : Tryz.prog.cellsOf 70 = 1 := by kernel_rfl
@[go_sem] theorem Tryz.kind71 : kindT Tryz.prog 71 = some none := by kernel_rfl
@[go_sem] theorem Tryz.cof71 : Tryz.prog.cellsOf 71 = 1 := by kernel_rfl
@[go_sem] theorem Tryz.kind72 : kindT Tryz.prog 72 = some none := by kernel_rfl
@[go_sem] theorem Tryz.cof72 : Tryz.prog.cellsOf 72 = 1 := by kernel_rfl
@[go_sem] theorem Tryz.kind73 : kindT Tryz.prog 73 = some none := by kernel_rfl
@[go_sem] theorem Tryz.cof73 : Tryz.prog.cellsOf 73 = 1 := by kernel_rfl
@[go_sem] theorem Tryz.kind74 : kindT Tryz.prog 74 = some none := by kernel_rfl
@[go_sem] theorem Tryz.elem74 : elemT Tryz.prog 74 = some 95 := by kernel_rfl
@[go_sem] theorem Tryz.info74 : infoT Tryz.prog 74 = some (1, 24, [.val (.slice none 0 0)]) := by kernel_rfl
@[go_sem] theorem Tryz.cof74 : Tryz.prog.cellsOf 74 = 1 := by kernel_rfl
theorem Tryz.und74 : Tryz.prog.underlying 74 = some (.slice 95) := by kernel_rfl
@[go_sem] theorem Tryz.kind75 : kindT Tryz.prog 75 = some none := by kernel_rfl
@[go_sem] theorem Tryz.cof75 : Tryz.prog.cellsOf 75 = 1 := by kernel_rfl
@[go_sem] theorem Tryz.kind76 : kindT Tryz.prog 76 = some none := by kernel_rfl
@[go_sem] theorem Tryz.cof76 : Tryz.prog.cellsOf 76 = 1 := by kernel_rfl
@[go_sem] theorem Tryz.kind77 : kindT Tryz.prog 77 = some none := by kernel_rfl
@[go_sem] theorem Tryz.cof77 : Tryz.prog.cellsOf 77 = 1 := by kernel_rfl
@[go_sem] theorem Tryz.kind78 : kindT Tryz.prog 78 = some none := by kernel_rfl
@[go_sem] theorem Tryz.cof78 : Tryz.prog.cellsOf 78 = 1 := by kernel_rfl
@[go_sem] theorem Tryz.kind79 : kindT Tryz.prog 79 = some none := by kernel_rfl
@[go_sem] theorem Tryz.cof79 : Tryz.prog.cellsOf 79 = 1 := by kernel_rfl
@[go_sem] theorem Tryz.kind80 : kindT Tryz.prog 80 = some none := by kernel_rfl
@[go_sem] theorem Tryz.cof80 : Tryz.prog.cellsOf 80 = 1 := by kernel_rfl
@[go_sem] theorem Tryz.kind81 : kindT Tryz.prog 81 = some none := by kernel_rfl
@[go_sem] theorem Tryz.cof81 : Tryz.prog.cellsOf 81 = 1 := by kernel_rfl
@[go_sem] theorem Tryz.kind82 : kindT Tryz.prog 82 = some none := by kernel_rfl
@[go_sem] theorem Tryz.elem82 : elemT Tryz.prog 82 = none := by kernel_rfl
@[go_sem] theorem Tryz.cof82 : Tryz.prog.cellsOf 82 = 1 := by kernel_rfl
@[go_sem] theorem Tryz.kind84 : kindT Tryz.prog 84 = some none := by kernel_rfl
@[go_sem] theorem Tryz.cof84 : Tryz.prog.cellsOf 84 = 1 := by kernel_rfl
@[go_sem] theorem Tryz.kind85 : kindT Tryz.prog 85 = some none := by kernel_rfl
@[go_sem] theorem Tryz.cof85 : Tryz.prog.cellsOf 85 = 1 := by kernel_rfl
@[go_sem] theorem Tryz.kind86 : kindT Tryz.prog 86 = some none := by kernel_rfl
@[go_sem] theorem Tryz.cof86 : Tryz.prog.cellsOf 86 = 1 := by kernel_rfl
@[go_sem] theorem Tryz.kind87 : kindT Tryz.prog 87 = some none := by kernel_rfl
@[go_sem] theorem Tryz.cof87 : Tryz.prog.cellsOf 87 = 1 := by kernel_rfl
@[go_sem] theorem Tryz.kind88 : kindT Tryz.prog 88 = some none := by kernel_rfl
@[go_sem] theorem Tryz.cof88 : Tryz.prog.cellsOf 88 = 1 := by kernel_rfl
@[go_sem] theorem Tryz.kind89 : kindT Tryz.prog 89 = some none := by kernel_rfl
@[go_sem] theorem Tryz.cof89 : Tryz.prog.cellsOf 89 = 1 := by kernel_rfl
@[go_sem] theorem Tryz.kind90 : kindT Tryz.prog 90 = some (some 3) := by kernel_rfl
@[go_sem] theorem Tryz.fld90_0 : fldT Tryz.prog 90 0 = some 0 := by kernel_rfl
@[go_sem] theorem Tryz.fl190_0 : fld1T Tryz.prog 90 0 = some 0 := by kernel_rfl
@[go_sem] theorem Tryz.pl90_0 : plT Tryz.prog 90 0 = some 0 := by kernel_rfl
@[go_sem] theorem Tryz.fld90_1 : fldT Tryz.prog 90 1 = some 1 := by kernel_rfl
@[go_sem] theorem Tryz.fl190_1 : fld1T Tryz.prog 90 1 = some 1 := by kernel_rfl
@[go_sem] theorem Tryz.pl90_1 : plT Tryz.prog 90 1 = some 1 := by kernel_rfl
@[go_sem] theorem Tryz.fld90_2 : fldT Tryz.prog 90 2 = some 2 := by kernel_rfl
@[go_sem] theorem Tryz.fl190_2 : fld1T Tryz.prog 90 2 = some 2 := by kernel_rfl
@[go_sem] theorem Tryz.pl90_2 : plT Tryz.prog 90 2 = some 2 := by kernel_rfl
@[go_sem] theorem Tryz.plk90 : plOk Tryz.prog 90 = true := by kernel_rfl
@[go_sem] theorem Tryz.info90 : infoT Tryz.prog 90 = some (3, 40, [.val (.slice none 0 0), .val (.int .i64 0), .val (.int .u64 0)]) := by kernel_rfl
@[go_sem] theorem Tryz.cof90 : Tryz.prog.cellsOf 90 = 3 := by kernel_rfl
@[go_sem] theorem Tryz.kind91 : kindT Tryz.prog 91 = some (some 3) := by kernel_rfl
@[go_sem] theorem Tryz.fld91_0 : fldT Tryz.prog 91 0 = some 0 := by kernel_rfl
@[go_sem] theorem Tryz.fl191_0 : fld1T Tryz.prog 91 0 = some 0 := by kernel_rfl
@[go_sem] theorem Tryz.pl91_0 : plT Tryz.prog 91 0 = some 0 := by kernel_rfl
@[go_sem] theorem Tryz.fld91_1 : fldT Tryz.prog 91 1 = some 1 := by kernel_rfl
@[go_sem] theorem Tryz.fl191_1 : fld1T Tryz.prog 91 1 = some 1 := by kernel_rfl
@[go_sem] theorem Tryz.pl91_1 : plT Tryz.prog 91 1 = some 1 := by kernel_rfl
@[go_sem] theorem Tryz.fld91_2 : fldT Tryz.prog 91 2 = some 2 := by kernel_rfl
@[go_sem] theorem Tryz.fl191_2 : fld1T Tryz.prog 91 2 = some 2 := by kernel_rfl
@[go_sem] theorem Tryz.pl91_2 : plT Tryz.prog 91 2 = some 2 := by kernel_rfl
@[go_sem] theorem Tryz.plk91 : plOk Tryz.prog 91 = true := by kernel_rfl
@[go_sem] theorem Tryz.info91 : infoT Tryz.prog 91 = some (3, 40, [.val (.slice none 0 0), .val (.int .i64 0), .val (.int .u64 0)]) := by kernel_rfl
@[go_sem] theorem Tryz.cof91 : Tryz.prog.cellsOf 91 = 3 := by kernel_rfl
@[go_sem] theorem Tryz.kind92 : kindT Tryz.prog 92 = some none := by kernel_rfl
@[go_sem] theorem Tryz.cof92 : Tryz.prog.cellsOf 92 = 1 := by kernel_rfl
@[go_sem] theorem Tryz.kind93 : kindT Tryz.prog 93 = some none := by kernel_rfl
@[go_sem] theorem Tryz.cof93 : Tryz.prog.cellsOf 93 = 1 := by kernel_rfl
@[go_sem] theorem Tryz.kind94 : kindT Tryz.prog 94 = some none := by kernel_rfl
@[go_sem] theorem Tryz.elem94 : elemT Tryz.prog 94 = none := by kernel_rfl
@[go_sem] theorem Tryz.map94 : mapT Tryz.prog 94 = true := by kernel_rfl
@[go_sem] theorem Tryz.ismap94 : isMapT Tryz.prog 94 = true := by kernel_rfl
@[go_sem] theorem Tryz.info94 : infoT Tryz.prog 94 = some (1, 8, [.val (.map none)]) := by kernel_rfl
@[go_sem] theorem Tryz.cof94 : Tryz.prog.cellsOf 94 = 1 := by kernel_rfl
@[go_sem] theorem Tryz.kind95 : kindT Tryz.prog 95 = some none := by kernel_rfl
@[go_sem] theorem Tryz.elem95 : elemT Tryz.prog 95 = none := by kernel_rfl
@[go_sem] theorem Tryz.map95 : mapT Tryz.prog 95 = true := by kernel_rfl
@[go_sem] theorem Tryz.ismap95 : isMapT Tryz.prog 95 = true := by kernel_rfl
@[go_sem] theorem Tryz.info95 : infoT Tryz.prog 95 = some (1, 8, [.val (.map none)]) := by kernel_rfl
@[go_sem] theorem Tryz.cof95 : Tryz.prog.cellsOf 95 = 1 := by kernel_rfl
@[go_sem] theorem Tryz.kind96 : kindT Tryz.prog 96 = some none := by kernel_rfl
@[go_sem] theorem Tryz.cof96 : Tryz.prog.cellsOf 96 = 1 := by kernel_rfl
@[go_sem] theorem Tryz.kind97 : kindT Tryz.prog 97 = some none := by kernel_rfl
@[go_sem] theorem Tryz.cof97 : Tryz.prog.cellsOf 97 = 1 := by kernel_rfl
@[go_sem] theorem Tryz.kind98 : kindT Tryz.prog 98 = some none := by kernel_rfl
@[go_sem] theorem Tryz.cof98 : Tryz.prog.cellsOf 98 = 1 := by kernel_rfl
@[go_sem] theorem Tryz.kind99 : kindT Tryz.prog 99 = some none := by kernel_rfl
@[go_sem] theorem Tryz.cof99 : Tryz.prog.cellsOf 99 = 1 := by kernel_rfl
@[go_sem] theorem Tryz.kind100 : kindT Tryz.prog 100 = some none := by kernel_rfl
@[go_sem] theorem Tryz.cof100 : Tryz.prog.cellsOf 100 = 1 := by kernel_rfl
@[go_sem] theorem Tryz.kind102 : kindT Tryz.prog 102 = some none := by kernel_rfl
@[go_sem] theorem Tryz.cof102 : Tryz.prog.cellsOf 102 = 1 := by kernel_rfl
@[go_sem] theorem Tryz.kind104 : kindT Tryz.prog 104 = some none := by kernel_rfl
@[go_sem] theorem Tryz.cof104 : Tryz.prog.cellsOf 104 = 1 := by kernel_rfl
@[go_sem] theorem Tryz.kind105 : kindT Tryz.prog 105 = some none := by kernel_rfl
@[go_sem] theorem Tryz.cof105 : Tryz.prog.cellsOf 105 = 1 := by kernel_rfl
@[go_sem] theorem Tryz.kind106 : kindT Tryz.prog 106 = some none := by kernel_rfl
@[go_sem] theorem Tryz.cof106 : Tryz.prog.cellsOf 106 = 1 := by kernel_rfl
@[go_sem] theorem Tryz.kind107 : kindT Tryz.prog 107 = some none := by kernel_rfl
@[go_sem] theorem Tryz.cof107 : Tryz.prog.cellsOf 107 = 1 := by kernel_rfl
@[go_sem] theorem Tryz.kind108 : kindT Tryz.prog 108 = some none := by kernel_rfl
@[go_sem] theorem Tryz.cof108 : Tryz.prog.cellsOf 108 = 1 := by kernel_rfl
@[go_sem] theorem Tryz.kind109 : kindT Tryz.prog 109 = some none := by kernel_rfl
@[go_sem] theorem Tryz.cof109 : Tryz.prog.cellsOf 109 = 1 := by kernel_rfl
@[go_sem] theorem Tryz.kind110 : kindT Tryz.prog 110 = some none := by kernel_rfl
@[go_sem] theorem Tryz.cof110 : Tryz.prog.cellsOf 110 = 1 := by kernel_rfl
@[go_sem] theorem Tryz.kind111 : kindT Tryz.prog 111 = some none := by kernel_rfl
@[go_sem] theorem Tryz.cof111 : Tryz.prog.cellsOf 111 = 1 := by kernel_rfl
@[go_sem] theorem Tryz.kind112 : kindT Tryz.prog 112 = some none := by kernel_rfl
@[go_sem] theorem Tryz.cof112 : Tryz.prog.cellsOf 112 = 1 := by kernel_rfl
@[go_sem] theorem Tryz.kind113 : kindT Tryz.prog 113 = some none := by kernel_rfl
@[go_sem] theorem Tryz.cof113 : Tryz.prog.cellsOf 113 = 1 := by kernel_rfl
@[go_sem] theorem Tryz.kind114 : kindT Tryz.prog 114 = some none := by kernel_rfl
@[go_sem] theorem Tryz.cof114 : Tryz.prog.cellsOf 114 = 1 := by kernel_rfl
@[go_sem] theorem Tryz.kind115 : kindT Tryz.prog 115 = some none := by kernel_rfl
@[go_sem] theorem Tryz.cof115 : Tryz.prog.cellsOf 115 = 1 := by kernel_rfl
@[go_sem] theorem Tryz.kind116 : kindT Tryz.prog 116 = some none := by kernel_rfl
@[go_sem] theorem Tryz.cof116 : Tryz.prog.cellsOf 116 = 1 := by kernel_rfl
@[go_sem] theorem Tryz.kind117 : kindT Tryz.prog 117 = some none := by kernel_rfl
@[go_sem] theorem Tryz.cof117 : Tryz.prog.cellsOf 117 = 1 := by kernel_rfl
@[go_sem] theorem Tryz.kind118 : kindT Tryz.prog 118 = some none := by kernel_rfl
@[go_sem] theorem Tryz.cof118 : Tryz.prog.cellsOf 118 = 1 := by kernel_rfl
@[go_sem] theorem Tryz.kind119 : kindT Tryz.prog 119 = some none := by kernel_rfl
@[go_sem] theorem Tryz.cof119 : Tryz.prog.cellsOf 119 = 1 := by kernel_rfl
@[go_sem] theorem Tryz.kind120 : kindT Tryz.prog 120 = some none := by kernel_rfl
@[go_sem] theorem Tryz.cof120 : Tryz.prog.cellsOf 120 = 1 := by kernel_rfl
@[go_sem] theorem Tryz.kind121 : kindT Tryz.prog 121 = some none := by kernel_rfl
@[go_sem] theorem Tryz.info121 : infoT Tryz.prog 121 = some (1, 8, [.val (.int .u64 0)]) := by kernel_rfl
@[go_sem] theorem Tryz.cof121 : Tryz.prog.cellsOf 121 = 1 := by kernel_rfl
@[go_sem] theorem Tryz.und121 : Tryz.prog.underlying 121 = some (.int .u64) := by kernel_rfl
@[go_sem] theorem Tryz.kind122 : kindT Tryz.prog 122 = some none := by kernel_rfl
@[go_sem] theorem Tryz.cof122 : Tryz.prog.cellsOf 122 = 1 := by kernel_rfl
@[go_sem] theorem Tryz.kind123 : kindT Tryz.prog 123 = some none := by kernel_rfl
@[go_sem] theorem Tryz.elem123 : elemT Tryz.prog 123 = some 169 := by kernel_rfl
@[go_sem] theorem Tryz.info123 : infoT Tryz.prog 123 = some (1, 24, [.val (.slice none 0 0)]) := by kernel_rfl
@[go_sem] theorem Tryz.cof123 : Tryz.prog.cellsOf 123 = 1 := by kernel_rfl
theorem Tryz.und123 : Tryz.prog.underlying 123 = some (.slice 169) := by kernel_rfl
@[go_sem] theorem Tryz.kind124 : kindT Tryz.prog 124 = some none := by kernel_rfl
@[go_sem] theorem Tryz.cof124 : Tryz.prog.cellsOf 124 = 1 := by kernel_rfl
@[go_sem] theorem Tryz.kind125 : kindT Tryz.prog 125 = some none := by kernel_rfl
@[go_sem] theorem Tryz.elem125 : elemT Tryz.prog 125 = some 127 := by kernel_rfl
@[go_sem] theorem Tryz.info125 : infoT Tryz.prog 125 = some (1, 24, [.val (.slice none 0 0)]) := by kernel_rfl
@[go_sem] theorem Tryz.cof125 : Tryz.prog.cellsOf 125 = 1 := by kernel_rfl
theorem Tryz.und125 : Tryz.prog.underlying 125 = some (.slice 127) := by kernel_rfl
@[go_sem] theorem Tryz.kind126 : kindT Tryz.prog 126 = some (some 2) := by kernel_rfl
@[go_sem] theorem Tryz.fld126_0 : fldT Tryz.prog 126 0 = some 0 := by kernel_rfl
@[go_sem] theorem Tryz.fl1126_0 : fld1T Tryz.prog 126 0 = some 0 := by kernel_rfl
@[go_sem] theorem Tryz.pl126_0 : plT Tryz.prog 126 0 = some 0 := by kernel_rfl
@[go_sem] theorem Tryz.fld126_1 : fldT Tryz.prog 126 1 = some 1 := by kernel_rfl
@[go_sem] theorem Tryz.fl1126_1 : fld1T Tryz.prog 126 1 = some 1 := by kernel_rfl
@[go_sem] theorem Tryz.pl126_1 : plT Tryz.prog 126 1 = some 1 := by kernel_rfl
@[go_sem] theorem Tryz.plk126 : plOk Tryz.prog 126 = true := by kernel_rfl
@[go_sem] theorem Tryz.info126 : infoT Tryz.prog 126 = some (2, 32, [.val (.int .i64 0), .val (.slice none 0 0)]) := by kernel_rfl
@[go_sem] theorem Tryz.cof126 : Tryz.prog.cellsOf 126 = 2 := by kernel_rfl
@[go_sem] theorem Tryz.kind127 : kindT Tryz.prog 127 = some (some 2) := by kernel_rfl
@[go_sem] theorem Tryz.fld127_0 : fldT Tryz.prog 127 0 = some 0 := by kernel_rfl
@[go_sem] theorem Tryz.fl1127_0 : fld1T Tryz.prog 127 0 = some 0 := by kernel_rfl
@[go_sem] theorem Tryz.pl127_0 : plT Tryz.prog 127 0 = some 0 := by kernel_rfl
@[go_sem] theorem Tryz.fld127_1 : fldT Tryz.prog 127 1 = some 1 := by kernel_rfl
@[go_sem] theorem Tryz.fl1127_1 : fld1T Tryz.prog 127 1 = some 1 := by kernel_rfl
@[go_sem] theorem Tryz.pl127_1 : plT Tryz.prog 127 1 = some 1 := by kernel_rfl
@[go_sem] theorem Tryz.plk127 : plOk Tryz.prog 127 = true := by kernel_rfl
@[go_sem] theorem Tryz.info127 : infoT Tryz.prog 127 = some (2, 32, [.val (.int .i64 0), .val (.slice none 0 0)]) := by kernel_rfl
@[go_sem] theorem Tryz.cof127 : Tryz.prog.cellsOf 127 = 2 := by kernel_rfl
@[go_sem] theorem Tryz.kind128 : kindT Tryz.prog 128 = some none := by kernel_rfl
@[go_sem] theorem Tryz.cof128 : Tryz.prog.cellsOf 128 = 1 := by kernel_rfl
@[go_sem] theorem Tryz.kind129 : kindT Tryz.prog 129 = some none := by kernel_rfl
@[go_sem] theorem Tryz.cof129 : Tryz.prog.cellsOf 129 = 1 := by kernel_rfl
@[go_sem] theorem Tryz.kind130 : kindT Tryz.prog 130 = some none := by kernel_rfl
@[go_sem] theorem Tryz.cof130 : Tryz.prog.cellsOf 130 = 1 := by kernel_rfl
@[go_sem] theorem Tryz.kind131 : kindT Tryz.prog 131 = some none := by kernel_rfl
@[go_sem] theorem Tryz.cof131 : Tryz.prog.cellsOf 131 = 1 := by kernel_rfl
@[go_sem] theorem Tryz.kind132 : kindT Tryz.prog 132 = some none := by kernel_rfl
@[go_sem] theorem Tryz.cof132 : Tryz.prog.cellsOf 132 = 1 := by kernel_rfl
@[go_sem] theorem Tryz.kind133 : kindT Tryz.prog 133 = some none := by kernel_rfl
@[go_sem] theorem Tryz.cof133 : Tryz.prog.cellsOf 133 = 1 := by kernel_rfl
@[go_sem] theorem Tryz.kind134 : kindT Tryz.prog 134 = some none := by kernel_rfl
@[go_sem] theorem Tryz.cof134 : Tryz.prog.cellsOf 134 = 1 := by kernel_rfl
@[go_sem] theorem Tryz.kind135 : kindT Tryz.prog 135 = some none := by kernel_rfl
@[go_sem] theorem Tryz.cof135 : Tryz.prog.cellsOf 135 = 1 := by kernel_rfl
@[go_sem] theorem Tryz.kind136 : kindT Tryz.prog 136 = some none := by kernel_rfl
@[go_sem] theorem Tryz.cof136 : Tryz.prog.cellsOf 136 = 1 := by kernel_rfl
@[go_sem] theorem Tryz.kind137 : kindT Tryz.prog 137 = some none := by kernel_rfl
@[go_sem] theorem Tryz.cof137 : Tryz.prog.cellsOf 137 = 1 := by kernel_rfl
@[go_sem] theorem Tryz.kind138 : kindT Tryz.prog 138 = some none := by kernel_rfl
@[go_sem] theorem Tryz.cof138 : Tryz.prog.cellsOf 138 = 1 := by kernel_rfl
@[go_sem] theorem Tryz.kind139 : kindT Tryz.prog 139 = some none := by kernel_rfl
@[go_sem] theorem Tryz.cof139 : Tryz.prog.cellsOf 139 = 1 := by kernel_rfl
@[go_sem] theorem Tryz.kind140 : kindT Tryz.prog 140 = some (some 3) := by kernel_rfl
@[go_sem] theorem Tryz.fld140_0 : fldT Tryz.prog 140 0 = some 0 := by kernel_rfl
@[go_sem] theorem Tryz.fl1140_0 : fld1T Tryz.prog 140 0 = some 0 := by kernel_rfl
@[go_sem] theorem Tryz.pl140_0 : plT Tryz.prog 140 0 = some 0 := by kernel_rfl
@[go_sem] theorem Tryz.fld140_1 : fldT Tryz.prog 140 1 = some 1 := by kernel_rfl
@[go_sem] theorem Tryz.fl1140_1 : fld1T Tryz.prog 140 1 = some 1 := by kernel_rfl
@[go_sem] theorem Tryz.pl140_1 : plT Tryz.prog 140 1 = some 1 := by kernel_rfl
@[go_sem] theorem Tryz.fld140_2 : fldT Tryz.prog 140 2 = some 2 := by kernel_rfl
@[go_sem] theorem Tryz.fl1140_2 : fld1T Tryz.prog 140 2 = some 2 := by kernel_rfl
@[go_sem] theorem Tryz.pl140_2 : plT Tryz.prog 140 2 = some 2 := by kernel_rfl
@[go_sem] theorem Tryz.plk140 : plOk Tryz.prog 140 = true := by kernel_rfl
@[go_sem] theorem Tryz.info140 : infoT Tryz.prog 140 = some (3, 40, [.val (.slice none 0 0), .val (.int .i64 0), .val (.int .u64 0)]) := by kernel_rfl
@[go_sem] theorem Tryz.cof140 : Tryz.prog.cellsOf 140 = 3 := by kernel_rfl
@[go_sem] theorem Tryz.kind141 : kindT Tryz.prog 141 = some (some 3) := by kernel_rfl
@[go_sem] theorem Tryz.fld141_0 : fldT Tryz.prog 141 0 = some 0 := by kernel_rfl
@[go_sem] theorem Tryz.fl1141_0 : fld1T Tryz.prog 141 0 = some 0 := by kernel_rfl
@[go_sem] theorem Tryz.pl141_0 : plT Tryz.prog 141 0 = some 0 := by kernel_rfl
@[go_sem] theorem Tryz.fld141_1 : fldT Tryz.prog 141 1 = some 1 := by kernel_rfl
@[go_sem] theorem Tryz.fl1141_1 : fld1T Tryz.prog 141 1 = some 1 := by kernel_rfl
@[go_sem] theorem Tryz.pl141_1 : plT Tryz.prog 141 1 = some 1 := by kernel_rfl
@[go_sem] theorem Tryz.fld141_2 : fldT Tryz.prog 141 2 = some 2 := by kernel_rfl
@[go_sem] theorem Tryz.fl1141_2 : fld1T Tryz.prog 141 2 = some 2 := by kernel_rfl
@[go_sem] theorem Tryz.pl141_2 : plT Tryz.prog 141 2 = some 2 := by kernel_rfl
@[go_sem] theorem Tryz.plk141 : plOk Tryz.prog 141 = true := by kernel_rfl
@[go_sem] theorem Tryz.info141 : infoT Tryz.prog 141 = some (3, 40, [.val (.slice none 0 0), .val (.int .i64 0), .val (.int .u64 0)]) := by kernel_rfl
@[go_sem] theorem Tryz.cof141 : Tryz.prog.cellsOf 141 = 3 := by kernel_rfl
@[go_sem] theorem Tryz.kind142 : kindT Tryz.prog 142 = some none := by kernel_rfl
@[go_sem] theorem Tryz.cof142 : Tryz.prog.cellsOf 142 = 1 := by kernel_rfl
@[go_sem] theorem Tryz.kind143 : kindT Tryz.prog 143 = some none := by kernel_rfl
@[go_sem] theorem Tryz.cof143 : Tryz.prog.cellsOf 143 = 1 := by kernel_rfl
@[go_sem] theorem Tryz.kind144 : kindT Tryz.prog 144 = some none := by kernel_rfl
@[go_sem] theorem Tryz.cof144 : Tryz.prog.cellsOf 144 = 1 := by kernel_rfl
@[go_sem] theorem Tryz.kind145 : kindT Tryz.prog 145 = some none := by kernel_rfl
@[go_sem] theorem Tryz.cof145 : Tryz.prog.cellsOf 145 = 1 := by kernel_rfl
@[go_sem] theorem Tryz.kind146 : kindT Tryz.prog 146 = some none := by kernel_rfl
@[go_sem] theorem Tryz.cof146 : Tryz.prog.cellsOf 146 = 1 := by kernel_rfl
@[go_sem] theorem Tryz.kind147 : kindT Tryz.prog 147 = some (some 3) := by kernel_rfl
@[go_sem] theorem Tryz.elem147 : elemT Tryz.prog 147 = none := by kernel_rfl
@[go_sem] theorem Tryz.arr147 : arrT Tryz.prog 147 = some (3, 1, true) := by kernel_rfl
@[go_sem] theorem Tryz.pl147_0 : plT Tryz.prog 147 0 = some 0 := by kernel_rfl
@[go_sem] theorem Tryz.pl147_1 : plT Tryz.prog 147 1 = some 1 := by kernel_rfl
@[go_sem] theorem Tryz.pl147_2 : plT Tryz.prog 147 2 = some 2 := by kernel_rfl
@[go_sem] theorem Tryz.plk147 : plOk Tryz.prog 147 = true := by kernel_rfl
@[go_sem] theorem Tryz.info147 : infoT Tryz.prog 147 = some (3, 24, [.val (.int .i64 0), .val (.int .i64 0), .val (.int .i64 0)]) := by kernel_rfl
@[go_sem] theorem Tryz.cof147 : Tryz.prog.cellsOf 147 = 3 := by kernel_rfl
@[go_sem] theorem Tryz.kind148 : kindT Tryz.prog 148 = some (some 3) := by kernel_rfl
@[go_sem] theorem Tryz.elem148 : elemT Tryz.prog 148 = none := by kernel_rfl
@[go_sem] theorem Tryz.arr148 : arrT Tryz.prog 148 = some (3, 1, true) := by kernel_rfl
@[go_sem] theorem Tryz.pl148_0 : plT Tryz.prog 148 0 = some 0 := by kernel_rfl
@[go_sem] theorem Tryz.pl148_1 : plT Tryz.prog 148 1 = some 1 := by kernel_rfl
@[go_sem] theorem Tryz.pl148_2 : plT Tryz.prog 148 2 = some 2 := by kernel_rfl
@[go_sem] theorem Tryz.plk148 : plOk Tryz.prog 148 = true := by kernel_rfl
@[go_sem] theorem Tryz.info148 : infoT Tryz.prog 148 = some (3, 24, [.val (.int .i64 0), .val (.int .i64 0), .val (.int .i64 0)]) := by kernel_rfl
@[go_sem] theorem Tryz.cof148 : Tryz.prog.cellsOf 148 = 3 := by kernel_rfl
@[go_sem] theorem Tryz.kind149 : kindT Tryz.prog 149 = some none := by kernel_rfl
@[go_sem] theorem Tryz.cof149 : Tryz.prog.cellsOf 149 = 1 := by kernel_rfl
@[go_sem] theorem Tryz.kind150 : kindT Tryz.prog 150 = some none := by kernel_rfl
@[go_sem] theorem Tryz.cof150 : Tryz.prog.cellsOf 150 = 1 := by kernel_rfl
@[go_sem] theorem Tryz.kind151 : kindT Tryz.prog 151 = some none := by kernel_rfl
@[go_sem] theorem Tryz.cof151 : Tryz.prog.cellsOf 151 = 1 := by kernel_rfl
@[go_sem] theorem Tryz.kind152 : kindT Tryz.prog 152 = some none := by kernel_rfl
@[go_sem] theorem Tryz.cof152 : Tryz.prog.cellsOf 152 = 1 := by kernel_rfl
@[go_sem] theorem Tryz.kind153 : kindT Tryz.prog 153 = some none := by kernel_rfl
@[go_sem] theorem Tryz.cof153 : Tryz.prog.cellsOf 153 = 1 := by kernel_rfl
@[go_sem] theorem Tryz.kind154 : kindT Tryz.prog 154 = some none := by kernel_rfl
@[go_sem] theorem Tryz.cof154 : Tryz.prog.cellsOf 154 = 1 := by kernel_rfl
@[go_sem] theorem Tryz.kind155 : kindT Tryz.prog 155 = some none := by kernel_rfl
@[go_sem] theorem Tryz.cof155 : Tryz.prog.cellsOf 155 = 1 := by kernel_rfl
@[go_sem] theorem Tryz.kind156 : kindT Tryz.prog 156 = some none := by kernel_rfl
@[go_sem] theorem Tryz.cof156 : Tryz.prog.cellsOf 156 = 1 := by kernel_rfl
@[go_sem] theorem Tryz.kind157 : kindT Tryz.prog 157 = some none := by kernel_rfl
@[go_sem] theorem Tryz.cof157 : Tryz.prog.cellsOf 157 = 1 := by kernel_rfl
@[go_sem] theorem Tryz.kind158 : kindT Tryz.prog 158 = some none := by kernel_rfl
@[go_sem] theorem Tryz.cof158 : Tryz.prog.cellsOf 158 = 1 := by kernel_rfl
@[go_sem] theorem Tryz.kind159 : kindT Tryz.prog 159 = some none := by kernel_rfl
@[go_sem] theorem Tryz.cof159 : Tryz.prog.cellsOf 159 = 1 := by kernel_rfl
@[go_sem] theorem Tryz.kind160 : kindT Tryz.prog 160 = some none := by kernel_rfl
@[go_sem] theorem Tryz.cof160 : Tryz.prog.cellsOf 160 = 1 := by kernel_rfl
@[go_sem] theorem Tryz.kind161 : kindT Tryz.prog 161 = some none := by kernel_rfl
@[go_sem] theorem Tryz.cof161 : Tryz.prog.cellsOf 161 = 1 := by kernel_rfl
@[go_sem] theorem Tryz.kind162 : kindT Tryz.prog 162 = some none := by kernel_rfl
@[go_sem] theorem Tryz.elem162 : elemT Tryz.prog 162 = some 27 := by kernel_rfl
@[go_sem] theorem Tryz.info162 : infoT Tryz.prog 162 = some (1, 24, [.val (.slice none 0 0)]) := by kernel_rfl
@[go_sem] theorem Tryz.cof162 : Tryz.prog.cellsOf 162 = 1 := by kernel_rfl
theorem Tryz.und162 : Tryz.prog.underlying 162 = some (.slice 27) := by kernel_rfl
@[go_sem] theorem Tryz.kind163 : kindT Tryz.prog 163 = some none := by kernel_rfl
@[go_sem] theorem Tryz.cof163 : Tryz.prog.cellsOf 163 = 1 := by kernel_rfl
@[go_sem] theorem Tryz.kind164 : kindT Tryz.prog 164 = some none := by kernel_rfl
@[go_sem] theorem Tryz.cof164 : Tryz.prog.cellsOf 164 = 1 := by kernel_rfl
@[go_sem] theorem Tryz.kind165 : kindT Tryz.prog 165 = some none := by kernel_rfl
@[go_sem] theorem Tryz.cof165 : Tryz.prog.cellsOf 165 = 1 := by kernel_rfl
@[go_sem] theorem Tryz.kind166 : kindT Tryz.prog 166 = some none := by kernel_rfl
@[go_sem] theorem Tryz.cof166 : Tryz.prog.cellsOf 166 = 1 := by kernel_rfl
@[go_sem] theorem Tryz.kind167 : kindT Tryz.prog 167 = some none := by kernel_rfl
@[go_sem] theorem Tryz.cof167 : Tryz.prog.cellsOf 167 = 1 := by kernel_rfl
@[go_sem] theorem Tryz.kind168 : kindT Tryz.prog 168 = some none := by kernel_rfl
@[go_sem] theorem Tryz.cof168 : Tryz.prog.cellsOf 168 = 1 := by kernel_rfl
@[go_sem] theorem Tryz.kind169 : kindT Tryz.prog 169 = some (some 2) := by kernel_rfl
@[go_sem] theorem Tryz.fld169_0 : fldT Tryz.prog 169 0 = some 0 := by kernel_rfl
@[go_sem] theorem Tryz.fl1169_0 : fld1T Tryz.prog 169 0 = some 0 := by kernel_rfl
@[go_sem] theorem Tryz.pl169_0 : plT Tryz.prog 169 0 = some 0 := by kernel_rfl
@[go_sem] theorem Tryz.fld169_1 : fldT Tryz.prog 169 1 = some 1 := by kernel_rfl
@[go_sem] theorem Tryz.fl1169_1 : fld1T Tryz.prog 169 1 = some 1 := by kernel_rfl
@[go_sem] theorem Tryz.pl169_1 : plT Tryz.prog 169 1 = some 1 := by kernel_rfl
@[go_sem] theorem Tryz.plk169 : plOk Tryz.prog 169 = true := by kernel_rfl
@[go_sem] theorem Tryz.info169 : infoT Tryz.prog 169 = some (2, 32, [.val (.int .i64 0), .val (.slice none 0 0)]) := by kernel_rfl
@[go_sem] theorem Tryz.cof169 : Tryz.prog.cellsOf 169 = 2 := by kernel_rfl
@[go_sem] theorem Tryz.kind170 : kindT Tryz.prog 170 = some none := by kernel_rfl
@[go_sem] theorem Tryz.cof170 : Tryz.prog.cellsOf 170 = 1 := by kernel_rfl
@[go_sem] theorem Tryz.kind171 : kindT Tryz.prog 171 = some none := by kernel_rfl
@[go_sem] theorem Tryz.cof171 : Tryz.prog.cellsOf 171 = 1 := by kernel_rfl
@[go_sem] theorem Tryz.kind172 : kindT Tryz.prog 172 = some none := by kernel_rfl
@[go_sem] theorem Tryz.cof172 : Tryz.prog.cellsOf 172 = 1 := by kernel_rfl
@[go_sem] theorem Tryz.kind173 : kindT Tryz.prog 173 = some none := by kernel_rfl
@[go_sem] theorem Tryz.cof173 : Tryz.prog.cellsOf 173 = 1 := by kernel_rfl
@[go_sem] theorem Tryz.kind174 : kindT Tryz.prog 174 = some none := by kernel_rfl
@[go_sem] theorem Tryz.cof174 : Tryz.prog.cellsOf 174 = 1 := by kernel_rfl
@[go_sem] theorem Tryz.kind175 : kindT Tryz.prog 175 = some none := by kernel_rfl
@[go_sem] theorem Tryz.cof175 : Tryz.prog.cellsOf 175 = 1 := by kernel_rfl
@[go_sem] theorem Tryz.kind176 : kindT Tryz.prog 176 = some none := by kernel_rfl
@[go_sem] theorem Tryz.cof176 : Tryz.prog.cellsOf 176 = 1 := by kernel_rfl
@[go_sem] theorem Tryz.kind177 : kindT Tryz.prog 177 = some none := by kernel_rfl
@[go_sem] theorem Tryz.cof177 : Tryz.prog.cellsOf 177 = 1 := by kernel_rfl
@[go_sem] theorem Tryz.kind178 : kindT Tryz.prog 178 = some none := by kernel_rfl
@[go_sem] theorem Tryz.cof178 : Tryz.prog.cellsOf 178 = 1 := by kernel_rfl
@[go_sem] theorem Tryz.kind179 : kindT Tryz.prog 179 = some none := by kernel_rfl
@[go_sem] theorem Tryz.cof179 : Tryz.prog.cellsOf 179 = 1 := by kernel_rfl
@[go_sem] theorem Tryz.kind180 : kindT Tryz.prog 180 = some none := by kernel_rfl
@[go_sem] theorem Tryz.cof180 : Tryz.prog.cellsOf 180 = 1 := by kernel_rfl
@[go_sem] theorem Tryz.kind181 : kindT Tryz.prog 181 = some none := by kernel_rfl
@[go_sem] theorem Tryz.cof181 : Tryz.prog.cellsOf 181 = 1 := by kernel_rfl
@[go_sem] theorem Tryz.kind182 : kindT Tryz.prog 182 = some none := by kernel_rfl
@[go_sem] theorem Tryz.cof182 : Tryz.prog.cellsOf 182 = 1 := by kernel_rfl
@[go_sem] theorem Tryz.kind183 : kindT Tryz.prog 183 = some none := by kernel_rfl
@[go_sem] theorem Tryz.cof183 : Tryz.prog.cellsOf 183 = 1 := by kernel_rfl
@[go_sem] theorem Tryz.kind184 : kindT Tryz.prog 184 = some none := by kernel_rfl
@[go_sem] theorem Tryz.elem184 : elemT Tryz.prog 184 = some 9 := by kernel_rfl
@[go_sem] theorem Tryz.info184 : infoT Tryz.prog 184 = some (1, 24, [.val (.slice none 0 0)]) := by kernel_rfl
@[go_sem] theorem Tryz.cof184 : Tryz.prog.cellsOf 184 = 1 := by kernel_rfl
theorem Tryz.und184 : Tryz.prog.underlying 184 = some (.slice 9) := by kernel_rfl
@[go_sem] theorem Tryz.kind185 : kindT Tryz.prog 185 = some none := by kernel_rfl
@[go_sem] theorem Tryz.cof185 : Tryz.prog.cellsOf 185 = 1 := by kernel_rfl
@[go_sem] theorem Tryz.kind186 : kindT Tryz.prog 186 = some none := by kernel_rfl
@[go_sem] theorem Tryz.cof186 : Tryz.prog.cellsOf 186 = 1 := by kernel_rfl
@[go_sem] theorem Tryz.kind188 : kindT Tryz.prog 188 = some none := by kernel_rfl
@[go_sem] theorem Tryz.cof188 : Tryz.prog.cellsOf 188 = 1 := by kernel_rfl
@[go_sem] theorem Tryz.kind189 : kindT Tryz.prog 189 = some none := by kernel_rfl
@[go_sem] theorem Tryz.elem189 : elemT Tryz.prog 189 = some 4 := by kernel_rfl
@[go_sem] theorem Tryz.info189 : infoT Tryz.prog 189 = some (1, 24, [.val (.slice none 0 0)]) := by kernel_rfl
@[go_sem] theorem Tryz.cof189 : Tryz.prog.cellsOf 189 = 1 := by kernel_rfl
theorem Tryz.und189 : Tryz.prog.underlying 189 = some (.slice 4) := by kernel_rfl
@[go_sem] theorem Tryz.kind190 : kindT Tryz.prog 190 = some none := by kernel_rfl
@[go_sem] theorem Tryz.cof190 : Tryz.prog.cellsOf 190 = 1 := by kernel_rfl
@[go_sem] theorem Tryz.kind191 : kindT Tryz.prog 191 = some none := by kernel_rfl
@[go_sem] theorem Tryz.cof191 : Tryz.prog.cellsOf 191 = 1 := by kernel_rfl
@[go_sem] theorem Tryz.kind192 : kindT Tryz.prog 192 = some none := by kernel_rfl
@[go_sem] theorem Tryz.cof192 : Tryz.prog.cellsOf 192 = 1 := by kernel_rfl
@[go_sem] theorem Tryz.kind193 : kindT Tryz.prog 193 = some none := by kernel_rfl
@[go_sem] theorem Tryz.cof193 : Tryz.prog.cellsOf 193 = 1 := by kernel_rfl
@[go_sem] theorem Tryz.kind194 : kindT Tryz.prog 194 = some none := by kernel_rfl
@[go_sem] theorem Tryz.cof194 : Tryz.prog.cellsOf 194 = 1 := by kernel_rfl
@[go_sem] theorem Tryz.kind195 : kindT Tryz.prog 195 = some none := by kernel_rfl
@[go_sem] theorem Tryz.cof195 : Tryz.prog.cellsOf 195 = 1 := by kernel_rfl
@[go_sem] theorem Tryz.kind196 : kindT Tryz.prog 196 = some none := by kernel_rfl
@[go_sem] theorem Tryz.cof196 : Tryz.prog.cellsOf 196 = 1 := by kernel_rfl
@[go_sem] theorem Tryz.kind197 : kindT Tryz.prog 197 = some none := by kernel_rfl
@[go_sem] theorem Tryz.cof197 : Tryz.prog.cellsOf 197 = 1 := by kernel_rfl
@[go_sem] theorem Tryz.kind198 : kindT Tryz.prog 198 = some none := by kernel_rfl
@[go_sem] theorem Tryz.cof198 : Tryz.prog.cellsOf 198 = 1 := by kernel_rfl
@[go_sem] theorem Tryz.kind199 : kindT Tryz.prog 199 = some none := by kernel_rfl
@[go_sem] theorem Tryz.cof199 : Tryz.prog.cellsOf 199 = 1 := by kernel_rfl
@[go_sem] theorem Tryz.kind200 : kindT Tryz.prog 200 = some none := by kernel_rfl
@[go_sem] theorem Tryz.cof200 : Tryz.prog.cellsOf 200 = 1 := by kernel_rfl
@[go_sem] theorem Tryz.kind201 : kindT Tryz.prog 201 = some none := by kernel_rfl
@[go_sem] theorem Tryz.cof201 : Tryz.prog.cellsOf 201 = 1 := by kernel_rfl
@[go_sem] theorem Tryz.kind202 : kindT Tryz.prog 202 = some none := by kernel_rfl
@[go_sem] theorem Tryz.cof202 : Tryz.prog.cellsOf 202 = 1 := by kernel_rfl
@[go_sem] theorem Tryz.kind203 : kindT Tryz.prog 203 = some none := by kernel_rfl
@[go_sem] theorem Tryz.cof203 : Tryz.prog.cellsOf 203 = 1 := by kernel_rfl
@[go_sem] theorem Tryz.kind204 : kindT Tryz.prog 204 = some none := by kernel_rfl
@[go_sem] theorem Tryz.cof204 : Tryz.prog.cellsOf 204 = 1 := by kernel_rfl
@[go_sem] theorem Tryz.kind205 : kindT Tryz.prog 205 = some none := by kernel_rfl
@[go_sem] theorem Tryz.cof205 : Tryz.prog.cellsOf 205 = 1 := by kernel_rfl
@[go_sem] theorem Tryz.kind206 : kindT Tryz.prog 206 = some none := by kernel_rfl
@[go_sem] theorem Tryz.cof206 : Tryz.prog.cellsOf 206 = 1 := by kernel_rfl
@[go_sem] theorem Tryz.kind207 : kindT Tryz.prog 207 = some none := by kernel_rfl
@[go_sem] theorem Tryz.cof207 : Tryz.prog.cellsOf 207 = 1 := by kernel_rfl
@[go_sem] theorem Tryz.kind208 : kindT Tryz.prog 208 = some none := by kernel_rfl
@[go_sem] theorem Tryz.cof208 : Tryz.prog.cellsOf 208 = 1 := by kernel_rfl
@[go_sem] theorem Tryz.kind209 : kindT Tryz.prog 209 = some none := by kernel_rfl
@[go_sem] theorem Tryz.cof209 : Tryz.prog.cellsOf 209 = 1 := by kernel_rfl
@[go_sem] theorem Tryz.kind210 : kindT Tryz.prog 210 = some none := by kernel_rfl
@[go_sem] theorem Tryz.cof210 : Tryz.prog.cellsOf 210 = 1 := by kernel_rfl
@[go_sem] theorem Tryz.kind211 : kindT Tryz.prog 211 = some none := by kernel_rfl
@[go_sem] theorem Tryz.cof211 : Tryz.prog.cellsOf 211 = 1 := by kernel_rfl
@[go_sem] theorem Tryz.kind212 : kindT Tryz.prog 212 = some none := by kernel_rfl
@[go_sem] theorem Tryz.cof212 : Tryz.prog.cellsOf 212 = 1 := by kernel_rfl
@[go_sem] theorem Tryz.kind213 : kindT Tryz.prog 213 = some none := by kernel_rfl
@[go_sem] theorem Tryz.cof213 : Tryz.prog.cellsOf 213 = 1 := by kernel_rfl
@[go_sem] theorem Tryz.kind214 : kindT Tryz.prog 214 = some none := by kernel_rfl
@[go_sem] theorem Tryz.info214 : infoT Tryz.prog 214 = some (1, 8, [.val (.int .i64 0)]) := by kernel_rfl
@[go_sem] theorem Tryz.cof214 : Tryz.prog.cellsOf 214 = 1 := by kernel_rfl
@[go_sem] theorem Tryz.und214 : Tryz.prog.underlying 214 = some (.int .i64) := by kernel_rfl
@[go_sem] theorem Tryz.kind216 : kindT Tryz.prog 216 = some none := by kernel_rfl
@[go_sem] theorem Tryz.cof216 : Tryz.prog.cellsOf 216 = 1 := by kernel_rfl
@[go_sem] theorem Tryz.kind217 : kindT Tryz.prog 217 = some none := by kernel_rfl
@[go_sem] theorem Tryz.cof217 : Tryz.prog.cellsOf 217 = 1 := by kernel_rfl
@[go_sem] theorem Tryz.kind218 : kindT Tryz.prog 218 = some none := by kernel_rfl
@[go_sem] theorem Tryz.cof218 : Tryz.prog.cellsOf 218 = 1 := by kernel_rfl
@[go_sem] theorem Tryz.kind220 : kindT Tryz.prog 220 = some none := by kernel_rfl
@[go_sem] theorem Tryz.cof220 : Tryz.prog.cellsOf 220 = 1 := by kernel_rfl
@[go_sem] theorem Tryz.kind221 : kindT Tryz.prog 221 = some none := by kernel_rfl
@[go_sem] theorem Tryz.cof221 : Tryz.prog.cellsOf 221 = 1 := by kernel_rfl
@[go_sem] theorem Tryz.kind222 : kindT Tryz.prog 222 = some none := by kernel_rfl
@[go_sem] theorem Tryz.info222 : infoT Tryz.prog 222 = some (1, 4, [.val (.int .u32 0)]) := by kernel_rfl
@[go_sem] theorem Tryz.cof222 : Tryz.prog.cellsOf 222 = 1 := by kernel_rfl
@[go_sem] theorem Tryz.und222 : Tryz.prog.underlying 222 = some (.int .u32) := by kernel_rfl
@[go_sem] theorem Tryz.kind223 : kindT Tryz.prog 223 = some none := by kernel_rfl
@[go_sem] theorem Tryz.cof223 : Tryz.prog.cellsOf 223 = 1 := by kernel_rfl
@[go_sem] theorem Tryz.kind224 : kindT Tryz.prog 224 = some none := by kernel_rfl
@[go_sem] theorem Tryz.cof224 : Tryz.prog.cellsOf 224 = 1 := by kernel_rfl
@[go_sem] theorem Tryz.kind225 : kindT Tryz.prog 225 = some none := by kernel_rfl
@[go_sem] theorem Tryz.cof225 : Tryz.prog.cellsOf 225 = 1 := by kernel_rfl
@[go_sem] theorem Tryz.kind226 : kindT Tryz.prog 226 = some none := by kernel_rfl
@[go_sem] theorem Tryz.cof226 : Tryz.prog.cellsOf 226 = 1 := by kernel_rfl
@[go_sem] theorem Tryz.kind227 : kindT Tryz.prog 227 = some none := by kernel_rfl
@[go_sem] theorem Tryz.cof227 : Tryz.prog.cellsOf 227 = 1 := by kernel_rfl
@[go_sem] theorem Tryz.kind228 : kindT Tryz.prog 228 = some none := by kernel_rfl
@[go_sem] theorem Tryz.cof228 : Tryz.prog.cellsOf 228 = 1 := by kernel_rfl
@[go_sem] theorem Tryz.kind229 : kindT Tryz.prog 229 = some none := by kernel_rfl
@[go_sem] theorem Tryz.cof229 : Tryz.prog.cellsOf 229 = 1 := by kernel_rfl
@[go_sem] theorem Tryz.kind230 : kindT Tryz.prog 230 = some none := by kernel_rfl
@[go_sem] theorem Tryz.cof230 : Tryz.prog.cellsOf 230 = 1 := by kernel_rfl
@[go_sem] theorem Tryz.kind231 : kindT Tryz.prog 231 = some none := by kernel_rfl
@[go_sem] theorem Tryz.cof231 : Tryz.prog.cellsOf 231 = 1 := by kernel_rfl
@[go_sem] theorem Tryz.kind232 : kindT Tryz.prog 232 = some none := by kernel_rfl
@[go_sem] theorem Tryz.info232 : infoT Tryz.prog 232 = some (1, 8, [.val (.int .u64 0)]) := by kernel_rfl
@[go_sem] theorem Tryz.cof232 : Tryz.prog.cellsOf 232 = 1 := by kernel_rfl
@[go_sem] theorem Tryz.und232 : Tryz.prog.underlying 232 = some (.int .u64) := by kernel_rfl
@[go_sem] theorem Tryz.kind233 : kindT Tryz.prog 233 = some none := by kernel_rfl
@[go_sem] theorem Tryz.cof233 : Tryz.prog.cellsOf 233 = 1 := by kernel_rfl
@[go_sem] theorem Tryz.kind234 : kindT Tryz.prog 234 = some none := by kernel_rfl
@[go_sem] theorem Tryz.cof234 : Tryz.prog.cellsOf 234 = 1 := by kernel_rfl
@[go_sem] theorem Tryz.kind235 : kindT Tryz.prog 235 = some none := by kernel_rfl
@[go_sem] theorem Tryz.cof235 : Tryz.prog.cellsOf 235 = 1 := by kernel_rfl
@[go_sem] theorem Tryz.kind236 : kindT Tryz.prog 236 = some none := by kernel_rfl
@[go_sem] theorem Tryz.elem236 : elemT Tryz.prog 236 = none := by kernel_rfl
@[go_sem] theorem Tryz.cof236 : Tryz.prog.cellsOf 236 = 1 := by kernel_rfl
@[go_sem] theorem Tryz.kind237 : kindT Tryz.prog 237 = some none := by kernel_rfl
@[go_sem] theorem Tryz.cof237 : Tryz.prog.cellsOf 237 = 1 := by kernel_rfl
@[go_sem] theorem Tryz.kind238 : kindT Tryz.prog 238 = some none := by kernel_rfl
@[go_sem] theorem Tryz.cof238 : Tryz.prog.cellsOf 238 = 1 := by kernel_rfl
@[go_sem] theorem Tryz.kind239 : kindT Tryz.prog 239 = some none := by kernel_rfl
@[go_sem] theorem Tryz.cof239 : Tryz.prog.cellsOf 239 = 1 := by kernel_rfl
@[go_sem] theorem Tryz.kind240 : kindT Tryz.prog 240 = some none := by kernel_rfl
@[go_sem] theorem Tryz.cof240 : Tryz.prog.cellsOf 240 = 1 := by kernel_rfl
@[go_sem] theorem Tryz.kind241 : kindT Tryz.prog 241 = some none := by kernel_rfl
@[go_sem] theorem Tryz.cof241 : Tryz.prog.cellsOf 241 = 1 := by kernel_rfl
@[go_sem] theorem Tryz.kind242 : kindT Tryz.prog 242 = some none := by kernel_rfl
@[go_sem] theorem Tryz.cof242 : Tryz.prog.cellsOf 242 = 1 := by kernel_rfl
@[go_sem] theorem Tryz.kind243 : kindT Tryz.prog 243 = some none := by kernel_rfl
@[go_sem] theorem Tryz.cof243 : Tryz.prog.cellsOf 243 = 1 := by kernel_rfl
@[go_sem] theorem Tryz.kind244 : kindT Tryz.prog 244 = some none := by kernel_rfl
@[go_sem] theorem Tryz.cof244 : Tryz.prog.cellsOf 244 = 1 := by kernel_rfl
@[go_sem] theorem Tryz.kind245 : kindT Tryz.prog 245 = some none := by kernel_rfl
@[go_sem] theorem Tryz.cof245 : Tryz.prog.cellsOf 245 = 1 := by kernel_rfl
@[go_sem] theorem Tryz.kind246 : kindT Tryz.prog 246 = some none := by kernel_rfl
@[go_sem] theorem Tryz.elem246 : elemT Tryz.prog 246 = none := by kernel_rfl
@[go_sem] theorem Tryz.cof246 : Tryz.prog.cellsOf 246 = 1 := by kernel_rfl
@[go_sem] theorem Tryz.kind248 : kindT Tryz.prog 248 = some none := by kernel_rfl
@[go_sem] theorem Tryz.cof248 : Tryz.prog.cellsOf 248 = 1 := by kernel_rfl
@[go_sem] theorem Tryz.kind249 : kindT Tryz.prog 249 = some none := by kernel_rfl
@[go_sem] theorem Tryz.cof249 : Tryz.prog.cellsOf 249 = 1 := by kernel_rfl
@[go_sem] theorem Tryz.kind250 : kindT Tryz.prog 250 = some none := by kernel_rfl
@[go_sem] theorem Tryz.cof250 : Tryz.prog.cellsOf 250 = 1 := by kernel_rfl
@[go_sem] theorem Tryz.kind251 : kindT Tryz.prog 251 = some none := by kernel_rfl
@[go_sem] theorem Tryz.cof251 : Tryz.prog.cellsOf 251 = 1 := by kernel_rfl
@[go_sem] theorem Tryz.kind252 : kindT Tryz.prog 252 = some none := by kernel_rfl
@[go_sem] theorem Tryz.cof252 : Tryz.prog.cellsOf 252 = 1 := by kernel_rfl
@[go_sem] theorem Tryz.kind253 : kindT Tryz.prog 253 = some none := by kernel_rfl
@[go_sem] theorem Tryz.cof253 : Tryz.prog.cellsOf 253 = 1 := by kernel_rfl
@[go_sem] theorem Tryz.kind254 : kindT Tryz.prog 254 = some (some 4) := by kernel_rfl
@[go_sem] theorem Tryz.fld254_0 : fldT Tryz.prog 254 0 = some 0 := by kernel_rfl
@[go_sem] theorem Tryz.fl1254_0 : fld1T Tryz.prog 254 0 = some 0 := by kernel_rfl
@[go_sem] theorem Tryz.pl254_0 : plT Tryz.prog 254 0 = some 0 := by kernel_rfl
@[go_sem] theorem Tryz.fld254_1 : fldT Tryz.prog 254 1 = some 1 := by kernel_rfl
@[go_sem] theorem Tryz.fl1254_1 : fld1T Tryz.prog 254 1 = some 1 := by kernel_rfl
@[go_sem] theorem Tryz.pl254_1 : plT Tryz.prog 254 1 = some 1 := by kernel_rfl
@[go_sem] theorem Tryz.fld254_2 : fldT Tryz.prog 254 2 = some 2 := by kernel_rfl
@[go_sem] theorem Tryz.fl1254_2 : fld1T Tryz.prog 254 2 = some 2 := by kernel_rfl
@[go_sem] theorem Tryz.pl254_2 : plT Tryz.prog 254 2 = some 2 := by kernel_rfl
@[go_sem] theorem Tryz.fld254_3 : fldT Tryz.prog 254 3 = some 3 := by kernel_rfl
@[go_sem] theorem Tryz.fl1254_3 : fld1T Tryz.prog 254 3 = some 3 := by kernel_rfl
@[go_sem] theorem Tryz.pl254_3 : plT Tryz.prog 254 3 = some 3 := by kernel_rfl
@[go_sem] theorem Tryz.plk254 : plOk Tryz.prog 254 = true := by kernel_rfl
@[go_sem] theorem Tryz.cof254 : Tryz.prog.cellsOf 254 = 4 := by kernel_rfl
@[go_sem] theorem Tryz.kind255 : kindT Tryz.prog 255 = some (some 4) := by kernel_rfl
@[go_sem] theorem Tryz.fld255_0 : fldT Tryz.prog 255 0 = some 0 := by kernel_rfl
@[go_sem] theorem Tryz.fl1255_0 : fld1T Tryz.prog 255 0 = some 0 := by kernel_rfl
@[go_sem] theorem Tryz.pl255_0 : plT Tryz.prog 255 0 = some 0 := by kernel_rfl
@[go_sem] theorem Tryz.fld255_1 : fldT Tryz.prog 255 1 = some 1 := by kernel_rfl
@[go_sem] theorem Tryz.fl1255_1 : fld1T Tryz.prog 255 1 = some 1 := by kernel_rfl
@[go_sem] theorem Tryz.pl255_1 : plT Tryz.prog 255 1 = some 1 := by kernel_rfl
@[go_sem] theorem Tryz.fld255_2 : fldT Tryz.prog 255 2 = some 2 := by kernel_rfl
@[go_sem] theorem Tryz.fl1255_2 : fld1T Tryz.prog 255 2 = some 2 := by kernel_rfl
@[go_sem] theorem Tryz.pl255_2 : plT Tryz.prog 255 2 = some 2 := by kernel_rfl
@[go_sem] theorem Tryz.fld255_3 : fldT Tryz.prog 255 3 = some 3 := by kernel_rfl
@[go_sem] theorem Tryz.fl1255_3 : fld1T Tryz.prog 255 3 = some 3 := by kernel_rfl
@[go_sem] theorem Tryz.pl255_3 : plT Tryz.prog 255 3 = some 3 := by kernel_rfl
@[go_sem] theorem Tryz.plk255 : plOk Tryz.prog 255 = true := by kernel_rfl
@[go_sem] theorem Tryz.cof255 : Tryz.prog.cellsOf 255 = 4 := by kernel_rfl
@[go_sem] theorem Tryz.kind256 : kindT Tryz.prog 256 = some (some 0) := by kernel_rfl
@[go_sem] theorem Tryz.elem256 : elemT Tryz.prog 256 = none := by kernel_rfl
@[go_sem] theorem Tryz.arr256 : arrT Tryz.prog 256 = some (0, 1, true) := by kernel_rfl
@[go_sem] theorem Tryz.plk256 : plOk Tryz.prog 256 = true := by kernel_rfl
@[go_sem] theorem Tryz.info256 : infoT Tryz.prog 256 = some (0, 0, []) := by kernel_rfl
@[go_sem] theorem Tryz.cof256 : Tryz.prog.cellsOf 256 = 0 := by kernel_rfl
@[go_sem] theorem Tryz.kind257 : kindT Tryz.prog 257 = some (some 0) := by kernel_rfl
@[go_sem] theorem Tryz.plk257 : plOk Tryz.prog 257 = true := by kernel_rfl
@[go_sem] theorem Tryz.info257 : infoT Tryz.prog 257 = some (0, 0, []) := by kernel_rfl
@[go_sem] theorem Tryz.cof257 : Tryz.prog.cellsOf 257 = 0 := by kernel_rfl
@[go_sem] theorem Tryz.kind258 : kindT Tryz.prog 258 = some (some 0) := by kernel_rfl
@[go_sem] theorem Tryz.plk258 : plOk Tryz.prog 258 = true := by kernel_rfl
@[go_sem] theorem Tryz.info258 : infoT Tryz.prog 258 = some (0, 0, []) := by kernel_rfl
@[go_sem] theorem Tryz.cof258 : Tryz.prog.cellsOf 258 = 0 := by kernel_rfl
@[go_sem] theorem Tryz.kind259 : kindT Tryz.prog 259 = some none := by kernel_rfl
@[go_sem] theorem Tryz.info259 : infoT Tryz.prog 259 = some (1, 1, [.val (.int .u8 0)]) := by kernel_rfl
@[go_sem] theorem Tryz.cof259 : Tryz.prog.cellsOf 259 = 1 := by kernel_rfl
@[go_sem] theorem Tryz.und259 : Tryz.prog.underlying 259 = some (.int .u8) := by kernel_rfl
@[go_sem] theorem Tryz.kind260 : kindT Tryz.prog 260 = some none := by kernel_rfl
@[go_sem] theorem Tryz.info260 : infoT Tryz.prog 260 = some (1, 1, [.val (.int .u8 0)]) := by kernel_rfl
@[go_sem] theorem Tryz.cof260 : Tryz.prog.cellsOf 260 = 1 := by kernel_rfl
@[go_sem] theorem Tryz.und260 : Tryz.prog.underlying 260 = some (.int .u8) := by kernel_rfl
@[go_sem] theorem Tryz.kind261 : kindT Tryz.prog 261 = some none := by kernel_rfl
@[go_sem] theorem Tryz.cof261 : Tryz.prog.cellsOf 261 = 1 := by kernel_rfl
@[go_sem] theorem Tryz.kind262 : kindT Tryz.prog 262 = some none := by kernel_rfl
@[go_sem] theorem Tryz.elem262 : elemT Tryz.prog 262 = none := by kernel_rfl
@[go_sem] theorem Tryz.cof262 : Tryz.prog.cellsOf 262 = 1 := by kernel_rfl
@[go_sem] theorem Tryz.kind263 : kindT Tryz.prog 263 = some none := by kernel_rfl
@[go_sem] theorem Tryz.info263 : infoT Tryz.prog 263 = some (1, 4, [.val (.int .i32 0)]) := by kernel_rfl
@[go_sem] theorem Tryz.cof263 : Tryz.prog.cellsOf 263 = 1 := by kernel_rfl
@[go_sem] theorem Tryz.und263 : Tryz.prog.underlying 263 = some (.int .i32) := by kernel_rfl
@[go_sem] theorem Tryz.kind264 : kindT Tryz.prog 264 = some none := by kernel_rfl
@[go_sem] theorem Tryz.info264 : infoT Tryz.prog 264 = some (1, 4, [.val (.int .i32 0)]) := by kernel_rfl
@[go_sem] theorem Tryz.cof264 : Tryz.prog.cellsOf 264 = 1 := by kernel_rfl
@[go_sem] theorem Tryz.und264 : Tryz.prog.underlying 264 = some (.int .i32) := by kernel_rfl
@[go_sem] theorem Tryz.kind265 : kindT Tryz.prog 265 = some (some 11) := by kernel_rfl
@[go_sem] theorem Tryz.fld265_0 : fldT Tryz.prog 265 0 = some 0 := by kernel_rfl
@[go_sem] theorem Tryz.fl1265_0 : fld1T Tryz.prog 265 0 = some 0 := by kernel_rfl
@[go_sem] theorem Tryz.pl265_0 : plT Tryz.prog 265 0 = some 0 := by kernel_rfl
@[go_sem] theorem Tryz.fld265_1 : fldT Tryz.prog 265 1 = some 1 := by kernel_rfl
@[go_sem] theorem Tryz.fl1265_1 : fld1T Tryz.prog 265 1 = some 1 := by kernel_rfl
@[go_sem] theorem Tryz.pl265_1 : plT Tryz.prog 265 1 = some 1 := by kernel_rfl
@[go_sem] theorem Tryz.fld265_2 : fldT Tryz.prog 265 2 = some 2 := by kernel_rfl
@[go_sem] theorem Tryz.fl1265_2 : fld1T Tryz.prog 265 2 = some 2 := by kernel_rfl
@[go_sem] theorem Tryz.pl265_2 : plT Tryz.prog 265 2 = some 2 := by kernel_rfl
@[go_sem] theorem Tryz.fld265_3 : fldT Tryz.prog 265 3 = some 3 := by kernel_rfl
@[go_sem] theorem Tryz.fl1265_3 : fld1T Tryz.prog 265 3 = some 3 := by kernel_rfl
@[go_sem] theorem Tryz.pl265_3 : plT Tryz.prog 265 3 = some 3 := by kernel_rfl
@[go_sem] theorem Tryz.fld265_4 : fldT Tryz.prog 265 4 = some 4 := by kernel_rfl
@[go_sem] theorem Tryz.fl1265_4 : fld1T Tryz.prog 265 4 = some 4 := by kernel_rfl
@[go_sem] theorem Tryz.pl265_4 : plT Tryz.prog 265 4 = some 4 := by kernel_rfl
@[go_sem] theorem Tryz.fld265_5 : fldT Tryz.prog 265 5 = some 5 := by kernel_rfl
@[go_sem] theorem Tryz.fl1265_5 : fld1T Tryz.prog 265 5 = some 5 := by kernel_rfl
@[go_sem] theorem Tryz.pl265_5 : plT Tryz.prog 265 5 = some 5 := by kernel_rfl
@[go_sem] theorem Tryz.fld265_6 : fldT Tryz.prog 265 6 = some 6 := by kernel_rfl
@[go_sem] theorem Tryz.fl1265_6 : fld1T Tryz.prog 265 6 = some 6 := by kernel_rfl
@[go_sem] theorem Tryz.pl265_6 : plT Tryz.prog 265 6 = some 6 := by kernel_rfl
@[go_sem] theorem Tryz.fld265_7 : fldT Tryz.prog 265 7 = some 7 := by kernel_rfl
@[go_sem] theorem Tryz.fl1265_7 : fld1T Tryz.prog 265 7 = some 7 := by kernel_rfl
@[go_sem] theorem Tryz.pl265_7 : plT Tryz.prog 265 7 = some 7 := by kernel_rfl
@[go_sem] theorem Tryz.fld265_8 : fldT Tryz.prog 265 8 = some 8 := by kernel_rfl
@[go_sem] theorem Tryz.fl1265_8 : fld1T Tryz.prog 265 8 = some 8 := by kernel_rfl
@[go_sem] theorem Tryz.pl265_8 : plT Tryz.prog 265 8 = some 8 := by kernel_rfl
@[go_sem] theorem Tryz.fld265_9 : fldT Tryz.prog 265 9 = some 9 := by kernel_rfl
@[go_sem] theorem Tryz.fl1265_9 : fld1T Tryz.prog 265 9 = some 9 := by kernel_rfl
@[go_sem] theorem Tryz.pl265_9 : plT Tryz.prog 265 9 = some 9 := by kernel_rfl
@[go_sem] theorem Tryz.fld265_10 : fldT Tryz.prog 265 10 = some 10 := by kernel_rfl
@[go_sem] theorem Tryz.fl1265_10 : fld1T Tryz.prog 265 10 = some 10 := by kernel_rfl
@[go_sem] theorem Tryz.pl265_10 : plT Tryz.prog 265 10 = some 10 := by kernel_rfl
@[go_sem] theorem Tryz.plk265 : plOk Tryz.prog 265 = true := by kernel_rfl
@[go_sem] theorem Tryz.cof265 : Tryz.prog.cellsOf 265 = 11 := by kernel_rfl
@[go_sem] theorem Tryz.kind266 : kindT Tryz.prog 266 = some (some 11) := by kernel_rfl
@[go_sem] theorem Tryz.fld266_0 : fldT Tryz.prog 266 0 = some 0 := by kernel_rfl
@[go_sem] theorem Tryz.fl1266_0 : fld1T Tryz.prog 266 0 = some 0 := by kernel_rfl
@[go_sem] theorem Tryz.pl266_0 : plT Tryz.prog 266 0 = some 0 := by kernel_rfl
@[go_sem] theorem Tryz.fld266_1 : fldT Tryz.prog 266 1 = some 1 := by kernel_rfl
@[go_sem] theorem Tryz.fl1266_1 : fld1T Tryz.prog 266 1 = some 1 := by kernel_rfl
@[go_sem] theorem Tryz.pl266_1 : plT Tryz.prog 266 1 = some 1 := by kernel_rfl
@[go_sem] theorem Tryz.fld266_2 : fldT Tryz.prog 266 2 = some 2 := by kernel_rfl
@[go_sem] theorem Tryz.fl1266_2 : fld1T Tryz.prog 266 2 = some 2 := by kernel_rfl
@[go_sem] theorem Tryz.pl266_2 : plT Tryz.prog 266 2 = some 2 := by kernel_rfl
@[go_sem] theorem Tryz.fld266_3 : fldT Tryz.prog 266 3 = some 3 := by kernel_rfl
@[go_sem] theorem Tryz.fl1266_3 : fld1T Tryz.prog 266 3 = some 3 := by kernel_rfl
@[go_sem] theorem Tryz.pl266_3 : plT Tryz.prog 266 3 = some 3 := by kernel_rfl
@[go_sem] theorem Tryz.fld266_4 : fldT Tryz.prog 266 4 = some 4 := by kernel_rfl
@[go_sem] theorem Tryz.fl1266_4 : fld1T Tryz.prog 266 4 = some 4 := by kernel_rfl
@[go_sem] theorem Tryz.pl266_4 : plT Tryz.prog 266 4 = some 4 := by kernel_rfl
@[go_sem] theorem Tryz.fld266_5 : fldT Tryz.prog 266 5 = some 5 := by kernel_rfl
@[go_sem] theorem Tryz.fl1266_5 : fld1T Tryz.prog 266 5 = some 5 := by kernel_rfl
@[go_sem] theorem Tryz.pl266_5 : plT Tryz.prog 266 5 = some 5 := by kernel_rfl
@[go_sem] theorem Tryz.fld266_6 : fldT Tryz.prog 266 6 = some 6 := by kernel_rfl
@[go_sem] theorem Tryz.fl1266_6 : fld1T Tryz.prog 266 6 = some 6 := by kernel_rfl
@[go_sem] theorem Tryz.pl266_6 : plT Tryz.prog 266 6 = some 6 := by kernel_rfl
@[go_sem] theorem Tryz.fld266_7 : fldT Tryz.prog 266 7 = some 7 := by kernel_rfl
@[go_sem] theorem Tryz.fl1266_7 : fld1T Tryz.prog 266 7 = some 7 := by kernel_rfl
@[go_sem] theorem Tryz.pl266_7 : plT Tryz.prog 266 7 = some 7 := by kernel_rfl
@[go_sem] theorem Tryz.fld266_8 : fldT Tryz.prog 266 8 = some 8 := by kernel_rfl
@[go_sem] theorem Tryz.fl1266_8 : fld1T Tryz.prog 266 8 = some 8 := by kernel_rfl
@[go_sem] theorem Tryz.pl266_8 : plT Tryz.prog 266 8 = some 8 := by kernel_rfl
@[go_sem] theorem Tryz.fld266_9 : fldT Tryz.prog 266 9 = some 9 := by kernel_rfl
@[go_sem] theorem Tryz.fl1266_9 : fld1T Tryz.prog 266 9 = some 9 := by kernel_rfl
@[go_sem] theorem Tryz.pl266_9 : plT Tryz.prog 266 9 = some 9 := by kernel_rfl
@[go_sem] theorem Tryz.fld266_10 : fldT Tryz.prog 266 10 = some 10 := by kernel_rfl
@[go_sem] theorem Tryz.fl1266_10 : fld1T Tryz.prog 266 10 = some 10 := by kernel_rfl
@[go_sem] theorem Tryz.pl266_10 : plT Tryz.prog 266 10 = some 10 := by kernel_rfl
@[go_sem] theorem Tryz.plk266 : plOk Tryz.prog 266 = true := by kernel_rfl
@[go_sem] theorem Tryz.cof266 : Tryz.prog.cellsOf 266 = 11 := by kernel_rfl
@[go_sem] theorem Tryz.kind267 : kindT Tryz.prog 267 = some none := by kernel_rfl
@[go_sem] theorem Tryz.cof267 : Tryz.prog.cellsOf 267 = 1 := by kernel_rfl
@[go_sem] theorem Tryz.kind268 : kindT Tryz.prog 268 = some none := by kernel_rfl
@[go_sem] theorem Tryz.cof268 : Tryz.prog.cellsOf 268 = 1 := by kernel_rfl
end Go.Proofs

/- Layings of the library's sort at the program's own types. -/
namespace Go.Proofs.YtbeekabpflaihaaGreat
open Go.Shelf Go.Sort
set_option maxRecDepth 100000
def Tryz.sortMon_ren : Go.Shelf.Ren := ⟨fun | 6 => 184 | 15 => 217 | 14 => 223 | 28 => 244 | 29 => 245 | 20 => 247 | 21 => 248 | 22 => 249 | 23 => 250 | 24 => 251 | 25 => 252 | 26 => 253 | 27 => 254 | 46 => 264 | 47 => 260 | 48 => 261 | 49 => 265 | 50 => 266 | 57 => 278 | n => n, fun | 22 => 125 | 24 => 127 | 25 => 178 | 3 => 3 | 39 => 121 | 0 => 0 | 53 => 222 | 55 => 53 | 4 => 4 | 46 => 215 | 45 => 214 | 50 => 219 | 5 => 5 | 9 => 9 | 66 => 232 | 70 => 236 | 76 => 246 | 77 => 247 | n => n, fun | n => n⟩
theorem Tryz.sortMon : Go.Proofs.SlLaysF0.n6 Tryz.prog Tryz.sortMon_ren := {
  mixed := by kernel_rfl,
  f6 := ⟨Tryz.f184.name, by decide, Tryz.func184.trans (congrArg some (by kernel_rfl))⟩,
  f14 := ⟨Tryz.f223.name, by decide, Tryz.func223.trans (congrArg some (by kernel_rfl))⟩,
  f15 := Tryz.func217.trans (congrArg some (by kernel_rfl)),
  f20 := ⟨Tryz.f247.name, by decide, Tryz.func247.trans (congrArg some (by kernel_rfl))⟩,
  f21 := ⟨Tryz.f248.name, by decide, Tryz.func248.trans (congrArg some (by kernel_rfl))⟩,
  f22 := ⟨Tryz.f249.name, by decide, Tryz.func249.trans (congrArg some (by kernel_rfl))⟩,
  f23 := ⟨Tryz.f250.name, by decide, Tryz.func250.trans (congrArg some (by kernel_rfl))⟩,
  f24 := ⟨Tryz.f251.name, by decide, Tryz.func251.trans (congrArg some (by kernel_rfl))⟩,
  f25 := ⟨Tryz.f252.name, by decide, Tryz.func252.trans (congrArg some (by kernel_rfl))⟩,
  f26 := ⟨Tryz.f253.name, by decide, Tryz.func253.trans (congrArg some (by kernel_rfl))⟩,
  f27 := ⟨Tryz.f254.name, by decide, Tryz.func254.trans (congrArg some (by kernel_rfl))⟩,
  f28 := Tryz.func244.trans (congrArg some (by kernel_rfl)),
  f29 := Tryz.func245.trans (congrArg some (by kernel_rfl)),
  f46 := ⟨Tryz.f264.name, by decide, Tryz.func264.trans (congrArg some (by kernel_rfl))⟩,
  f47 := Tryz.func260.trans (congrArg some (by kernel_rfl)),
  f48 := Tryz.func261.trans (congrArg some (by kernel_rfl)),
  f49 := ⟨Tryz.f265.name, by decide, Tryz.func265.trans (congrArg some (by kernel_rfl))⟩,
  f50 := ⟨Tryz.f266.name, by decide, Tryz.func266.trans (congrArg some (by kernel_rfl))⟩,
  f57 := ⟨Tryz.f278.name, by decide, Tryz.func278.trans (congrArg some (by kernel_rfl))⟩,
  t0 := Tryz.underlying0,
  a0 := Tryz.isAgg0,
  z0 := Tryz.sizeOf0,
  v0 := Tryz.zeroValue0,
  t3 := Tryz.underlying3,
  a3 := Tryz.isAgg3,
  z3 := Tryz.sizeOf3,
  v3 := Tryz.zeroValue3,
  t4 := Tryz.underlying4,
  a4 := Tryz.isAgg4,
  z4 := Tryz.sizeOf4,
  v4 := Tryz.zeroValue4,
  t5 := Tryz.underlying5,
  a5 := Tryz.isAgg5,
  z5 := Tryz.sizeOf5,
  v5 := Tryz.zeroValue5,
  t9 := Tryz.underlying9,
  a9 := Tryz.isAgg9,
  z9 := Tryz.sizeOf9,
  v9 := Tryz.zeroValue9,
  t22 := Tryz.underlying125,
  a22 := Tryz.isAgg125,
  z22 := Tryz.sizeOf125,
  v22 := Tryz.zeroValue125,
  t25 := Tryz.underlying178,
  a25 := Tryz.isAgg178,
  z25 := Tryz.sizeOf178,
  v25 := Tryz.zeroValue178,
  t39 := Tryz.underlying121,
  a39 := Tryz.isAgg121,
  z39 := Tryz.sizeOf121,
  v39 := Tryz.zeroValue121,
  t45 := Tryz.underlying214,
  a45 := Tryz.isAgg214,
  z45 := Tryz.sizeOf214,
  v45 := Tryz.zeroValue214,
  t46 := Tryz.underlying215,
  a46 := Tryz.isAgg215,
  z46 := Tryz.sizeOf215,
  v46 := Tryz.zeroValue215,
  t50 := Tryz.underlying219,
  a50 := Tryz.isAgg219,
  z50 := Tryz.sizeOf219,
  v50 := Tryz.zeroValue219,
  t53 := Tryz.underlying222,
  a53 := Tryz.isAgg222,
  z53 := Tryz.sizeOf222,
  v53 := Tryz.zeroValue222,
  t55 := Tryz.underlying53,
  a55 := Tryz.isAgg53,
  z55 := Tryz.sizeOf53,
  v55 := Tryz.zeroValue53,
  t66 := Tryz.underlying232,
  a66 := Tryz.isAgg232,
  z66 := Tryz.sizeOf232,
  v66 := Tryz.zeroValue232,
  t70 := Tryz.underlying236,
  a70 := Tryz.isAgg236,
  z70 := Tryz.sizeOf236,
  v70 := Tryz.zeroValue236,
  t76 := Tryz.underlying246,
  a76 := Tryz.isAgg246,
  z76 := Tryz.sizeOf246,
  v76 := Tryz.zeroValue246,
  t77 := Tryz.underlying247,
  a77 := Tryz.isAgg247,
  z77 := Tryz.sizeOf247,
  v77 := Tryz.zeroValue247 }
def Tryz.sortTrees_ren : Go.Shelf.Ren := ⟨fun | 6 => 175 | 15 => 217 | 14 => 216 | 28 => 244 | 29 => 245 | 20 => 235 | 21 => 237 | 22 => 238 | 23 => 239 | 24 => 240 | 25 => 241 | 26 => 242 | 27 => 243 | 46 => 259 | 47 => 260 | 48 => 261 | 49 => 262 | 50 => 263 | 57 => 277 | n => n, fun | 22 => 27 | 24 => 22 | 25 => 133 | 3 => 3 | 39 => 121 | 0 => 0 | 53 => 222 | 55 => 53 | 4 => 4 | 46 => 215 | 45 => 214 | 50 => 219 | 5 => 5 | 9 => 9 | 66 => 232 | 70 => 236 | 76 => 246 | 77 => 247 | n => n, fun | n => n⟩
theorem Tryz.sortTrees : Go.Proofs.SlLaysF.n6 Tryz.prog Tryz.sortTrees_ren := {
  mixed := by kernel_rfl,
  f6 := ⟨Tryz.f175.name, by decide, Tryz.func175.trans (congrArg some (by kernel_rfl))⟩,
  f14 := ⟨Tryz.f216.name, by decide, Tryz.func216.trans (congrArg some (by kernel_rfl))⟩,
  f15 := Tryz.func217.trans (congrArg some (by kernel_rfl)),
  f20 := ⟨Tryz.f235.name, by decide, Tryz.func235.trans (congrArg some (by kernel_rfl))⟩,
  f21 := ⟨Tryz.f237.name, by decide, Tryz.func237.trans (congrArg some (by kernel_rfl))⟩,
  f22 := ⟨Tryz.f238.name, by decide, Tryz.func238.trans (congrArg some (by kernel_rfl))⟩,
  f23 := ⟨Tryz.f239.name, by decide, Tryz.func239.trans (congrArg some (by kernel_rfl))⟩,
  f24 := ⟨Tryz.f240.name, by decide, Tryz.func240.trans (congrArg some (by kernel_rfl))⟩,
  f25 := ⟨Tryz.f241.name, by decide, Tryz.func241.trans (congrArg some (by kernel_rfl))⟩,
  f26 := ⟨Tryz.f242.name, by decide, Tryz.func242.trans (congrArg some (by kernel_rfl))⟩,
  f27 := ⟨Tryz.f243.name, by decide, Tryz.func243.trans (congrArg some (by kernel_rfl))⟩,
  f28 := Tryz.func244.trans (congrArg some (by kernel_rfl)),
  f29 := Tryz.func245.trans (congrArg some (by kernel_rfl)),
  f46 := ⟨Tryz.f259.name, by decide, Tryz.func259.trans (congrArg some (by kernel_rfl))⟩,
  f47 := Tryz.func260.trans (congrArg some (by kernel_rfl)),
  f48 := Tryz.func261.trans (congrArg some (by kernel_rfl)),
  f49 := ⟨Tryz.f262.name, by decide, Tryz.func262.trans (congrArg some (by kernel_rfl))⟩,
  f50 := ⟨Tryz.f263.name, by decide, Tryz.func263.trans (congrArg some (by kernel_rfl))⟩,
  f57 := ⟨Tryz.f277.name, by decide, Tryz.func277.trans (congrArg some (by kernel_rfl))⟩,
  t0 := Tryz.underlying0,
  a0 := Tryz.isAgg0,
  z0 := Tryz.sizeOf0,
  v0 := Tryz.zeroValue0,
  t3 := Tryz.underlying3,
  a3 := Tryz.isAgg3,
  z3 := Tryz.sizeOf3,
  v3 := Tryz.zeroValue3,
  t4 := Tryz.underlying4,
  a4 := Tryz.isAgg4,
  z4 := Tryz.sizeOf4,
  v4 := Tryz.zeroValue4,
  t5 := Tryz.underlying5,
  a5 := Tryz.isAgg5,
  z5 := Tryz.sizeOf5,
  v5 := Tryz.zeroValue5,
  t9 := Tryz.underlying9,
  a9 := Tryz.isAgg9,
  z9 := Tryz.sizeOf9,
  v9 := Tryz.zeroValue9,
  t22 := Tryz.underlying27,
  a22 := Tryz.isAgg27,
  z22 := Tryz.sizeOf27,
  v22 := Tryz.zeroValue27,
  a24 := Tryz.isAgg22,
  z24 := Tryz.sizeOf22,
  t25 := Tryz.underlying133,
  a25 := Tryz.isAgg133,
  z25 := Tryz.sizeOf133,
  v25 := Tryz.zeroValue133,
  t39 := Tryz.underlying121,
  a39 := Tryz.isAgg121,
  z39 := Tryz.sizeOf121,
  v39 := Tryz.zeroValue121,
  t45 := Tryz.underlying214,
  a45 := Tryz.isAgg214,
  z45 := Tryz.sizeOf214,
  v45 := Tryz.zeroValue214,
  t46 := Tryz.underlying215,
  a46 := Tryz.isAgg215,
  z46 := Tryz.sizeOf215,
  v46 := Tryz.zeroValue215,
  t50 := Tryz.underlying219,
  a50 := Tryz.isAgg219,
  z50 := Tryz.sizeOf219,
  v50 := Tryz.zeroValue219,
  t53 := Tryz.underlying222,
  a53 := Tryz.isAgg222,
  z53 := Tryz.sizeOf222,
  v53 := Tryz.zeroValue222,
  t55 := Tryz.underlying53,
  a55 := Tryz.isAgg53,
  z55 := Tryz.sizeOf53,
  v55 := Tryz.zeroValue53,
  t66 := Tryz.underlying232,
  a66 := Tryz.isAgg232,
  z66 := Tryz.sizeOf232,
  v66 := Tryz.zeroValue232,
  t70 := Tryz.underlying236,
  a70 := Tryz.isAgg236,
  z70 := Tryz.sizeOf236,
  v70 := Tryz.zeroValue236,
  t76 := Tryz.underlying246,
  a76 := Tryz.isAgg246,
  z76 := Tryz.sizeOf246,
  v76 := Tryz.zeroValue246,
  t77 := Tryz.underlying247,
  a77 := Tryz.isAgg247,
  z77 := Tryz.sizeOf247,
  v77 := Tryz.zeroValue247 }
def Tryz.insTrees_ren : Go.Shelf.Ren := ⟨fun | 20 => 235 | n => n, fun | 24 => 22 | 22 => 27 | 3 => 3 | 25 => 133 | 4 => 4 | 0 => 0 | n => n, fun | n => n⟩
theorem Tryz.insTrees : Go.Proofs.SlLaysF.n20 Tryz.prog Tryz.insTrees_ren := {
  mixed := by kernel_rfl,
  f20 := ⟨Tryz.f235.name, by decide, Tryz.func235.trans (congrArg some (by kernel_rfl))⟩,
  t0 := Tryz.underlying0,
  a0 := Tryz.isAgg0,
  z0 := Tryz.sizeOf0,
  v0 := Tryz.zeroValue0,
  t3 := Tryz.underlying3,
  a3 := Tryz.isAgg3,
  z3 := Tryz.sizeOf3,
  v3 := Tryz.zeroValue3,
  t4 := Tryz.underlying4,
  a4 := Tryz.isAgg4,
  z4 := Tryz.sizeOf4,
  v4 := Tryz.zeroValue4,
  t22 := Tryz.underlying27,
  a22 := Tryz.isAgg27,
  z22 := Tryz.sizeOf27,
  v22 := Tryz.zeroValue27,
  a24 := Tryz.isAgg22,
  z24 := Tryz.sizeOf22,
  t25 := Tryz.underlying133,
  a25 := Tryz.isAgg133,
  z25 := Tryz.sizeOf133,
  v25 := Tryz.zeroValue133 }
end Go.Proofs.YtbeekabpflaihaaGreat
