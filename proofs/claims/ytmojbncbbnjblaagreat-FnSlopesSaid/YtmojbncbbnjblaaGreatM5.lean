/- Texts of the own layer and contracts, part 5: Tab Srt. -/
import Derived.Test.YtmojbncbbnjblaaGreatProg
import Derived.KernelRfl
import Derived.Shelf.SlSortCmp.NoneTotal
import Derived.Test.YtmojbncbbnjblaaGreatM4
/- What the loaded program says of its types. Written by a program (gentab.py). -/
namespace Go.Proofs
open Go.Abs
theorem Tryz.mixed : Tryz.prog.follows .mixedOrders = true := by kernel_rfl
@[go_sem] theorem Tryz.kind1 : kindT Tryz.prog 1 = some none := by kernel_rfl
@[go_sem] theorem Tryz.cof1 : Tryz.prog.cellsOf 1 = 1 := by kernel_rfl
@[go_sem] theorem Tryz.kind2 : kindT Tryz.prog 2 = some none := by kernel_rfl
@[go_sem] theorem Tryz.info2 : infoT Tryz.prog 2 = some (1, 8, [.val (.int .i64 0)]) := by kernel_rfl
@[go_sem] theorem Tryz.cof2 : Tryz.prog.cellsOf 2 = 1 := by kernel_rfl
@[go_sem] theorem Tryz.und2 : Tryz.prog.underlying 2 = some (.int .i64) := by kernel_rfl
@[go_sem] theorem Tryz.kind3 : kindT Tryz.prog 3 = some none := by kernel_rfl
@[go_sem] theorem Tryz.info3 : infoT Tryz.prog 3 = some (1, 8, [.val (.int .i64 0)]) := by kernel_rfl
@[go_sem] theorem Tryz.cof3 : Tryz.prog.cellsOf 3 = 1 := by kernel_rfl
@[go_sem] theorem Tryz.und3 : Tryz.prog.underlying 3 = some (.int .i64) := by kernel_rfl
@[go_sem] theorem Tryz.kind4 : kindT Tryz.prog 4 = some none := by kernel_rfl
@[go_sem] theorem Tryz.isbool4 : boolT Tryz.prog 4 = true := by kernel_rfl
@[go_sem] theorem Tryz.info4 : infoT Tryz.prog 4 = some (1, 1, [.val (.bool false)]) := by kernel_rfl
@[go_sem] theorem Tryz.cof4 : Tryz.prog.cellsOf 4 = 1 := by kernel_rfl
@[go_sem] theorem Tryz.kind5 : kindT Tryz.prog 5 = some none := by kernel_rfl
@[go_sem] theorem Tryz.info5 : infoT Tryz.prog 5 = some (1, 1, [.val (.int .u8 0)]) := by kernel_rfl
@[go_sem] theorem Tryz.cof5 : Tryz.prog.cellsOf 5 = 1 := by kernel_rfl
@[go_sem] theorem Tryz.und5 : Tryz.prog.underlying 5 = some (.int .u8) := by kernel_rfl
@[go_sem] theorem Tryz.kind6 : kindT Tryz.prog 6 = some none := by kernel_rfl
@[go_sem] theorem Tryz.info6 : infoT Tryz.prog 6 = some (1, 1, [.val (.int .u8 0)]) := by kernel_rfl
@[go_sem] theorem Tryz.cof6 : Tryz.prog.cellsOf 6 = 1 := by kernel_rfl
@[go_sem] theorem Tryz.und6 : Tryz.prog.underlying 6 = some (.int .u8) := by kernel_rfl
@[go_sem] theorem Tryz.kind7 : kindT Tryz.prog 7 = some (some 4) := by kernel_rfl
@[go_sem] theorem Tryz.fld7_0 : fldT Tryz.prog 7 0 = some 0 := by kernel_rfl
@[go_sem] theorem Tryz.fl17_0 : fld1T Tryz.prog 7 0 = some 0 := by kernel_rfl
@[go_sem] theorem Tryz.pl7_0 : plT Tryz.prog 7 0 = some 0 := by kernel_rfl
@[go_sem] theorem Tryz.fld7_1 : fldT Tryz.prog 7 1 = some 1 := by kernel_rfl
@[go_sem] theorem Tryz.fl17_1 : fld1T Tryz.prog 7 1 = some 1 := by kernel_rfl
@[go_sem] theorem Tryz.pl7_1 : plT Tryz.prog 7 1 = some 1 := by kernel_rfl
@[go_sem] theorem Tryz.fld7_2 : fldT Tryz.prog 7 2 = some 2 := by kernel_rfl
@[go_sem] theorem Tryz.fl17_2 : fld1T Tryz.prog 7 2 = some 2 := by kernel_rfl
@[go_sem] theorem Tryz.pl7_2 : plT Tryz.prog 7 2 = some 2 := by kernel_rfl
@[go_sem] theorem Tryz.fld7_3 : fldT Tryz.prog 7 3 = some 3 := by kernel_rfl
@[go_sem] theorem Tryz.fl17_3 : fld1T Tryz.prog 7 3 = some 3 := by kernel_rfl
@[go_sem] theorem Tryz.pl7_3 : plT Tryz.prog 7 3 = some 3 := by kernel_rfl
@[go_sem] theorem Tryz.plk7 : plOk Tryz.prog 7 = true := by kernel_rfl
@[go_sem] theorem Tryz.info7 : infoT Tryz.prog 7 = some (4, 24, [.val (.int .i64 0), .val (.int .i64 0), .val (.bool false), .val (.int .u8 0)]) := by kernel_rfl
@[go_sem] theorem Tryz.cof7 : Tryz.prog.cellsOf 7 = 4 := by kernel_rfl
@[go_sem] theorem Tryz.kind8 : kindT Tryz.prog 8 = some (some 4) := by kernel_rfl
@[go_sem] theorem Tryz.fld8_0 : fldT Tryz.prog 8 0 = some 0 := by kernel_rfl
@[go_sem] theorem Tryz.fl18_0 : fld1T Tryz.prog 8 0 = some 0 := by kernel_rfl
@[go_sem] theorem Tryz.pl8_0 : plT Tryz.prog 8 0 = some 0 := by kernel_rfl
@[go_sem] theorem Tryz.fld8_1 : fldT Tryz.prog 8 1 = some 1 := by kernel_rfl
@[go_sem] theorem Tryz.fl18_1 : fld1T Tryz.prog 8 1 = some 1 := by kernel_rfl
@[go_sem] theorem Tryz.pl8_1 : plT Tryz.prog 8 1 = some 1 := by kernel_rfl
@[go_sem] theorem Tryz.fld8_2 : fldT Tryz.prog 8 2 = some 2 := by kernel_rfl
@[go_sem] theorem Tryz.fl18_2 : fld1T Tryz.prog 8 2 = some 2 := by kernel_rfl
@[go_sem] theorem Tryz.pl8_2 : plT Tryz.prog 8 2 = some 2 := by kernel_rfl
@[go_sem] theorem Tryz.fld8_3 : fldT Tryz.prog 8 3 = some 3 := by kernel_rfl
@[go_sem] theorem Tryz.fl18_3 : fld1T Tryz.prog 8 3 = some 3 := by kernel_rfl
@[go_sem] theorem Tryz.pl8_3 : plT Tryz.prog 8 3 = some 3 := by kernel_rfl
@[go_sem] theorem Tryz.plk8 : plOk Tryz.prog 8 = true := by kernel_rfl
@[go_sem] theorem Tryz.info8 : infoT Tryz.prog 8 = some (4, 24, [.val (.int .i64 0), .val (.int .i64 0), .val (.bool false), .val (.int .u8 0)]) := by kernel_rfl
@[go_sem] theorem Tryz.cof8 : Tryz.prog.cellsOf 8 = 4 := by kernel_rfl
@[go_sem] theorem Tryz.kind9 : kindT Tryz.prog 9 = some none := by kernel_rfl
@[go_sem] theorem Tryz.elem9 : elemT Tryz.prog 9 = none := by kernel_rfl
@[go_sem] theorem Tryz.info9 : infoT Tryz.prog 9 = some (1, 16, [.val (.string ⟨#[]⟩)]) := by kernel_rfl
@[go_sem] theorem Tryz.cof9 : Tryz.prog.cellsOf 9 = 1 := by kernel_rfl
theorem Tryz.und9 : Tryz.prog.underlying 9 = some (.string) := by kernel_rfl
@[go_sem] theorem Tryz.kind10 : kindT Tryz.prog 10 = some none := by kernel_rfl
@[go_sem] theorem Tryz.elem10 : elemT Tryz.prog 10 = none := by kernel_rfl
@[go_sem] theorem Tryz.info10 : infoT Tryz.prog 10 = some (1, 16, [.val (.string ⟨#[]⟩)]) := by kernel_rfl
@[go_sem] theorem Tryz.cof10 : Tryz.prog.cellsOf 10 = 1 := by kernel_rfl
theorem Tryz.und10 : Tryz.prog.underlying 10 = some (.string) := by kernel_rfl
@[go_sem] theorem Tryz.kind11 : kindT Tryz.prog 11 = some none := by kernel_rfl
@[go_sem] theorem Tryz.elem11 : elemT Tryz.prog 11 = none := by kernel_rfl
@[go_sem] theorem Tryz.info11 : infoT Tryz.prog 11 = some (1, 16, [.val (.string ⟨#[]⟩)]) := by kernel_rfl
@[go_sem] theorem Tryz.cof11 : Tryz.prog.cellsOf 11 = 1 := by kernel_rfl
theorem Tryz.und11 : Tryz.prog.underlying 11 = some (.string) := by kernel_rfl
@[go_sem] theorem Tryz.kind12 : kindT Tryz.prog 12 = some none := by kernel_rfl
@[go_sem] theorem Tryz.info12 : infoT Tryz.prog 12 = some (1, 8, [.val (.int .u64 0)]) := by kernel_rfl
@[go_sem] theorem Tryz.cof12 : Tryz.prog.cellsOf 12 = 1 := by kernel_rfl
@[go_sem] theorem Tryz.und12 : Tryz.prog.underlying 12 = some (.int .u64) := by kernel_rfl
@[go_sem] theorem Tryz.kind13 : kindT Tryz.prog 13 = some (some 2) := by kernel_rfl
@[go_sem] theorem Tryz.fld13_0 : fldT Tryz.prog 13 0 = some 0 := by kernel_rfl
@[go_sem] theorem Tryz.fl113_0 : fld1T Tryz.prog 13 0 = some 0 := by kernel_rfl
@[go_sem] theorem Tryz.pl13_0 : plT Tryz.prog 13 0 = some 0 := by kernel_rfl
@[go_sem] theorem Tryz.fld13_1 : fldT Tryz.prog 13 1 = some 1 := by kernel_rfl
@[go_sem] theorem Tryz.fl113_1 : fld1T Tryz.prog 13 1 = some 1 := by kernel_rfl
@[go_sem] theorem Tryz.pl13_1 : plT Tryz.prog 13 1 = some 1 := by kernel_rfl
@[go_sem] theorem Tryz.plk13 : plOk Tryz.prog 13 = true := by kernel_rfl
@[go_sem] theorem Tryz.info13 : infoT Tryz.prog 13 = some (2, 24, [.val (.string ⟨#[]⟩), .val (.int .u64 0)]) := by kernel_rfl
@[go_sem] theorem Tryz.cof13 : Tryz.prog.cellsOf 13 = 2 := by kernel_rfl
@[go_sem] theorem Tryz.kind14 : kindT Tryz.prog 14 = some (some 2) := by kernel_rfl
@[go_sem] theorem Tryz.fld14_0 : fldT Tryz.prog 14 0 = some 0 := by kernel_rfl
@[go_sem] theorem Tryz.fl114_0 : fld1T Tryz.prog 14 0 = some 0 := by kernel_rfl
@[go_sem] theorem Tryz.pl14_0 : plT Tryz.prog 14 0 = some 0 := by kernel_rfl
@[go_sem] theorem Tryz.fld14_1 : fldT Tryz.prog 14 1 = some 1 := by kernel_rfl
@[go_sem] theorem Tryz.fl114_1 : fld1T Tryz.prog 14 1 = some 1 := by kernel_rfl
@[go_sem] theorem Tryz.pl14_1 : plT Tryz.prog 14 1 = some 1 := by kernel_rfl
@[go_sem] theorem Tryz.plk14 : plOk Tryz.prog 14 = true := by kernel_rfl
@[go_sem] theorem Tryz.info14 : infoT Tryz.prog 14 = some (2, 24, [.val (.string ⟨#[]⟩), .val (.int .u64 0)]) := by kernel_rfl
@[go_sem] theorem Tryz.cof14 : Tryz.prog.cellsOf 14 = 2 := by kernel_rfl
@[go_sem] theorem Tryz.kind15 : kindT Tryz.prog 15 = some none := by kernel_rfl
@[go_sem] theorem Tryz.elem15 : elemT Tryz.prog 15 = none := by kernel_rfl
@[go_sem] theorem Tryz.cof15 : Tryz.prog.cellsOf 15 = 1 := by kernel_rfl
@[go_sem] theorem Tryz.kind16 : kindT Tryz.prog 16 = some none := by kernel_rfl
@[go_sem] theorem Tryz.elem16 : elemT Tryz.prog 16 = none := by kernel_rfl
@[go_sem] theorem Tryz.cof16 : Tryz.prog.cellsOf 16 = 1 := by kernel_rfl
@[go_sem] theorem Tryz.kind17 : kindT Tryz.prog 17 = some none := by kernel_rfl
@[go_sem] theorem Tryz.elem17 : elemT Tryz.prog 17 = none := by kernel_rfl
@[go_sem] theorem Tryz.cof17 : Tryz.prog.cellsOf 17 = 1 := by kernel_rfl
@[go_sem] theorem Tryz.kind18 : kindT Tryz.prog 18 = some (some 1) := by kernel_rfl
@[go_sem] theorem Tryz.fld18_0 : fldT Tryz.prog 18 0 = some 0 := by kernel_rfl
@[go_sem] theorem Tryz.fl118_0 : fld1T Tryz.prog 18 0 = some 0 := by kernel_rfl
@[go_sem] theorem Tryz.pl18_0 : plT Tryz.prog 18 0 = some 0 := by kernel_rfl
@[go_sem] theorem Tryz.plk18 : plOk Tryz.prog 18 = true := by kernel_rfl
@[go_sem] theorem Tryz.cof18 : Tryz.prog.cellsOf 18 = 1 := by kernel_rfl
@[go_sem] theorem Tryz.kind19 : kindT Tryz.prog 19 = some (some 1) := by kernel_rfl
@[go_sem] theorem Tryz.fld19_0 : fldT Tryz.prog 19 0 = some 0 := by kernel_rfl
@[go_sem] theorem Tryz.fl119_0 : fld1T Tryz.prog 19 0 = some 0 := by kernel_rfl
@[go_sem] theorem Tryz.pl19_0 : plT Tryz.prog 19 0 = some 0 := by kernel_rfl
@[go_sem] theorem Tryz.plk19 : plOk Tryz.prog 19 = true := by kernel_rfl
@[go_sem] theorem Tryz.cof19 : Tryz.prog.cellsOf 19 = 1 := by kernel_rfl
@[go_sem] theorem Tryz.kind21 : kindT Tryz.prog 21 = some none := by kernel_rfl
@[go_sem] theorem Tryz.info21 : infoT Tryz.prog 21 = some (1, 4, [.val (.int .i32 0)]) := by kernel_rfl
@[go_sem] theorem Tryz.cof21 : Tryz.prog.cellsOf 21 = 1 := by kernel_rfl
@[go_sem] theorem Tryz.und21 : Tryz.prog.underlying 21 = some (.int .i32) := by kernel_rfl
@[go_sem] theorem Tryz.kind22 : kindT Tryz.prog 22 = some none := by kernel_rfl
@[go_sem] theorem Tryz.elem22 : elemT Tryz.prog 22 = some 5 := by kernel_rfl
@[go_sem] theorem Tryz.info22 : infoT Tryz.prog 22 = some (1, 24, [.val (.slice none 0 0)]) := by kernel_rfl
@[go_sem] theorem Tryz.cof22 : Tryz.prog.cellsOf 22 = 1 := by kernel_rfl
theorem Tryz.und22 : Tryz.prog.underlying 22 = some (.slice 5) := by kernel_rfl
@[go_sem] theorem Tryz.kind23 : kindT Tryz.prog 23 = some none := by kernel_rfl
@[go_sem] theorem Tryz.cof23 : Tryz.prog.cellsOf 23 = 1 := by kernel_rfl
@[go_sem] theorem Tryz.kind24 : kindT Tryz.prog 24 = some none := by kernel_rfl
@[go_sem] theorem Tryz.elem24 : elemT Tryz.prog 24 = some 25 := by kernel_rfl
@[go_sem] theorem Tryz.info24 : infoT Tryz.prog 24 = some (1, 24, [.val (.slice none 0 0)]) := by kernel_rfl
@[go_sem] theorem Tryz.cof24 : Tryz.prog.cellsOf 24 = 1 := by kernel_rfl
theorem Tryz.und24 : Tryz.prog.underlying 24 = some (.slice 25) := by kernel_rfl
@[go_sem] theorem Tryz.kind25 : kindT Tryz.prog 25 = some none := by kernel_rfl
@[go_sem] theorem Tryz.elem25 : elemT Tryz.prog 25 = some 2 := by kernel_rfl
@[go_sem] theorem Tryz.info25 : infoT Tryz.prog 25 = some (1, 24, [.val (.slice none 0 0)]) := by kernel_rfl
@[go_sem] theorem Tryz.cof25 : Tryz.prog.cellsOf 25 = 1 := by kernel_rfl
theorem Tryz.und25 : Tryz.prog.underlying 25 = some (.slice 2) := by kernel_rfl
@[go_sem] theorem Tryz.kind26 : kindT Tryz.prog 26 = some (some 2) := by kernel_rfl
@[go_sem] theorem Tryz.fld26_0 : fldT Tryz.prog 26 0 = some 0 := by kernel_rfl
@[go_sem] theorem Tryz.fl126_0 : fld1T Tryz.prog 26 0 = some 0 := by kernel_rfl
@[go_sem] theorem Tryz.pl26_0 : plT Tryz.prog 26 0 = some 0 := by kernel_rfl
@[go_sem] theorem Tryz.fld26_1 : fldT Tryz.prog 26 1 = some 1 := by kernel_rfl
@[go_sem] theorem Tryz.fl126_1 : fld1T Tryz.prog 26 1 = some 1 := by kernel_rfl
@[go_sem] theorem Tryz.pl26_1 : plT Tryz.prog 26 1 = some 1 := by kernel_rfl
@[go_sem] theorem Tryz.plk26 : plOk Tryz.prog 26 = true := by kernel_rfl
@[go_sem] theorem Tryz.info26 : infoT Tryz.prog 26 = some (2, 48, [.val (.slice none 0 0), .val (.slice none 0 0)]) := by kernel_rfl
@[go_sem] theorem Tryz.cof26 : Tryz.prog.cellsOf 26 = 2 := by kernel_rfl
@[go_sem] theorem Tryz.kind27 : kindT Tryz.prog 27 = some (some 2) := by kernel_rfl
@[go_sem] theorem Tryz.fld27_0 : fldT Tryz.prog 27 0 = some 0 := by kernel_rfl
@[go_sem] theorem Tryz.fl127_0 : fld1T Tryz.prog 27 0 = some 0 := by kernel_rfl
@[go_sem] theorem Tryz.pl27_0 : plT Tryz.prog 27 0 = some 0 := by kernel_rfl
@[go_sem] theorem Tryz.fld27_1 : fldT Tryz.prog 27 1 = some 1 := by kernel_rfl
@[go_sem] theorem Tryz.fl127_1 : fld1T Tryz.prog 27 1 = some 1 := by kernel_rfl
@[go_sem] theorem Tryz.pl27_1 : plT Tryz.prog 27 1 = some 1 := by kernel_rfl
@[go_sem] theorem Tryz.plk27 : plOk Tryz.prog 27 = true := by kernel_rfl
@[go_sem] theorem Tryz.info27 : infoT Tryz.prog 27 = some (2, 48, [.val (.slice none 0 0), .val (.slice none 0 0)]) := by kernel_rfl
@[go_sem] theorem Tryz.cof27 : Tryz.prog.cellsOf 27 = 2 := by kernel_rfl
@[go_sem] theorem Tryz.kind28 : kindT Tryz.prog 28 = some none := by kernel_rfl
@[go_sem] theorem Tryz.elem28 : elemT Tryz.prog 28 = some 88 := by kernel_rfl
@[go_sem] theorem Tryz.info28 : infoT Tryz.prog 28 = some (1, 24, [.val (.slice none 0 0)]) := by kernel_rfl
@[go_sem] theorem Tryz.cof28 : Tryz.prog.cellsOf 28 = 1 := by kernel_rfl
theorem Tryz.und28 : Tryz.prog.underlying 28 = some (.slice 88) := by kernel_rfl
@[go_sem] theorem Tryz.kind29 : kindT Tryz.prog 29 = some (some 2) := by kernel_rfl
@[go_sem] theorem Tryz.fld29_0 : fldT Tryz.prog 29 0 = some 0 := by kernel_rfl
@[go_sem] theorem Tryz.fl129_0 : fld1T Tryz.prog 29 0 = some 0 := by kernel_rfl
@[go_sem] theorem Tryz.pl29_0 : plT Tryz.prog 29 0 = some 0 := by kernel_rfl
@[go_sem] theorem Tryz.fld29_1 : fldT Tryz.prog 29 1 = some 1 := by kernel_rfl
@[go_sem] theorem Tryz.fl129_1 : fld1T Tryz.prog 29 1 = some 1 := by kernel_rfl
@[go_sem] theorem Tryz.pl29_1 : plT Tryz.prog 29 1 = some 1 := by kernel_rfl
@[go_sem] theorem Tryz.plk29 : plOk Tryz.prog 29 = true := by kernel_rfl
@[go_sem] theorem Tryz.info29 : infoT Tryz.prog 29 = some (2, 32, [.val (.int .i64 0), .val (.slice none 0 0)]) := by kernel_rfl
@[go_sem] theorem Tryz.cof29 : Tryz.prog.cellsOf 29 = 2 := by kernel_rfl
@[go_sem] theorem Tryz.kind30 : kindT Tryz.prog 30 = some (some 2) := by kernel_rfl
@[go_sem] theorem Tryz.fld30_0 : fldT Tryz.prog 30 0 = some 0 := by kernel_rfl
@[go_sem] theorem Tryz.fl130_0 : fld1T Tryz.prog 30 0 = some 0 := by kernel_rfl
@[go_sem] theorem Tryz.pl30_0 : plT Tryz.prog 30 0 = some 0 := by kernel_rfl
@[go_sem] theorem Tryz.fld30_1 : fldT Tryz.prog 30 1 = some 1 := by kernel_rfl
@[go_sem] theorem Tryz.fl130_1 : fld1T Tryz.prog 30 1 = some 1 := by kernel_rfl
@[go_sem] theorem Tryz.pl30_1 : plT Tryz.prog 30 1 = some 1 := by kernel_rfl
@[go_sem] theorem Tryz.plk30 : plOk Tryz.prog 30 = true := by kernel_rfl
@[go_sem] theorem Tryz.info30 : infoT Tryz.prog 30 = some (2, 32, [.val (.int .i64 0), .val (.slice none 0 0)]) := by kernel_rfl
@[go_sem] theorem Tryz.cof30 : Tryz.prog.cellsOf 30 = 2 := by kernel_rfl
@[go_sem] theorem Tryz.kind32 : kindT Tryz.prog 32 = some none := by kernel_rfl
@[go_sem] theorem Tryz.cof32 : Tryz.prog.cellsOf 32 = 1 := by kernel_rfl
@[go_sem] theorem Tryz.kind33 : kindT Tryz.prog 33 = some none := by kernel_rfl
@[go_sem] theorem Tryz.elem33 : elemT Tryz.prog 33 = some 24 := by kernel_rfl
@[go_sem] theorem Tryz.info33 : infoT Tryz.prog 33 = some (1, 24, [.val (.slice none 0 0)]) := by kernel_rfl
@[go_sem] theorem Tryz.cof33 : Tryz.prog.cellsOf 33 = 1 := by kernel_rfl
theorem Tryz.und33 : Tryz.prog.underlying 33 = some (.slice 24) := by kernel_rfl
@[go_sem] theorem Tryz.kind35 : kindT Tryz.prog 35 = some none := by kernel_rfl
@[go_sem] theorem Tryz.cof35 : Tryz.prog.cellsOf 35 = 1 := by kernel_rfl
@[go_sem] theorem Tryz.kind36 : kindT Tryz.prog 36 = some none := by kernel_rfl
@[go_sem] theorem Tryz.cof36 : Tryz.prog.cellsOf 36 = 1 := by kernel_rfl
@[go_sem] theorem Tryz.kind38 : kindT Tryz.prog 38 = some none := by kernel_rfl
@[go_sem] theorem Tryz.cof38 : Tryz.prog.cellsOf 38 = 1 := by kernel_rfl
@[go_sem] theorem Tryz.kind40 : kindT Tryz.prog 40 = some none := by kernel_rfl
@[go_sem] theorem Tryz.cof40 : Tryz.prog.cellsOf 40 = 1 := by kernel_rfl
@[go_sem] theorem Tryz.kind41 : kindT Tryz.prog 41 = some none := by kernel_rfl
@[go_sem] theorem Tryz.cof41 : Tryz.prog.cellsOf 41 = 1 := by kernel_rfl
@[go_sem] theorem Tryz.kind42 : kindT Tryz.prog 42 = some none := by kernel_rfl
@[go_sem] theorem Tryz.cof42 : Tryz.prog.cellsOf 42 = 1 := by kernel_rfl
@[go_sem] theorem Tryz.kind43 : kindT Tryz.prog 43 = some none := by kernel_rfl
@[go_sem] theorem Tryz.cof43 : Tryz.prog.cellsOf 43 = 1 := by kernel_rfl
@[go_sem] theorem Tryz.kind45 : kindT Tryz.prog 45 = some none := by kernel_rfl
@[go_sem] theorem Tryz.cof45 : Tryz.prog.cellsOf 45 = 1 := by kernel_rfl
@[go_sem] theorem Tryz.kind47 : kindT Tryz.prog 47 = some none := by kernel_rfl
@[go_sem] theorem Tryz.cof47 : Tryz.prog.cellsOf 47 = 1 := by kernel_rfl
@[go_sem] theorem Tryz.kind48 : kindT Tryz.prog 48 = some none := by kernel_rfl
@[go_sem] theorem Tryz.cof48 : Tryz.prog.cellsOf 48 = 1 := by kernel_rfl
@[go_sem] theorem Tryz.kind49 : kindT Tryz.prog 49 = some none := by kernel_rfl
@[go_sem] theorem Tryz.elem49 : elemT Tryz.prog 49 = none := by kernel_rfl
@[go_sem] theorem Tryz.cof49 : Tryz.prog.cellsOf 49 = 1 := by kernel_rfl
@[go_sem] theorem Tryz.kind50 : kindT Tryz.prog 50 = some none := by kernel_rfl
@[go_sem] theorem Tryz.cof50 : Tryz.prog.cellsOf 50 = 1 := by kernel_rfl
@[go_sem] theorem Tryz.kind51 : kindT Tryz.prog 51 = some none := by kernel_rfl
@[go_sem] theorem Tryz.info51 : infoT Tryz.prog 51 = some (1, 8, [.val (.int .u64 0)]) := by kernel_rfl
@[go_sem] theorem Tryz.cof51 : Tryz.prog.cellsOf 51 = 1 := by kernel_rfl
@[go_sem] theorem Tryz.und51 : Tryz.prog.underlying 51 = some (.int .u64) := by kernel_rfl
@[go_sem] theorem Tryz.kind52 : kindT Tryz.prog 52 = some none := by kernel_rfl
@[go_sem] theorem Tryz.cof52 : Tryz.prog.cellsOf 52 = 1 := by kernel_rfl
@[go_sem] theorem Tryz.kind53 : kindT Tryz.prog 53 = some none := by kernel_rfl
@[go_sem] theorem Tryz.cof53 : Tryz.prog.cellsOf 53 = 1 := by kernel_rfl
@[go_sem] theorem Tryz.kind54 : kindT Tryz.prog 54 = some none := by kernel_rfl
@[go_sem] theorem Tryz.cof54 : Tryz.prog.cellsOf 54 = 1 := by kernel_rfl
@[go_sem] theorem Tryz.kind55 : kindT Tryz.prog 55 = some none := by kernel_rfl
@[go_sem] theorem Tryz.cof55 : Tryz.prog.cellsOf 55 = 1 := by kernel_rfl
@[go_sem] theorem Tryz.kind56 : kindT Tryz.prog 56 = some none := by kernel_rfl
@[go_sem] theorem Tryz.cof56 : Tryz.prog.cellsOf 56 = 1 := by kernel_rfl
@[go_sem] theorem Tryz.kind58 : kindT Tryz.prog 58 = some none := by kernel_rfl
@[go_sem] theorem Tryz.cof58 : Tryz.prog.cellsOf 58 = 1 := by kernel_rfl
@[go_sem] theorem Tryz.kind60 : kindT Tryz.prog 60 = some none := by kernel_rfl
@[go_sem] theorem Tryz.cof60 : Tryz.prog.cellsOf 60 = 1 := by kernel_rfl
@[go_sem] theorem Tryz.kind61 : kindT Tryz.prog 61 = some none := by kernel_rfl
@[go_sem] theorem Tryz.cof61 : Tryz.prog.cellsOf 61 = 1 := by kernel_rfl
@[go_sem] theorem Tryz.kind62 : kindT Tryz.prog 62 = some none := by kernel_rfl
@[go_sem] theorem Tryz.cof62 : Tryz.prog.cellsOf 62 = 1 := by kernel_rfl
@[go_sem] theorem Tryz.kind63 : kindT Tryz.prog 63 = some none := by kernel_rfl
@[go_sem] theorem Tryz.elem63 : elemT Tryz.prog 63 = none := by kernel_rfl
@[go_sem] theorem Tryz.cof63 : Tryz.prog.cellsOf 63 = 1 := by kernel_rfl
@[go_sem] theorem Tryz.kind65 : kindT Tryz.prog 65 = some none := by kernel_rfl
@[go_sem] theorem Tryz.cof65 : Tryz.prog.cellsOf 65 = 1 := by kernel_rfl
@[go_sem] theorem Tryz.kind66 : kindT Tryz.prog 66 = some none := by kernel_rfl
@[go_sem] theorem Tryz.cof66 : Tryz.prog.cellsOf 66 = 1 := by kernel_rfl
@[go_sem] theorem Tryz.kind67 : kindT Tryz.prog 67 = some none := by kernel_rfl
@[go_sem] theorem Tryz.cof67 : Tryz.prog.cellsOf 67 = 1 := by kernel_rfl
@[go_sem] theorem Tryz.kind68 : kindT Tryz.prog 68 = some none := by kernel_rfl
@[go_sem] theorem Tryz.elem68 : elemT Tryz.prog 68 = some 83 := by kernel_rfl
@[go_sem] theorem Tryz.info68 : infoT Tryz.prog 68 = some (1, 24, [.val (.slice none 0 0)]) := by kernel_rfl
@[go_sem] theorem Tryz.cof68 : Tryz.prog.cellsOf 68 = 1 := by kernel_rfl
theorem Tryz.und68 : Tryz.prog.underlying 68 = some (.slice 83) := by kernel_rfl
@[go_sem] theorem Tryz.kind69 : kindT Tryz.prog 69 = some none := by kernel_rfl
@[go_sem] theorem Tryz.cof69 : Tryz.prog.cellsOf 69 = 1 := by kernel_rfl
@[go_sem] theorem Tryz.kind70 : kindT Tryz.prog 70 = some none := by kernel_rfl
@[go_sem] theorem Tryz.cof70 : Tryz.prog.cellsOf 70 = 1 := by kernel_rfl
@[go_sem] theorem Tryz.kind71 : kindT Tryz.prog 71 = some none := by kernel_rfl
@[go_sem] theorem Tryz.cof71 : Tryz.prog.cellsOf 71 = 1 := by kernel_rfl
@[go_sem] theorem Tryz.kind72 : kindT Tryz.prog 72 = some none := by kernel_rfl
@[go_sem] theorem Tryz.cof72 : Tryz.prog.cellsOf 72 = 1 := by kernel_rfl
@[go_sem] theorem Tryz.kind73 : kindT Tryz.prog 73 = some none := by kernel_rfl
@[go_sem] theorem Tryz.cof73 : Tryz.prog.cellsOf 73 = 1 := by kernel_rfl
@[go_sem] theorem Tryz.kind74 : kindT Tryz.prog 74 = some none := by kernel_rfl
@[go_sem] theorem Tryz.cof74 : Tryz.prog.cellsOf 74 = 1 := by kernel_rfl
@[go_sem] theorem Tryz.kind75 : kindT Tryz.prog 75 = some none := by kernel_rfl
@[go_sem] theorem Tryz.cof75 : Tryz.prog.cellsOf 75 = 1 := by kernel_rfl
@[go_sem] theorem Tryz.kind76 : kindT Tryz.prog 76 = some none := by kernel_rfl
@[go_sem] theorem Tryz.cof76 : Tryz.prog.cellsOf 76 = 1 := by kernel_rfl
@[go_sem] theorem Tryz.kind77 : kindT Tryz.prog 77 = some none := by kernel_rfl
@[go_sem] theorem Tryz.cof77 : Tryz.prog.cellsOf 77 = 1 := by kernel_rfl
@[go_sem] theorem Tryz.kind78 : kindT Tryz.prog 78 = some none := by kernel_rfl
@[go_sem] theorem Tryz.cof78 : Tryz.prog.cellsOf 78 = 1 := by kernel_rfl
@[go_sem] theorem Tryz.kind79 : kindT Tryz.prog 79 = some none := by kernel_rfl
@[go_sem] theorem Tryz.cof79 : Tryz.prog.cellsOf 79 = 1 := by kernel_rfl
@[go_sem] theorem Tryz.kind80 : kindT Tryz.prog 80 = some none := by kernel_rfl
@[go_sem] theorem Tryz.cof80 : Tryz.prog.cellsOf 80 = 1 := by kernel_rfl
@[go_sem] theorem Tryz.kind81 : kindT Tryz.prog 81 = some none := by kernel_rfl
@[go_sem] theorem Tryz.cof81 : Tryz.prog.cellsOf 81 = 1 := by kernel_rfl
@[go_sem] theorem Tryz.kind82 : kindT Tryz.prog 82 = some none := by kernel_rfl
@[go_sem] theorem Tryz.elem82 : elemT Tryz.prog 82 = none := by kernel_rfl
@[go_sem] theorem Tryz.map82 : mapT Tryz.prog 82 = true := by kernel_rfl
@[go_sem] theorem Tryz.ismap82 : isMapT Tryz.prog 82 = true := by kernel_rfl
@[go_sem] theorem Tryz.info82 : infoT Tryz.prog 82 = some (1, 8, [.val (.map none)]) := by kernel_rfl
@[go_sem] theorem Tryz.cof82 : Tryz.prog.cellsOf 82 = 1 := by kernel_rfl
@[go_sem] theorem Tryz.kind83 : kindT Tryz.prog 83 = some none := by kernel_rfl
@[go_sem] theorem Tryz.elem83 : elemT Tryz.prog 83 = none := by kernel_rfl
@[go_sem] theorem Tryz.map83 : mapT Tryz.prog 83 = true := by kernel_rfl
@[go_sem] theorem Tryz.ismap83 : isMapT Tryz.prog 83 = true := by kernel_rfl
@[go_sem] theorem Tryz.info83 : infoT Tryz.prog 83 = some (1, 8, [.val (.map none)]) := by kernel_rfl
@[go_sem] theorem Tryz.cof83 : Tryz.prog.cellsOf 83 = 1 := by kernel_rfl
@[go_sem] theorem Tryz.kind84 : kindT Tryz.prog 84 = some none := by kernel_rfl
@[go_sem] theorem Tryz.cof84 : Tryz.prog.cellsOf 84 = 1 := by kernel_rfl
@[go_sem] theorem Tryz.kind85 : kindT Tryz.prog 85 = some none := by kernel_rfl
@[go_sem] theorem Tryz.cof85 : Tryz.prog.cellsOf 85 = 1 := by kernel_rfl
@[go_sem] theorem Tryz.kind86 : kindT Tryz.prog 86 = some none := by kernel_rfl
@[go_sem] theorem Tryz.cof86 : Tryz.prog.cellsOf 86 = 1 := by kernel_rfl
@[go_sem] theorem Tryz.kind87 : kindT Tryz.prog 87 = some none := by kernel_rfl
@[go_sem] theorem Tryz.cof87 : Tryz.prog.cellsOf 87 = 1 := by kernel_rfl
@[go_sem] theorem Tryz.kind88 : kindT Tryz.prog 88 = some none := by kernel_rfl
@[go_sem] theorem Tryz.elem88 : elemT Tryz.prog 88 = some 93 := by kernel_rfl
@[go_sem] theorem Tryz.info88 : infoT Tryz.prog 88 = some (1, 24, [.val (.slice none 0 0)]) := by kernel_rfl
@[go_sem] theorem Tryz.cof88 : Tryz.prog.cellsOf 88 = 1 := by kernel_rfl
theorem Tryz.und88 : Tryz.prog.underlying 88 = some (.slice 93) := by kernel_rfl
@[go_sem] theorem Tryz.kind89 : kindT Tryz.prog 89 = some none := by kernel_rfl
@[go_sem] theorem Tryz.cof89 : Tryz.prog.cellsOf 89 = 1 := by kernel_rfl
@[go_sem] theorem Tryz.kind90 : kindT Tryz.prog 90 = some none := by kernel_rfl
@[go_sem] theorem Tryz.cof90 : Tryz.prog.cellsOf 90 = 1 := by kernel_rfl
@[go_sem] theorem Tryz.kind91 : kindT Tryz.prog 91 = some none := by kernel_rfl
@[go_sem] theorem Tryz.cof91 : Tryz.prog.cellsOf 91 = 1 := by kernel_rfl
@[go_sem] theorem Tryz.kind92 : kindT Tryz.prog 92 = some (some 2) := by kernel_rfl
@[go_sem] theorem Tryz.fld92_0 : fldT Tryz.prog 92 0 = some 0 := by kernel_rfl
@[go_sem] theorem Tryz.fl192_0 : fld1T Tryz.prog 92 0 = some 0 := by kernel_rfl
@[go_sem] theorem Tryz.pl92_0 : plT Tryz.prog 92 0 = some 0 := by kernel_rfl
@[go_sem] theorem Tryz.fld92_1 : fldT Tryz.prog 92 1 = some 1 := by kernel_rfl
@[go_sem] theorem Tryz.fl192_1 : fld1T Tryz.prog 92 1 = some 1 := by kernel_rfl
@[go_sem] theorem Tryz.pl92_1 : plT Tryz.prog 92 1 = some 1 := by kernel_rfl
@[go_sem] theorem Tryz.plk92 : plOk Tryz.prog 92 = true := by kernel_rfl
@[go_sem] theorem Tryz.info92 : infoT Tryz.prog 92 = some (2, 32, [.val (.int .i64 0), .val (.slice none 0 0)]) := by kernel_rfl
@[go_sem] theorem Tryz.cof92 : Tryz.prog.cellsOf 92 = 2 := by kernel_rfl
@[go_sem] theorem Tryz.kind93 : kindT Tryz.prog 93 = some (some 2) := by kernel_rfl
@[go_sem] theorem Tryz.fld93_0 : fldT Tryz.prog 93 0 = some 0 := by kernel_rfl
@[go_sem] theorem Tryz.fl193_0 : fld1T Tryz.prog 93 0 = some 0 := by kernel_rfl
@[go_sem] theorem Tryz.pl93_0 : plT Tryz.prog 93 0 = some 0 := by kernel_rfl
@[go_sem] theorem Tryz.fld93_1 : fldT Tryz.prog 93 1 = some 1 := by kernel_rfl
@[go_sem] theorem Tryz.fl193_1 : fld1T Tryz.prog 93 1 = some 1 := by kernel_rfl
@[go_sem] theorem Tryz.pl93_1 : plT Tryz.prog 93 1 = some 1 := by kernel_rfl
@[go_sem] theorem Tryz.plk93 : plOk Tryz.prog 93 = true := by kernel_rfl
@[go_sem] theorem Tryz.info93 : infoT Tryz.prog 93 = some (2, 32, [.val (.int .i64 0), .val (.slice none 0 0)]) := by kernel_rfl
@[go_sem] theorem Tryz.cof93 : Tryz.prog.cellsOf 93 = 2 := by kernel_rfl
@[go_sem] theorem Tryz.kind94 : kindT Tryz.prog 94 = some (some 3) := by kernel_rfl
@[go_sem] theorem Tryz.fld94_0 : fldT Tryz.prog 94 0 = some 0 := by kernel_rfl
@[go_sem] theorem Tryz.fl194_0 : fld1T Tryz.prog 94 0 = some 0 := by kernel_rfl
@[go_sem] theorem Tryz.pl94_0 : plT Tryz.prog 94 0 = some 0 := by kernel_rfl
@[go_sem] theorem Tryz.fld94_1 : fldT Tryz.prog 94 1 = some 1 := by kernel_rfl
@[go_sem] theorem Tryz.fl194_1 : fld1T Tryz.prog 94 1 = some 1 := by kernel_rfl
@[go_sem] theorem Tryz.pl94_1 : plT Tryz.prog 94 1 = some 1 := by kernel_rfl
@[go_sem] theorem Tryz.fld94_2 : fldT Tryz.prog 94 2 = some 2 := by kernel_rfl
@[go_sem] theorem Tryz.fl194_2 : fld1T Tryz.prog 94 2 = some 2 := by kernel_rfl
@[go_sem] theorem Tryz.pl94_2 : plT Tryz.prog 94 2 = some 2 := by kernel_rfl
@[go_sem] theorem Tryz.plk94 : plOk Tryz.prog 94 = true := by kernel_rfl
@[go_sem] theorem Tryz.info94 : infoT Tryz.prog 94 = some (3, 40, [.val (.slice none 0 0), .val (.int .i64 0), .val (.int .u64 0)]) := by kernel_rfl
@[go_sem] theorem Tryz.cof94 : Tryz.prog.cellsOf 94 = 3 := by kernel_rfl
@[go_sem] theorem Tryz.kind95 : kindT Tryz.prog 95 = some (some 3) := by kernel_rfl
@[go_sem] theorem Tryz.fld95_0 : fldT Tryz.prog 95 0 = some 0 := by kernel_rfl
@[go_sem] theorem Tryz.fl195_0 : fld1T Tryz.prog 95 0 = some 0 := by kernel_rfl
@[go_sem] theorem Tryz.pl95_0 : plT Tryz.prog 95 0 = some 0 := by kernel_rfl
@[go_sem] theorem Tryz.fld95_1 : fldT Tryz.prog 95 1 = some 1 := by kernel_rfl
@[go_sem] theorem Tryz.fl195_1 : fld1T Tryz.prog 95 1 = some 1 := by kernel_rfl
@[go_sem] theorem Tryz.pl95_1 : plT Tryz.prog 95 1 = some 1 := by kernel_rfl
@[go_sem] theorem Tryz.fld95_2 : fldT Tryz.prog 95 2 = some 2 := by kernel_rfl
@[go_sem] theorem Tryz.fl195_2 : fld1T Tryz.prog 95 2 = some 2 := by kernel_rfl
@[go_sem] theorem Tryz.pl95_2 : plT Tryz.prog 95 2 = some 2 := by kernel_rfl
@[go_sem] theorem Tryz.plk95 : plOk Tryz.prog 95 = true := by kernel_rfl
@[go_sem] theorem Tryz.info95 : infoT Tryz.prog 95 = some (3, 40, [.val (.slice none 0 0), .val (.int .i64 0), .val (.int .u64 0)]) := by kernel_rfl
@[go_sem] theorem Tryz.cof95 : Tryz.prog.cellsOf 95 = 3 := by kernel_rfl
@[go_sem] theorem Tryz.kind96 : kindT Tryz.prog 96 = some none := by kernel_rfl
@[go_sem] theorem Tryz.cof96 : Tryz.prog.cellsOf 96 = 1 := by kernel_rfl
@[go_sem] theorem Tryz.kind97 : kindT Tryz.prog 97 = some none := by kernel_rfl
@[go_sem] theorem Tryz.cof97 : Tryz.prog.cellsOf 97 = 1 := by kernel_rfl
@[go_sem] theorem Tryz.kind98 : kindT Tryz.prog 98 = some none := by kernel_rfl
@[go_sem] theorem Tryz.cof98 : Tryz.prog.cellsOf 98 = 1 := by kernel_rfl
@[go_sem] theorem Tryz.kind99 : kindT Tryz.prog 99 = some none := by kernel_rfl
@[go_sem] theorem Tryz.cof99 : Tryz.prog.cellsOf 99 = 1 := by kernel_rfl
@[go_sem] theorem Tryz.kind100 : kindT Tryz.prog 100 = some none := by kernel_rfl
@[go_sem] theorem Tryz.cof100 : Tryz.prog.cellsOf 100 = 1 := by kernel_rfl
@[go_sem] theorem Tryz.kind102 : kindT Tryz.prog 102 = some none := by kernel_rfl
@[go_sem] theorem Tryz.cof102 : Tryz.prog.cellsOf 102 = 1 := by kernel_rfl
@[go_sem] theorem Tryz.kind103 : kindT Tryz.prog 103 = some none := by kernel_rfl
@[go_sem] theorem Tryz.cof103 : Tryz.prog.cellsOf 103 = 1 := by kernel_rfl
@[go_sem] theorem Tryz.kind104 : kindT Tryz.prog 104 = some none := by kernel_rfl
@[go_sem] theorem Tryz.cof104 : Tryz.prog.cellsOf 104 = 1 := by kernel_rfl
@[go_sem] theorem Tryz.kind105 : kindT Tryz.prog 105 = some none := by kernel_rfl
@[go_sem] theorem Tryz.cof105 : Tryz.prog.cellsOf 105 = 1 := by kernel_rfl
@[go_sem] theorem Tryz.kind106 : kindT Tryz.prog 106 = some none := by kernel_rfl
@[go_sem] theorem Tryz.cof106 : Tryz.prog.cellsOf 106 = 1 := by kernel_rfl
@[go_sem] theorem Tryz.kind107 : kindT Tryz.prog 107 = some none := by kernel_rfl
@[go_sem] theorem Tryz.info107 : infoT Tryz.prog 107 = some (1, 8, [.val (.int .u64 0)]) := by kernel_rfl
@[go_sem] theorem Tryz.cof107 : Tryz.prog.cellsOf 107 = 1 := by kernel_rfl
@[go_sem] theorem Tryz.und107 : Tryz.prog.underlying 107 = some (.int .u64) := by kernel_rfl
@[go_sem] theorem Tryz.kind108 : kindT Tryz.prog 108 = some none := by kernel_rfl
@[go_sem] theorem Tryz.cof108 : Tryz.prog.cellsOf 108 = 1 := by kernel_rfl
@[go_sem] theorem Tryz.kind109 : kindT Tryz.prog 109 = some none := by kernel_rfl
@[go_sem] theorem Tryz.cof109 : Tryz.prog.cellsOf 109 = 1 := by kernel_rfl
@[go_sem] theorem Tryz.kind110 : kindT Tryz.prog 110 = some none := by kernel_rfl
@[go_sem] theorem Tryz.cof110 : Tryz.prog.cellsOf 110 = 1 := by kernel_rfl
@[go_sem] theorem Tryz.kind111 : kindT Tryz.prog 111 = some none := by kernel_rfl
@[go_sem] theorem Tryz.cof111 : Tryz.prog.cellsOf 111 = 1 := by kernel_rfl
@[go_sem] theorem Tryz.kind112 : kindT Tryz.prog 112 = some none := by kernel_rfl
@[go_sem] theorem Tryz.cof112 : Tryz.prog.cellsOf 112 = 1 := by kernel_rfl
@[go_sem] theorem Tryz.kind113 : kindT Tryz.prog 113 = some none := by kernel_rfl
@[go_sem] theorem Tryz.cof113 : Tryz.prog.cellsOf 113 = 1 := by kernel_rfl
@[go_sem] theorem Tryz.kind114 : kindT Tryz.prog 114 = some none := by kernel_rfl
@[go_sem] theorem Tryz.cof114 : Tryz.prog.cellsOf 114 = 1 := by kernel_rfl
@[go_sem] theorem Tryz.kind115 : kindT Tryz.prog 115 = some none := by kernel_rfl
@[go_sem] theorem Tryz.cof115 : Tryz.prog.cellsOf 115 = 1 := by kernel_rfl
@[go_sem] theorem Tryz.kind116 : kindT Tryz.prog 116 = some none := by kernel_rfl
@[go_sem] theorem Tryz.cof116 : Tryz.prog.cellsOf 116 = 1 := by kernel_rfl
@[go_sem] theorem Tryz.kind117 : kindT Tryz.prog 117 = some none := by kernel_rfl
@[go_sem] theorem Tryz.cof117 : Tryz.prog.cellsOf 117 = 1 := by kernel_rfl
@[go_sem] theorem Tryz.kind118 : kindT Tryz.prog 118 = some none := by kernel_rfl
@[go_sem] theorem Tryz.cof118 : Tryz.prog.cellsOf 118 = 1 := by kernel_rfl
@[go_sem] theorem Tryz.kind119 : kindT Tryz.prog 119 = some (some 3) := by kernel_rfl
@[go_sem] theorem Tryz.fld119_0 : fldT Tryz.prog 119 0 = some 0 := by kernel_rfl
@[go_sem] theorem Tryz.fl1119_0 : fld1T Tryz.prog 119 0 = some 0 := by kernel_rfl
@[go_sem] theorem Tryz.pl119_0 : plT Tryz.prog 119 0 = some 0 := by kernel_rfl
@[go_sem] theorem Tryz.fld119_1 : fldT Tryz.prog 119 1 = some 1 := by kernel_rfl
@[go_sem] theorem Tryz.fl1119_1 : fld1T Tryz.prog 119 1 = some 1 := by kernel_rfl
@[go_sem] theorem Tryz.pl119_1 : plT Tryz.prog 119 1 = some 1 := by kernel_rfl
@[go_sem] theorem Tryz.fld119_2 : fldT Tryz.prog 119 2 = some 2 := by kernel_rfl
@[go_sem] theorem Tryz.fl1119_2 : fld1T Tryz.prog 119 2 = some 2 := by kernel_rfl
@[go_sem] theorem Tryz.pl119_2 : plT Tryz.prog 119 2 = some 2 := by kernel_rfl
@[go_sem] theorem Tryz.plk119 : plOk Tryz.prog 119 = true := by kernel_rfl
@[go_sem] theorem Tryz.info119 : infoT Tryz.prog 119 = some (3, 40, [.val (.slice none 0 0), .val (.int .i64 0), .val (.int .u64 0)]) := by kernel_rfl
@[go_sem] theorem Tryz.cof119 : Tryz.prog.cellsOf 119 = 3 := by kernel_rfl
@[go_sem] theorem Tryz.kind120 : kindT Tryz.prog 120 = some (some 3) := by kernel_rfl
@[go_sem] theorem Tryz.fld120_0 : fldT Tryz.prog 120 0 = some 0 := by kernel_rfl
@[go_sem] theorem Tryz.fl1120_0 : fld1T Tryz.prog 120 0 = some 0 := by kernel_rfl
@[go_sem] theorem Tryz.pl120_0 : plT Tryz.prog 120 0 = some 0 := by kernel_rfl
@[go_sem] theorem Tryz.fld120_1 : fldT Tryz.prog 120 1 = some 1 := by kernel_rfl
@[go_sem] theorem Tryz.fl1120_1 : fld1T Tryz.prog 120 1 = some 1 := by kernel_rfl
@[go_sem] theorem Tryz.pl120_1 : plT Tryz.prog 120 1 = some 1 := by kernel_rfl
@[go_sem] theorem Tryz.fld120_2 : fldT Tryz.prog 120 2 = some 2 := by kernel_rfl
@[go_sem] theorem Tryz.fl1120_2 : fld1T Tryz.prog 120 2 = some 2 := by kernel_rfl
@[go_sem] theorem Tryz.pl120_2 : plT Tryz.prog 120 2 = some 2 := by kernel_rfl
@[go_sem] theorem Tryz.plk120 : plOk Tryz.prog 120 = true := by kernel_rfl
@[go_sem] theorem Tryz.info120 : infoT Tryz.prog 120 = some (3, 40, [.val (.slice none 0 0), .val (.int .i64 0), .val (.int .u64 0)]) := by kernel_rfl
@[go_sem] theorem Tryz.cof120 : Tryz.prog.cellsOf 120 = 3 := by kernel_rfl
@[go_sem] theorem Tryz.kind121 : kindT Tryz.prog 121 = some none := by kernel_rfl
@[go_sem] theorem Tryz.cof121 : Tryz.prog.cellsOf 121 = 1 := by kernel_rfl
@[go_sem] theorem Tryz.kind122 : kindT Tryz.prog 122 = some none := by kernel_rfl
@[go_sem] theorem Tryz.cof122 : Tryz.prog.cellsOf 122 = 1 := by kernel_rfl
@[go_sem] theorem Tryz.kind123 : kindT Tryz.prog 123 = some none := by kernel_rfl
@[go_sem] theorem Tryz.cof123 : Tryz.prog.cellsOf 123 = 1 := by kernel_rfl
@[go_sem] theorem Tryz.kind124 : kindT Tryz.prog 124 = some none := by kernel_rfl
@[go_sem] theorem Tryz.cof124 : Tryz.prog.cellsOf 124 = 1 := by kernel_rfl
@[go_sem] theorem Tryz.kind125 : kindT Tryz.prog 125 = some (some 3) := by kernel_rfl
@[go_sem] theorem Tryz.elem125 : elemT Tryz.prog 125 = none := by kernel_rfl
@[go_sem] theorem Tryz.arr125 : arrT Tryz.prog 125 = some (3, 1, true) := by kernel_rfl
@[go_sem] theorem Tryz.pl125_0 : plT Tryz.prog 125 0 = some 0 := by kernel_rfl
@[go_sem] theorem Tryz.pl125_1 : plT Tryz.prog 125 1 = some 1 := by kernel_rfl
@[go_sem] theorem Tryz.pl125_2 : plT Tryz.prog 125 2 = some 2 := by kernel_rfl
@[go_sem] theorem Tryz.plk125 : plOk Tryz.prog 125 = true := by kernel_rfl
@[go_sem] theorem Tryz.info125 : infoT Tryz.prog 125 = some (3, 24, [.val (.int .i64 0), .val (.int .i64 0), .val (.int .i64 0)]) := by kernel_rfl
@[go_sem] theorem Tryz.cof125 : Tryz.prog.cellsOf 125 = 3 := by kernel_rfl
@[go_sem] theorem Tryz.kind126 : kindT Tryz.prog 126 = some (some 3) := by kernel_rfl
@[go_sem] theorem Tryz.elem126 : elemT Tryz.prog 126 = none := by kernel_rfl
@[go_sem] theorem Tryz.arr126 : arrT Tryz.prog 126 = some (3, 1, true) := by kernel_rfl
@[go_sem] theorem Tryz.pl126_0 : plT Tryz.prog 126 0 = some 0 := by kernel_rfl
@[go_sem] theorem Tryz.pl126_1 : plT Tryz.prog 126 1 = some 1 := by kernel_rfl
@[go_sem] theorem Tryz.pl126_2 : plT Tryz.prog 126 2 = some 2 := by kernel_rfl
@[go_sem] theorem Tryz.plk126 : plOk Tryz.prog 126 = true := by kernel_rfl
@[go_sem] theorem Tryz.info126 : infoT Tryz.prog 126 = some (3, 24, [.val (.int .i64 0), .val (.int .i64 0), .val (.int .i64 0)]) := by kernel_rfl
@[go_sem] theorem Tryz.cof126 : Tryz.prog.cellsOf 126 = 3 := by kernel_rfl
@[go_sem] theorem Tryz.kind127 : kindT Tryz.prog 127 = some none := by kernel_rfl
@[go_sem] theorem Tryz.cof127 : Tryz.prog.cellsOf 127 = 1 := by kernel_rfl
@[go_sem] theorem Tryz.kind128 : kindT Tryz.prog 128 = some none := by kernel_rfl
@[go_sem] theorem Tryz.cof128 : Tryz.prog.cellsOf 128 = 1 := by kernel_rfl
@[go_sem] theorem Tryz.kind129 : kindT Tryz.prog 129 = some none := by kernel_rfl
@[go_sem] theorem Tryz.cof129 : Tryz.prog.cellsOf 129 = 1 := by kernel_rfl
@[go_sem] theorem Tryz.kind130 : kindT Tryz.prog 130 = some none := by kernel_rfl
@[go_sem] theorem Tryz.cof130 : Tryz.prog.cellsOf 130 = 1 := by kernel_rfl
@[go_sem] theorem Tryz.kind131 : kindT Tryz.prog 131 = some none := by kernel_rfl
@[go_sem] theorem Tryz.cof131 : Tryz.prog.cellsOf 131 = 1 := by kernel_rfl
@[go_sem] theorem Tryz.kind132 : kindT Tryz.prog 132 = some none := by kernel_rfl
@[go_sem] theorem Tryz.cof132 : Tryz.prog.cellsOf 132 = 1 := by kernel_rfl
@[go_sem] theorem Tryz.kind133 : kindT Tryz.prog 133 = some none := by kernel_rfl
@[go_sem] theorem Tryz.cof133 : Tryz.prog.cellsOf 133 = 1 := by kernel_rfl
@[go_sem] theorem Tryz.kind134 : kindT Tryz.prog 134 = some none := by kernel_rfl
@[go_sem] theorem Tryz.cof134 : Tryz.prog.cellsOf 134 = 1 := by kernel_rfl
@[go_sem] theorem Tryz.kind135 : kindT Tryz.prog 135 = some none := by kernel_rfl
@[go_sem] theorem Tryz.cof135 : Tryz.prog.cellsOf 135 = 1 := by kernel_rfl
@[go_sem] theorem Tryz.kind136 : kindT Tryz.prog 136 = some none := by kernel_rfl
@[go_sem] theorem Tryz.cof136 : Tryz.prog.cellsOf 136 = 1 := by kernel_rfl
@[go_sem] theorem Tryz.kind137 : kindT Tryz.prog 137 = some none := by kernel_rfl
@[go_sem] theorem Tryz.cof137 : Tryz.prog.cellsOf 137 = 1 := by kernel_rfl
@[go_sem] theorem Tryz.kind138 : kindT Tryz.prog 138 = some none := by kernel_rfl
@[go_sem] theorem Tryz.cof138 : Tryz.prog.cellsOf 138 = 1 := by kernel_rfl
@[go_sem] theorem Tryz.kind139 : kindT Tryz.prog 139 = some none := by kernel_rfl
@[go_sem] theorem Tryz.cof139 : Tryz.prog.cellsOf 139 = 1 := by kernel_rfl
@[go_sem] theorem Tryz.kind140 : kindT Tryz.prog 140 = some none := by kernel_rfl
@[go_sem] theorem Tryz.cof140 : Tryz.prog.cellsOf 140 = 1 := by kernel_rfl
@[go_sem] theorem Tryz.kind141 : kindT Tryz.prog 141 = some none := by kernel_rfl
@[go_sem] theorem Tryz.cof141 : Tryz.prog.cellsOf 141 = 1 := by kernel_rfl
@[go_sem] theorem Tryz.kind142 : kindT Tryz.prog 142 = some none := by kernel_rfl
@[go_sem] theorem Tryz.cof142 : Tryz.prog.cellsOf 142 = 1 := by kernel_rfl
@[go_sem] theorem Tryz.kind143 : kindT Tryz.prog 143 = some none := by kernel_rfl
@[go_sem] theorem Tryz.cof143 : Tryz.prog.cellsOf 143 = 1 := by kernel_rfl
@[go_sem] theorem Tryz.kind144 : kindT Tryz.prog 144 = some none := by kernel_rfl
@[go_sem] theorem Tryz.cof144 : Tryz.prog.cellsOf 144 = 1 := by kernel_rfl
@[go_sem] theorem Tryz.kind145 : kindT Tryz.prog 145 = some none := by kernel_rfl
@[go_sem] theorem Tryz.cof145 : Tryz.prog.cellsOf 145 = 1 := by kernel_rfl
@[go_sem] theorem Tryz.kind146 : kindT Tryz.prog 146 = some none := by kernel_rfl
@[go_sem] theorem Tryz.cof146 : Tryz.prog.cellsOf 146 = 1 := by kernel_rfl
@[go_sem] theorem Tryz.kind147 : kindT Tryz.prog 147 = some none := by kernel_rfl
@[go_sem] theorem Tryz.cof147 : Tryz.prog.cellsOf 147 = 1 := by kernel_rfl
@[go_sem] theorem Tryz.kind148 : kindT Tryz.prog 148 = some none := by kernel_rfl
@[go_sem] theorem Tryz.cof148 : Tryz.prog.cellsOf 148 = 1 := by kernel_rfl
@[go_sem] theorem Tryz.kind149 : kindT Tryz.prog 149 = some none := by kernel_rfl
@[go_sem] theorem Tryz.cof149 : Tryz.prog.cellsOf 149 = 1 := by kernel_rfl
@[go_sem] theorem Tryz.kind150 : kindT Tryz.prog 150 = some none := by kernel_rfl
@[go_sem] theorem Tryz.cof150 : Tryz.prog.cellsOf 150 = 1 := by kernel_rfl
@[go_sem] theorem Tryz.kind151 : kindT Tryz.prog 151 = some none := by kernel_rfl
@[go_sem] theorem Tryz.elem151 : elemT Tryz.prog 151 = some 9 := by kernel_rfl
@[go_sem] theorem Tryz.info151 : infoT Tryz.prog 151 = some (1, 24, [.val (.slice none 0 0)]) := by kernel_rfl
@[go_sem] theorem Tryz.cof151 : Tryz.prog.cellsOf 151 = 1 := by kernel_rfl
theorem Tryz.und151 : Tryz.prog.underlying 151 = some (.slice 9) := by kernel_rfl
@[go_sem] theorem Tryz.kind152 : kindT Tryz.prog 152 = some none := by kernel_rfl
@[go_sem] theorem Tryz.cof152 : Tryz.prog.cellsOf 152 = 1 := by kernel_rfl
@[go_sem] theorem Tryz.kind153 : kindT Tryz.prog 153 = some none := by kernel_rfl
@[go_sem] theorem Tryz.cof153 : Tryz.prog.cellsOf 153 = 1 := by kernel_rfl
@[go_sem] theorem Tryz.kind154 : kindT Tryz.prog 154 = some none := by kernel_rfl
@[go_sem] theorem Tryz.cof154 : Tryz.prog.cellsOf 154 = 1 := by kernel_rfl
@[go_sem] theorem Tryz.kind155 : kindT Tryz.prog 155 = some none := by kernel_rfl
@[go_sem] theorem Tryz.cof155 : Tryz.prog.cellsOf 155 = 1 := by kernel_rfl
@[go_sem] theorem Tryz.kind156 : kindT Tryz.prog 156 = some none := by kernel_rfl
@[go_sem] theorem Tryz.cof156 : Tryz.prog.cellsOf 156 = 1 := by kernel_rfl
@[go_sem] theorem Tryz.kind157 : kindT Tryz.prog 157 = some none := by kernel_rfl
@[go_sem] theorem Tryz.cof157 : Tryz.prog.cellsOf 157 = 1 := by kernel_rfl
@[go_sem] theorem Tryz.kind159 : kindT Tryz.prog 159 = some none := by kernel_rfl
@[go_sem] theorem Tryz.cof159 : Tryz.prog.cellsOf 159 = 1 := by kernel_rfl
@[go_sem] theorem Tryz.kind160 : kindT Tryz.prog 160 = some none := by kernel_rfl
@[go_sem] theorem Tryz.elem160 : elemT Tryz.prog 160 = some 4 := by kernel_rfl
@[go_sem] theorem Tryz.info160 : infoT Tryz.prog 160 = some (1, 24, [.val (.slice none 0 0)]) := by kernel_rfl
@[go_sem] theorem Tryz.cof160 : Tryz.prog.cellsOf 160 = 1 := by kernel_rfl
theorem Tryz.und160 : Tryz.prog.underlying 160 = some (.slice 4) := by kernel_rfl
@[go_sem] theorem Tryz.kind161 : kindT Tryz.prog 161 = some none := by kernel_rfl
@[go_sem] theorem Tryz.cof161 : Tryz.prog.cellsOf 161 = 1 := by kernel_rfl
@[go_sem] theorem Tryz.kind162 : kindT Tryz.prog 162 = some none := by kernel_rfl
@[go_sem] theorem Tryz.cof162 : Tryz.prog.cellsOf 162 = 1 := by kernel_rfl
@[go_sem] theorem Tryz.kind163 : kindT Tryz.prog 163 = some none := by kernel_rfl
@[go_sem] theorem Tryz.cof163 : Tryz.prog.cellsOf 163 = 1 := by kernel_rfl
@[go_sem] theorem Tryz.kind164 : kindT Tryz.prog 164 = some none := by kernel_rfl
@[go_sem] theorem Tryz.cof164 : Tryz.prog.cellsOf 164 = 1 := by kernel_rfl
@[go_sem] theorem Tryz.kind165 : kindT Tryz.prog 165 = some none := by kernel_rfl
@[go_sem] theorem Tryz.cof165 : Tryz.prog.cellsOf 165 = 1 := by kernel_rfl
@[go_sem] theorem Tryz.kind166 : kindT Tryz.prog 166 = some none := by kernel_rfl
@[go_sem] theorem Tryz.cof166 : Tryz.prog.cellsOf 166 = 1 := by kernel_rfl
@[go_sem] theorem Tryz.kind167 : kindT Tryz.prog 167 = some none := by kernel_rfl
@[go_sem] theorem Tryz.cof167 : Tryz.prog.cellsOf 167 = 1 := by kernel_rfl
@[go_sem] theorem Tryz.kind168 : kindT Tryz.prog 168 = some none := by kernel_rfl
@[go_sem] theorem Tryz.cof168 : Tryz.prog.cellsOf 168 = 1 := by kernel_rfl
@[go_sem] theorem Tryz.kind169 : kindT Tryz.prog 169 = some none := by kernel_rfl
@[go_sem] theorem Tryz.cof169 : Tryz.prog.cellsOf 169 = 1 := by kernel_rfl
@[go_sem] theorem Tryz.kind170 : kindT Tryz.prog 170 = some none := by kernel_rfl
@[go_sem] theorem Tryz.cof170 : Tryz.prog.cellsOf 170 = 1 := by kernel_rfl
@[go_sem] theorem Tryz.kind171 : kindT Tryz.prog 171 = some none := by kernel_rfl
@[go_sem] theorem Tryz.cof171 : Tryz.prog.cellsOf 171 = 1 := by kernel_rfl
@[go_sem] theorem Tryz.kind172 : kindT Tryz.prog 172 = some none := by kernel_rfl
@[go_sem] theorem Tryz.cof172 : Tryz.prog.cellsOf 172 = 1 := by kernel_rfl
@[go_sem] theorem Tryz.kind173 : kindT Tryz.prog 173 = some none := by kernel_rfl
@[go_sem] theorem Tryz.cof173 : Tryz.prog.cellsOf 173 = 1 := by kernel_rfl
@[go_sem] theorem Tryz.kind174 : kindT Tryz.prog 174 = some none := by kernel_rfl
@[go_sem] theorem Tryz.cof174 : Tryz.prog.cellsOf 174 = 1 := by kernel_rfl
@[go_sem] theorem Tryz.kind175 : kindT Tryz.prog 175 = some none := by kernel_rfl
@[go_sem] theorem Tryz.cof175 : Tryz.prog.cellsOf 175 = 1 := by kernel_rfl
@[go_sem] theorem Tryz.kind176 : kindT Tryz.prog 176 = some none := by kernel_rfl
@[go_sem] theorem Tryz.cof176 : Tryz.prog.cellsOf 176 = 1 := by kernel_rfl
@[go_sem] theorem Tryz.kind177 : kindT Tryz.prog 177 = some none := by kernel_rfl
@[go_sem] theorem Tryz.cof177 : Tryz.prog.cellsOf 177 = 1 := by kernel_rfl
@[go_sem] theorem Tryz.kind178 : kindT Tryz.prog 178 = some none := by kernel_rfl
@[go_sem] theorem Tryz.cof178 : Tryz.prog.cellsOf 178 = 1 := by kernel_rfl
@[go_sem] theorem Tryz.kind179 : kindT Tryz.prog 179 = some none := by kernel_rfl
@[go_sem] theorem Tryz.cof179 : Tryz.prog.cellsOf 179 = 1 := by kernel_rfl
@[go_sem] theorem Tryz.kind180 : kindT Tryz.prog 180 = some none := by kernel_rfl
@[go_sem] theorem Tryz.info180 : infoT Tryz.prog 180 = some (1, 8, [.val (.int .i64 0)]) := by kernel_rfl
@[go_sem] theorem Tryz.cof180 : Tryz.prog.cellsOf 180 = 1 := by kernel_rfl
@[go_sem] theorem Tryz.und180 : Tryz.prog.underlying 180 = some (.int .i64) := by kernel_rfl
@[go_sem] theorem Tryz.kind182 : kindT Tryz.prog 182 = some none := by kernel_rfl
@[go_sem] theorem Tryz.cof182 : Tryz.prog.cellsOf 182 = 1 := by kernel_rfl
@[go_sem] theorem Tryz.kind183 : kindT Tryz.prog 183 = some none := by kernel_rfl
@[go_sem] theorem Tryz.cof183 : Tryz.prog.cellsOf 183 = 1 := by kernel_rfl
@[go_sem] theorem Tryz.kind184 : kindT Tryz.prog 184 = some none := by kernel_rfl
@[go_sem] theorem Tryz.cof184 : Tryz.prog.cellsOf 184 = 1 := by kernel_rfl
@[go_sem] theorem Tryz.kind186 : kindT Tryz.prog 186 = some none := by kernel_rfl
@[go_sem] theorem Tryz.cof186 : Tryz.prog.cellsOf 186 = 1 := by kernel_rfl
@[go_sem] theorem Tryz.kind187 : kindT Tryz.prog 187 = some none := by kernel_rfl
@[go_sem] theorem Tryz.cof187 : Tryz.prog.cellsOf 187 = 1 := by kernel_rfl
@[go_sem] theorem Tryz.kind188 : kindT Tryz.prog 188 = some none := by kernel_rfl
@[go_sem] theorem Tryz.info188 : infoT Tryz.prog 188 = some (1, 4, [.val (.int .u32 0)]) := by kernel_rfl
@[go_sem] theorem Tryz.cof188 : Tryz.prog.cellsOf 188 = 1 := by kernel_rfl
@[go_sem] theorem Tryz.und188 : Tryz.prog.underlying 188 = some (.int .u32) := by kernel_rfl
@[go_sem] theorem Tryz.kind189 : kindT Tryz.prog 189 = some none := by kernel_rfl
@[go_sem] theorem Tryz.cof189 : Tryz.prog.cellsOf 189 = 1 := by kernel_rfl
@[go_sem] theorem Tryz.kind190 : kindT Tryz.prog 190 = some none := by kernel_rfl
@[go_sem] theorem Tryz.cof190 : Tryz.prog.cellsOf 190 = 1 := by kernel_rfl
@[go_sem] theorem Tryz.kind191 : kindT Tryz.prog 191 = some none := by kernel_rfl
@[go_sem] theorem Tryz.cof191 : Tryz.prog.cellsOf 191 = 1 := by kernel_rfl
@[go_sem] theorem Tryz.kind192 : kindT Tryz.prog 192 = some none := by kernel_rfl
@[go_sem] theorem Tryz.info192 : infoT Tryz.prog 192 = some (1, 8, [.val (.int .u64 0)]) := by kernel_rfl
@[go_sem] theorem Tryz.cof192 : Tryz.prog.cellsOf 192 = 1 := by kernel_rfl
@[go_sem] theorem Tryz.und192 : Tryz.prog.underlying 192 = some (.int .u64) := by kernel_rfl
@[go_sem] theorem Tryz.kind193 : kindT Tryz.prog 193 = some none := by kernel_rfl
@[go_sem] theorem Tryz.cof193 : Tryz.prog.cellsOf 193 = 1 := by kernel_rfl
@[go_sem] theorem Tryz.kind194 : kindT Tryz.prog 194 = some none := by kernel_rfl
@[go_sem] theorem Tryz.cof194 : Tryz.prog.cellsOf 194 = 1 := by kernel_rfl
@[go_sem] theorem Tryz.kind195 : kindT Tryz.prog 195 = some none := by kernel_rfl
@[go_sem] theorem Tryz.cof195 : Tryz.prog.cellsOf 195 = 1 := by kernel_rfl
@[go_sem] theorem Tryz.kind196 : kindT Tryz.prog 196 = some none := by kernel_rfl
@[go_sem] theorem Tryz.elem196 : elemT Tryz.prog 196 = none := by kernel_rfl
@[go_sem] theorem Tryz.cof196 : Tryz.prog.cellsOf 196 = 1 := by kernel_rfl
@[go_sem] theorem Tryz.kind197 : kindT Tryz.prog 197 = some none := by kernel_rfl
@[go_sem] theorem Tryz.cof197 : Tryz.prog.cellsOf 197 = 1 := by kernel_rfl
@[go_sem] theorem Tryz.kind198 : kindT Tryz.prog 198 = some none := by kernel_rfl
@[go_sem] theorem Tryz.cof198 : Tryz.prog.cellsOf 198 = 1 := by kernel_rfl
@[go_sem] theorem Tryz.kind199 : kindT Tryz.prog 199 = some none := by kernel_rfl
@[go_sem] theorem Tryz.cof199 : Tryz.prog.cellsOf 199 = 1 := by kernel_rfl
@[go_sem] theorem Tryz.kind200 : kindT Tryz.prog 200 = some none := by kernel_rfl
@[go_sem] theorem Tryz.cof200 : Tryz.prog.cellsOf 200 = 1 := by kernel_rfl
@[go_sem] theorem Tryz.kind201 : kindT Tryz.prog 201 = some none := by kernel_rfl
@[go_sem] theorem Tryz.cof201 : Tryz.prog.cellsOf 201 = 1 := by kernel_rfl
@[go_sem] theorem Tryz.kind202 : kindT Tryz.prog 202 = some none := by kernel_rfl
@[go_sem] theorem Tryz.cof202 : Tryz.prog.cellsOf 202 = 1 := by kernel_rfl
@[go_sem] theorem Tryz.kind203 : kindT Tryz.prog 203 = some none := by kernel_rfl
@[go_sem] theorem Tryz.cof203 : Tryz.prog.cellsOf 203 = 1 := by kernel_rfl
@[go_sem] theorem Tryz.kind204 : kindT Tryz.prog 204 = some none := by kernel_rfl
@[go_sem] theorem Tryz.elem204 : elemT Tryz.prog 204 = none := by kernel_rfl
@[go_sem] theorem Tryz.cof204 : Tryz.prog.cellsOf 204 = 1 := by kernel_rfl
@[go_sem] theorem Tryz.kind206 : kindT Tryz.prog 206 = some none := by kernel_rfl
@[go_sem] theorem Tryz.cof206 : Tryz.prog.cellsOf 206 = 1 := by kernel_rfl
@[go_sem] theorem Tryz.kind207 : kindT Tryz.prog 207 = some none := by kernel_rfl
@[go_sem] theorem Tryz.cof207 : Tryz.prog.cellsOf 207 = 1 := by kernel_rfl
@[go_sem] theorem Tryz.kind208 : kindT Tryz.prog 208 = some none := by kernel_rfl
@[go_sem] theorem Tryz.cof208 : Tryz.prog.cellsOf 208 = 1 := by kernel_rfl
@[go_sem] theorem Tryz.kind209 : kindT Tryz.prog 209 = some none := by kernel_rfl
@[go_sem] theorem Tryz.cof209 : Tryz.prog.cellsOf 209 = 1 := by kernel_rfl
@[go_sem] theorem Tryz.kind210 : kindT Tryz.prog 210 = some none := by kernel_rfl
@[go_sem] theorem Tryz.cof210 : Tryz.prog.cellsOf 210 = 1 := by kernel_rfl
@[go_sem] theorem Tryz.kind211 : kindT Tryz.prog 211 = some (some 4) := by kernel_rfl
@[go_sem] theorem Tryz.fld211_0 : fldT Tryz.prog 211 0 = some 0 := by kernel_rfl
@[go_sem] theorem Tryz.fl1211_0 : fld1T Tryz.prog 211 0 = some 0 := by kernel_rfl
@[go_sem] theorem Tryz.pl211_0 : plT Tryz.prog 211 0 = some 0 := by kernel_rfl
@[go_sem] theorem Tryz.fld211_1 : fldT Tryz.prog 211 1 = some 1 := by kernel_rfl
@[go_sem] theorem Tryz.fl1211_1 : fld1T Tryz.prog 211 1 = some 1 := by kernel_rfl
@[go_sem] theorem Tryz.pl211_1 : plT Tryz.prog 211 1 = some 1 := by kernel_rfl
@[go_sem] theorem Tryz.fld211_2 : fldT Tryz.prog 211 2 = some 2 := by kernel_rfl
@[go_sem] theorem Tryz.fl1211_2 : fld1T Tryz.prog 211 2 = some 2 := by kernel_rfl
@[go_sem] theorem Tryz.pl211_2 : plT Tryz.prog 211 2 = some 2 := by kernel_rfl
@[go_sem] theorem Tryz.fld211_3 : fldT Tryz.prog 211 3 = some 3 := by kernel_rfl
@[go_sem] theorem Tryz.fl1211_3 : fld1T Tryz.prog 211 3 = some 3 := by kernel_rfl
@[go_sem] theorem Tryz.pl211_3 : plT Tryz.prog 211 3 = some 3 := by kernel_rfl
@[go_sem] theorem Tryz.plk211 : plOk Tryz.prog 211 = true := by kernel_rfl
@[go_sem] theorem Tryz.cof211 : Tryz.prog.cellsOf 211 = 4 := by kernel_rfl
@[go_sem] theorem Tryz.kind212 : kindT Tryz.prog 212 = some (some 4) := by kernel_rfl
@[go_sem] theorem Tryz.fld212_0 : fldT Tryz.prog 212 0 = some 0 := by kernel_rfl
@[go_sem] theorem Tryz.fl1212_0 : fld1T Tryz.prog 212 0 = some 0 := by kernel_rfl
@[go_sem] theorem Tryz.pl212_0 : plT Tryz.prog 212 0 = some 0 := by kernel_rfl
@[go_sem] theorem Tryz.fld212_1 : fldT Tryz.prog 212 1 = some 1 := by kernel_rfl
@[go_sem] theorem Tryz.fl1212_1 : fld1T Tryz.prog 212 1 = some 1 := by kernel_rfl
@[go_sem] theorem Tryz.pl212_1 : plT Tryz.prog 212 1 = some 1 := by kernel_rfl
@[go_sem] theorem Tryz.fld212_2 : fldT Tryz.prog 212 2 = some 2 := by kernel_rfl
@[go_sem] theorem Tryz.fl1212_2 : fld1T Tryz.prog 212 2 = some 2 := by kernel_rfl
@[go_sem] theorem Tryz.pl212_2 : plT Tryz.prog 212 2 = some 2 := by kernel_rfl
@[go_sem] theorem Tryz.fld212_3 : fldT Tryz.prog 212 3 = some 3 := by kernel_rfl
@[go_sem] theorem Tryz.fl1212_3 : fld1T Tryz.prog 212 3 = some 3 := by kernel_rfl
@[go_sem] theorem Tryz.pl212_3 : plT Tryz.prog 212 3 = some 3 := by kernel_rfl
@[go_sem] theorem Tryz.plk212 : plOk Tryz.prog 212 = true := by kernel_rfl
@[go_sem] theorem Tryz.cof212 : Tryz.prog.cellsOf 212 = 4 := by kernel_rfl
@[go_sem] theorem Tryz.kind213 : kindT Tryz.prog 213 = some (some 0) := by kernel_rfl
@[go_sem] theorem Tryz.elem213 : elemT Tryz.prog 213 = none := by kernel_rfl
@[go_sem] theorem Tryz.arr213 : arrT Tryz.prog 213 = some (0, 1, true) := by kernel_rfl
@[go_sem] theorem Tryz.plk213 : plOk Tryz.prog 213 = true := by kernel_rfl
@[go_sem] theorem Tryz.info213 : infoT Tryz.prog 213 = some (0, 0, []) := by kernel_rfl
@[go_sem] theorem Tryz.cof213 : Tryz.prog.cellsOf 213 = 0 := by kernel_rfl
@[go_sem] theorem Tryz.kind214 : kindT Tryz.prog 214 = some (some 0) := by kernel_rfl
@[go_sem] theorem Tryz.plk214 : plOk Tryz.prog 214 = true := by kernel_rfl
@[go_sem] theorem Tryz.info214 : infoT Tryz.prog 214 = some (0, 0, []) := by kernel_rfl
@[go_sem] theorem Tryz.cof214 : Tryz.prog.cellsOf 214 = 0 := by kernel_rfl
@[go_sem] theorem Tryz.kind215 : kindT Tryz.prog 215 = some (some 0) := by kernel_rfl
@[go_sem] theorem Tryz.plk215 : plOk Tryz.prog 215 = true := by kernel_rfl
@[go_sem] theorem Tryz.info215 : infoT Tryz.prog 215 = some (0, 0, []) := by kernel_rfl
@[go_sem] theorem Tryz.cof215 : Tryz.prog.cellsOf 215 = 0 := by kernel_rfl
@[go_sem] theorem Tryz.kind216 : kindT Tryz.prog 216 = some none := by kernel_rfl
@[go_sem] theorem Tryz.info216 : infoT Tryz.prog 216 = some (1, 1, [.val (.int .u8 0)]) := by kernel_rfl
@[go_sem] theorem Tryz.cof216 : Tryz.prog.cellsOf 216 = 1 := by kernel_rfl
@[go_sem] theorem Tryz.und216 : Tryz.prog.underlying 216 = some (.int .u8) := by kernel_rfl
@[go_sem] theorem Tryz.kind217 : kindT Tryz.prog 217 = some none := by kernel_rfl
@[go_sem] theorem Tryz.info217 : infoT Tryz.prog 217 = some (1, 1, [.val (.int .u8 0)]) := by kernel_rfl
@[go_sem] theorem Tryz.cof217 : Tryz.prog.cellsOf 217 = 1 := by kernel_rfl
@[go_sem] theorem Tryz.und217 : Tryz.prog.underlying 217 = some (.int .u8) := by kernel_rfl
@[go_sem] theorem Tryz.kind218 : kindT Tryz.prog 218 = some none := by kernel_rfl
@[go_sem] theorem Tryz.cof218 : Tryz.prog.cellsOf 218 = 1 := by kernel_rfl
@[go_sem] theorem Tryz.kind219 : kindT Tryz.prog 219 = some none := by kernel_rfl
@[go_sem] theorem Tryz.elem219 : elemT Tryz.prog 219 = none := by kernel_rfl
@[go_sem] theorem Tryz.cof219 : Tryz.prog.cellsOf 219 = 1 := by kernel_rfl
@[go_sem] theorem Tryz.kind220 : kindT Tryz.prog 220 = some none := by kernel_rfl
@[go_sem] theorem Tryz.info220 : infoT Tryz.prog 220 = some (1, 4, [.val (.int .i32 0)]) := by kernel_rfl
@[go_sem] theorem Tryz.cof220 : Tryz.prog.cellsOf 220 = 1 := by kernel_rfl
@[go_sem] theorem Tryz.und220 : Tryz.prog.underlying 220 = some (.int .i32) := by kernel_rfl
@[go_sem] theorem Tryz.kind221 : kindT Tryz.prog 221 = some none := by kernel_rfl
@[go_sem] theorem Tryz.info221 : infoT Tryz.prog 221 = some (1, 4, [.val (.int .i32 0)]) := by kernel_rfl
@[go_sem] theorem Tryz.cof221 : Tryz.prog.cellsOf 221 = 1 := by kernel_rfl
@[go_sem] theorem Tryz.und221 : Tryz.prog.underlying 221 = some (.int .i32) := by kernel_rfl
@[go_sem] theorem Tryz.kind222 : kindT Tryz.prog 222 = some (some 11) := by kernel_rfl
@[go_sem] theorem Tryz.fld222_0 : fldT Tryz.prog 222 0 = some 0 := by kernel_rfl
@[go_sem] theorem Tryz.fl1222_0 : fld1T Tryz.prog 222 0 = some 0 := by kernel_rfl
@[go_sem] theorem Tryz.pl222_0 : plT Tryz.prog 222 0 = some 0 := by kernel_rfl
@[go_sem] theorem Tryz.fld222_1 : fldT Tryz.prog 222 1 = some 1 := by kernel_rfl
@[go_sem] theorem Tryz.fl1222_1 : fld1T Tryz.prog 222 1 = some 1 := by kernel_rfl
@[go_sem] theorem Tryz.pl222_1 : plT Tryz.prog 222 1 = some 1 := by kernel_rfl
@[go_sem] theorem Tryz.fld222_2 : fldT Tryz.prog 222 2 = some 2 := by kernel_rfl
@[go_sem] theorem Tryz.fl1222_2 : fld1T Tryz.prog 222 2 = some 2 := by kernel_rfl
@[go_sem] theorem Tryz.pl222_2 : plT Tryz.prog 222 2 = some 2 := by kernel_rfl
@[go_sem] theorem Tryz.fld222_3 : fldT Tryz.prog 222 3 = some 3 := by kernel_rfl
@[go_sem] theorem Tryz.fl1222_3 : fld1T Tryz.prog 222 3 = some 3 := by kernel_rfl
@[go_sem] theorem Tryz.pl222_3 : plT Tryz.prog 222 3 = some 3 := by kernel_rfl
@[go_sem] theorem Tryz.fld222_4 : fldT Tryz.prog 222 4 = some 4 := by kernel_rfl
@[go_sem] theorem Tryz.fl1222_4 : fld1T Tryz.prog 222 4 = some 4 := by kernel_rfl
@[go_sem] theorem Tryz.pl222_4 : plT Tryz.prog 222 4 = some 4 := by kernel_rfl
@[go_sem] theorem Tryz.fld222_5 : fldT Tryz.prog 222 5 = some 5 := by kernel_rfl
@[go_sem] theorem Tryz.fl1222_5 : fld1T Tryz.prog 222 5 = some 5 := by kernel_rfl
@[go_sem] theorem Tryz.pl222_5 : plT Tryz.prog 222 5 = some 5 := by kernel_rfl
@[go_sem] theorem Tryz.fld222_6 : fldT Tryz.prog 222 6 = some 6 := by kernel_rfl
@[go_sem] theorem Tryz.fl1222_6 : fld1T Tryz.prog 222 6 = some 6 := by kernel_rfl
@[go_sem] theorem Tryz.pl222_6 : plT Tryz.prog 222 6 = some 6 := by kernel_rfl
@[go_sem] theorem Tryz.fld222_7 : fldT Tryz.prog 222 7 = some 7 := by kernel_rfl
@[go_sem] theorem Tryz.fl1222_7 : fld1T Tryz.prog 222 7 = some 7 := by kernel_rfl
@[go_sem] theorem Tryz.pl222_7 : plT Tryz.prog 222 7 = some 7 := by kernel_rfl
@[go_sem] theorem Tryz.fld222_8 : fldT Tryz.prog 222 8 = some 8 := by kernel_rfl
@[go_sem] theorem Tryz.fl1222_8 : fld1T Tryz.prog 222 8 = some 8 := by kernel_rfl
@[go_sem] theorem Tryz.pl222_8 : plT Tryz.prog 222 8 = some 8 := by kernel_rfl
@[go_sem] theorem Tryz.fld222_9 : fldT Tryz.prog 222 9 = some 9 := by kernel_rfl
@[go_sem] theorem Tryz.fl1222_9 : fld1T Tryz.prog 222 9 = some 9 := by kernel_rfl
@[go_sem] theorem Tryz.pl222_9 : plT Tryz.prog 222 9 = some 9 := by kernel_rfl
@[go_sem] theorem Tryz.fld222_10 : fldT Tryz.prog 222 10 = some 10 := by kernel_rfl
@[go_sem] theorem Tryz.fl1222_10 : fld1T Tryz.prog 222 10 = some 10 := by kernel_rfl
@[go_sem] theorem Tryz.pl222_10 : plT Tryz.prog 222 10 = some 10 := by kernel_rfl
@[go_sem] theorem Tryz.plk222 : plOk Tryz.prog 222 = true := by kernel_rfl
@[go_sem] theorem Tryz.cof222 : Tryz.prog.cellsOf 222 = 11 := by kernel_rfl
@[go_sem] theorem Tryz.kind223 : kindT Tryz.prog 223 = some (some 11) := by kernel_rfl
@[go_sem] theorem Tryz.fld223_0 : fldT Tryz.prog 223 0 = some 0 := by kernel_rfl
@[go_sem] theorem Tryz.fl1223_0 : fld1T Tryz.prog 223 0 = some 0 := by kernel_rfl
@[go_sem] theorem Tryz.pl223_0 : plT Tryz.prog 223 0 = some 0 := by kernel_rfl
@[go_sem] theorem Tryz.fld223_1 : fldT Tryz.prog 223 1 = some 1 := by kernel_rfl
@[go_sem] theorem Tryz.fl1223_1 : fld1T Tryz.prog 223 1 = some 1 := by kernel_rfl
@[go_sem] theorem Tryz.pl223_1 : plT Tryz.prog 223 1 = some 1 := by kernel_rfl
@[go_sem] theorem Tryz.fld223_2 : fldT Tryz.prog 223 2 = some 2 := by kernel_rfl
@[go_sem] theorem Tryz.fl1223_2 : fld1T Tryz.prog 223 2 = some 2 := by kernel_rfl
@[go_sem] theorem Tryz.pl223_2 : plT Tryz.prog 223 2 = some 2 := by kernel_rfl
@[go_sem] theorem Tryz.fld223_3 : fldT Tryz.prog 223 3 = some 3 := by kernel_rfl
@[go_sem] theorem Tryz.fl1223_3 : fld1T Tryz.prog 223 3 = some 3 := by kernel_rfl
@[go_sem] theorem Tryz.pl223_3 : plT Tryz.prog 223 3 = some 3 := by kernel_rfl
@[go_sem] theorem Tryz.fld223_4 : fldT Tryz.prog 223 4 = some 4 := by kernel_rfl
@[go_sem] theorem Tryz.fl1223_4 : fld1T Tryz.prog 223 4 = some 4 := by kernel_rfl
@[go_sem] theorem Tryz.pl223_4 : plT Tryz.prog 223 4 = some 4 := by kernel_rfl
@[go_sem] theorem Tryz.fld223_5 : fldT Tryz.prog 223 5 = some 5 := by kernel_rfl
@[go_sem] theorem Tryz.fl1223_5 : fld1T Tryz.prog 223 5 = some 5 := by kernel_rfl
@[go_sem] theorem Tryz.pl223_5 : plT Tryz.prog 223 5 = some 5 := by kernel_rfl
@[go_sem] theorem Tryz.fld223_6 : fldT Tryz.prog 223 6 = some 6 := by kernel_rfl
@[go_sem] theorem Tryz.fl1223_6 : fld1T Tryz.prog 223 6 = some 6 := by kernel_rfl
@[go_sem] theorem Tryz.pl223_6 : plT Tryz.prog 223 6 = some 6 := by kernel_rfl
@[go_sem] theorem Tryz.fld223_7 : fldT Tryz.prog 223 7 = some 7 := by kernel_rfl
@[go_sem] theorem Tryz.fl1223_7 : fld1T Tryz.prog 223 7 = some 7 := by kernel_rfl
@[go_sem] theorem Tryz.pl223_7 : plT Tryz.prog 223 7 = some 7 := by kernel_rfl
@[go_sem] theorem Tryz.fld223_8 : fldT Tryz.prog 223 8 = some 8 := by kernel_rfl
@[go_sem] theorem Tryz.fl1223_8 : fld1T Tryz.prog 223 8 = some 8 := by kernel_rfl
@[go_sem] theorem Tryz.pl223_8 : plT Tryz.prog 223 8 = some 8 := by kernel_rfl
@[go_sem] theorem Tryz.fld223_9 : fldT Tryz.prog 223 9 = some 9 := by kernel_rfl
@[go_sem] theorem Tryz.fl1223_9 : fld1T Tryz.prog 223 9 = some 9 := by kernel_rfl
@[go_sem] theorem Tryz.pl223_9 : plT Tryz.prog 223 9 = some 9 := by kernel_rfl
@[go_sem] theorem Tryz.fld223_10 : fldT Tryz.prog 223 10 = some 10 := by kernel_rfl
@[go_sem] theorem Tryz.fl1223_10 : fld1T Tryz.prog 223 10 = some 10 := by kernel_rfl
@[go_sem] theorem Tryz.pl223_10 : plT Tryz.prog 223 10 = some 10 := by kernel_rfl
@[go_sem] theorem Tryz.plk223 : plOk Tryz.prog 223 = true := by kernel_rfl
@[go_sem] theorem Tryz.cof223 : Tryz.prog.cellsOf 223 = 11 := by kernel_rfl
@[go_sem] theorem Tryz.kind224 : kindT Tryz.prog 224 = some none := by kernel_rfl
@[go_sem] theorem Tryz.cof224 : Tryz.prog.cellsOf 224 = 1 := by kernel_rfl
@[go_sem] theorem Tryz.kind225 : kindT Tryz.prog 225 = some none := by kernel_rfl
@[go_sem] theorem Tryz.cof225 : Tryz.prog.cellsOf 225 = 1 := by kernel_rfl
end Go.Proofs

/- Layings of the library's sort at the program's own types. -/
namespace Go.Proofs.YtmojbncbbnjblaaGreat
open Go.Shelf Go.Sort
set_option maxRecDepth 100000
def Tryz.sortMon_ren : Go.Shelf.Ren := ⟨fun | 6 => 145 | 15 => 181 | 14 => 180 | 28 => 200 | 29 => 201 | 20 => 192 | 21 => 193 | 22 => 194 | 23 => 195 | 24 => 196 | 25 => 197 | 26 => 198 | 27 => 199 | 46 => 204 | 47 => 205 | 48 => 206 | 49 => 207 | 50 => 208 | 57 => 218 | n => n, fun | 22 => 88 | 24 => 93 | 25 => 149 | 3 => 3 | 39 => 107 | 0 => 0 | 53 => 188 | 55 => 51 | 4 => 4 | 46 => 181 | 45 => 180 | 50 => 185 | 5 => 5 | 9 => 9 | 66 => 192 | 70 => 196 | 76 => 204 | 77 => 205 | n => n, fun | n => n⟩
theorem Tryz.sortMon : Go.Proofs.SlLaysF0.n6 Tryz.prog Tryz.sortMon_ren := {
  mixed := by kernel_rfl,
  f6 := ⟨Tryz.f145.name, by decide, Tryz.func145.trans (congrArg some (by kernel_rfl))⟩,
  f14 := ⟨Tryz.f180.name, by decide, Tryz.func180.trans (congrArg some (by kernel_rfl))⟩,
  f15 := Tryz.func181.trans (congrArg some (by kernel_rfl)),
  f20 := ⟨Tryz.f192.name, by decide, Tryz.func192.trans (congrArg some (by kernel_rfl))⟩,
  f21 := ⟨Tryz.f193.name, by decide, Tryz.func193.trans (congrArg some (by kernel_rfl))⟩,
  f22 := ⟨Tryz.f194.name, by decide, Tryz.func194.trans (congrArg some (by kernel_rfl))⟩,
  f23 := ⟨Tryz.f195.name, by decide, Tryz.func195.trans (congrArg some (by kernel_rfl))⟩,
  f24 := ⟨Tryz.f196.name, by decide, Tryz.func196.trans (congrArg some (by kernel_rfl))⟩,
  f25 := ⟨Tryz.f197.name, by decide, Tryz.func197.trans (congrArg some (by kernel_rfl))⟩,
  f26 := ⟨Tryz.f198.name, by decide, Tryz.func198.trans (congrArg some (by kernel_rfl))⟩,
  f27 := ⟨Tryz.f199.name, by decide, Tryz.func199.trans (congrArg some (by kernel_rfl))⟩,
  f28 := Tryz.func200.trans (congrArg some (by kernel_rfl)),
  f29 := Tryz.func201.trans (congrArg some (by kernel_rfl)),
  f46 := ⟨Tryz.f204.name, by decide, Tryz.func204.trans (congrArg some (by kernel_rfl))⟩,
  f47 := Tryz.func205.trans (congrArg some (by kernel_rfl)),
  f48 := Tryz.func206.trans (congrArg some (by kernel_rfl)),
  f49 := ⟨Tryz.f207.name, by decide, Tryz.func207.trans (congrArg some (by kernel_rfl))⟩,
  f50 := ⟨Tryz.f208.name, by decide, Tryz.func208.trans (congrArg some (by kernel_rfl))⟩,
  f57 := ⟨Tryz.f218.name, by decide, Tryz.func218.trans (congrArg some (by kernel_rfl))⟩,
  t0 := Tryz.underlying0,
  a0 := Tryz.isAgg0,
  z0 := Tryz.sizeOf0,
  v0 := Tryz.zeroValue0,
  t3 := Tryz.underlying3,
  a3 := Tryz.isAgg3,
  z3 := Tryz.sizeOf3,
  v3 := Tryz.zeroValue3,
  t4 := Tryz.underlying4,
  a4 := Tryz.isAgg4,
  z4 := Tryz.sizeOf4,
  v4 := Tryz.zeroValue4,
  t5 := Tryz.underlying5,
  a5 := Tryz.isAgg5,
  z5 := Tryz.sizeOf5,
  v5 := Tryz.zeroValue5,
  t9 := Tryz.underlying9,
  a9 := Tryz.isAgg9,
  z9 := Tryz.sizeOf9,
  v9 := Tryz.zeroValue9,
  t22 := Tryz.underlying88,
  a22 := Tryz.isAgg88,
  z22 := Tryz.sizeOf88,
  v22 := Tryz.zeroValue88,
  t25 := Tryz.underlying149,
  a25 := Tryz.isAgg149,
  z25 := Tryz.sizeOf149,
  v25 := Tryz.zeroValue149,
  t39 := Tryz.underlying107,
  a39 := Tryz.isAgg107,
  z39 := Tryz.sizeOf107,
  v39 := Tryz.zeroValue107,
  t45 := Tryz.underlying180,
  a45 := Tryz.isAgg180,
  z45 := Tryz.sizeOf180,
  v45 := Tryz.zeroValue180,
  t46 := Tryz.underlying181,
  a46 := Tryz.isAgg181,
  z46 := Tryz.sizeOf181,
  v46 := Tryz.zeroValue181,
  t50 := Tryz.underlying185,
  a50 := Tryz.isAgg185,
  z50 := Tryz.sizeOf185,
  v50 := Tryz.zeroValue185,
  t53 := Tryz.underlying188,
  a53 := Tryz.isAgg188,
  z53 := Tryz.sizeOf188,
  v53 := Tryz.zeroValue188,
  t55 := Tryz.underlying51,
  a55 := Tryz.isAgg51,
  z55 := Tryz.sizeOf51,
  v55 := Tryz.zeroValue51,
  t66 := Tryz.underlying192,
  a66 := Tryz.isAgg192,
  z66 := Tryz.sizeOf192,
  v66 := Tryz.zeroValue192,
  t70 := Tryz.underlying196,
  a70 := Tryz.isAgg196,
  z70 := Tryz.sizeOf196,
  v70 := Tryz.zeroValue196,
  t76 := Tryz.underlying204,
  a76 := Tryz.isAgg204,
  z76 := Tryz.sizeOf204,
  v76 := Tryz.zeroValue204,
  t77 := Tryz.underlying205,
  a77 := Tryz.isAgg205,
  z77 := Tryz.sizeOf205,
  v77 := Tryz.zeroValue205 }
end Go.Proofs.YtmojbncbbnjblaaGreat
