/- Texts of the own layer and contracts, part 5: Tab Str Srt. -/
import Derived.Test.YtnokgijakdaehaaGreatDoorProg
import Derived.KernelRfl
import Derived.Shelf.SlSortCmp.NoneTotal
import Derived.Test.YtnokgijakdaehaaGreatDoorM4
/- What the loaded program says of its types. Written by a program (gentab.py). -/
namespace Go.Proofs
open Go.Abs
instance Tryz.drawK : DrawK := ⟨0⟩
theorem Tryz.mixed : Tryz.prog.follows .mixedOrders = true := by kernel_rfl
@[go_sem] theorem Tryz.kind1 : kindT Tryz.prog 1 = some none := by kernel_rfl
@[go_sem] theorem Tryz.cof1 : Tryz.prog.cellsOf 1 = 1 := by kernel_rfl
@[go_sem] theorem Tryz.kind2 : kindT Tryz.prog 2 = some none := by kernel_rfl
@[go_sem] theorem Tryz.info2 : infoT Tryz.prog 2 = some (1, 8, [.val (.int .i64 0)]) := by kernel_rfl
@[go_sem] theorem Tryz.cof2 : Tryz.prog.cellsOf 2 = 1 := by kernel_rfl
@[go_sem] theorem Tryz.und2 : Tryz.prog.underlying 2 = some (.int .i64) := by kernel_rfl
@[go_sem] theorem Tryz.kind3 : kindT Tryz.prog 3 = some none := by kernel_rfl
@[go_sem] theorem Tryz.info3 : infoT Tryz.prog 3 = some (1, 8, [.val (.int .i64 0)]) := by kernel_rfl
@[go_sem] theorem Tryz.cof3 : Tryz.prog.cellsOf 3 = 1 := by kernel_rfl
@[go_sem] theorem Tryz.und3 : Tryz.prog.underlying 3 = some (.int .i64) := by kernel_rfl
@[go_sem] theorem Tryz.kind4 : kindT Tryz.prog 4 = some none := by kernel_rfl
@[go_sem] theorem Tryz.isbool4 : boolT Tryz.prog 4 = true := by kernel_rfl
@[go_sem] theorem Tryz.info4 : infoT Tryz.prog 4 = some (1, 1, [.val (.bool false)]) := by kernel_rfl
@[go_sem] theorem Tryz.cof4 : Tryz.prog.cellsOf 4 = 1 := by kernel_rfl
@[go_sem] theorem Tryz.kind5 : kindT Tryz.prog 5 = some none := by kernel_rfl
@[go_sem] theorem Tryz.info5 : infoT Tryz.prog 5 = some (1, 1, [.val (.int .u8 0)]) := by kernel_rfl
@[go_sem] theorem Tryz.cof5 : Tryz.prog.cellsOf 5 = 1 := by kernel_rfl
@[go_sem] theorem Tryz.und5 : Tryz.prog.underlying 5 = some (.int .u8) := by kernel_rfl
@[go_sem] theorem Tryz.kind6 : kindT Tryz.prog 6 = some none := by kernel_rfl
@[go_sem] theorem Tryz.info6 : infoT Tryz.prog 6 = some (1, 1, [.val (.int .u8 0)]) := by kernel_rfl
@[go_sem] theorem Tryz.cof6 : Tryz.prog.cellsOf 6 = 1 := by kernel_rfl
@[go_sem] theorem Tryz.und6 : Tryz.prog.underlying 6 = some (.int .u8) := by kernel_rfl
@[go_sem] theorem Tryz.kind7 : kindT Tryz.prog 7 = some (some 4) := by kernel_rfl
@[go_sem] theorem Tryz.fld7_0 : fldT Tryz.prog 7 0 = some 0 := by kernel_rfl
@[go_sem] theorem Tryz.fl17_0 : fld1T Tryz.prog 7 0 = some 0 := by kernel_rfl
@[go_sem] theorem Tryz.pl7_0 : plT Tryz.prog 7 0 = some 0 := by kernel_rfl
@[go_sem] theorem Tryz.fld7_1 : fldT Tryz.prog 7 1 = some 1 := by kernel_rfl
@[go_sem] theorem Tryz.fl17_1 : fld1T Tryz.prog 7 1 = some 1 := by kernel_rfl
@[go_sem] theorem Tryz.pl7_1 : plT Tryz.prog 7 1 = some 1 := by kernel_rfl
@[go_sem] theorem Tryz.fld7_2 : fldT Tryz.prog 7 2 = some 2 := by kernel_rfl
@[go_sem] theorem Tryz.fl17_2 : fld1T Tryz.prog 7 2 = some 2 := by kernel_rfl
@[go_sem] theorem Tryz.pl7_2 : plT Tryz.prog 7 2 = some 2 := by kernel_rfl
@[go_sem] theorem Tryz.fld7_3 : fldT Tryz.prog 7 3 = some 3 := by kernel_rfl
@[go_sem] theorem Tryz.fl17_3 : fld1T Tryz.prog 7 3 = some 3 := by kernel_rfl
@[go_sem] theorem Tryz.pl7_3 : plT Tryz.prog 7 3 = some 3 := by kernel_rfl
@[go_sem] theorem Tryz.plk7 : plOk Tryz.prog 7 = true := by kernel_rfl
@[go_sem] theorem Tryz.info7 : infoT Tryz.prog 7 = some (4, 24, [.val (.int .i64 0), .val (.int .i64 0), .val (.bool false), .val (.int .u8 0)]) := by kernel_rfl
@[go_sem] theorem Tryz.cof7 : Tryz.prog.cellsOf 7 = 4 := by kernel_rfl
@[go_sem] theorem Tryz.kind8 : kindT Tryz.prog 8 = some (some 4) := by kernel_rfl
@[go_sem] theorem Tryz.fld8_0 : fldT Tryz.prog 8 0 = some 0 := by kernel_rfl
@[go_sem] theorem Tryz.fl18_0 : fld1T Tryz.prog 8 0 = some 0 := by kernel_rfl
@[go_sem] theorem Tryz.pl8_0 : plT Tryz.prog 8 0 = some 0 := by kernel_rfl
@[go_sem] theorem Tryz.fld8_1 : fldT Tryz.prog 8 1 = some 1 := by kernel_rfl
@[go_sem] theorem Tryz.fl18_1 : fld1T Tryz.prog 8 1 = some 1 := by kernel_rfl
@[go_sem] theorem Tryz.pl8_1 : plT Tryz.prog 8 1 = some 1 := by kernel_rfl
@[go_sem] theorem Tryz.fld8_2 : fldT Tryz.prog 8 2 = some 2 := by kernel_rfl
@[go_sem] theorem Tryz.fl18_2 : fld1T Tryz.prog 8 2 = some 2 := by kernel_rfl
@[go_sem] theorem Tryz.pl8_2 : plT Tryz.prog 8 2 = some 2 := by kernel_rfl
@[go_sem] theorem Tryz.fld8_3 : fldT Tryz.prog 8 3 = some 3 := by kernel_rfl
@[go_sem] theorem Tryz.fl18_3 : fld1T Tryz.prog 8 3 = some 3 := by kernel_rfl
@[go_sem] theorem Tryz.pl8_3 : plT Tryz.prog 8 3 = some 3 := by kernel_rfl
@[go_sem] theorem Tryz.plk8 : plOk Tryz.prog 8 = true := by kernel_rfl
@[go_sem] theorem Tryz.info8 : infoT Tryz.prog 8 = some (4, 24, [.val (.int .i64 0), .val (.int .i64 0), .val (.bool false), .val (.int .u8 0)]) := by kernel_rfl
@[go_sem] theorem Tryz.cof8 : Tryz.prog.cellsOf 8 = 4 := by kernel_rfl
@[go_sem] theorem Tryz.kind9 : kindT Tryz.prog 9 = some none := by kernel_rfl
@[go_sem] theorem Tryz.elem9 : elemT Tryz.prog 9 = none := by kernel_rfl
@[go_sem] theorem Tryz.info9 : infoT Tryz.prog 9 = some (1, 16, [.val (.string ⟨#[]⟩)]) := by kernel_rfl
@[go_sem] theorem Tryz.cof9 : Tryz.prog.cellsOf 9 = 1 := by kernel_rfl
theorem Tryz.und9 : Tryz.prog.underlying 9 = some (.string) := by kernel_rfl
@[go_sem] theorem Tryz.kind10 : kindT Tryz.prog 10 = some none := by kernel_rfl
@[go_sem] theorem Tryz.elem10 : elemT Tryz.prog 10 = none := by kernel_rfl
@[go_sem] theorem Tryz.info10 : infoT Tryz.prog 10 = some (1, 16, [.val (.string ⟨#[]⟩)]) := by kernel_rfl
@[go_sem] theorem Tryz.cof10 : Tryz.prog.cellsOf 10 = 1 := by kernel_rfl
theorem Tryz.und10 : Tryz.prog.underlying 10 = some (.string) := by kernel_rfl
@[go_sem] theorem Tryz.kind11 : kindT Tryz.prog 11 = some none := by kernel_rfl
@[go_sem] theorem Tryz.elem11 : elemT Tryz.prog 11 = none := by kernel_rfl
@[go_sem] theorem Tryz.info11 : infoT Tryz.prog 11 = some (1, 16, [.val (.string ⟨#[]⟩)]) := by kernel_rfl
@[go_sem] theorem Tryz.cof11 : Tryz.prog.cellsOf 11 = 1 := by kernel_rfl
theorem Tryz.und11 : Tryz.prog.underlying 11 = some (.string) := by kernel_rfl
@[go_sem] theorem Tryz.kind12 : kindT Tryz.prog 12 = some none := by kernel_rfl
@[go_sem] theorem Tryz.info12 : infoT Tryz.prog 12 = some (1, 8, [.val (.int .u64 0)]) := by kernel_rfl
@[go_sem] theorem Tryz.cof12 : Tryz.prog.cellsOf 12 = 1 := by kernel_rfl
@[go_sem] theorem Tryz.und12 : Tryz.prog.underlying 12 = some (.int .u64) := by kernel_rfl
@[go_sem] theorem Tryz.kind13 : kindT Tryz.prog 13 = some (some 2) := by kernel_rfl
@[go_sem] theorem Tryz.fld13_0 : fldT Tryz.prog 13 0 = some 0 := by kernel_rfl
@[go_sem] theorem Tryz.fl113_0 : fld1T Tryz.prog 13 0 = some 0 := by kernel_rfl
@[go_sem] theorem Tryz.pl13_0 : plT Tryz.prog 13 0 = some 0 := by kernel_rfl
@[go_sem] theorem Tryz.fld13_1 : fldT Tryz.prog 13 1 = some 1 := by kernel_rfl
@[go_sem] theorem Tryz.fl113_1 : fld1T Tryz.prog 13 1 = some 1 := by kernel_rfl
@[go_sem] theorem Tryz.pl13_1 : plT Tryz.prog 13 1 = some 1 := by kernel_rfl
@[go_sem] theorem Tryz.plk13 : plOk Tryz.prog 13 = true := by kernel_rfl
@[go_sem] theorem Tryz.info13 : infoT Tryz.prog 13 = some (2, 24, [.val (.string ⟨#[]⟩), .val (.int .u64 0)]) := by kernel_rfl
@[go_sem] theorem Tryz.cof13 : Tryz.prog.cellsOf 13 = 2 := by kernel_rfl
@[go_sem] theorem Tryz.kind14 : kindT Tryz.prog 14 = some (some 2) := by kernel_rfl
@[go_sem] theorem Tryz.fld14_0 : fldT Tryz.prog 14 0 = some 0 := by kernel_rfl
@[go_sem] theorem Tryz.fl114_0 : fld1T Tryz.prog 14 0 = some 0 := by kernel_rfl
@[go_sem] theorem Tryz.pl14_0 : plT Tryz.prog 14 0 = some 0 := by kernel_rfl
@[go_sem] theorem Tryz.fld14_1 : fldT Tryz.prog 14 1 = some 1 := by kernel_rfl
@[go_sem] theorem Tryz.fl114_1 : fld1T Tryz.prog 14 1 = some 1 := by kernel_rfl
@[go_sem] theorem Tryz.pl14_1 : plT Tryz.prog 14 1 = some 1 := by kernel_rfl
@[go_sem] theorem Tryz.plk14 : plOk Tryz.prog 14 = true := by kernel_rfl
@[go_sem] theorem Tryz.info14 : infoT Tryz.prog 14 = some (2, 24, [.val (.string ⟨#[]⟩), .val (.int .u64 0)]) := by kernel_rfl
@[go_sem] theorem Tryz.cof14 : Tryz.prog.cellsOf 14 = 2 := by kernel_rfl
@[go_sem] theorem Tryz.kind15 : kindT Tryz.prog 15 = some none := by kernel_rfl
@[go_sem] theorem Tryz.elem15 : elemT Tryz.prog 15 = none := by kernel_rfl
@[go_sem] theorem Tryz.cof15 : Tryz.prog.cellsOf 15 = 1 := by kernel_rfl
@[go_sem] theorem Tryz.kind16 : kindT Tryz.prog 16 = some none := by kernel_rfl
@[go_sem] theorem Tryz.elem16 : elemT Tryz.prog 16 = none := by kernel_rfl
@[go_sem] theorem Tryz.cof16 : Tryz.prog.cellsOf 16 = 1 := by kernel_rfl
@[go_sem] theorem Tryz.kind17 : kindT Tryz.prog 17 = some none := by kernel_rfl
@[go_sem] theorem Tryz.elem17 : elemT Tryz.prog 17 = none := by kernel_rfl
@[go_sem] theorem Tryz.cof17 : Tryz.prog.cellsOf 17 = 1 := by kernel_rfl
@[go_sem] theorem Tryz.kind18 : kindT Tryz.prog 18 = some (some 1) := by kernel_rfl
@[go_sem] theorem Tryz.fld18_0 : fldT Tryz.prog 18 0 = some 0 := by kernel_rfl
@[go_sem] theorem Tryz.fl118_0 : fld1T Tryz.prog 18 0 = some 0 := by kernel_rfl
@[go_sem] theorem Tryz.pl18_0 : plT Tryz.prog 18 0 = some 0 := by kernel_rfl
@[go_sem] theorem Tryz.plk18 : plOk Tryz.prog 18 = true := by kernel_rfl
@[go_sem] theorem Tryz.cof18 : Tryz.prog.cellsOf 18 = 1 := by kernel_rfl
@[go_sem] theorem Tryz.kind19 : kindT Tryz.prog 19 = some (some 1) := by kernel_rfl
@[go_sem] theorem Tryz.fld19_0 : fldT Tryz.prog 19 0 = some 0 := by kernel_rfl
@[go_sem] theorem Tryz.fl119_0 : fld1T Tryz.prog 19 0 = some 0 := by kernel_rfl
@[go_sem] theorem Tryz.pl19_0 : plT Tryz.prog 19 0 = some 0 := by kernel_rfl
@[go_sem] theorem Tryz.plk19 : plOk Tryz.prog 19 = true := by kernel_rfl
@[go_sem] theorem Tryz.cof19 : Tryz.prog.cellsOf 19 = 1 := by kernel_rfl
@[go_sem] theorem Tryz.kind21 : kindT Tryz.prog 21 = some none := by kernel_rfl
@[go_sem] theorem Tryz.info21 : infoT Tryz.prog 21 = some (1, 4, [.val (.int .i32 0)]) := by kernel_rfl
@[go_sem] theorem Tryz.cof21 : Tryz.prog.cellsOf 21 = 1 := by kernel_rfl
@[go_sem] theorem Tryz.und21 : Tryz.prog.underlying 21 = some (.int .i32) := by kernel_rfl
@[go_sem] theorem Tryz.kind22 : kindT Tryz.prog 22 = some none := by kernel_rfl
@[go_sem] theorem Tryz.elem22 : elemT Tryz.prog 22 = some 5 := by kernel_rfl
@[go_sem] theorem Tryz.info22 : infoT Tryz.prog 22 = some (1, 24, [.val (.slice none 0 0)]) := by kernel_rfl
@[go_sem] theorem Tryz.cof22 : Tryz.prog.cellsOf 22 = 1 := by kernel_rfl
theorem Tryz.und22 : Tryz.prog.underlying 22 = some (.slice 5) := by kernel_rfl
@[go_sem] theorem Tryz.kind23 : kindT Tryz.prog 23 = some none := by kernel_rfl
@[go_sem] theorem Tryz.cof23 : Tryz.prog.cellsOf 23 = 1 := by kernel_rfl
@[go_sem] theorem Tryz.kind24 : kindT Tryz.prog 24 = some none := by kernel_rfl
@[go_sem] theorem Tryz.elem24 : elemT Tryz.prog 24 = some 25 := by kernel_rfl
@[go_sem] theorem Tryz.info24 : infoT Tryz.prog 24 = some (1, 24, [.val (.slice none 0 0)]) := by kernel_rfl
@[go_sem] theorem Tryz.cof24 : Tryz.prog.cellsOf 24 = 1 := by kernel_rfl
theorem Tryz.und24 : Tryz.prog.underlying 24 = some (.slice 25) := by kernel_rfl
@[go_sem] theorem Tryz.kind25 : kindT Tryz.prog 25 = some none := by kernel_rfl
@[go_sem] theorem Tryz.elem25 : elemT Tryz.prog 25 = some 2 := by kernel_rfl
@[go_sem] theorem Tryz.info25 : infoT Tryz.prog 25 = some (1, 24, [.val (.slice none 0 0)]) := by kernel_rfl
@[go_sem] theorem Tryz.cof25 : Tryz.prog.cellsOf 25 = 1 := by kernel_rfl
theorem Tryz.und25 : Tryz.prog.underlying 25 = some (.slice 2) := by kernel_rfl
@[go_sem] theorem Tryz.kind26 : kindT Tryz.prog 26 = some (some 2) := by kernel_rfl
@[go_sem] theorem Tryz.fld26_0 : fldT Tryz.prog 26 0 = some 0 := by kernel_rfl
@[go_sem] theorem Tryz.fl126_0 : fld1T Tryz.prog 26 0 = some 0 := by kernel_rfl
@[go_sem] theorem Tryz.pl26_0 : plT Tryz.prog 26 0 = some 0 := by kernel_rfl
@[go_sem] theorem Tryz.fld26_1 : fldT Tryz.prog 26 1 = some 1 := by kernel_rfl
@[go_sem] theorem Tryz.fl126_1 : fld1T Tryz.prog 26 1 = some 1 := by kernel_rfl
@[go_sem] theorem Tryz.pl26_1 : plT Tryz.prog 26 1 = some 1 := by kernel_rfl
@[go_sem] theorem Tryz.plk26 : plOk Tryz.prog 26 = true := by kernel_rfl
@[go_sem] theorem Tryz.info26 : infoT Tryz.prog 26 = some (2, 48, [.val (.slice none 0 0), .val (.slice none 0 0)]) := by kernel_rfl
@[go_sem] theorem Tryz.cof26 : Tryz.prog.cellsOf 26 = 2 := by kernel_rfl
@[go_sem] theorem Tryz.kind27 : kindT Tryz.prog 27 = some (some 2) := by kernel_rfl
@[go_sem] theorem Tryz.fld27_0 : fldT Tryz.prog 27 0 = some 0 := by kernel_rfl
@[go_sem] theorem Tryz.fl127_0 : fld1T Tryz.prog 27 0 = some 0 := by kernel_rfl
@[go_sem] theorem Tryz.pl27_0 : plT Tryz.prog 27 0 = some 0 := by kernel_rfl
@[go_sem] theorem Tryz.fld27_1 : fldT Tryz.prog 27 1 = some 1 := by kernel_rfl
@[go_sem] theorem Tryz.fl127_1 : fld1T Tryz.prog 27 1 = some 1 := by kernel_rfl
@[go_sem] theorem Tryz.pl27_1 : plT Tryz.prog 27 1 = some 1 := by kernel_rfl
@[go_sem] theorem Tryz.plk27 : plOk Tryz.prog 27 = true := by kernel_rfl
@[go_sem] theorem Tryz.info27 : infoT Tryz.prog 27 = some (2, 48, [.val (.slice none 0 0), .val (.slice none 0 0)]) := by kernel_rfl
@[go_sem] theorem Tryz.cof27 : Tryz.prog.cellsOf 27 = 2 := by kernel_rfl
@[go_sem] theorem Tryz.kind29 : kindT Tryz.prog 29 = some none := by kernel_rfl
@[go_sem] theorem Tryz.cof29 : Tryz.prog.cellsOf 29 = 1 := by kernel_rfl
@[go_sem] theorem Tryz.kind31 : kindT Tryz.prog 31 = some none := by kernel_rfl
@[go_sem] theorem Tryz.cof31 : Tryz.prog.cellsOf 31 = 1 := by kernel_rfl
@[go_sem] theorem Tryz.kind32 : kindT Tryz.prog 32 = some none := by kernel_rfl
@[go_sem] theorem Tryz.cof32 : Tryz.prog.cellsOf 32 = 1 := by kernel_rfl
@[go_sem] theorem Tryz.kind34 : kindT Tryz.prog 34 = some none := by kernel_rfl
@[go_sem] theorem Tryz.cof34 : Tryz.prog.cellsOf 34 = 1 := by kernel_rfl
@[go_sem] theorem Tryz.kind35 : kindT Tryz.prog 35 = some none := by kernel_rfl
@[go_sem] theorem Tryz.cof35 : Tryz.prog.cellsOf 35 = 1 := by kernel_rfl
@[go_sem] theorem Tryz.kind37 : kindT Tryz.prog 37 = some none := by kernel_rfl
@[go_sem] theorem Tryz.cof37 : Tryz.prog.cellsOf 37 = 1 := by kernel_rfl
@[go_sem] theorem Tryz.kind38 : kindT Tryz.prog 38 = some none := by kernel_rfl
@[go_sem] theorem Tryz.cof38 : Tryz.prog.cellsOf 38 = 1 := by kernel_rfl
@[go_sem] theorem Tryz.kind39 : kindT Tryz.prog 39 = some none := by kernel_rfl
@[go_sem] theorem Tryz.elem39 : elemT Tryz.prog 39 = some 122 := by kernel_rfl
@[go_sem] theorem Tryz.info39 : infoT Tryz.prog 39 = some (1, 24, [.val (.slice none 0 0)]) := by kernel_rfl
@[go_sem] theorem Tryz.cof39 : Tryz.prog.cellsOf 39 = 1 := by kernel_rfl
theorem Tryz.und39 : Tryz.prog.underlying 39 = some (.slice 122) := by kernel_rfl
@[go_sem] theorem Tryz.kind40 : kindT Tryz.prog 40 = some (some 2) := by kernel_rfl
@[go_sem] theorem Tryz.fld40_0 : fldT Tryz.prog 40 0 = some 0 := by kernel_rfl
@[go_sem] theorem Tryz.fl140_0 : fld1T Tryz.prog 40 0 = some 0 := by kernel_rfl
@[go_sem] theorem Tryz.pl40_0 : plT Tryz.prog 40 0 = some 0 := by kernel_rfl
@[go_sem] theorem Tryz.fld40_1 : fldT Tryz.prog 40 1 = some 1 := by kernel_rfl
@[go_sem] theorem Tryz.fl140_1 : fld1T Tryz.prog 40 1 = some 1 := by kernel_rfl
@[go_sem] theorem Tryz.pl40_1 : plT Tryz.prog 40 1 = some 1 := by kernel_rfl
@[go_sem] theorem Tryz.plk40 : plOk Tryz.prog 40 = true := by kernel_rfl
@[go_sem] theorem Tryz.info40 : infoT Tryz.prog 40 = some (2, 32, [.val (.int .i64 0), .val (.slice none 0 0)]) := by kernel_rfl
@[go_sem] theorem Tryz.cof40 : Tryz.prog.cellsOf 40 = 2 := by kernel_rfl
@[go_sem] theorem Tryz.kind41 : kindT Tryz.prog 41 = some (some 2) := by kernel_rfl
@[go_sem] theorem Tryz.fld41_0 : fldT Tryz.prog 41 0 = some 0 := by kernel_rfl
@[go_sem] theorem Tryz.fl141_0 : fld1T Tryz.prog 41 0 = some 0 := by kernel_rfl
@[go_sem] theorem Tryz.pl41_0 : plT Tryz.prog 41 0 = some 0 := by kernel_rfl
@[go_sem] theorem Tryz.fld41_1 : fldT Tryz.prog 41 1 = some 1 := by kernel_rfl
@[go_sem] theorem Tryz.fl141_1 : fld1T Tryz.prog 41 1 = some 1 := by kernel_rfl
@[go_sem] theorem Tryz.pl41_1 : plT Tryz.prog 41 1 = some 1 := by kernel_rfl
@[go_sem] theorem Tryz.plk41 : plOk Tryz.prog 41 = true := by kernel_rfl
@[go_sem] theorem Tryz.info41 : infoT Tryz.prog 41 = some (2, 32, [.val (.int .i64 0), .val (.slice none 0 0)]) := by kernel_rfl
@[go_sem] theorem Tryz.cof41 : Tryz.prog.cellsOf 41 = 2 := by kernel_rfl
@[go_sem] theorem Tryz.kind43 : kindT Tryz.prog 43 = some none := by kernel_rfl
@[go_sem] theorem Tryz.cof43 : Tryz.prog.cellsOf 43 = 1 := by kernel_rfl
@[go_sem] theorem Tryz.kind45 : kindT Tryz.prog 45 = some none := by kernel_rfl
@[go_sem] theorem Tryz.cof45 : Tryz.prog.cellsOf 45 = 1 := by kernel_rfl
@[go_sem] theorem Tryz.kind46 : kindT Tryz.prog 46 = some none := by kernel_rfl
@[go_sem] theorem Tryz.cof46 : Tryz.prog.cellsOf 46 = 1 := by kernel_rfl
@[go_sem] theorem Tryz.kind47 : kindT Tryz.prog 47 = some none := by kernel_rfl
@[go_sem] theorem Tryz.cof47 : Tryz.prog.cellsOf 47 = 1 := by kernel_rfl
@[go_sem] theorem Tryz.kind48 : kindT Tryz.prog 48 = some none := by kernel_rfl
@[go_sem] theorem Tryz.cof48 : Tryz.prog.cellsOf 48 = 1 := by kernel_rfl
@[go_sem] theorem Tryz.kind49 : kindT Tryz.prog 49 = some none := by kernel_rfl
@[go_sem] theorem Tryz.elem49 : elemT Tryz.prog 49 = none := by kernel_rfl
@[go_sem] theorem Tryz.cof49 : Tryz.prog.cellsOf 49 = 1 := by kernel_rfl
@[go_sem] theorem Tryz.kind50 : kindT Tryz.prog 50 = some none := by kernel_rfl
@[go_sem] theorem Tryz.cof50 : Tryz.prog.cellsOf 50 = 1 := by kernel_rfl
@[go_sem] theorem Tryz.kind51 : kindT Tryz.prog 51 = some none := by kernel_rfl
@[go_sem] theorem Tryz.info51 : infoT Tryz.prog 51 = some (1, 8, [.val (.int .u64 0)]) := by kernel_rfl
@[go_sem] theorem Tryz.cof51 : Tryz.prog.cellsOf 51 = 1 := by kernel_rfl
@[go_sem] theorem Tryz.und51 : Tryz.prog.underlying 51 = some (.int .u64) := by kernel_rfl
@[go_sem] theorem Tryz.kind52 : kindT Tryz.prog 52 = some none := by kernel_rfl
@[go_sem] theorem Tryz.elem52 : elemT Tryz.prog 52 = some 9 := by kernel_rfl
@[go_sem] theorem Tryz.info52 : infoT Tryz.prog 52 = some (1, 24, [.val (.slice none 0 0)]) := by kernel_rfl
@[go_sem] theorem Tryz.cof52 : Tryz.prog.cellsOf 52 = 1 := by kernel_rfl
theorem Tryz.und52 : Tryz.prog.underlying 52 = some (.slice 9) := by kernel_rfl
@[go_sem] theorem Tryz.kind53 : kindT Tryz.prog 53 = some none := by kernel_rfl
@[go_sem] theorem Tryz.cof53 : Tryz.prog.cellsOf 53 = 1 := by kernel_rfl
@[go_sem] theorem Tryz.kind54 : kindT Tryz.prog 54 = some none := by kernel_rfl
@[go_sem] theorem Tryz.cof54 : Tryz.prog.cellsOf 54 = 1 := by kernel_rfl
@[go_sem] theorem Tryz.kind55 : kindT Tryz.prog 55 = some none := by kernel_rfl
@[go_sem] theorem Tryz.cof55 : Tryz.prog.cellsOf 55 = 1 := by kernel_rfl
@[go_sem] theorem Tryz.kind57 : kindT Tryz.prog 57 = some none := by kernel_rfl
@[go_sem] theorem Tryz.cof57 : Tryz.prog.cellsOf 57 = 1 := by kernel_rfl
@[go_sem] theorem Tryz.kind59 : kindT Tryz.prog 59 = some none := by kernel_rfl
@[go_sem] theorem Tryz.cof59 : Tryz.prog.cellsOf 59 = 1 := by kernel_rfl
@[go_sem] theorem Tryz.kind60 : kindT Tryz.prog 60 = some none := by kernel_rfl
@[go_sem] theorem Tryz.cof60 : Tryz.prog.cellsOf 60 = 1 := by kernel_rfl
@[go_sem] theorem Tryz.kind61 : kindT Tryz.prog 61 = some none := by kernel_rfl
@[go_sem] theorem Tryz.cof61 : Tryz.prog.cellsOf 61 = 1 := by kernel_rfl
@[go_sem] theorem Tryz.kind62 : kindT Tryz.prog 62 = some none := by kernel_rfl
@[go_sem] theorem Tryz.cof62 : Tryz.prog.cellsOf 62 = 1 := by kernel_rfl
@[go_sem] theorem Tryz.kind63 : kindT Tryz.prog 63 = some none := by kernel_rfl
@[go_sem] theorem Tryz.cof63 : Tryz.prog.cellsOf 63 = 1 := by kernel_rfl
@[go_sem] theorem Tryz.kind64 : kindT Tryz.prog 64 = some none := by kernel_rfl
@[go_sem] theorem Tryz.elem64 : elemT Tryz.prog 64 = none := by kernel_rfl
@[go_sem] theorem Tryz.cof64 : Tryz.prog.cellsOf 64 = 1 := by kernel_rfl
@[go_sem] theorem Tryz.kind65 : kindT Tryz.prog 65 = some none := by kernel_rfl
@[go_sem] theorem Tryz.cof65 : Tryz.prog.cellsOf 65 = 1 := by kernel_rfl
@[go_sem] theorem Tryz.kind66 : kindT Tryz.prog 66 = some none := by kernel_rfl
@[go_sem] theorem Tryz.cof66 : Tryz.prog.cellsOf 66 = 1 := by kernel_rfl
@[go_sem] theorem Tryz.kind67 : kindT Tryz.prog 67 = some none := by kernel_rfl
@[go_sem] theorem Tryz.cof67 : Tryz.prog.cellsOf 67 = 1 := by kernel_rfl
@[go_sem] theorem Tryz.kind68 : kindT Tryz.prog 68 = some none := by kernel_rfl
@[go_sem] theorem Tryz.cof68 : Tryz.prog.cellsOf 68 = 1 := by kernel_rfl
@[go_sem] theorem Tryz.kind69 : kindT Tryz.prog 69 = some none := by kernel_rfl
@[go_sem] theorem Tryz.cof69 : Tryz.prog.cellsOf 69 = 1 := by kernel_rfl
@[go_sem] theorem Tryz.kind70 : kindT Tryz.prog 70 = some none := by kernel_rfl
@[go_sem] theorem Tryz.cof70 : Tryz.prog.cellsOf 70 = 1 := by kernel_rfl
@[go_sem] theorem Tryz.kind71 : kindT Tryz.prog 71 = some none := by kernel_rfl
@[go_sem] theorem Tryz.cof71 : Tryz.prog.cellsOf 71 = 1 := by kernel_rfl
@[go_sem] theorem Tryz.kind72 : kindT Tryz.prog 72 = some none := by kernel_rfl
@[go_sem] theorem Tryz.cof72 : Tryz.prog.cellsOf 72 = 1 := by kernel_rfl
@[go_sem] theorem Tryz.kind73 : kindT Tryz.prog 73 = some none := by kernel_rfl
@[go_sem] theorem Tryz.cof73 : Tryz.prog.cellsOf 73 = 1 := by kernel_rfl
@[go_sem] theorem Tryz.kind74 : kindT Tryz.prog 74 = some none := by kernel_rfl
@[go_sem] theorem Tryz.cof74 : Tryz.prog.cellsOf 74 = 1 := by kernel_rfl
@[go_sem] theorem Tryz.kind75 : kindT Tryz.prog 75 = some none := by kernel_rfl
@[go_sem] theorem Tryz.cof75 : Tryz.prog.cellsOf 75 = 1 := by kernel_rfl
@[go_sem] theorem Tryz.kind77 : kindT Tryz.prog 77 = some none := by kernel_rfl
@[go_sem] theorem Tryz.cof77 : Tryz.prog.cellsOf 77 = 1 := by kernel_rfl
@[go_sem] theorem Tryz.kind79 : kindT Tryz.prog 79 = some none := by kernel_rfl
@[go_sem] theorem Tryz.cof79 : Tryz.prog.cellsOf 79 = 1 := by kernel_rfl
@[go_sem] theorem Tryz.kind80 : kindT Tryz.prog 80 = some none := by kernel_rfl
@[go_sem] theorem Tryz.cof80 : Tryz.prog.cellsOf 80 = 1 := by kernel_rfl
@[go_sem] theorem Tryz.kind81 : kindT Tryz.prog 81 = some none := by kernel_rfl
@[go_sem] theorem Tryz.cof81 : Tryz.prog.cellsOf 81 = 1 := by kernel_rfl
@[go_sem] theorem Tryz.kind82 : kindT Tryz.prog 82 = some none := by kernel_rfl
@[go_sem] theorem Tryz.cof82 : Tryz.prog.cellsOf 82 = 1 := by kernel_rfl
@[go_sem] theorem Tryz.kind83 : kindT Tryz.prog 83 = some none := by kernel_rfl
@[go_sem] theorem Tryz.cof83 : Tryz.prog.cellsOf 83 = 1 := by kernel_rfl
@[go_sem] theorem Tryz.kind84 : kindT Tryz.prog 84 = some none := by kernel_rfl
@[go_sem] theorem Tryz.cof84 : Tryz.prog.cellsOf 84 = 1 := by kernel_rfl
@[go_sem] theorem Tryz.kind85 : kindT Tryz.prog 85 = some none := by kernel_rfl
@[go_sem] theorem Tryz.cof85 : Tryz.prog.cellsOf 85 = 1 := by kernel_rfl
@[go_sem] theorem Tryz.kind86 : kindT Tryz.prog 86 = some none := by kernel_rfl
@[go_sem] theorem Tryz.cof86 : Tryz.prog.cellsOf 86 = 1 := by kernel_rfl
@[go_sem] theorem Tryz.kind87 : kindT Tryz.prog 87 = some none := by kernel_rfl
@[go_sem] theorem Tryz.cof87 : Tryz.prog.cellsOf 87 = 1 := by kernel_rfl
@[go_sem] theorem Tryz.kind89 : kindT Tryz.prog 89 = some none := by kernel_rfl
@[go_sem] theorem Tryz.cof89 : Tryz.prog.cellsOf 89 = 1 := by kernel_rfl
@[go_sem] theorem Tryz.kind90 : kindT Tryz.prog 90 = some none := by kernel_rfl
@[go_sem] theorem Tryz.cof90 : Tryz.prog.cellsOf 90 = 1 := by kernel_rfl
@[go_sem] theorem Tryz.kind91 : kindT Tryz.prog 91 = some none := by kernel_rfl
@[go_sem] theorem Tryz.cof91 : Tryz.prog.cellsOf 91 = 1 := by kernel_rfl
@[go_sem] theorem Tryz.kind93 : kindT Tryz.prog 93 = some none := by kernel_rfl
@[go_sem] theorem Tryz.cof93 : Tryz.prog.cellsOf 93 = 1 := by kernel_rfl
@[go_sem] theorem Tryz.kind94 : kindT Tryz.prog 94 = some none := by kernel_rfl
@[go_sem] theorem Tryz.cof94 : Tryz.prog.cellsOf 94 = 1 := by kernel_rfl
@[go_sem] theorem Tryz.kind95 : kindT Tryz.prog 95 = some none := by kernel_rfl
@[go_sem] theorem Tryz.cof95 : Tryz.prog.cellsOf 95 = 1 := by kernel_rfl
@[go_sem] theorem Tryz.kind96 : kindT Tryz.prog 96 = some none := by kernel_rfl
@[go_sem] theorem Tryz.cof96 : Tryz.prog.cellsOf 96 = 1 := by kernel_rfl
@[go_sem] theorem Tryz.kind98 : kindT Tryz.prog 98 = some none := by kernel_rfl
@[go_sem] theorem Tryz.cof98 : Tryz.prog.cellsOf 98 = 1 := by kernel_rfl
@[go_sem] theorem Tryz.kind99 : kindT Tryz.prog 99 = some none := by kernel_rfl
@[go_sem] theorem Tryz.cof99 : Tryz.prog.cellsOf 99 = 1 := by kernel_rfl
@[go_sem] theorem Tryz.kind100 : kindT Tryz.prog 100 = some none := by kernel_rfl
@[go_sem] theorem Tryz.cof100 : Tryz.prog.cellsOf 100 = 1 := by kernel_rfl
@[go_sem] theorem Tryz.kind101 : kindT Tryz.prog 101 = some none := by kernel_rfl
@[go_sem] theorem Tryz.cof101 : Tryz.prog.cellsOf 101 = 1 := by kernel_rfl
@[go_sem] theorem Tryz.kind102 : kindT Tryz.prog 102 = some none := by kernel_rfl
@[go_sem] theorem Tryz.elem102 : elemT Tryz.prog 102 = some 116 := by kernel_rfl
@[go_sem] theorem Tryz.info102 : infoT Tryz.prog 102 = some (1, 24, [.val (.slice none 0 0)]) := by kernel_rfl
@[go_sem] theorem Tryz.cof102 : Tryz.prog.cellsOf 102 = 1 := by kernel_rfl
theorem Tryz.und102 : Tryz.prog.underlying 102 = some (.slice 116) := by kernel_rfl
@[go_sem] theorem Tryz.kind103 : kindT Tryz.prog 103 = some none := by kernel_rfl
@[go_sem] theorem Tryz.cof103 : Tryz.prog.cellsOf 103 = 1 := by kernel_rfl
@[go_sem] theorem Tryz.kind104 : kindT Tryz.prog 104 = some none := by kernel_rfl
@[go_sem] theorem Tryz.cof104 : Tryz.prog.cellsOf 104 = 1 := by kernel_rfl
@[go_sem] theorem Tryz.kind105 : kindT Tryz.prog 105 = some none := by kernel_rfl
@[go_sem] theorem Tryz.cof105 : Tryz.prog.cellsOf 105 = 1 := by kernel_rfl
@[go_sem] theorem Tryz.kind106 : kindT Tryz.prog 106 = some none := by kernel_rfl
@[go_sem] theorem Tryz.cof106 : Tryz.prog.cellsOf 106 = 1 := by kernel_rfl
@[go_sem] theorem Tryz.kind107 : kindT Tryz.prog 107 = some none := by kernel_rfl
@[go_sem] theorem Tryz.cof107 : Tryz.prog.cellsOf 107 = 1 := by kernel_rfl
@[go_sem] theorem Tryz.kind108 : kindT Tryz.prog 108 = some none := by kernel_rfl
@[go_sem] theorem Tryz.cof108 : Tryz.prog.cellsOf 108 = 1 := by kernel_rfl
@[go_sem] theorem Tryz.kind109 : kindT Tryz.prog 109 = some (some 3) := by kernel_rfl
@[go_sem] theorem Tryz.fld109_0 : fldT Tryz.prog 109 0 = some 0 := by kernel_rfl
@[go_sem] theorem Tryz.fl1109_0 : fld1T Tryz.prog 109 0 = some 0 := by kernel_rfl
@[go_sem] theorem Tryz.pl109_0 : plT Tryz.prog 109 0 = some 0 := by kernel_rfl
@[go_sem] theorem Tryz.fld109_1 : fldT Tryz.prog 109 1 = some 1 := by kernel_rfl
@[go_sem] theorem Tryz.fl1109_1 : fld1T Tryz.prog 109 1 = some 1 := by kernel_rfl
@[go_sem] theorem Tryz.pl109_1 : plT Tryz.prog 109 1 = some 1 := by kernel_rfl
@[go_sem] theorem Tryz.fld109_2 : fldT Tryz.prog 109 2 = some 2 := by kernel_rfl
@[go_sem] theorem Tryz.fl1109_2 : fld1T Tryz.prog 109 2 = some 2 := by kernel_rfl
@[go_sem] theorem Tryz.pl109_2 : plT Tryz.prog 109 2 = some 2 := by kernel_rfl
@[go_sem] theorem Tryz.plk109 : plOk Tryz.prog 109 = true := by kernel_rfl
@[go_sem] theorem Tryz.info109 : infoT Tryz.prog 109 = some (3, 40, [.val (.slice none 0 0), .val (.int .i64 0), .val (.int .u64 0)]) := by kernel_rfl
@[go_sem] theorem Tryz.cof109 : Tryz.prog.cellsOf 109 = 3 := by kernel_rfl
@[go_sem] theorem Tryz.kind110 : kindT Tryz.prog 110 = some (some 3) := by kernel_rfl
@[go_sem] theorem Tryz.fld110_0 : fldT Tryz.prog 110 0 = some 0 := by kernel_rfl
@[go_sem] theorem Tryz.fl1110_0 : fld1T Tryz.prog 110 0 = some 0 := by kernel_rfl
@[go_sem] theorem Tryz.pl110_0 : plT Tryz.prog 110 0 = some 0 := by kernel_rfl
@[go_sem] theorem Tryz.fld110_1 : fldT Tryz.prog 110 1 = some 1 := by kernel_rfl
@[go_sem] theorem Tryz.fl1110_1 : fld1T Tryz.prog 110 1 = some 1 := by kernel_rfl
@[go_sem] theorem Tryz.pl110_1 : plT Tryz.prog 110 1 = some 1 := by kernel_rfl
@[go_sem] theorem Tryz.fld110_2 : fldT Tryz.prog 110 2 = some 2 := by kernel_rfl
@[go_sem] theorem Tryz.fl1110_2 : fld1T Tryz.prog 110 2 = some 2 := by kernel_rfl
@[go_sem] theorem Tryz.pl110_2 : plT Tryz.prog 110 2 = some 2 := by kernel_rfl
@[go_sem] theorem Tryz.plk110 : plOk Tryz.prog 110 = true := by kernel_rfl
@[go_sem] theorem Tryz.info110 : infoT Tryz.prog 110 = some (3, 40, [.val (.slice none 0 0), .val (.int .i64 0), .val (.int .u64 0)]) := by kernel_rfl
@[go_sem] theorem Tryz.cof110 : Tryz.prog.cellsOf 110 = 3 := by kernel_rfl
@[go_sem] theorem Tryz.kind111 : kindT Tryz.prog 111 = some none := by kernel_rfl
@[go_sem] theorem Tryz.info111 : infoT Tryz.prog 111 = some (1, 8, [.val (.int .u64 0)]) := by kernel_rfl
@[go_sem] theorem Tryz.cof111 : Tryz.prog.cellsOf 111 = 1 := by kernel_rfl
@[go_sem] theorem Tryz.und111 : Tryz.prog.underlying 111 = some (.int .u64) := by kernel_rfl
@[go_sem] theorem Tryz.kind112 : kindT Tryz.prog 112 = some none := by kernel_rfl
@[go_sem] theorem Tryz.cof112 : Tryz.prog.cellsOf 112 = 1 := by kernel_rfl
@[go_sem] theorem Tryz.kind113 : kindT Tryz.prog 113 = some none := by kernel_rfl
@[go_sem] theorem Tryz.cof113 : Tryz.prog.cellsOf 113 = 1 := by kernel_rfl
@[go_sem] theorem Tryz.kind114 : kindT Tryz.prog 114 = some none := by kernel_rfl
@[go_sem] theorem Tryz.cof114 : Tryz.prog.cellsOf 114 = 1 := by kernel_rfl
@[go_sem] theorem Tryz.kind115 : kindT Tryz.prog 115 = some none := by kernel_rfl
@[go_sem] theorem Tryz.elem115 : elemT Tryz.prog 115 = none := by kernel_rfl
@[go_sem] theorem Tryz.map115 : mapT Tryz.prog 115 = true := by kernel_rfl
@[go_sem] theorem Tryz.ismap115 : isMapT Tryz.prog 115 = true := by kernel_rfl
@[go_sem] theorem Tryz.info115 : infoT Tryz.prog 115 = some (1, 8, [.val (.map none)]) := by kernel_rfl
@[go_sem] theorem Tryz.cof115 : Tryz.prog.cellsOf 115 = 1 := by kernel_rfl
@[go_sem] theorem Tryz.kind116 : kindT Tryz.prog 116 = some none := by kernel_rfl
@[go_sem] theorem Tryz.elem116 : elemT Tryz.prog 116 = none := by kernel_rfl
@[go_sem] theorem Tryz.map116 : mapT Tryz.prog 116 = true := by kernel_rfl
@[go_sem] theorem Tryz.ismap116 : isMapT Tryz.prog 116 = true := by kernel_rfl
@[go_sem] theorem Tryz.info116 : infoT Tryz.prog 116 = some (1, 8, [.val (.map none)]) := by kernel_rfl
@[go_sem] theorem Tryz.cof116 : Tryz.prog.cellsOf 116 = 1 := by kernel_rfl
@[go_sem] theorem Tryz.kind117 : kindT Tryz.prog 117 = some none := by kernel_rfl
@[go_sem] theorem Tryz.cof117 : Tryz.prog.cellsOf 117 = 1 := by kernel_rfl
@[go_sem] theorem Tryz.kind118 : kindT Tryz.prog 118 = some none := by kernel_rfl
@[go_sem] theorem Tryz.cof118 : Tryz.prog.cellsOf 118 = 1 := by kernel_rfl
@[go_sem] theorem Tryz.kind119 : kindT Tryz.prog 119 = some none := by kernel_rfl
@[go_sem] theorem Tryz.cof119 : Tryz.prog.cellsOf 119 = 1 := by kernel_rfl
@[go_sem] theorem Tryz.kind120 : kindT Tryz.prog 120 = some none := by kernel_rfl
@[go_sem] theorem Tryz.cof120 : Tryz.prog.cellsOf 120 = 1 := by kernel_rfl
@[go_sem] theorem Tryz.kind121 : kindT Tryz.prog 121 = some none := by kernel_rfl
@[go_sem] theorem Tryz.cof121 : Tryz.prog.cellsOf 121 = 1 := by kernel_rfl
@[go_sem] theorem Tryz.kind122 : kindT Tryz.prog 122 = some none := by kernel_rfl
@[go_sem] theorem Tryz.elem122 : elemT Tryz.prog 122 = some 125 := by kernel_rfl
@[go_sem] theorem Tryz.info122 : infoT Tryz.prog 122 = some (1, 24, [.val (.slice none 0 0)]) := by kernel_rfl
@[go_sem] theorem Tryz.cof122 : Tryz.prog.cellsOf 122 = 1 := by kernel_rfl
theorem Tryz.und122 : Tryz.prog.underlying 122 = some (.slice 125) := by kernel_rfl
@[go_sem] theorem Tryz.kind123 : kindT Tryz.prog 123 = some none := by kernel_rfl
@[go_sem] theorem Tryz.cof123 : Tryz.prog.cellsOf 123 = 1 := by kernel_rfl
@[go_sem] theorem Tryz.kind124 : kindT Tryz.prog 124 = some (some 2) := by kernel_rfl
@[go_sem] theorem Tryz.fld124_0 : fldT Tryz.prog 124 0 = some 0 := by kernel_rfl
@[go_sem] theorem Tryz.fl1124_0 : fld1T Tryz.prog 124 0 = some 0 := by kernel_rfl
@[go_sem] theorem Tryz.pl124_0 : plT Tryz.prog 124 0 = some 0 := by kernel_rfl
@[go_sem] theorem Tryz.fld124_1 : fldT Tryz.prog 124 1 = some 1 := by kernel_rfl
@[go_sem] theorem Tryz.fl1124_1 : fld1T Tryz.prog 124 1 = some 1 := by kernel_rfl
@[go_sem] theorem Tryz.pl124_1 : plT Tryz.prog 124 1 = some 1 := by kernel_rfl
@[go_sem] theorem Tryz.plk124 : plOk Tryz.prog 124 = true := by kernel_rfl
@[go_sem] theorem Tryz.info124 : infoT Tryz.prog 124 = some (2, 32, [.val (.int .i64 0), .val (.slice none 0 0)]) := by kernel_rfl
@[go_sem] theorem Tryz.cof124 : Tryz.prog.cellsOf 124 = 2 := by kernel_rfl
@[go_sem] theorem Tryz.kind125 : kindT Tryz.prog 125 = some (some 2) := by kernel_rfl
@[go_sem] theorem Tryz.fld125_0 : fldT Tryz.prog 125 0 = some 0 := by kernel_rfl
@[go_sem] theorem Tryz.fl1125_0 : fld1T Tryz.prog 125 0 = some 0 := by kernel_rfl
@[go_sem] theorem Tryz.pl125_0 : plT Tryz.prog 125 0 = some 0 := by kernel_rfl
@[go_sem] theorem Tryz.fld125_1 : fldT Tryz.prog 125 1 = some 1 := by kernel_rfl
@[go_sem] theorem Tryz.fl1125_1 : fld1T Tryz.prog 125 1 = some 1 := by kernel_rfl
@[go_sem] theorem Tryz.pl125_1 : plT Tryz.prog 125 1 = some 1 := by kernel_rfl
@[go_sem] theorem Tryz.plk125 : plOk Tryz.prog 125 = true := by kernel_rfl
@[go_sem] theorem Tryz.info125 : infoT Tryz.prog 125 = some (2, 32, [.val (.int .i64 0), .val (.slice none 0 0)]) := by kernel_rfl
@[go_sem] theorem Tryz.cof125 : Tryz.prog.cellsOf 125 = 2 := by kernel_rfl
@[go_sem] theorem Tryz.kind126 : kindT Tryz.prog 126 = some none := by kernel_rfl
@[go_sem] theorem Tryz.cof126 : Tryz.prog.cellsOf 126 = 1 := by kernel_rfl
@[go_sem] theorem Tryz.kind127 : kindT Tryz.prog 127 = some none := by kernel_rfl
@[go_sem] theorem Tryz.cof127 : Tryz.prog.cellsOf 127 = 1 := by kernel_rfl
@[go_sem] theorem Tryz.kind128 : kindT Tryz.prog 128 = some none := by kernel_rfl
@[go_sem] theorem Tryz.cof128 : Tryz.prog.cellsOf 128 = 1 := by kernel_rfl
@[go_sem] theorem Tryz.kind129 : kindT Tryz.prog 129 = some none := by kernel_rfl
@[go_sem] theorem Tryz.cof129 : Tryz.prog.cellsOf 129 = 1 := by kernel_rfl
@[go_sem] theorem Tryz.kind130 : kindT Tryz.prog 130 = some none := by kernel_rfl
@[go_sem] theorem Tryz.cof130 : Tryz.prog.cellsOf 130 = 1 := by kernel_rfl
@[go_sem] theorem Tryz.kind131 : kindT Tryz.prog 131 = some none := by kernel_rfl
@[go_sem] theorem Tryz.cof131 : Tryz.prog.cellsOf 131 = 1 := by kernel_rfl
@[go_sem] theorem Tryz.kind132 : kindT Tryz.prog 132 = some none := by kernel_rfl
@[go_sem] theorem Tryz.cof132 : Tryz.prog.cellsOf 132 = 1 := by kernel_rfl
@[go_sem] theorem Tryz.kind133 : kindT Tryz.prog 133 = some none := by kernel_rfl
@[go_sem] theorem Tryz.cof133 : Tryz.prog.cellsOf 133 = 1 := by kernel_rfl
@[go_sem] theorem Tryz.kind134 : kindT Tryz.prog 134 = some none := by kernel_rfl
@[go_sem] theorem Tryz.cof134 : Tryz.prog.cellsOf 134 = 1 := by kernel_rfl
@[go_sem] theorem Tryz.kind135 : kindT Tryz.prog 135 = some (some 3) := by kernel_rfl
@[go_sem] theorem Tryz.fld135_0 : fldT Tryz.prog 135 0 = some 0 := by kernel_rfl
@[go_sem] theorem Tryz.fl1135_0 : fld1T Tryz.prog 135 0 = some 0 := by kernel_rfl
@[go_sem] theorem Tryz.pl135_0 : plT Tryz.prog 135 0 = some 0 := by kernel_rfl
@[go_sem] theorem Tryz.fld135_1 : fldT Tryz.prog 135 1 = some 1 := by kernel_rfl
@[go_sem] theorem Tryz.fl1135_1 : fld1T Tryz.prog 135 1 = some 1 := by kernel_rfl
@[go_sem] theorem Tryz.pl135_1 : plT Tryz.prog 135 1 = some 1 := by kernel_rfl
@[go_sem] theorem Tryz.fld135_2 : fldT Tryz.prog 135 2 = some 2 := by kernel_rfl
@[go_sem] theorem Tryz.fl1135_2 : fld1T Tryz.prog 135 2 = some 2 := by kernel_rfl
@[go_sem] theorem Tryz.pl135_2 : plT Tryz.prog 135 2 = some 2 := by kernel_rfl
@[go_sem] theorem Tryz.plk135 : plOk Tryz.prog 135 = true := by kernel_rfl
@[go_sem] theorem Tryz.info135 : infoT Tryz.prog 135 = some (3, 40, [.val (.slice none 0 0), .val (.int .i64 0), .val (.int .u64 0)]) := by kernel_rfl
@[go_sem] theorem Tryz.cof135 : Tryz.prog.cellsOf 135 = 3 := by kernel_rfl
@[go_sem] theorem Tryz.kind136 : kindT Tryz.prog 136 = some (some 3) := by kernel_rfl
@[go_sem] theorem Tryz.fld136_0 : fldT Tryz.prog 136 0 = some 0 := by kernel_rfl
@[go_sem] theorem Tryz.fl1136_0 : fld1T Tryz.prog 136 0 = some 0 := by kernel_rfl
@[go_sem] theorem Tryz.pl136_0 : plT Tryz.prog 136 0 = some 0 := by kernel_rfl
@[go_sem] theorem Tryz.fld136_1 : fldT Tryz.prog 136 1 = some 1 := by kernel_rfl
@[go_sem] theorem Tryz.fl1136_1 : fld1T Tryz.prog 136 1 = some 1 := by kernel_rfl
@[go_sem] theorem Tryz.pl136_1 : plT Tryz.prog 136 1 = some 1 := by kernel_rfl
@[go_sem] theorem Tryz.fld136_2 : fldT Tryz.prog 136 2 = some 2 := by kernel_rfl
@[go_sem] theorem Tryz.fl1136_2 : fld1T Tryz.prog 136 2 = some 2 := by kernel_rfl
@[go_sem] theorem Tryz.pl136_2 : plT Tryz.prog 136 2 = some 2 := by kernel_rfl
@[go_sem] theorem Tryz.plk136 : plOk Tryz.prog 136 = true := by kernel_rfl
@[go_sem] theorem Tryz.info136 : infoT Tryz.prog 136 = some (3, 40, [.val (.slice none 0 0), .val (.int .i64 0), .val (.int .u64 0)]) := by kernel_rfl
@[go_sem] theorem Tryz.cof136 : Tryz.prog.cellsOf 136 = 3 := by kernel_rfl
@[go_sem] theorem Tryz.kind137 : kindT Tryz.prog 137 = some none := by kernel_rfl
@[go_sem] theorem Tryz.cof137 : Tryz.prog.cellsOf 137 = 1 := by kernel_rfl
@[go_sem] theorem Tryz.kind138 : kindT Tryz.prog 138 = some none := by kernel_rfl
@[go_sem] theorem Tryz.cof138 : Tryz.prog.cellsOf 138 = 1 := by kernel_rfl
@[go_sem] theorem Tryz.kind139 : kindT Tryz.prog 139 = some none := by kernel_rfl
@[go_sem] theorem Tryz.cof139 : Tryz.prog.cellsOf 139 = 1 := by kernel_rfl
@[go_sem] theorem Tryz.kind140 : kindT Tryz.prog 140 = some none := by kernel_rfl
@[go_sem] theorem Tryz.cof140 : Tryz.prog.cellsOf 140 = 1 := by kernel_rfl
@[go_sem] theorem Tryz.kind141 : kindT Tryz.prog 141 = some none := by kernel_rfl
@[go_sem] theorem Tryz.cof141 : Tryz.prog.cellsOf 141 = 1 := by kernel_rfl
@[go_sem] theorem Tryz.kind142 : kindT Tryz.prog 142 = some none := by kernel_rfl
@[go_sem] theorem Tryz.cof142 : Tryz.prog.cellsOf 142 = 1 := by kernel_rfl
@[go_sem] theorem Tryz.kind143 : kindT Tryz.prog 143 = some none := by kernel_rfl
@[go_sem] theorem Tryz.cof143 : Tryz.prog.cellsOf 143 = 1 := by kernel_rfl
@[go_sem] theorem Tryz.kind144 : kindT Tryz.prog 144 = some none := by kernel_rfl
@[go_sem] theorem Tryz.cof144 : Tryz.prog.cellsOf 144 = 1 := by kernel_rfl
@[go_sem] theorem Tryz.kind145 : kindT Tryz.prog 145 = some none := by kernel_rfl
@[go_sem] theorem Tryz.cof145 : Tryz.prog.cellsOf 145 = 1 := by kernel_rfl
@[go_sem] theorem Tryz.kind146 : kindT Tryz.prog 146 = some none := by kernel_rfl
@[go_sem] theorem Tryz.cof146 : Tryz.prog.cellsOf 146 = 1 := by kernel_rfl
@[go_sem] theorem Tryz.kind147 : kindT Tryz.prog 147 = some none := by kernel_rfl
@[go_sem] theorem Tryz.cof147 : Tryz.prog.cellsOf 147 = 1 := by kernel_rfl
@[go_sem] theorem Tryz.kind148 : kindT Tryz.prog 148 = some none := by kernel_rfl
@[go_sem] theorem Tryz.cof148 : Tryz.prog.cellsOf 148 = 1 := by kernel_rfl
@[go_sem] theorem Tryz.kind149 : kindT Tryz.prog 149 = some none := by kernel_rfl
@[go_sem] theorem Tryz.cof149 : Tryz.prog.cellsOf 149 = 1 := by kernel_rfl
@[go_sem] theorem Tryz.kind150 : kindT Tryz.prog 150 = some none := by kernel_rfl
@[go_sem] theorem Tryz.cof150 : Tryz.prog.cellsOf 150 = 1 := by kernel_rfl
@[go_sem] theorem Tryz.kind151 : kindT Tryz.prog 151 = some none := by kernel_rfl
@[go_sem] theorem Tryz.cof151 : Tryz.prog.cellsOf 151 = 1 := by kernel_rfl
@[go_sem] theorem Tryz.kind152 : kindT Tryz.prog 152 = some none := by kernel_rfl
@[go_sem] theorem Tryz.cof152 : Tryz.prog.cellsOf 152 = 1 := by kernel_rfl
@[go_sem] theorem Tryz.kind154 : kindT Tryz.prog 154 = some none := by kernel_rfl
@[go_sem] theorem Tryz.cof154 : Tryz.prog.cellsOf 154 = 1 := by kernel_rfl
@[go_sem] theorem Tryz.kind155 : kindT Tryz.prog 155 = some none := by kernel_rfl
@[go_sem] theorem Tryz.cof155 : Tryz.prog.cellsOf 155 = 1 := by kernel_rfl
@[go_sem] theorem Tryz.kind156 : kindT Tryz.prog 156 = some none := by kernel_rfl
@[go_sem] theorem Tryz.cof156 : Tryz.prog.cellsOf 156 = 1 := by kernel_rfl
@[go_sem] theorem Tryz.kind157 : kindT Tryz.prog 157 = some none := by kernel_rfl
@[go_sem] theorem Tryz.cof157 : Tryz.prog.cellsOf 157 = 1 := by kernel_rfl
@[go_sem] theorem Tryz.kind158 : kindT Tryz.prog 158 = some none := by kernel_rfl
@[go_sem] theorem Tryz.cof158 : Tryz.prog.cellsOf 158 = 1 := by kernel_rfl
@[go_sem] theorem Tryz.kind159 : kindT Tryz.prog 159 = some none := by kernel_rfl
@[go_sem] theorem Tryz.cof159 : Tryz.prog.cellsOf 159 = 1 := by kernel_rfl
@[go_sem] theorem Tryz.kind160 : kindT Tryz.prog 160 = some none := by kernel_rfl
@[go_sem] theorem Tryz.cof160 : Tryz.prog.cellsOf 160 = 1 := by kernel_rfl
@[go_sem] theorem Tryz.kind161 : kindT Tryz.prog 161 = some none := by kernel_rfl
@[go_sem] theorem Tryz.cof161 : Tryz.prog.cellsOf 161 = 1 := by kernel_rfl
@[go_sem] theorem Tryz.kind162 : kindT Tryz.prog 162 = some none := by kernel_rfl
@[go_sem] theorem Tryz.elem162 : elemT Tryz.prog 162 = some 24 := by kernel_rfl
@[go_sem] theorem Tryz.info162 : infoT Tryz.prog 162 = some (1, 24, [.val (.slice none 0 0)]) := by kernel_rfl
@[go_sem] theorem Tryz.cof162 : Tryz.prog.cellsOf 162 = 1 := by kernel_rfl
theorem Tryz.und162 : Tryz.prog.underlying 162 = some (.slice 24) := by kernel_rfl
@[go_sem] theorem Tryz.kind163 : kindT Tryz.prog 163 = some none := by kernel_rfl
@[go_sem] theorem Tryz.cof163 : Tryz.prog.cellsOf 163 = 1 := by kernel_rfl
@[go_sem] theorem Tryz.kind164 : kindT Tryz.prog 164 = some none := by kernel_rfl
@[go_sem] theorem Tryz.cof164 : Tryz.prog.cellsOf 164 = 1 := by kernel_rfl
@[go_sem] theorem Tryz.kind165 : kindT Tryz.prog 165 = some none := by kernel_rfl
@[go_sem] theorem Tryz.cof165 : Tryz.prog.cellsOf 165 = 1 := by kernel_rfl
@[go_sem] theorem Tryz.kind166 : kindT Tryz.prog 166 = some none := by kernel_rfl
@[go_sem] theorem Tryz.cof166 : Tryz.prog.cellsOf 166 = 1 := by kernel_rfl
@[go_sem] theorem Tryz.kind167 : kindT Tryz.prog 167 = some none := by kernel_rfl
@[go_sem] theorem Tryz.cof167 : Tryz.prog.cellsOf 167 = 1 := by kernel_rfl
@[go_sem] theorem Tryz.kind168 : kindT Tryz.prog 168 = some none := by kernel_rfl
@[go_sem] theorem Tryz.cof168 : Tryz.prog.cellsOf 168 = 1 := by kernel_rfl
@[go_sem] theorem Tryz.kind169 : kindT Tryz.prog 169 = some none := by kernel_rfl
@[go_sem] theorem Tryz.cof169 : Tryz.prog.cellsOf 169 = 1 := by kernel_rfl
@[go_sem] theorem Tryz.kind170 : kindT Tryz.prog 170 = some none := by kernel_rfl
@[go_sem] theorem Tryz.cof170 : Tryz.prog.cellsOf 170 = 1 := by kernel_rfl
@[go_sem] theorem Tryz.kind171 : kindT Tryz.prog 171 = some none := by kernel_rfl
@[go_sem] theorem Tryz.cof171 : Tryz.prog.cellsOf 171 = 1 := by kernel_rfl
@[go_sem] theorem Tryz.kind172 : kindT Tryz.prog 172 = some none := by kernel_rfl
@[go_sem] theorem Tryz.cof172 : Tryz.prog.cellsOf 172 = 1 := by kernel_rfl
@[go_sem] theorem Tryz.kind173 : kindT Tryz.prog 173 = some (some 3) := by kernel_rfl
@[go_sem] theorem Tryz.elem173 : elemT Tryz.prog 173 = none := by kernel_rfl
@[go_sem] theorem Tryz.arr173 : arrT Tryz.prog 173 = some (3, 1, true) := by kernel_rfl
@[go_sem] theorem Tryz.pl173_0 : plT Tryz.prog 173 0 = some 0 := by kernel_rfl
@[go_sem] theorem Tryz.pl173_1 : plT Tryz.prog 173 1 = some 1 := by kernel_rfl
@[go_sem] theorem Tryz.pl173_2 : plT Tryz.prog 173 2 = some 2 := by kernel_rfl
@[go_sem] theorem Tryz.plk173 : plOk Tryz.prog 173 = true := by kernel_rfl
@[go_sem] theorem Tryz.info173 : infoT Tryz.prog 173 = some (3, 24, [.val (.int .i64 0), .val (.int .i64 0), .val (.int .i64 0)]) := by kernel_rfl
@[go_sem] theorem Tryz.cof173 : Tryz.prog.cellsOf 173 = 3 := by kernel_rfl
@[go_sem] theorem Tryz.kind174 : kindT Tryz.prog 174 = some (some 3) := by kernel_rfl
@[go_sem] theorem Tryz.elem174 : elemT Tryz.prog 174 = none := by kernel_rfl
@[go_sem] theorem Tryz.arr174 : arrT Tryz.prog 174 = some (3, 1, true) := by kernel_rfl
@[go_sem] theorem Tryz.pl174_0 : plT Tryz.prog 174 0 = some 0 := by kernel_rfl
@[go_sem] theorem Tryz.pl174_1 : plT Tryz.prog 174 1 = some 1 := by kernel_rfl
@[go_sem] theorem Tryz.pl174_2 : plT Tryz.prog 174 2 = some 2 := by kernel_rfl
@[go_sem] theorem Tryz.plk174 : plOk Tryz.prog 174 = true := by kernel_rfl
@[go_sem] theorem Tryz.info174 : infoT Tryz.prog 174 = some (3, 24, [.val (.int .i64 0), .val (.int .i64 0), .val (.int .i64 0)]) := by kernel_rfl
@[go_sem] theorem Tryz.cof174 : Tryz.prog.cellsOf 174 = 3 := by kernel_rfl
@[go_sem] theorem Tryz.kind175 : kindT Tryz.prog 175 = some none := by kernel_rfl
@[go_sem] theorem Tryz.cof175 : Tryz.prog.cellsOf 175 = 1 := by kernel_rfl
@[go_sem] theorem Tryz.kind176 : kindT Tryz.prog 176 = some none := by kernel_rfl
@[go_sem] theorem Tryz.cof176 : Tryz.prog.cellsOf 176 = 1 := by kernel_rfl
@[go_sem] theorem Tryz.kind177 : kindT Tryz.prog 177 = some none := by kernel_rfl
@[go_sem] theorem Tryz.cof177 : Tryz.prog.cellsOf 177 = 1 := by kernel_rfl
@[go_sem] theorem Tryz.kind178 : kindT Tryz.prog 178 = some none := by kernel_rfl
@[go_sem] theorem Tryz.cof178 : Tryz.prog.cellsOf 178 = 1 := by kernel_rfl
@[go_sem] theorem Tryz.kind179 : kindT Tryz.prog 179 = some none := by kernel_rfl
@[go_sem] theorem Tryz.cof179 : Tryz.prog.cellsOf 179 = 1 := by kernel_rfl
@[go_sem] theorem Tryz.kind180 : kindT Tryz.prog 180 = some none := by kernel_rfl
@[go_sem] theorem Tryz.cof180 : Tryz.prog.cellsOf 180 = 1 := by kernel_rfl
@[go_sem] theorem Tryz.kind181 : kindT Tryz.prog 181 = some none := by kernel_rfl
@[go_sem] theorem Tryz.cof181 : Tryz.prog.cellsOf 181 = 1 := by kernel_rfl
@[go_sem] theorem Tryz.kind182 : kindT Tryz.prog 182 = some none := by kernel_rfl
@[go_sem] theorem Tryz.cof182 : Tryz.prog.cellsOf 182 = 1 := by kernel_rfl
@[go_sem] theorem Tryz.kind183 : kindT Tryz.prog 183 = some none := by kernel_rfl
@[go_sem] theorem Tryz.cof183 : Tryz.prog.cellsOf 183 = 1 := by kernel_rfl
@[go_sem] theorem Tryz.kind184 : kindT Tryz.prog 184 = some none := by kernel_rfl
@[go_sem] theorem Tryz.cof184 : Tryz.prog.cellsOf 184 = 1 := by kernel_rfl
@[go_sem] theorem Tryz.kind185 : kindT Tryz.prog 185 = some none := by kernel_rfl
@[go_sem] theorem Tryz.cof185 : Tryz.prog.cellsOf 185 = 1 := by kernel_rfl
@[go_sem] theorem Tryz.kind186 : kindT Tryz.prog 186 = some none := by kernel_rfl
@[go_sem] theorem Tryz.cof186 : Tryz.prog.cellsOf 186 = 1 := by kernel_rfl
@[go_sem] theorem Tryz.kind187 : kindT Tryz.prog 187 = some none := by kernel_rfl
@[go_sem] theorem Tryz.cof187 : Tryz.prog.cellsOf 187 = 1 := by kernel_rfl
@[go_sem] theorem Tryz.kind188 : kindT Tryz.prog 188 = some none := by kernel_rfl
@[go_sem] theorem Tryz.cof188 : Tryz.prog.cellsOf 188 = 1 := by kernel_rfl
@[go_sem] theorem Tryz.kind189 : kindT Tryz.prog 189 = some none := by kernel_rfl
@[go_sem] theorem Tryz.cof189 : Tryz.prog.cellsOf 189 = 1 := by kernel_rfl
@[go_sem] theorem Tryz.kind190 : kindT Tryz.prog 190 = some none := by kernel_rfl
@[go_sem] theorem Tryz.cof190 : Tryz.prog.cellsOf 190 = 1 := by kernel_rfl
@[go_sem] theorem Tryz.kind192 : kindT Tryz.prog 192 = some none := by kernel_rfl
@[go_sem] theorem Tryz.cof192 : Tryz.prog.cellsOf 192 = 1 := by kernel_rfl
@[go_sem] theorem Tryz.kind193 : kindT Tryz.prog 193 = some none := by kernel_rfl
@[go_sem] theorem Tryz.cof193 : Tryz.prog.cellsOf 193 = 1 := by kernel_rfl
@[go_sem] theorem Tryz.kind194 : kindT Tryz.prog 194 = some none := by kernel_rfl
@[go_sem] theorem Tryz.cof194 : Tryz.prog.cellsOf 194 = 1 := by kernel_rfl
@[go_sem] theorem Tryz.kind195 : kindT Tryz.prog 195 = some none := by kernel_rfl
@[go_sem] theorem Tryz.cof195 : Tryz.prog.cellsOf 195 = 1 := by kernel_rfl
@[go_sem] theorem Tryz.kind196 : kindT Tryz.prog 196 = some none := by kernel_rfl
@[go_sem] theorem Tryz.cof196 : Tryz.prog.cellsOf 196 = 1 := by kernel_rfl
@[go_sem] theorem Tryz.kind200 : kindT Tryz.prog 200 = some none := by kernel_rfl
@[go_sem] theorem Tryz.cof200 : Tryz.prog.cellsOf 200 = 1 := by kernel_rfl
@[go_sem] theorem Tryz.kind201 : kindT Tryz.prog 201 = some none := by kernel_rfl
@[go_sem] theorem Tryz.cof201 : Tryz.prog.cellsOf 201 = 1 := by kernel_rfl
@[go_sem] theorem Tryz.kind202 : kindT Tryz.prog 202 = some none := by kernel_rfl
@[go_sem] theorem Tryz.cof202 : Tryz.prog.cellsOf 202 = 1 := by kernel_rfl
@[go_sem] theorem Tryz.kind204 : kindT Tryz.prog 204 = some none := by kernel_rfl
@[go_sem] theorem Tryz.cof204 : Tryz.prog.cellsOf 204 = 1 := by kernel_rfl
@[go_sem] theorem Tryz.kind205 : kindT Tryz.prog 205 = some none := by kernel_rfl
@[go_sem] theorem Tryz.cof205 : Tryz.prog.cellsOf 205 = 1 := by kernel_rfl
@[go_sem] theorem Tryz.kind206 : kindT Tryz.prog 206 = some none := by kernel_rfl
@[go_sem] theorem Tryz.info206 : infoT Tryz.prog 206 = some (1, 4, [.val (.int .u32 0)]) := by kernel_rfl
@[go_sem] theorem Tryz.cof206 : Tryz.prog.cellsOf 206 = 1 := by kernel_rfl
@[go_sem] theorem Tryz.und206 : Tryz.prog.underlying 206 = some (.int .u32) := by kernel_rfl
@[go_sem] theorem Tryz.kind208 : kindT Tryz.prog 208 = some none := by kernel_rfl
@[go_sem] theorem Tryz.cof208 : Tryz.prog.cellsOf 208 = 1 := by kernel_rfl
@[go_sem] theorem Tryz.kind209 : kindT Tryz.prog 209 = some none := by kernel_rfl
@[go_sem] theorem Tryz.cof209 : Tryz.prog.cellsOf 209 = 1 := by kernel_rfl
@[go_sem] theorem Tryz.kind210 : kindT Tryz.prog 210 = some none := by kernel_rfl
@[go_sem] theorem Tryz.cof210 : Tryz.prog.cellsOf 210 = 1 := by kernel_rfl
@[go_sem] theorem Tryz.kind211 : kindT Tryz.prog 211 = some none := by kernel_rfl
@[go_sem] theorem Tryz.info211 : infoT Tryz.prog 211 = some (1, 8, [.val (.int .i64 0)]) := by kernel_rfl
@[go_sem] theorem Tryz.cof211 : Tryz.prog.cellsOf 211 = 1 := by kernel_rfl
@[go_sem] theorem Tryz.und211 : Tryz.prog.underlying 211 = some (.int .i64) := by kernel_rfl
@[go_sem] theorem Tryz.kind213 : kindT Tryz.prog 213 = some none := by kernel_rfl
@[go_sem] theorem Tryz.cof213 : Tryz.prog.cellsOf 213 = 1 := by kernel_rfl
@[go_sem] theorem Tryz.kind214 : kindT Tryz.prog 214 = some none := by kernel_rfl
@[go_sem] theorem Tryz.elem214 : elemT Tryz.prog 214 = none := by kernel_rfl
@[go_sem] theorem Tryz.cof214 : Tryz.prog.cellsOf 214 = 1 := by kernel_rfl
@[go_sem] theorem Tryz.kind215 : kindT Tryz.prog 215 = some none := by kernel_rfl
@[go_sem] theorem Tryz.cof215 : Tryz.prog.cellsOf 215 = 1 := by kernel_rfl
@[go_sem] theorem Tryz.kind216 : kindT Tryz.prog 216 = some none := by kernel_rfl
@[go_sem] theorem Tryz.cof216 : Tryz.prog.cellsOf 216 = 1 := by kernel_rfl
@[go_sem] theorem Tryz.kind217 : kindT Tryz.prog 217 = some none := by kernel_rfl
@[go_sem] theorem Tryz.cof217 : Tryz.prog.cellsOf 217 = 1 := by kernel_rfl
@[go_sem] theorem Tryz.kind218 : kindT Tryz.prog 218 = some (some 24) := by kernel_rfl
@[go_sem] theorem Tryz.elem218 : elemT Tryz.prog 218 = none := by kernel_rfl
@[go_sem] theorem Tryz.arr218 : arrT Tryz.prog 218 = some (24, 1, true) := by kernel_rfl
@[go_sem] theorem Tryz.pl218_0 : plT Tryz.prog 218 0 = some 0 := by kernel_rfl
@[go_sem] theorem Tryz.pl218_1 : plT Tryz.prog 218 1 = some 1 := by kernel_rfl
@[go_sem] theorem Tryz.pl218_2 : plT Tryz.prog 218 2 = some 2 := by kernel_rfl
@[go_sem] theorem Tryz.pl218_3 : plT Tryz.prog 218 3 = some 3 := by kernel_rfl
@[go_sem] theorem Tryz.pl218_4 : plT Tryz.prog 218 4 = some 4 := by kernel_rfl
@[go_sem] theorem Tryz.pl218_5 : plT Tryz.prog 218 5 = some 5 := by kernel_rfl
@[go_sem] theorem Tryz.pl218_6 : plT Tryz.prog 218 6 = some 6 := by kernel_rfl
@[go_sem] theorem Tryz.pl218_7 : plT Tryz.prog 218 7 = some 7 := by kernel_rfl
@[go_sem] theorem Tryz.plk218 : plOk Tryz.prog 218 = true := by kernel_rfl
@[go_sem] theorem Tryz.info218 : infoT Tryz.prog 218 = some (24, 24, [.val (.int .u8 0), .val (.int .u8 0), .val (.int .u8 0), .val (.int .u8 0), .val (.int .u8 0), .val (.int .u8 0), .val (.int .u8 0), .val (.int .u8 0), .val (.int .u8 0), .val (.int .u8 0), .val (.int .u8 0), .val (.int .u8 0), .val (.int .u8 0), .val (.int .u8 0), .val (.int .u8 0), .val (.int .u8 0), .val (.int .u8 0), .val (.int .u8 0), .val (.int .u8 0), .val (.int .u8 0), .val (.int .u8 0), .val (.int .u8 0), .val (.int .u8 0), .val (.int .u8 0)]) := by kernel_rfl
@[go_sem] theorem Tryz.cof218 : Tryz.prog.cellsOf 218 = 24 := by kernel_rfl
@[go_sem] theorem Tryz.kind219 : kindT Tryz.prog 219 = some none := by kernel_rfl
@[go_sem] theorem Tryz.cof219 : Tryz.prog.cellsOf 219 = 1 := by kernel_rfl
@[go_sem] theorem Tryz.kind220 : kindT Tryz.prog 220 = some none := by kernel_rfl
@[go_sem] theorem Tryz.cof220 : Tryz.prog.cellsOf 220 = 1 := by kernel_rfl
@[go_sem] theorem Tryz.kind222 : kindT Tryz.prog 222 = some none := by kernel_rfl
@[go_sem] theorem Tryz.cof222 : Tryz.prog.cellsOf 222 = 1 := by kernel_rfl
@[go_sem] theorem Tryz.kind223 : kindT Tryz.prog 223 = some (some 256) := by kernel_rfl
@[go_sem] theorem Tryz.elem223 : elemT Tryz.prog 223 = none := by kernel_rfl
@[go_sem] theorem Tryz.arr223 : arrT Tryz.prog 223 = some (256, 1, true) := by kernel_rfl
@[go_sem] theorem Tryz.pl223_0 : plT Tryz.prog 223 0 = some 0 := by kernel_rfl
@[go_sem] theorem Tryz.pl223_1 : plT Tryz.prog 223 1 = some 1 := by kernel_rfl
@[go_sem] theorem Tryz.pl223_2 : plT Tryz.prog 223 2 = some 2 := by kernel_rfl
@[go_sem] theorem Tryz.pl223_3 : plT Tryz.prog 223 3 = some 3 := by kernel_rfl
@[go_sem] theorem Tryz.pl223_4 : plT Tryz.prog 223 4 = some 4 := by kernel_rfl
@[go_sem] theorem Tryz.pl223_5 : plT Tryz.prog 223 5 = some 5 := by kernel_rfl
@[go_sem] theorem Tryz.pl223_6 : plT Tryz.prog 223 6 = some 6 := by kernel_rfl
@[go_sem] theorem Tryz.pl223_7 : plT Tryz.prog 223 7 = some 7 := by kernel_rfl
@[go_sem] theorem Tryz.plk223 : plOk Tryz.prog 223 = true := by kernel_rfl
@[go_sem] theorem Tryz.info223 : infoT Tryz.prog 223 = some (256, 256, [.val (.int .u8 0), .val (.int .u8 0), .val (.int .u8 0), .val (.int .u8 0), .val (.int .u8 0), .val (.int .u8 0), .val (.int .u8 0), .val (.int .u8 0), .val (.int .u8 0), .val (.int .u8 0), .val (.int .u8 0), .val (.int .u8 0), .val (.int .u8 0), .val (.int .u8 0), .val (.int .u8 0), .val (.int .u8 0), .val (.int .u8 0), .val (.int .u8 0), .val (.int .u8 0), .val (.int .u8 0), .val (.int .u8 0), .val (.int .u8 0), .val (.int .u8 0), .val (.int .u8 0), .val (.int .u8 0), .val (.int .u8 0), .val (.int .u8 0), .val (.int .u8 0), .val (.int .u8 0), .val (.int .u8 0), .val (.int .u8 0), .val (.int .u8 0), .val (.int .u8 0), .val (.int .u8 0), .val (.int .u8 0), .val (.int .u8 0), .val (.int .u8 0), .val (.int .u8 0), .val (.int .u8 0), .val (.int .u8 0), .val (.int .u8 0), .val (.int .u8 0), .val (.int .u8 0), .val (.int .u8 0), .val (.int .u8 0), .val (.int .u8 0), .val (.int .u8 0), .val (.int .u8 0), .val (.int .u8 0), .val (.int .u8 0), .val (.int .u8 0), .val (.int .u8 0), .val (.int .u8 0), .val (.int .u8 0), .val (.int .u8 0), .val (.int .u8 0), .val (.int .u8 0), .val (.int .u8 0), .val (.int .u8 0), .val (.int .u8 0), .val (.int .u8 0), .val (.int .u8 0), .val (.int .u8 0), .val (.int .u8 0), .val (.int .u8 0), .val (.int .u8 0), .val (.int .u8 0), .val (.int .u8 0), .val (.int .u8 0), .val (.int .u8 0), .val (.int .u8 0), .val (.int .u8 0), .val (.int .u8 0), .val (.int .u8 0), .val (.int .u8 0), .val (.int .u8 0), .val (.int .u8 0), .val (.int .u8 0), .val (.int .u8 0), .val (.int .u8 0), .val (.int .u8 0), .val (.int .u8 0), .val (.int .u8 0), .val (.int .u8 0), .val (.int .u8 0), .val (.int .u8 0), .val (.int .u8 0), .val (.int .u8 0), .val (.int .u8 0), .val (.int .u8 0), .val (.int .u8 0), .val (.int .u8 0), .val (.int .u8 0), .val (.int .u8 0), .val (.int .u8 0), .val (.int .u8 0), .val (.int .u8 0), .val (.int .u8 0), .val (.int .u8 0), .val (.int .u8 0), .val (.int .u8 0), .val (.int .u8 0), .val (.int .u8 0), .val (.int .u8 0), .val (.int .u8 0), .val (.int .u8 0), .val (.int .u8 0), .val (.int .u8 0), .val (.int .u8 0), .val (.int .u8 0), .val (.int .u8 0), .val (.int .u8 0), .val (.int .u8 0), .val (.int .u8 0), .val (.int .u8 0), .val (.int .u8 0), .val (.int .u8 0), .val (.int .u8 0), .val (.int .u8 0), .val (.int .u8 0), .val (.int .u8 0), .val (.int .u8 0), .val (.int .u8 0), .val (.int .u8 0), .val (.int .u8 0), .val (.int .u8 0), .val (.int .u8 0), .val (.int .u8 0), .val (.int .u8 0), .val (.int .u8 0), .val (.int .u8 0), .val (.int .u8 0), .val (.int .u8 0), .val (.int .u8 0), .val (.int .u8 0), .val (.int .u8 0), .val (.int .u8 0), .val (.int .u8 0), .val (.int .u8 0), .val (.int .u8 0), .val (.int .u8 0), .val (.int .u8 0), .val (.int .u8 0), .val (.int .u8 0), .val (.int .u8 0), .val (.int .u8 0), .val (.int .u8 0), .val (.int .u8 0), .val (.int .u8 0), .val (.int .u8 0), .val (.int .u8 0), .val (.int .u8 0), .val (.int .u8 0), .val (.int .u8 0), .val (.int .u8 0), .val (.int .u8 0), .val (.int .u8 0), .val (.int .u8 0), .val (.int .u8 0), .val (.int .u8 0), .val (.int .u8 0), .val (.int .u8 0), .val (.int .u8 0), .val (.int .u8 0), .val (.int .u8 0), .val (.int .u8 0), .val (.int .u8 0), .val (.int .u8 0), .val (.int .u8 0), .val (.int .u8 0), .val (.int .u8 0), .val (.int .u8 0), .val (.int .u8 0), .val (.int .u8 0), .val (.int .u8 0), .val (.int .u8 0), .val (.int .u8 0), .val (.int .u8 0), .val (.int .u8 0), .val (.int .u8 0), .val (.int .u8 0), .val (.int .u8 0), .val (.int .u8 0), .val (.int .u8 0), .val (.int .u8 0), .val (.int .u8 0), .val (.int .u8 0), .val (.int .u8 0), .val (.int .u8 0), .val (.int .u8 0), .val (.int .u8 0), .val (.int .u8 0), .val (.int .u8 0), .val (.int .u8 0), .val (.int .u8 0), .val (.int .u8 0), .val (.int .u8 0), .val (.int .u8 0), .val (.int .u8 0), .val (.int .u8 0), .val (.int .u8 0), .val (.int .u8 0), .val (.int .u8 0), .val (.int .u8 0), .val (.int .u8 0), .val (.int .u8 0), .val (.int .u8 0), .val (.int .u8 0), .val (.int .u8 0), .val (.int .u8 0), .val (.int .u8 0), .val (.int .u8 0), .val (.int .u8 0), .val (.int .u8 0), .val (.int .u8 0), .val (.int .u8 0), .val (.int .u8 0), .val (.int .u8 0), .val (.int .u8 0), .val (.int .u8 0), .val (.int .u8 0), .val (.int .u8 0), .val (.int .u8 0), .val (.int .u8 0), .val (.int .u8 0), .val (.int .u8 0), .val (.int .u8 0), .val (.int .u8 0), .val (.int .u8 0), .val (.int .u8 0), .val (.int .u8 0), .val (.int .u8 0), .val (.int .u8 0), .val (.int .u8 0), .val (.int .u8 0), .val (.int .u8 0), .val (.int .u8 0), .val (.int .u8 0), .val (.int .u8 0), .val (.int .u8 0), .val (.int .u8 0), .val (.int .u8 0), .val (.int .u8 0), .val (.int .u8 0), .val (.int .u8 0), .val (.int .u8 0), .val (.int .u8 0), .val (.int .u8 0), .val (.int .u8 0), .val (.int .u8 0), .val (.int .u8 0), .val (.int .u8 0), .val (.int .u8 0), .val (.int .u8 0), .val (.int .u8 0), .val (.int .u8 0)]) := by kernel_rfl
@[go_sem] theorem Tryz.cof223 : Tryz.prog.cellsOf 223 = 256 := by kernel_rfl
@[go_sem] theorem Tryz.kind224 : kindT Tryz.prog 224 = some (some 2) := by kernel_rfl
@[go_sem] theorem Tryz.fld224_0 : fldT Tryz.prog 224 0 = some 0 := by kernel_rfl
@[go_sem] theorem Tryz.fl1224_0 : fld1T Tryz.prog 224 0 = some 0 := by kernel_rfl
@[go_sem] theorem Tryz.pl224_0 : plT Tryz.prog 224 0 = some 0 := by kernel_rfl
@[go_sem] theorem Tryz.fld224_1 : fldT Tryz.prog 224 1 = some 1 := by kernel_rfl
@[go_sem] theorem Tryz.fl1224_1 : fld1T Tryz.prog 224 1 = some 1 := by kernel_rfl
@[go_sem] theorem Tryz.pl224_1 : plT Tryz.prog 224 1 = some 1 := by kernel_rfl
@[go_sem] theorem Tryz.plk224 : plOk Tryz.prog 224 = true := by kernel_rfl
@[go_sem] theorem Tryz.info224 : infoT Tryz.prog 224 = some (2, 2, [.val (.int .u8 0), .val (.int .u8 0)]) := by kernel_rfl
@[go_sem] theorem Tryz.cof224 : Tryz.prog.cellsOf 224 = 2 := by kernel_rfl
@[go_sem] theorem Tryz.kind225 : kindT Tryz.prog 225 = some (some 2) := by kernel_rfl
@[go_sem] theorem Tryz.fld225_0 : fldT Tryz.prog 225 0 = some 0 := by kernel_rfl
@[go_sem] theorem Tryz.fl1225_0 : fld1T Tryz.prog 225 0 = some 0 := by kernel_rfl
@[go_sem] theorem Tryz.pl225_0 : plT Tryz.prog 225 0 = some 0 := by kernel_rfl
@[go_sem] theorem Tryz.fld225_1 : fldT Tryz.prog 225 1 = some 1 := by kernel_rfl
@[go_sem] theorem Tryz.fl1225_1 : fld1T Tryz.prog 225 1 = some 1 := by kernel_rfl
@[go_sem] theorem Tryz.pl225_1 : plT Tryz.prog 225 1 = some 1 := by kernel_rfl
@[go_sem] theorem Tryz.plk225 : plOk Tryz.prog 225 = true := by kernel_rfl
@[go_sem] theorem Tryz.info225 : infoT Tryz.prog 225 = some (2, 2, [.val (.int .u8 0), .val (.int .u8 0)]) := by kernel_rfl
@[go_sem] theorem Tryz.cof225 : Tryz.prog.cellsOf 225 = 2 := by kernel_rfl
@[go_sem] theorem Tryz.kind226 : kindT Tryz.prog 226 = some (some 32) := by kernel_rfl
@[go_sem] theorem Tryz.elem226 : elemT Tryz.prog 226 = none := by kernel_rfl
@[go_sem] theorem Tryz.arr226 : arrT Tryz.prog 226 = some (16, 2, false) := by kernel_rfl
@[go_sem] theorem Tryz.plk226 : plOk Tryz.prog 226 = true := by kernel_rfl
@[go_sem] theorem Tryz.info226 : infoT Tryz.prog 226 = some (32, 32, [.val (.int .u8 0), .val (.int .u8 0), .val (.int .u8 0), .val (.int .u8 0), .val (.int .u8 0), .val (.int .u8 0), .val (.int .u8 0), .val (.int .u8 0), .val (.int .u8 0), .val (.int .u8 0), .val (.int .u8 0), .val (.int .u8 0), .val (.int .u8 0), .val (.int .u8 0), .val (.int .u8 0), .val (.int .u8 0), .val (.int .u8 0), .val (.int .u8 0), .val (.int .u8 0), .val (.int .u8 0), .val (.int .u8 0), .val (.int .u8 0), .val (.int .u8 0), .val (.int .u8 0), .val (.int .u8 0), .val (.int .u8 0), .val (.int .u8 0), .val (.int .u8 0), .val (.int .u8 0), .val (.int .u8 0), .val (.int .u8 0), .val (.int .u8 0)]) := by kernel_rfl
@[go_sem] theorem Tryz.cof226 : Tryz.prog.cellsOf 226 = 32 := by kernel_rfl
@[go_sem] theorem Tryz.kind227 : kindT Tryz.prog 227 = some none := by kernel_rfl
@[go_sem] theorem Tryz.cof227 : Tryz.prog.cellsOf 227 = 1 := by kernel_rfl
@[go_sem] theorem Tryz.kind228 : kindT Tryz.prog 228 = some none := by kernel_rfl
@[go_sem] theorem Tryz.cof228 : Tryz.prog.cellsOf 228 = 1 := by kernel_rfl
@[go_sem] theorem Tryz.kind229 : kindT Tryz.prog 229 = some none := by kernel_rfl
@[go_sem] theorem Tryz.cof229 : Tryz.prog.cellsOf 229 = 1 := by kernel_rfl
@[go_sem] theorem Tryz.kind230 : kindT Tryz.prog 230 = some (some 3) := by kernel_rfl
@[go_sem] theorem Tryz.fld230_0 : fldT Tryz.prog 230 0 = some 0 := by kernel_rfl
@[go_sem] theorem Tryz.fl1230_0 : fld1T Tryz.prog 230 0 = some 0 := by kernel_rfl
@[go_sem] theorem Tryz.pl230_0 : plT Tryz.prog 230 0 = some 0 := by kernel_rfl
@[go_sem] theorem Tryz.fld230_1 : fldT Tryz.prog 230 1 = some 1 := by kernel_rfl
@[go_sem] theorem Tryz.fl1230_1 : fld1T Tryz.prog 230 1 = some 1 := by kernel_rfl
@[go_sem] theorem Tryz.pl230_1 : plT Tryz.prog 230 1 = some 1 := by kernel_rfl
@[go_sem] theorem Tryz.fld230_2 : fldT Tryz.prog 230 2 = some 2 := by kernel_rfl
@[go_sem] theorem Tryz.fl1230_2 : fld1T Tryz.prog 230 2 = some 2 := by kernel_rfl
@[go_sem] theorem Tryz.pl230_2 : plT Tryz.prog 230 2 = some 2 := by kernel_rfl
@[go_sem] theorem Tryz.plk230 : plOk Tryz.prog 230 = true := by kernel_rfl
@[go_sem] theorem Tryz.cof230 : Tryz.prog.cellsOf 230 = 3 := by kernel_rfl
@[go_sem] theorem Tryz.kind231 : kindT Tryz.prog 231 = some (some 3) := by kernel_rfl
@[go_sem] theorem Tryz.fld231_0 : fldT Tryz.prog 231 0 = some 0 := by kernel_rfl
@[go_sem] theorem Tryz.fl1231_0 : fld1T Tryz.prog 231 0 = some 0 := by kernel_rfl
@[go_sem] theorem Tryz.pl231_0 : plT Tryz.prog 231 0 = some 0 := by kernel_rfl
@[go_sem] theorem Tryz.fld231_1 : fldT Tryz.prog 231 1 = some 1 := by kernel_rfl
@[go_sem] theorem Tryz.fl1231_1 : fld1T Tryz.prog 231 1 = some 1 := by kernel_rfl
@[go_sem] theorem Tryz.pl231_1 : plT Tryz.prog 231 1 = some 1 := by kernel_rfl
@[go_sem] theorem Tryz.fld231_2 : fldT Tryz.prog 231 2 = some 2 := by kernel_rfl
@[go_sem] theorem Tryz.fl1231_2 : fld1T Tryz.prog 231 2 = some 2 := by kernel_rfl
@[go_sem] theorem Tryz.pl231_2 : plT Tryz.prog 231 2 = some 2 := by kernel_rfl
@[go_sem] theorem Tryz.plk231 : plOk Tryz.prog 231 = true := by kernel_rfl
@[go_sem] theorem Tryz.cof231 : Tryz.prog.cellsOf 231 = 3 := by kernel_rfl
@[go_sem] theorem Tryz.kind232 : kindT Tryz.prog 232 = some none := by kernel_rfl
@[go_sem] theorem Tryz.cof232 : Tryz.prog.cellsOf 232 = 1 := by kernel_rfl
@[go_sem] theorem Tryz.kind233 : kindT Tryz.prog 233 = some none := by kernel_rfl
@[go_sem] theorem Tryz.cof233 : Tryz.prog.cellsOf 233 = 1 := by kernel_rfl
@[go_sem] theorem Tryz.kind234 : kindT Tryz.prog 234 = some (some 20) := by kernel_rfl
@[go_sem] theorem Tryz.elem234 : elemT Tryz.prog 234 = none := by kernel_rfl
@[go_sem] theorem Tryz.arr234 : arrT Tryz.prog 234 = some (20, 1, true) := by kernel_rfl
@[go_sem] theorem Tryz.pl234_0 : plT Tryz.prog 234 0 = some 0 := by kernel_rfl
@[go_sem] theorem Tryz.pl234_1 : plT Tryz.prog 234 1 = some 1 := by kernel_rfl
@[go_sem] theorem Tryz.pl234_2 : plT Tryz.prog 234 2 = some 2 := by kernel_rfl
@[go_sem] theorem Tryz.pl234_3 : plT Tryz.prog 234 3 = some 3 := by kernel_rfl
@[go_sem] theorem Tryz.pl234_4 : plT Tryz.prog 234 4 = some 4 := by kernel_rfl
@[go_sem] theorem Tryz.pl234_5 : plT Tryz.prog 234 5 = some 5 := by kernel_rfl
@[go_sem] theorem Tryz.pl234_6 : plT Tryz.prog 234 6 = some 6 := by kernel_rfl
@[go_sem] theorem Tryz.pl234_7 : plT Tryz.prog 234 7 = some 7 := by kernel_rfl
@[go_sem] theorem Tryz.plk234 : plOk Tryz.prog 234 = true := by kernel_rfl
@[go_sem] theorem Tryz.info234 : infoT Tryz.prog 234 = some (20, 160, [.val (.int .u64 0), .val (.int .u64 0), .val (.int .u64 0), .val (.int .u64 0), .val (.int .u64 0), .val (.int .u64 0), .val (.int .u64 0), .val (.int .u64 0), .val (.int .u64 0), .val (.int .u64 0), .val (.int .u64 0), .val (.int .u64 0), .val (.int .u64 0), .val (.int .u64 0), .val (.int .u64 0), .val (.int .u64 0), .val (.int .u64 0), .val (.int .u64 0), .val (.int .u64 0), .val (.int .u64 0)]) := by kernel_rfl
@[go_sem] theorem Tryz.cof234 : Tryz.prog.cellsOf 234 = 20 := by kernel_rfl
@[go_sem] theorem Tryz.kind235 : kindT Tryz.prog 235 = some (some 65) := by kernel_rfl
@[go_sem] theorem Tryz.elem235 : elemT Tryz.prog 235 = none := by kernel_rfl
@[go_sem] theorem Tryz.arr235 : arrT Tryz.prog 235 = some (65, 1, true) := by kernel_rfl
@[go_sem] theorem Tryz.pl235_0 : plT Tryz.prog 235 0 = some 0 := by kernel_rfl
@[go_sem] theorem Tryz.pl235_1 : plT Tryz.prog 235 1 = some 1 := by kernel_rfl
@[go_sem] theorem Tryz.pl235_2 : plT Tryz.prog 235 2 = some 2 := by kernel_rfl
@[go_sem] theorem Tryz.pl235_3 : plT Tryz.prog 235 3 = some 3 := by kernel_rfl
@[go_sem] theorem Tryz.pl235_4 : plT Tryz.prog 235 4 = some 4 := by kernel_rfl
@[go_sem] theorem Tryz.pl235_5 : plT Tryz.prog 235 5 = some 5 := by kernel_rfl
@[go_sem] theorem Tryz.pl235_6 : plT Tryz.prog 235 6 = some 6 := by kernel_rfl
@[go_sem] theorem Tryz.pl235_7 : plT Tryz.prog 235 7 = some 7 := by kernel_rfl
@[go_sem] theorem Tryz.plk235 : plOk Tryz.prog 235 = true := by kernel_rfl
@[go_sem] theorem Tryz.info235 : infoT Tryz.prog 235 = some (65, 65, [.val (.int .u8 0), .val (.int .u8 0), .val (.int .u8 0), .val (.int .u8 0), .val (.int .u8 0), .val (.int .u8 0), .val (.int .u8 0), .val (.int .u8 0), .val (.int .u8 0), .val (.int .u8 0), .val (.int .u8 0), .val (.int .u8 0), .val (.int .u8 0), .val (.int .u8 0), .val (.int .u8 0), .val (.int .u8 0), .val (.int .u8 0), .val (.int .u8 0), .val (.int .u8 0), .val (.int .u8 0), .val (.int .u8 0), .val (.int .u8 0), .val (.int .u8 0), .val (.int .u8 0), .val (.int .u8 0), .val (.int .u8 0), .val (.int .u8 0), .val (.int .u8 0), .val (.int .u8 0), .val (.int .u8 0), .val (.int .u8 0), .val (.int .u8 0), .val (.int .u8 0), .val (.int .u8 0), .val (.int .u8 0), .val (.int .u8 0), .val (.int .u8 0), .val (.int .u8 0), .val (.int .u8 0), .val (.int .u8 0), .val (.int .u8 0), .val (.int .u8 0), .val (.int .u8 0), .val (.int .u8 0), .val (.int .u8 0), .val (.int .u8 0), .val (.int .u8 0), .val (.int .u8 0), .val (.int .u8 0), .val (.int .u8 0), .val (.int .u8 0), .val (.int .u8 0), .val (.int .u8 0), .val (.int .u8 0), .val (.int .u8 0), .val (.int .u8 0), .val (.int .u8 0), .val (.int .u8 0), .val (.int .u8 0), .val (.int .u8 0), .val (.int .u8 0), .val (.int .u8 0), .val (.int .u8 0), .val (.int .u8 0), .val (.int .u8 0)]) := by kernel_rfl
@[go_sem] theorem Tryz.cof235 : Tryz.prog.cellsOf 235 = 65 := by kernel_rfl
@[go_sem] theorem Tryz.kind236 : kindT Tryz.prog 236 = some none := by kernel_rfl
@[go_sem] theorem Tryz.cof236 : Tryz.prog.cellsOf 236 = 1 := by kernel_rfl
@[go_sem] theorem Tryz.kind237 : kindT Tryz.prog 237 = some none := by kernel_rfl
@[go_sem] theorem Tryz.cof237 : Tryz.prog.cellsOf 237 = 1 := by kernel_rfl
@[go_sem] theorem Tryz.kind238 : kindT Tryz.prog 238 = some none := by kernel_rfl
@[go_sem] theorem Tryz.elem238 : elemT Tryz.prog 238 = none := by kernel_rfl
@[go_sem] theorem Tryz.cof238 : Tryz.prog.cellsOf 238 = 1 := by kernel_rfl
@[go_sem] theorem Tryz.kind239 : kindT Tryz.prog 239 = some none := by kernel_rfl
@[go_sem] theorem Tryz.elem239 : elemT Tryz.prog 239 = none := by kernel_rfl
@[go_sem] theorem Tryz.cof239 : Tryz.prog.cellsOf 239 = 1 := by kernel_rfl
@[go_sem] theorem Tryz.kind240 : kindT Tryz.prog 240 = some (some 1) := by kernel_rfl
@[go_sem] theorem Tryz.fld240_0 : fldT Tryz.prog 240 0 = some 0 := by kernel_rfl
@[go_sem] theorem Tryz.fl1240_0 : fld1T Tryz.prog 240 0 = some 0 := by kernel_rfl
@[go_sem] theorem Tryz.pl240_0 : plT Tryz.prog 240 0 = some 0 := by kernel_rfl
@[go_sem] theorem Tryz.plk240 : plOk Tryz.prog 240 = true := by kernel_rfl
@[go_sem] theorem Tryz.info240 : infoT Tryz.prog 240 = some (1, 16, [.val (.string ⟨#[]⟩)]) := by kernel_rfl
@[go_sem] theorem Tryz.cof240 : Tryz.prog.cellsOf 240 = 1 := by kernel_rfl
@[go_sem] theorem Tryz.kind241 : kindT Tryz.prog 241 = some (some 1) := by kernel_rfl
@[go_sem] theorem Tryz.fld241_0 : fldT Tryz.prog 241 0 = some 0 := by kernel_rfl
@[go_sem] theorem Tryz.fl1241_0 : fld1T Tryz.prog 241 0 = some 0 := by kernel_rfl
@[go_sem] theorem Tryz.pl241_0 : plT Tryz.prog 241 0 = some 0 := by kernel_rfl
@[go_sem] theorem Tryz.plk241 : plOk Tryz.prog 241 = true := by kernel_rfl
@[go_sem] theorem Tryz.info241 : infoT Tryz.prog 241 = some (1, 16, [.val (.string ⟨#[]⟩)]) := by kernel_rfl
@[go_sem] theorem Tryz.cof241 : Tryz.prog.cellsOf 241 = 1 := by kernel_rfl
@[go_sem] theorem Tryz.kind242 : kindT Tryz.prog 242 = some none := by kernel_rfl
@[go_sem] theorem Tryz.cof242 : Tryz.prog.cellsOf 242 = 1 := by kernel_rfl
@[go_sem] theorem Tryz.kind243 : kindT Tryz.prog 243 = some (some 32) := by kernel_rfl
@[go_sem] theorem Tryz.elem243 : elemT Tryz.prog 243 = none := by kernel_rfl
@[go_sem] theorem Tryz.arr243 : arrT Tryz.prog 243 = some (32, 1, true) := by kernel_rfl
@[go_sem] theorem Tryz.pl243_0 : plT Tryz.prog 243 0 = some 0 := by kernel_rfl
@[go_sem] theorem Tryz.pl243_1 : plT Tryz.prog 243 1 = some 1 := by kernel_rfl
@[go_sem] theorem Tryz.pl243_2 : plT Tryz.prog 243 2 = some 2 := by kernel_rfl
@[go_sem] theorem Tryz.pl243_3 : plT Tryz.prog 243 3 = some 3 := by kernel_rfl
@[go_sem] theorem Tryz.pl243_4 : plT Tryz.prog 243 4 = some 4 := by kernel_rfl
@[go_sem] theorem Tryz.pl243_5 : plT Tryz.prog 243 5 = some 5 := by kernel_rfl
@[go_sem] theorem Tryz.pl243_6 : plT Tryz.prog 243 6 = some 6 := by kernel_rfl
@[go_sem] theorem Tryz.pl243_7 : plT Tryz.prog 243 7 = some 7 := by kernel_rfl
@[go_sem] theorem Tryz.plk243 : plOk Tryz.prog 243 = true := by kernel_rfl
@[go_sem] theorem Tryz.info243 : infoT Tryz.prog 243 = some (32, 32, [.val (.int .u8 0), .val (.int .u8 0), .val (.int .u8 0), .val (.int .u8 0), .val (.int .u8 0), .val (.int .u8 0), .val (.int .u8 0), .val (.int .u8 0), .val (.int .u8 0), .val (.int .u8 0), .val (.int .u8 0), .val (.int .u8 0), .val (.int .u8 0), .val (.int .u8 0), .val (.int .u8 0), .val (.int .u8 0), .val (.int .u8 0), .val (.int .u8 0), .val (.int .u8 0), .val (.int .u8 0), .val (.int .u8 0), .val (.int .u8 0), .val (.int .u8 0), .val (.int .u8 0), .val (.int .u8 0), .val (.int .u8 0), .val (.int .u8 0), .val (.int .u8 0), .val (.int .u8 0), .val (.int .u8 0), .val (.int .u8 0), .val (.int .u8 0)]) := by kernel_rfl
@[go_sem] theorem Tryz.cof243 : Tryz.prog.cellsOf 243 = 32 := by kernel_rfl
@[go_sem] theorem Tryz.kind244 : kindT Tryz.prog 244 = some (some 64) := by kernel_rfl
@[go_sem] theorem Tryz.elem244 : elemT Tryz.prog 244 = none := by kernel_rfl
@[go_sem] theorem Tryz.arr244 : arrT Tryz.prog 244 = some (64, 1, true) := by kernel_rfl
@[go_sem] theorem Tryz.pl244_0 : plT Tryz.prog 244 0 = some 0 := by kernel_rfl
@[go_sem] theorem Tryz.pl244_1 : plT Tryz.prog 244 1 = some 1 := by kernel_rfl
@[go_sem] theorem Tryz.pl244_2 : plT Tryz.prog 244 2 = some 2 := by kernel_rfl
@[go_sem] theorem Tryz.pl244_3 : plT Tryz.prog 244 3 = some 3 := by kernel_rfl
@[go_sem] theorem Tryz.pl244_4 : plT Tryz.prog 244 4 = some 4 := by kernel_rfl
@[go_sem] theorem Tryz.pl244_5 : plT Tryz.prog 244 5 = some 5 := by kernel_rfl
@[go_sem] theorem Tryz.pl244_6 : plT Tryz.prog 244 6 = some 6 := by kernel_rfl
@[go_sem] theorem Tryz.pl244_7 : plT Tryz.prog 244 7 = some 7 := by kernel_rfl
@[go_sem] theorem Tryz.plk244 : plOk Tryz.prog 244 = true := by kernel_rfl
@[go_sem] theorem Tryz.info244 : infoT Tryz.prog 244 = some (64, 64, [.val (.int .u8 0), .val (.int .u8 0), .val (.int .u8 0), .val (.int .u8 0), .val (.int .u8 0), .val (.int .u8 0), .val (.int .u8 0), .val (.int .u8 0), .val (.int .u8 0), .val (.int .u8 0), .val (.int .u8 0), .val (.int .u8 0), .val (.int .u8 0), .val (.int .u8 0), .val (.int .u8 0), .val (.int .u8 0), .val (.int .u8 0), .val (.int .u8 0), .val (.int .u8 0), .val (.int .u8 0), .val (.int .u8 0), .val (.int .u8 0), .val (.int .u8 0), .val (.int .u8 0), .val (.int .u8 0), .val (.int .u8 0), .val (.int .u8 0), .val (.int .u8 0), .val (.int .u8 0), .val (.int .u8 0), .val (.int .u8 0), .val (.int .u8 0), .val (.int .u8 0), .val (.int .u8 0), .val (.int .u8 0), .val (.int .u8 0), .val (.int .u8 0), .val (.int .u8 0), .val (.int .u8 0), .val (.int .u8 0), .val (.int .u8 0), .val (.int .u8 0), .val (.int .u8 0), .val (.int .u8 0), .val (.int .u8 0), .val (.int .u8 0), .val (.int .u8 0), .val (.int .u8 0), .val (.int .u8 0), .val (.int .u8 0), .val (.int .u8 0), .val (.int .u8 0), .val (.int .u8 0), .val (.int .u8 0), .val (.int .u8 0), .val (.int .u8 0), .val (.int .u8 0), .val (.int .u8 0), .val (.int .u8 0), .val (.int .u8 0), .val (.int .u8 0), .val (.int .u8 0), .val (.int .u8 0), .val (.int .u8 0)]) := by kernel_rfl
@[go_sem] theorem Tryz.cof244 : Tryz.prog.cellsOf 244 = 64 := by kernel_rfl
@[go_sem] theorem Tryz.kind245 : kindT Tryz.prog 245 = some none := by kernel_rfl
@[go_sem] theorem Tryz.cof245 : Tryz.prog.cellsOf 245 = 1 := by kernel_rfl
@[go_sem] theorem Tryz.kind246 : kindT Tryz.prog 246 = some (some 4) := by kernel_rfl
@[go_sem] theorem Tryz.fld246_0 : fldT Tryz.prog 246 0 = some 0 := by kernel_rfl
@[go_sem] theorem Tryz.fl1246_0 : fld1T Tryz.prog 246 0 = some 0 := by kernel_rfl
@[go_sem] theorem Tryz.pl246_0 : plT Tryz.prog 246 0 = some 0 := by kernel_rfl
@[go_sem] theorem Tryz.fld246_1 : fldT Tryz.prog 246 1 = some 1 := by kernel_rfl
@[go_sem] theorem Tryz.fl1246_1 : fld1T Tryz.prog 246 1 = some 1 := by kernel_rfl
@[go_sem] theorem Tryz.pl246_1 : plT Tryz.prog 246 1 = some 1 := by kernel_rfl
@[go_sem] theorem Tryz.fld246_2 : fldT Tryz.prog 246 2 = some 2 := by kernel_rfl
@[go_sem] theorem Tryz.fl1246_2 : fld1T Tryz.prog 246 2 = some 2 := by kernel_rfl
@[go_sem] theorem Tryz.pl246_2 : plT Tryz.prog 246 2 = some 2 := by kernel_rfl
@[go_sem] theorem Tryz.fld246_3 : fldT Tryz.prog 246 3 = some 3 := by kernel_rfl
@[go_sem] theorem Tryz.fl1246_3 : fld1T Tryz.prog 246 3 = some 3 := by kernel_rfl
@[go_sem] theorem Tryz.pl246_3 : plT Tryz.prog 246 3 = some 3 := by kernel_rfl
@[go_sem] theorem Tryz.plk246 : plOk Tryz.prog 246 = true := by kernel_rfl
@[go_sem] theorem Tryz.cof246 : Tryz.prog.cellsOf 246 = 4 := by kernel_rfl
@[go_sem] theorem Tryz.kind247 : kindT Tryz.prog 247 = some (some 4) := by kernel_rfl
@[go_sem] theorem Tryz.fld247_0 : fldT Tryz.prog 247 0 = some 0 := by kernel_rfl
@[go_sem] theorem Tryz.fl1247_0 : fld1T Tryz.prog 247 0 = some 0 := by kernel_rfl
@[go_sem] theorem Tryz.pl247_0 : plT Tryz.prog 247 0 = some 0 := by kernel_rfl
@[go_sem] theorem Tryz.fld247_1 : fldT Tryz.prog 247 1 = some 1 := by kernel_rfl
@[go_sem] theorem Tryz.fl1247_1 : fld1T Tryz.prog 247 1 = some 1 := by kernel_rfl
@[go_sem] theorem Tryz.pl247_1 : plT Tryz.prog 247 1 = some 1 := by kernel_rfl
@[go_sem] theorem Tryz.fld247_2 : fldT Tryz.prog 247 2 = some 2 := by kernel_rfl
@[go_sem] theorem Tryz.fl1247_2 : fld1T Tryz.prog 247 2 = some 2 := by kernel_rfl
@[go_sem] theorem Tryz.pl247_2 : plT Tryz.prog 247 2 = some 2 := by kernel_rfl
@[go_sem] theorem Tryz.fld247_3 : fldT Tryz.prog 247 3 = some 3 := by kernel_rfl
@[go_sem] theorem Tryz.fl1247_3 : fld1T Tryz.prog 247 3 = some 3 := by kernel_rfl
@[go_sem] theorem Tryz.pl247_3 : plT Tryz.prog 247 3 = some 3 := by kernel_rfl
@[go_sem] theorem Tryz.plk247 : plOk Tryz.prog 247 = true := by kernel_rfl
@[go_sem] theorem Tryz.cof247 : Tryz.prog.cellsOf 247 = 4 := by kernel_rfl
@[go_sem] theorem Tryz.kind248 : kindT Tryz.prog 248 = some (some 0) := by kernel_rfl
@[go_sem] theorem Tryz.elem248 : elemT Tryz.prog 248 = none := by kernel_rfl
@[go_sem] theorem Tryz.arr248 : arrT Tryz.prog 248 = some (0, 1, true) := by kernel_rfl
@[go_sem] theorem Tryz.plk248 : plOk Tryz.prog 248 = true := by kernel_rfl
@[go_sem] theorem Tryz.info248 : infoT Tryz.prog 248 = some (0, 0, []) := by kernel_rfl
@[go_sem] theorem Tryz.cof248 : Tryz.prog.cellsOf 248 = 0 := by kernel_rfl
@[go_sem] theorem Tryz.kind249 : kindT Tryz.prog 249 = some (some 0) := by kernel_rfl
@[go_sem] theorem Tryz.plk249 : plOk Tryz.prog 249 = true := by kernel_rfl
@[go_sem] theorem Tryz.info249 : infoT Tryz.prog 249 = some (0, 0, []) := by kernel_rfl
@[go_sem] theorem Tryz.cof249 : Tryz.prog.cellsOf 249 = 0 := by kernel_rfl
@[go_sem] theorem Tryz.kind250 : kindT Tryz.prog 250 = some (some 0) := by kernel_rfl
@[go_sem] theorem Tryz.plk250 : plOk Tryz.prog 250 = true := by kernel_rfl
@[go_sem] theorem Tryz.info250 : infoT Tryz.prog 250 = some (0, 0, []) := by kernel_rfl
@[go_sem] theorem Tryz.cof250 : Tryz.prog.cellsOf 250 = 0 := by kernel_rfl
@[go_sem] theorem Tryz.kind251 : kindT Tryz.prog 251 = some none := by kernel_rfl
@[go_sem] theorem Tryz.info251 : infoT Tryz.prog 251 = some (1, 1, [.val (.int .u8 0)]) := by kernel_rfl
@[go_sem] theorem Tryz.cof251 : Tryz.prog.cellsOf 251 = 1 := by kernel_rfl
@[go_sem] theorem Tryz.und251 : Tryz.prog.underlying 251 = some (.int .u8) := by kernel_rfl
@[go_sem] theorem Tryz.kind252 : kindT Tryz.prog 252 = some none := by kernel_rfl
@[go_sem] theorem Tryz.info252 : infoT Tryz.prog 252 = some (1, 1, [.val (.int .u8 0)]) := by kernel_rfl
@[go_sem] theorem Tryz.cof252 : Tryz.prog.cellsOf 252 = 1 := by kernel_rfl
@[go_sem] theorem Tryz.und252 : Tryz.prog.underlying 252 = some (.int .u8) := by kernel_rfl
@[go_sem] theorem Tryz.kind253 : kindT Tryz.prog 253 = some none := by kernel_rfl
@[go_sem] theorem Tryz.cof253 : Tryz.prog.cellsOf 253 = 1 := by kernel_rfl
@[go_sem] theorem Tryz.kind254 : kindT Tryz.prog 254 = some none := by kernel_rfl
@[go_sem] theorem Tryz.info254 : infoT Tryz.prog 254 = some (1, 4, [.val (.int .i32 0)]) := by kernel_rfl
@[go_sem] theorem Tryz.cof254 : Tryz.prog.cellsOf 254 = 1 := by kernel_rfl
@[go_sem] theorem Tryz.und254 : Tryz.prog.underlying 254 = some (.int .i32) := by kernel_rfl
@[go_sem] theorem Tryz.kind255 : kindT Tryz.prog 255 = some none := by kernel_rfl
@[go_sem] theorem Tryz.info255 : infoT Tryz.prog 255 = some (1, 4, [.val (.int .i32 0)]) := by kernel_rfl
@[go_sem] theorem Tryz.cof255 : Tryz.prog.cellsOf 255 = 1 := by kernel_rfl
@[go_sem] theorem Tryz.und255 : Tryz.prog.underlying 255 = some (.int .i32) := by kernel_rfl
@[go_sem] theorem Tryz.kind256 : kindT Tryz.prog 256 = some (some 11) := by kernel_rfl
@[go_sem] theorem Tryz.fld256_0 : fldT Tryz.prog 256 0 = some 0 := by kernel_rfl
@[go_sem] theorem Tryz.fl1256_0 : fld1T Tryz.prog 256 0 = some 0 := by kernel_rfl
@[go_sem] theorem Tryz.pl256_0 : plT Tryz.prog 256 0 = some 0 := by kernel_rfl
@[go_sem] theorem Tryz.fld256_1 : fldT Tryz.prog 256 1 = some 1 := by kernel_rfl
@[go_sem] theorem Tryz.fl1256_1 : fld1T Tryz.prog 256 1 = some 1 := by kernel_rfl
@[go_sem] theorem Tryz.pl256_1 : plT Tryz.prog 256 1 = some 1 := by kernel_rfl
@[go_sem] theorem Tryz.fld256_2 : fldT Tryz.prog 256 2 = some 2 := by kernel_rfl
@[go_sem] theorem Tryz.fl1256_2 : fld1T Tryz.prog 256 2 = some 2 := by kernel_rfl
@[go_sem] theorem Tryz.pl256_2 : plT Tryz.prog 256 2 = some 2 := by kernel_rfl
@[go_sem] theorem Tryz.fld256_3 : fldT Tryz.prog 256 3 = some 3 := by kernel_rfl
@[go_sem] theorem Tryz.fl1256_3 : fld1T Tryz.prog 256 3 = some 3 := by kernel_rfl
@[go_sem] theorem Tryz.pl256_3 : plT Tryz.prog 256 3 = some 3 := by kernel_rfl
@[go_sem] theorem Tryz.fld256_4 : fldT Tryz.prog 256 4 = some 4 := by kernel_rfl
@[go_sem] theorem Tryz.fl1256_4 : fld1T Tryz.prog 256 4 = some 4 := by kernel_rfl
@[go_sem] theorem Tryz.pl256_4 : plT Tryz.prog 256 4 = some 4 := by kernel_rfl
@[go_sem] theorem Tryz.fld256_5 : fldT Tryz.prog 256 5 = some 5 := by kernel_rfl
@[go_sem] theorem Tryz.fl1256_5 : fld1T Tryz.prog 256 5 = some 5 := by kernel_rfl
@[go_sem] theorem Tryz.pl256_5 : plT Tryz.prog 256 5 = some 5 := by kernel_rfl
@[go_sem] theorem Tryz.fld256_6 : fldT Tryz.prog 256 6 = some 6 := by kernel_rfl
@[go_sem] theorem Tryz.fl1256_6 : fld1T Tryz.prog 256 6 = some 6 := by kernel_rfl
@[go_sem] theorem Tryz.pl256_6 : plT Tryz.prog 256 6 = some 6 := by kernel_rfl
@[go_sem] theorem Tryz.fld256_7 : fldT Tryz.prog 256 7 = some 7 := by kernel_rfl
@[go_sem] theorem Tryz.fl1256_7 : fld1T Tryz.prog 256 7 = some 7 := by kernel_rfl
@[go_sem] theorem Tryz.pl256_7 : plT Tryz.prog 256 7 = some 7 := by kernel_rfl
@[go_sem] theorem Tryz.fld256_8 : fldT Tryz.prog 256 8 = some 8 := by kernel_rfl
@[go_sem] theorem Tryz.fl1256_8 : fld1T Tryz.prog 256 8 = some 8 := by kernel_rfl
@[go_sem] theorem Tryz.pl256_8 : plT Tryz.prog 256 8 = some 8 := by kernel_rfl
@[go_sem] theorem Tryz.fld256_9 : fldT Tryz.prog 256 9 = some 9 := by kernel_rfl
@[go_sem] theorem Tryz.fl1256_9 : fld1T Tryz.prog 256 9 = some 9 := by kernel_rfl
@[go_sem] theorem Tryz.pl256_9 : plT Tryz.prog 256 9 = some 9 := by kernel_rfl
@[go_sem] theorem Tryz.fld256_10 : fldT Tryz.prog 256 10 = some 10 := by kernel_rfl
@[go_sem] theorem Tryz.fl1256_10 : fld1T Tryz.prog 256 10 = some 10 := by kernel_rfl
@[go_sem] theorem Tryz.pl256_10 : plT Tryz.prog 256 10 = some 10 := by kernel_rfl
@[go_sem] theorem Tryz.plk256 : plOk Tryz.prog 256 = true := by kernel_rfl
@[go_sem] theorem Tryz.cof256 : Tryz.prog.cellsOf 256 = 11 := by kernel_rfl
@[go_sem] theorem Tryz.kind257 : kindT Tryz.prog 257 = some (some 11) := by kernel_rfl
@[go_sem] theorem Tryz.fld257_0 : fldT Tryz.prog 257 0 = some 0 := by kernel_rfl
@[go_sem] theorem Tryz.fl1257_0 : fld1T Tryz.prog 257 0 = some 0 := by kernel_rfl
@[go_sem] theorem Tryz.pl257_0 : plT Tryz.prog 257 0 = some 0 := by kernel_rfl
@[go_sem] theorem Tryz.fld257_1 : fldT Tryz.prog 257 1 = some 1 := by kernel_rfl
@[go_sem] theorem Tryz.fl1257_1 : fld1T Tryz.prog 257 1 = some 1 := by kernel_rfl
@[go_sem] theorem Tryz.pl257_1 : plT Tryz.prog 257 1 = some 1 := by kernel_rfl
@[go_sem] theorem Tryz.fld257_2 : fldT Tryz.prog 257 2 = some 2 := by kernel_rfl
@[go_sem] theorem Tryz.fl1257_2 : fld1T Tryz.prog 257 2 = some 2 := by kernel_rfl
@[go_sem] theorem Tryz.pl257_2 : plT Tryz.prog 257 2 = some 2 := by kernel_rfl
@[go_sem] theorem Tryz.fld257_3 : fldT Tryz.prog 257 3 = some 3 := by kernel_rfl
@[go_sem] theorem Tryz.fl1257_3 : fld1T Tryz.prog 257 3 = some 3 := by kernel_rfl
@[go_sem] theorem Tryz.pl257_3 : plT Tryz.prog 257 3 = some 3 := by kernel_rfl
@[go_sem] theorem Tryz.fld257_4 : fldT Tryz.prog 257 4 = some 4 := by kernel_rfl
@[go_sem] theorem Tryz.fl1257_4 : fld1T Tryz.prog 257 4 = some 4 := by kernel_rfl
@[go_sem] theorem Tryz.pl257_4 : plT Tryz.prog 257 4 = some 4 := by kernel_rfl
@[go_sem] theorem Tryz.fld257_5 : fldT Tryz.prog 257 5 = some 5 := by kernel_rfl
@[go_sem] theorem Tryz.fl1257_5 : fld1T Tryz.prog 257 5 = some 5 := by kernel_rfl
@[go_sem] theorem Tryz.pl257_5 : plT Tryz.prog 257 5 = some 5 := by kernel_rfl
@[go_sem] theorem Tryz.fld257_6 : fldT Tryz.prog 257 6 = some 6 := by kernel_rfl
@[go_sem] theorem Tryz.fl1257_6 : fld1T Tryz.prog 257 6 = some 6 := by kernel_rfl
@[go_sem] theorem Tryz.pl257_6 : plT Tryz.prog 257 6 = some 6 := by kernel_rfl
@[go_sem] theorem Tryz.fld257_7 : fldT Tryz.prog 257 7 = some 7 := by kernel_rfl
@[go_sem] theorem Tryz.fl1257_7 : fld1T Tryz.prog 257 7 = some 7 := by kernel_rfl
@[go_sem] theorem Tryz.pl257_7 : plT Tryz.prog 257 7 = some 7 := by kernel_rfl
@[go_sem] theorem Tryz.fld257_8 : fldT Tryz.prog 257 8 = some 8 := by kernel_rfl
@[go_sem] theorem Tryz.fl1257_8 : fld1T Tryz.prog 257 8 = some 8 := by kernel_rfl
@[go_sem] theorem Tryz.pl257_8 : plT Tryz.prog 257 8 = some 8 := by kernel_rfl
@[go_sem] theorem Tryz.fld257_9 : fldT Tryz.prog 257 9 = some 9 := by kernel_rfl
@[go_sem] theorem Tryz.fl1257_9 : fld1T Tryz.prog 257 9 = some 9 := by kernel_rfl
@[go_sem] theorem Tryz.pl257_9 : plT Tryz.prog 257 9 = some 9 := by kernel_rfl
@[go_sem] theorem Tryz.fld257_10 : fldT Tryz.prog 257 10 = some 10 := by kernel_rfl
@[go_sem] theorem Tryz.fl1257_10 : fld1T Tryz.prog 257 10 = some 10 := by kernel_rfl
@[go_sem] theorem Tryz.pl257_10 : plT Tryz.prog 257 10 = some 10 := by kernel_rfl
@[go_sem] theorem Tryz.plk257 : plOk Tryz.prog 257 = true := by kernel_rfl
@[go_sem] theorem Tryz.cof257 : Tryz.prog.cellsOf 257 = 11 := by kernel_rfl
@[go_sem] theorem Tryz.kind258 : kindT Tryz.prog 258 = some none := by kernel_rfl
@[go_sem] theorem Tryz.cof258 : Tryz.prog.cellsOf 258 = 1 := by kernel_rfl
end Go.Proofs

/- Layings of functions of strings and strconv at the program. -/
namespace Go.Proofs.YtnokgijakdaehaaGreatDoor
open Go.Shelf Go.Proofs
set_option maxRecDepth 100000
def Tryz.sCutPrefix_ren : Go.Shelf.Ren := ⟨fun | 103 => 190 | 210 => 202 | 206 => 212 | n => n, fun | 9 => 9 | 4 => 4 | 24 => 92 | 3 => 3 | n => n, fun | n => n⟩
theorem Tryz.sCutPrefix : Go.Proofs.Lays.n103 Tryz.prog Tryz.sCutPrefix_ren := {
  mixed := by kernel_rfl,
  f103 := Tryz.func190.trans (congrArg some (by kernel_rfl)),
  f206 := Tryz.func212.trans (congrArg some (by kernel_rfl)),
  f210 := Tryz.func202.trans (congrArg some (by kernel_rfl)),
  t3 := Tryz.underlying3,
  a3 := Tryz.isAgg3,
  z3 := Tryz.sizeOf3,
  v3 := Tryz.zeroValue3,
  t4 := Tryz.underlying4,
  a4 := Tryz.isAgg4,
  z4 := Tryz.sizeOf4,
  v4 := Tryz.zeroValue4,
  t9 := Tryz.underlying9,
  a9 := Tryz.isAgg9,
  z9 := Tryz.sizeOf9,
  v9 := Tryz.zeroValue9,
  t24 := Tryz.underlying92,
  a24 := Tryz.isAgg92,
  z24 := Tryz.sizeOf92,
  v24 := Tryz.zeroValue92 }
def Tryz.sCut_ren : Go.Shelf.Ren := ⟨fun | 145 => 135 | 220 => 176 | 219 => 189 | 217 => 198 | 225 => 199 | 224 => 200 | 267 => 201 | 266 => 210 | 314 => 211 | n => n, fun | 9 => 9 | 4 => 4 | 59 => 153 | 3 => 3 | 5 => 5 | 46 => 111 | 146 => 207 | 51 => 206 | n => n, fun | 1 => 0 | n => n⟩
theorem Tryz.sCut : Go.Proofs.Lays.n145 Tryz.prog Tryz.sCut_ren := {
  mixed := by kernel_rfl,
  f145 := Tryz.func135.trans (congrArg some (by kernel_rfl)),
  f217 := Tryz.func198.trans (congrArg some (by kernel_rfl)),
  f219 := Tryz.func189.trans (congrArg some (by kernel_rfl)),
  f220 := Tryz.func176.trans (congrArg some (by kernel_rfl)),
  f224 := Tryz.func200.trans (congrArg some (by kernel_rfl)),
  f225 := Tryz.func199.trans (congrArg some (by kernel_rfl)),
  f266 := Tryz.func210.trans (congrArg some (by kernel_rfl)),
  f267 := Tryz.func201.trans (congrArg some (by kernel_rfl)),
  f314 := Tryz.func211.trans (congrArg some (by kernel_rfl)),
  t3 := Tryz.underlying3,
  a3 := Tryz.isAgg3,
  z3 := Tryz.sizeOf3,
  v3 := Tryz.zeroValue3,
  t4 := Tryz.underlying4,
  a4 := Tryz.isAgg4,
  z4 := Tryz.sizeOf4,
  v4 := Tryz.zeroValue4,
  t5 := Tryz.underlying5,
  a5 := Tryz.isAgg5,
  z5 := Tryz.sizeOf5,
  v5 := Tryz.zeroValue5,
  t9 := Tryz.underlying9,
  a9 := Tryz.isAgg9,
  z9 := Tryz.sizeOf9,
  v9 := Tryz.zeroValue9,
  t46 := Tryz.underlying111,
  a46 := Tryz.isAgg111,
  z46 := Tryz.sizeOf111,
  v46 := Tryz.zeroValue111,
  t51 := Tryz.underlying206,
  a51 := Tryz.isAgg206,
  z51 := Tryz.sizeOf206,
  v51 := Tryz.zeroValue206,
  t59 := Tryz.underlying153,
  a59 := Tryz.isAgg153,
  z59 := Tryz.sizeOf153,
  v59 := Tryz.zeroValue153,
  t146 := Tryz.underlying207,
  a146 := Tryz.isAgg207,
  z146 := Tryz.sizeOf207,
  v146 := Tryz.zeroValue207,
  g1 := by kernel_rfl }
def Tryz.sSplit_ren : Go.Shelf.Ren := ⟨fun | 146 => 137 | 221 => 178 | 268 => 193 | 138 => 194 | 143 => 195 | 195 => 205 | 197 => 206 | 218 => 207 | 219 => 189 | 260 => 216 | 217 => 198 | 225 => 199 | 224 => 200 | 267 => 201 | 266 => 210 | 314 => 211 | n => n, fun | 9 => 9 | 31 => 52 | 3 => 3 | 4 => 4 | 0 => 0 | 105 => 203 | 21 => 21 | 5 => 5 | 46 => 111 | 119 => 223 | 139 => 226 | 138 => 225 | 146 => 207 | 51 => 206 | n => n, fun | 1 => 0 | 3 => 1 | 4 => 2 | n => n⟩
theorem Tryz.sSplit : Go.Proofs.Lays.n146 Tryz.prog Tryz.sSplit_ren := {
  mixed := by kernel_rfl,
  f138 := Tryz.func194.trans (congrArg some (by kernel_rfl)),
  f143 := Tryz.func195.trans (congrArg some (by kernel_rfl)),
  f146 := Tryz.func137.trans (congrArg some (by kernel_rfl)),
  f195 := Tryz.func205.trans (congrArg some (by kernel_rfl)),
  f197 := Tryz.func206.trans (congrArg some (by kernel_rfl)),
  f217 := Tryz.func198.trans (congrArg some (by kernel_rfl)),
  f218 := Tryz.func207.trans (congrArg some (by kernel_rfl)),
  f219 := Tryz.func189.trans (congrArg some (by kernel_rfl)),
  f221 := Tryz.func178.trans (congrArg some (by kernel_rfl)),
  f224 := Tryz.func200.trans (congrArg some (by kernel_rfl)),
  f225 := Tryz.func199.trans (congrArg some (by kernel_rfl)),
  f260 := Tryz.func216.trans (congrArg some (by kernel_rfl)),
  f266 := Tryz.func210.trans (congrArg some (by kernel_rfl)),
  f267 := Tryz.func201.trans (congrArg some (by kernel_rfl)),
  f268 := Tryz.func193.trans (congrArg some (by kernel_rfl)),
  f314 := Tryz.func211.trans (congrArg some (by kernel_rfl)),
  t0 := Tryz.underlying0,
  a0 := Tryz.isAgg0,
  z0 := Tryz.sizeOf0,
  v0 := Tryz.zeroValue0,
  t3 := Tryz.underlying3,
  a3 := Tryz.isAgg3,
  z3 := Tryz.sizeOf3,
  v3 := Tryz.zeroValue3,
  t4 := Tryz.underlying4,
  a4 := Tryz.isAgg4,
  z4 := Tryz.sizeOf4,
  v4 := Tryz.zeroValue4,
  t5 := Tryz.underlying5,
  a5 := Tryz.isAgg5,
  z5 := Tryz.sizeOf5,
  v5 := Tryz.zeroValue5,
  t9 := Tryz.underlying9,
  a9 := Tryz.isAgg9,
  z9 := Tryz.sizeOf9,
  v9 := Tryz.zeroValue9,
  t21 := Tryz.underlying21,
  a21 := Tryz.isAgg21,
  z21 := Tryz.sizeOf21,
  v21 := Tryz.zeroValue21,
  t31 := Tryz.underlying52,
  a31 := Tryz.isAgg52,
  z31 := Tryz.sizeOf52,
  v31 := Tryz.zeroValue52,
  t46 := Tryz.underlying111,
  a46 := Tryz.isAgg111,
  z46 := Tryz.sizeOf111,
  v46 := Tryz.zeroValue111,
  t51 := Tryz.underlying206,
  a51 := Tryz.isAgg206,
  z51 := Tryz.sizeOf206,
  v51 := Tryz.zeroValue206,
  t105 := Tryz.underlying203,
  a105 := Tryz.isAgg203,
  z105 := Tryz.sizeOf203,
  v105 := Tryz.zeroValue203,
  t119 := Tryz.underlying223,
  a119 := Tryz.isAgg223,
  z119 := Tryz.sizeOf223,
  t138 := Tryz.underlying225,
  a138 := Tryz.isAgg225,
  z138 := Tryz.sizeOf225,
  v138 := Tryz.zeroValue225,
  t139 := Tryz.underlying226,
  a139 := Tryz.isAgg226,
  z139 := Tryz.sizeOf226,
  v139 := Tryz.zeroValue226,
  t146 := Tryz.underlying207,
  a146 := Tryz.isAgg207,
  z146 := Tryz.sizeOf207,
  v146 := Tryz.zeroValue207,
  g1 := by kernel_rfl,
  g3 := by kernel_rfl,
  g4 := by kernel_rfl }
def Tryz.sParseInt_ren : Go.Shelf.Ren := ⟨fun | 174 => 203 | 247 => 213 | 245 => 214 | 287 => 217 | 279 => 218 | 280 => 219 | 281 => 220 | 282 => 221 | 321 => 226 | 322 => 227 | 316 => 228 | 171 => 230 | 205 => 229 | 243 => 236 | 246 => 215 | 283 => 222 | 284 => 223 | 285 => 224 | 286 => 225 | 129 => 232 | 317 => 231 | 318 => 233 | 319 => 234 | 320 => 235 | 337 => 237 | 338 => 238 | n => n, fun | 9 => 9 | 3 => 3 | 2 => 2 | 75 => 198 | 85 => 199 | 4 => 4 | 167 => 211 | 5 => 5 | 53 => 51 | 175 => 212 | 46 => 111 | 168 => 214 | 37 => 22 | 0 => 0 | 210 => 231 | 21 => 21 | 127 => 238 | 145 => 241 | 143 => 239 | 171 => 218 | 173 => 221 | 212 => 234 | 51 => 206 | 20 => 20 | 213 => 235 | 232 => 243 | 233 => 244 | 80 => 245 | n => n, fun | 15 => 3 | 16 => 4 | 17 => 5 | 18 => 6 | 19 => 7 | n => n⟩
theorem Tryz.sParseInt : Go.Proofs.LaysC.n174 Tryz.prog Tryz.sParseInt_ren := {
  mixed := by kernel_rfl,
  f129 := Tryz.func232.trans (congrArg some (by kernel_rfl)),
  f171 := Tryz.func230.trans (congrArg some (by kernel_rfl)),
  f174 := Tryz.func203.trans (congrArg some (by kernel_rfl)),
  f205 := Tryz.func229.trans (congrArg some (by kernel_rfl)),
  f243 := Tryz.func236.trans (congrArg some (by kernel_rfl)),
  f245 := Tryz.func214.trans (congrArg some (by kernel_rfl)),
  f246 := Tryz.func215.trans (congrArg some (by kernel_rfl)),
  f247 := Tryz.func213.trans (congrArg some (by kernel_rfl)),
  f279 := Tryz.func218.trans (congrArg some (by kernel_rfl)),
  f280 := Tryz.func219.trans (congrArg some (by kernel_rfl)),
  f281 := Tryz.func220.trans (congrArg some (by kernel_rfl)),
  f282 := Tryz.func221.trans (congrArg some (by kernel_rfl)),
  f283 := Tryz.func222.trans (congrArg some (by kernel_rfl)),
  f284 := Tryz.func223.trans (congrArg some (by kernel_rfl)),
  f285 := Tryz.func224.trans (congrArg some (by kernel_rfl)),
  f286 := Tryz.func225.trans (congrArg some (by kernel_rfl)),
  f287 := Tryz.func217.trans (congrArg some (by kernel_rfl)),
  f316 := Tryz.func228.trans (congrArg some (by kernel_rfl)),
  f317 := Tryz.func231.trans (congrArg some (by kernel_rfl)),
  f318 := Tryz.func233.trans (congrArg some (by kernel_rfl)),
  f319 := Tryz.func234.trans (congrArg some (by kernel_rfl)),
  f320 := Tryz.func235.trans (congrArg some (by kernel_rfl)),
  f321 := Tryz.func226.trans (congrArg some (by kernel_rfl)),
  f322 := Tryz.func227.trans (congrArg some (by kernel_rfl)),
  f337 := Tryz.func237.trans (congrArg some (by kernel_rfl)),
  f338 := Tryz.func238.trans (congrArg some (by kernel_rfl)),
  t0 := Tryz.underlying0,
  a0 := Tryz.isAgg0,
  z0 := Tryz.sizeOf0,
  v0 := Tryz.zeroValue0,
  t2 := Tryz.underlying2,
  a2 := Tryz.isAgg2,
  z2 := Tryz.sizeOf2,
  v2 := Tryz.zeroValue2,
  t3 := Tryz.underlying3,
  a3 := Tryz.isAgg3,
  z3 := Tryz.sizeOf3,
  v3 := Tryz.zeroValue3,
  t4 := Tryz.underlying4,
  a4 := Tryz.isAgg4,
  z4 := Tryz.sizeOf4,
  v4 := Tryz.zeroValue4,
  t5 := Tryz.underlying5,
  a5 := Tryz.isAgg5,
  z5 := Tryz.sizeOf5,
  v5 := Tryz.zeroValue5,
  t9 := Tryz.underlying9,
  a9 := Tryz.isAgg9,
  z9 := Tryz.sizeOf9,
  v9 := Tryz.zeroValue9,
  t20 := Tryz.underlying20,
  a20 := Tryz.isAgg20,
  z20 := Tryz.sizeOf20,
  v20 := Tryz.zeroValue20,
  t21 := Tryz.underlying21,
  a21 := Tryz.isAgg21,
  z21 := Tryz.sizeOf21,
  v21 := Tryz.zeroValue21,
  t37 := Tryz.underlying22,
  a37 := Tryz.isAgg22,
  z37 := Tryz.sizeOf22,
  v37 := Tryz.zeroValue22,
  t46 := Tryz.underlying111,
  a46 := Tryz.isAgg111,
  z46 := Tryz.sizeOf111,
  v46 := Tryz.zeroValue111,
  t51 := Tryz.underlying206,
  a51 := Tryz.isAgg206,
  z51 := Tryz.sizeOf206,
  v51 := Tryz.zeroValue206,
  t53 := Tryz.underlying51,
  a53 := Tryz.isAgg51,
  z53 := Tryz.sizeOf51,
  v53 := Tryz.zeroValue51,
  t75 := Tryz.underlying198,
  a75 := Tryz.isAgg198,
  z75 := Tryz.sizeOf198,
  v75 := Tryz.zeroValue198,
  t85 := Tryz.underlying199,
  a85 := Tryz.isAgg199,
  z85 := Tryz.sizeOf199,
  v85 := Tryz.zeroValue199,
  t127 := Tryz.underlying238,
  a127 := Tryz.isAgg238,
  z127 := Tryz.sizeOf238,
  v127 := Tryz.zeroValue238,
  t143 := Tryz.underlying239,
  a143 := Tryz.isAgg239,
  z143 := Tryz.sizeOf239,
  v143 := Tryz.zeroValue239,
  t145 := Tryz.underlying241,
  a145 := Tryz.isAgg241,
  z145 := Tryz.sizeOf241,
  v145 := Tryz.zeroValue241,
  t167 := Tryz.underlying211,
  a167 := Tryz.isAgg211,
  z167 := Tryz.sizeOf211,
  v167 := Tryz.zeroValue211,
  t168 := Tryz.underlying214,
  a168 := Tryz.isAgg214,
  z168 := Tryz.sizeOf214,
  v168 := Tryz.zeroValue214,
  t171 := Tryz.underlying218,
  a171 := Tryz.isAgg218,
  z171 := Tryz.sizeOf218,
  v171 := Tryz.zeroValue218,
  t173 := Tryz.underlying221,
  a173 := Tryz.isAgg221,
  z173 := Tryz.sizeOf221,
  v173 := Tryz.zeroValue221,
  t175 := Tryz.underlying212,
  a175 := Tryz.isAgg212,
  z175 := Tryz.sizeOf212,
  v175 := Tryz.zeroValue212,
  t210 := Tryz.underlying231,
  a210 := Tryz.isAgg231,
  z210 := Tryz.sizeOf231,
  v210 := Tryz.zeroValue231,
  t212 := Tryz.underlying234,
  a212 := Tryz.isAgg234,
  z212 := Tryz.sizeOf234,
  v212 := Tryz.zeroValue234,
  t213 := Tryz.underlying235,
  a213 := Tryz.isAgg235,
  z213 := Tryz.sizeOf235,
  t232 := Tryz.underlying243,
  a232 := Tryz.isAgg243,
  z232 := Tryz.sizeOf243,
  v232 := Tryz.zeroValue243,
  t233 := Tryz.underlying244,
  a233 := Tryz.isAgg244,
  z233 := Tryz.sizeOf244,
  v233 := Tryz.zeroValue244,
  g15 := by kernel_rfl,
  g16 := by kernel_rfl,
  g17 := by kernel_rfl,
  g18 := by kernel_rfl,
  g19 := by kernel_rfl,
  t80 := Tryz.underlying245,
  a80 := Tryz.isAgg245,
  z80 := Tryz.sizeOf245,
  v80 := Tryz.zeroValue245,
  i0 := by kernel_rfl,
  i2 := by kernel_rfl,
  i3 := by kernel_rfl,
  i4 := by kernel_rfl,
  i5 := by kernel_rfl,
  i9 := by kernel_rfl,
  i20 := by kernel_rfl,
  i21 := by kernel_rfl,
  i37 := by kernel_rfl,
  i46 := by kernel_rfl,
  i51 := by kernel_rfl,
  i53 := by kernel_rfl,
  i75 := by kernel_rfl,
  i80 := by kernel_rfl,
  i85 := by kernel_rfl,
  i127 := by kernel_rfl,
  i143 := by kernel_rfl,
  i145 := by kernel_rfl,
  i167 := by kernel_rfl,
  i168 := by kernel_rfl,
  i171 := by kernel_rfl,
  i173 := by kernel_rfl,
  i175 := by kernel_rfl,
  i210 := by kernel_rfl,
  i212 := by kernel_rfl,
  i232 := by kernel_rfl,
  i233 := by kernel_rfl,
  m15 := by kernel_rfl,
  m16 := by kernel_rfl,
  m17 := by kernel_rfl,
  m18 := by kernel_rfl,
  m19 := by kernel_rfl,
  c0 := by kernel_rfl,
  c2 := by kernel_rfl,
  c3 := by kernel_rfl,
  c4 := by kernel_rfl,
  c5 := by kernel_rfl,
  c9 := by kernel_rfl,
  c20 := by kernel_rfl,
  c21 := by kernel_rfl,
  c37 := by kernel_rfl,
  c46 := by kernel_rfl,
  c51 := by kernel_rfl,
  c53 := by kernel_rfl,
  c75 := by kernel_rfl,
  c80 := by kernel_rfl,
  c85 := by kernel_rfl,
  c127 := by kernel_rfl,
  c143 := by kernel_rfl,
  c145 := by kernel_rfl,
  c167 := by kernel_rfl,
  c168 := by kernel_rfl,
  c171 := by kernel_rfl,
  c173 := by kernel_rfl,
  c175 := by kernel_rfl,
  c210 := by kernel_rfl,
  c212 := by kernel_rfl,
  c213 := by kernel_rfl,
  c232 := by kernel_rfl,
  c233 := by kernel_rfl }
def Tryz.sFormatInt_ren : Go.Shelf.Ren := ⟨fun | 173 => 204 | 246 => 215 | 283 => 222 | 284 => 223 | 285 => 224 | 286 => 225 | 129 => 232 | 317 => 231 | 318 => 233 | 319 => 234 | 320 => 235 | 337 => 237 | 338 => 238 | n => n, fun | 2 => 2 | 3 => 3 | 9 => 9 | 4 => 4 | 171 => 218 | 0 => 0 | 53 => 51 | 37 => 22 | 5 => 5 | 173 => 221 | 212 => 234 | 51 => 206 | 20 => 20 | 213 => 235 | 46 => 111 | 232 => 243 | 233 => 244 | n => n, fun | 17 => 5 | 18 => 6 | 19 => 7 | n => n⟩
theorem Tryz.sFormatInt : Go.Proofs.Lays.n173 Tryz.prog Tryz.sFormatInt_ren := {
  mixed := by kernel_rfl,
  f129 := Tryz.func232.trans (congrArg some (by kernel_rfl)),
  f173 := Tryz.func204.trans (congrArg some (by kernel_rfl)),
  f246 := Tryz.func215.trans (congrArg some (by kernel_rfl)),
  f283 := Tryz.func222.trans (congrArg some (by kernel_rfl)),
  f284 := Tryz.func223.trans (congrArg some (by kernel_rfl)),
  f285 := Tryz.func224.trans (congrArg some (by kernel_rfl)),
  f286 := Tryz.func225.trans (congrArg some (by kernel_rfl)),
  f317 := Tryz.func231.trans (congrArg some (by kernel_rfl)),
  f318 := Tryz.func233.trans (congrArg some (by kernel_rfl)),
  f319 := Tryz.func234.trans (congrArg some (by kernel_rfl)),
  f320 := Tryz.func235.trans (congrArg some (by kernel_rfl)),
  f337 := Tryz.func237.trans (congrArg some (by kernel_rfl)),
  f338 := Tryz.func238.trans (congrArg some (by kernel_rfl)),
  t0 := Tryz.underlying0,
  a0 := Tryz.isAgg0,
  z0 := Tryz.sizeOf0,
  v0 := Tryz.zeroValue0,
  t2 := Tryz.underlying2,
  a2 := Tryz.isAgg2,
  z2 := Tryz.sizeOf2,
  v2 := Tryz.zeroValue2,
  t3 := Tryz.underlying3,
  a3 := Tryz.isAgg3,
  z3 := Tryz.sizeOf3,
  v3 := Tryz.zeroValue3,
  t4 := Tryz.underlying4,
  a4 := Tryz.isAgg4,
  z4 := Tryz.sizeOf4,
  v4 := Tryz.zeroValue4,
  t5 := Tryz.underlying5,
  a5 := Tryz.isAgg5,
  z5 := Tryz.sizeOf5,
  v5 := Tryz.zeroValue5,
  t9 := Tryz.underlying9,
  a9 := Tryz.isAgg9,
  z9 := Tryz.sizeOf9,
  v9 := Tryz.zeroValue9,
  t20 := Tryz.underlying20,
  a20 := Tryz.isAgg20,
  z20 := Tryz.sizeOf20,
  v20 := Tryz.zeroValue20,
  t37 := Tryz.underlying22,
  a37 := Tryz.isAgg22,
  z37 := Tryz.sizeOf22,
  v37 := Tryz.zeroValue22,
  t46 := Tryz.underlying111,
  a46 := Tryz.isAgg111,
  z46 := Tryz.sizeOf111,
  v46 := Tryz.zeroValue111,
  t51 := Tryz.underlying206,
  a51 := Tryz.isAgg206,
  z51 := Tryz.sizeOf206,
  v51 := Tryz.zeroValue206,
  t53 := Tryz.underlying51,
  a53 := Tryz.isAgg51,
  z53 := Tryz.sizeOf51,
  v53 := Tryz.zeroValue51,
  t171 := Tryz.underlying218,
  a171 := Tryz.isAgg218,
  z171 := Tryz.sizeOf218,
  v171 := Tryz.zeroValue218,
  t173 := Tryz.underlying221,
  a173 := Tryz.isAgg221,
  z173 := Tryz.sizeOf221,
  v173 := Tryz.zeroValue221,
  t212 := Tryz.underlying234,
  a212 := Tryz.isAgg234,
  z212 := Tryz.sizeOf234,
  v212 := Tryz.zeroValue234,
  t213 := Tryz.underlying235,
  a213 := Tryz.isAgg235,
  z213 := Tryz.sizeOf235,
  t232 := Tryz.underlying243,
  a232 := Tryz.isAgg243,
  z232 := Tryz.sizeOf243,
  v232 := Tryz.zeroValue243,
  t233 := Tryz.underlying244,
  a233 := Tryz.isAgg244,
  z233 := Tryz.sizeOf244,
  v233 := Tryz.zeroValue244,
  g17 := by kernel_rfl,
  g18 := by kernel_rfl,
  g19 := by kernel_rfl }
end Go.Proofs.YtnokgijakdaehaaGreatDoor

/- Layings of the library's sort at the program's own types. -/
namespace Go.Proofs.YtnokgijakdaehaaGreatDoor
open Go.Shelf Go.Sort
set_option maxRecDepth 100000

end Go.Proofs.YtnokgijakdaehaaGreatDoor
