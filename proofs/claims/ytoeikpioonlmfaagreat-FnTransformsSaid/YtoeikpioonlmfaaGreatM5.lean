/- Texts of the own layer and contracts, part 5: Tab Srt. -/
import Derived.Test.YtoeikpioonlmfaaGreatProg
import Derived.KernelRfl
import Derived.Shelf.SlSortCmp.NoneTotal
import Derived.Test.YtoeikpioonlmfaaGreatM4
/- What the loaded program says of its types. Written by a program (gentab.py). -/
namespace Go.Proofs
open Go.Abs
instance Tryz.drawK : DrawK := ⟨0⟩
theorem Tryz.mixed : Tryz.prog.follows .mixedOrders = true := by kernel_rfl
@[go_sem] theorem Tryz.kind1 : kindT Tryz.prog 1 = some none := by kernel_rfl
@[go_sem] theorem Tryz.cof1 : Tryz.prog.cellsOf 1 = 1 := by kernel_rfl
@[go_sem] theorem Tryz.kind2 : kindT Tryz.prog 2 = some none := by kernel_rfl
@[go_sem] theorem Tryz.info2 : infoT Tryz.prog 2 = some (1, 8, [.val (.int .i64 0)]) := by kernel_rfl
@[go_sem] theorem Tryz.cof2 : Tryz.prog.cellsOf 2 = 1 := by kernel_rfl
@[go_sem] theorem Tryz.und2 : Tryz.prog.underlying 2 = some (.int .i64) := by kernel_rfl
@[go_sem] theorem Tryz.kind3 : kindT Tryz.prog 3 = some none := by kernel_rfl
@[go_sem] theorem Tryz.info3 : infoT Tryz.prog 3 = some (1, 8, [.val (.int .i64 0)]) := by kernel_rfl
@[go_sem] theorem Tryz.cof3 : Tryz.prog.cellsOf 3 = 1 := by kernel_rfl
@[go_sem] theorem Tryz.und3 : Tryz.prog.underlying 3 = some (.int .i64) := by kernel_rfl
@[go_sem] theorem Tryz.kind4 : kindT Tryz.prog 4 = some none := by kernel_rfl
@[go_sem] theorem Tryz.isbool4 : boolT Tryz.prog 4 = true := by kernel_rfl
@[go_sem] theorem Tryz.info4 : infoT Tryz.prog 4 = some (1, 1, [.val (.bool false)]) := by kernel_rfl
@[go_sem] theorem Tryz.cof4 : Tryz.prog.cellsOf 4 = 1 := by kernel_rfl
@[go_sem] theorem Tryz.kind5 : kindT Tryz.prog 5 = some none := by kernel_rfl
@[go_sem] theorem Tryz.info5 : infoT Tryz.prog 5 = some (1, 1, [.val (.int .u8 0)]) := by kernel_rfl
@[go_sem] theorem Tryz.cof5 : Tryz.prog.cellsOf 5 = 1 := by kernel_rfl
@[go_sem] theorem Tryz.und5 : Tryz.prog.underlying 5 = some (.int .u8) := by kernel_rfl
@[go_sem] theorem Tryz.kind6 : kindT Tryz.prog 6 = some none := by kernel_rfl
@[go_sem] theorem Tryz.info6 : infoT Tryz.prog 6 = some (1, 1, [.val (.int .u8 0)]) := by kernel_rfl
@[go_sem] theorem Tryz.cof6 : Tryz.prog.cellsOf 6 = 1 := by kernel_rfl
@[go_sem] theorem Tryz.und6 : Tryz.prog.underlying 6 = some (.int .u8) := by kernel_rfl
@[go_sem] theorem Tryz.kind7 : kindT Tryz.prog 7 = some (some 4) := by kernel_rfl
@[go_sem] theorem Tryz.fld7_0 : fldT Tryz.prog 7 0 = some 0 := by kernel_rfl
@[go_sem] theorem Tryz.fl17_0 : fld1T Tryz.prog 7 0 = some 0 := by kernel_rfl
@[go_sem] theorem Tryz.pl7_0 : plT Tryz.prog 7 0 = some 0 := by kernel_rfl
@[go_sem] theorem Tryz.fld7_1 : fldT Tryz.prog 7 1 = some 1 := by kernel_rfl
@[go_sem] theorem Tryz.fl17_1 : fld1T Tryz.prog 7 1 = some 1 := by kernel_rfl
@[go_sem] theorem Tryz.pl7_1 : plT Tryz.prog 7 1 = some 1 := by kernel_rfl
@[go_sem] theorem Tryz.fld7_2 : fldT Tryz.prog 7 2 = some 2 := by kernel_rfl
@[go_sem] theorem Tryz.fl17_2 : fld1T Tryz.prog 7 2 = some 2 := by kernel_rfl
@[go_sem] theorem Tryz.pl7_2 : plT Tryz.prog 7 2 = some 2 := by kernel_rfl
@[go_sem] theorem Tryz.fld7_3 : fldT Tryz.prog 7 3 = some 3 := by kernel_rfl
@[go_sem] theorem Tryz.fl17_3 : fld1T Tryz.prog 7 3 = some 3 := by kernel_rfl
@[go_sem] theorem Tryz.pl7_3 : plT Tryz.prog 7 3 = some 3 := by kernel_rfl
@[go_sem] theorem Tryz.plk7 : plOk Tryz.prog 7 = true := by kernel_rfl
@[go_sem] theorem Tryz.info7 : infoT Tryz.prog 7 = some (4, 24, [.val (.int .i64 0), .val (.int .i64 0), .val (.bool false), .val (.int .u8 0)]) := by kernel_rfl
@[go_sem] theorem Tryz.cof7 : Tryz.prog.cellsOf 7 = 4 := by kernel_rfl
@[go_sem] theorem Tryz.kind8 : kindT Tryz.prog 8 = some (some 4) := by kernel_rfl
@[go_sem] theorem Tryz.fld8_0 : fldT Tryz.prog 8 0 = some 0 := by kernel_rfl
@[go_sem] theorem Tryz.fl18_0 : fld1T Tryz.prog 8 0 = some 0 := by kernel_rfl
@[go_sem] theorem Tryz.pl8_0 : plT Tryz.prog 8 0 = some 0 := by kernel_rfl
@[go_sem] theorem Tryz.fld8_1 : fldT Tryz.prog 8 1 = some 1 := by kernel_rfl
@[go_sem] theorem Tryz.fl18_1 : fld1T Tryz.prog 8 1 = some 1 := by kernel_rfl
@[go_sem] theorem Tryz.pl8_1 : plT Tryz.prog 8 1 = some 1 := by kernel_rfl
@[go_sem] theorem Tryz.fld8_2 : fldT Tryz.prog 8 2 = some 2 := by kernel_rfl
@[go_sem] theorem Tryz.fl18_2 : fld1T Tryz.prog 8 2 = some 2 := by kernel_rfl
@[go_sem] theorem Tryz.pl8_2 : plT Tryz.prog 8 2 = some 2 := by kernel_rfl
@[go_sem] theorem Tryz.fld8_3 : fldT Tryz.prog 8 3 = some 3 := by kernel_rfl
@[go_sem] theorem Tryz.fl18_3 : fld1T Tryz.prog 8 3 = some 3 := by kernel_rfl
@[go_sem] theorem Tryz.pl8_3 : plT Tryz.prog 8 3 = some 3 := by kernel_rfl
@[go_sem] theorem Tryz.plk8 : plOk Tryz.prog 8 = true := by kernel_rfl
@[go_sem] theorem Tryz.info8 : infoT Tryz.prog 8 = some (4, 24, [.val (.int .i64 0), .val (.int .i64 0), .val (.bool false), .val (.int .u8 0)]) := by kernel_rfl
@[go_sem] theorem Tryz.cof8 : Tryz.prog.cellsOf 8 = 4 := by kernel_rfl
@[go_sem] theorem Tryz.kind9 : kindT Tryz.prog 9 = some none := by kernel_rfl
@[go_sem] theorem Tryz.elem9 : elemT Tryz.prog 9 = none := by kernel_rfl
@[go_sem] theorem Tryz.info9 : infoT Tryz.prog 9 = some (1, 16, [.val (.string ⟨#[]⟩)]) := by kernel_rfl
@[go_sem] theorem Tryz.cof9 : Tryz.prog.cellsOf 9 = 1 := by kernel_rfl
theorem Tryz.und9 : Tryz.prog.underlying 9 = some (.string) := by kernel_rfl
@[go_sem] theorem Tryz.kind10 : kindT Tryz.prog 10 = some none := by kernel_rfl
@[go_sem] theorem Tryz.elem10 : elemT Tryz.prog 10 = none := by kernel_rfl
@[go_sem] theorem Tryz.info10 : infoT Tryz.prog 10 = some (1, 16, [.val (.string ⟨#[]⟩)]) := by kernel_rfl
@[go_sem] theorem Tryz.cof10 : Tryz.prog.cellsOf 10 = 1 := by kernel_rfl
theorem Tryz.und10 : Tryz.prog.underlying 10 = some (.string) := by kernel_rfl
@[go_sem] theorem Tryz.kind11 : kindT Tryz.prog 11 = some none := by kernel_rfl
@[go_sem] theorem Tryz.elem11 : elemT Tryz.prog 11 = none := by kernel_rfl
@[go_sem] theorem Tryz.info11 : infoT Tryz.prog 11 = some (1, 16, [.val (.string ⟨#[]⟩)]) := by kernel_rfl
@[go_sem] theorem Tryz.cof11 : Tryz.prog.cellsOf 11 = 1 := by kernel_rfl
theorem Tryz.und11 : Tryz.prog.underlying 11 = some (.string) := by kernel_rfl
@[go_sem] theorem Tryz.kind12 : kindT Tryz.prog 12 = some none := by kernel_rfl
@[go_sem] theorem Tryz.info12 : infoT Tryz.prog 12 = some (1, 8, [.val (.int .u64 0)]) := by kernel_rfl
@[go_sem] theorem Tryz.cof12 : Tryz.prog.cellsOf 12 = 1 := by kernel_rfl
@[go_sem] theorem Tryz.und12 : Tryz.prog.underlying 12 = some (.int .u64) := by kernel_rfl
@[go_sem] theorem Tryz.kind13 : kindT Tryz.prog 13 = some (some 2) := by kernel_rfl
@[go_sem] theorem Tryz.fld13_0 : fldT Tryz.prog 13 0 = some 0 := by kernel_rfl
@[go_sem] theorem Tryz.fl113_0 : fld1T Tryz.prog 13 0 = some 0 := by kernel_rfl
@[go_sem] theorem Tryz.pl13_0 : plT Tryz.prog 13 0 = some 0 := by kernel_rfl
@[go_sem] theorem Tryz.fld13_1 : fldT Tryz.prog 13 1 = some 1 := by kernel_rfl
@[go_sem] theorem Tryz.fl113_1 : fld1T Tryz.prog 13 1 = some 1 := by kernel_rfl
@[go_sem] theorem Tryz.pl13_1 : plT Tryz.prog 13 1 = some 1 := by kernel_rfl
@[go_sem] theorem Tryz.plk13 : plOk Tryz.prog 13 = true := by kernel_rfl
@[go_sem] theorem Tryz.info13 : infoT Tryz.prog 13 = some (2, 24, [.val (.string ⟨#[]⟩), .val (.int .u64 0)]) := by kernel_rfl
@[go_sem] theorem Tryz.cof13 : Tryz.prog.cellsOf 13 = 2 := by kernel_rfl
@[go_sem] theorem Tryz.kind14 : kindT Tryz.prog 14 = some (some 2) := by kernel_rfl
@[go_sem] theorem Tryz.fld14_0 : fldT Tryz.prog 14 0 = some 0 := by kernel_rfl
@[go_sem] theorem Tryz.fl114_0 : fld1T Tryz.prog 14 0 = some 0 := by kernel_rfl
@[go_sem] theorem Tryz.pl14_0 : plT Tryz.prog 14 0 = some 0 := by kernel_rfl
@[go_sem] theorem Tryz.fld14_1 : fldT Tryz.prog 14 1 = some 1 := by kernel_rfl
@[go_sem] theorem Tryz.fl114_1 : fld1T Tryz.prog 14 1 = some 1 := by kernel_rfl
@[go_sem] theorem Tryz.pl14_1 : plT Tryz.prog 14 1 = some 1 := by kernel_rfl
@[go_sem] theorem Tryz.plk14 : plOk Tryz.prog 14 = true := by kernel_rfl
@[go_sem] theorem Tryz.info14 : infoT Tryz.prog 14 = some (2, 24, [.val (.string ⟨#[]⟩), .val (.int .u64 0)]) := by kernel_rfl
@[go_sem] theorem Tryz.cof14 : Tryz.prog.cellsOf 14 = 2 := by kernel_rfl
@[go_sem] theorem Tryz.kind15 : kindT Tryz.prog 15 = some none := by kernel_rfl
@[go_sem] theorem Tryz.elem15 : elemT Tryz.prog 15 = none := by kernel_rfl
@[go_sem] theorem Tryz.cof15 : Tryz.prog.cellsOf 15 = 1 := by kernel_rfl
@[go_sem] theorem Tryz.kind16 : kindT Tryz.prog 16 = some none := by kernel_rfl
@[go_sem] theorem Tryz.elem16 : elemT Tryz.prog 16 = none := by kernel_rfl
@[go_sem] theorem Tryz.cof16 : Tryz.prog.cellsOf 16 = 1 := by kernel_rfl
@[go_sem] theorem Tryz.kind17 : kindT Tryz.prog 17 = some none := by kernel_rfl
@[go_sem] theorem Tryz.elem17 : elemT Tryz.prog 17 = none := by kernel_rfl
@[go_sem] theorem Tryz.cof17 : Tryz.prog.cellsOf 17 = 1 := by kernel_rfl
@[go_sem] theorem Tryz.kind18 : kindT Tryz.prog 18 = some (some 1) := by kernel_rfl
@[go_sem] theorem Tryz.fld18_0 : fldT Tryz.prog 18 0 = some 0 := by kernel_rfl
@[go_sem] theorem Tryz.fl118_0 : fld1T Tryz.prog 18 0 = some 0 := by kernel_rfl
@[go_sem] theorem Tryz.pl18_0 : plT Tryz.prog 18 0 = some 0 := by kernel_rfl
@[go_sem] theorem Tryz.plk18 : plOk Tryz.prog 18 = true := by kernel_rfl
@[go_sem] theorem Tryz.cof18 : Tryz.prog.cellsOf 18 = 1 := by kernel_rfl
@[go_sem] theorem Tryz.kind19 : kindT Tryz.prog 19 = some (some 1) := by kernel_rfl
@[go_sem] theorem Tryz.fld19_0 : fldT Tryz.prog 19 0 = some 0 := by kernel_rfl
@[go_sem] theorem Tryz.fl119_0 : fld1T Tryz.prog 19 0 = some 0 := by kernel_rfl
@[go_sem] theorem Tryz.pl19_0 : plT Tryz.prog 19 0 = some 0 := by kernel_rfl
@[go_sem] theorem Tryz.plk19 : plOk Tryz.prog 19 = true := by kernel_rfl
@[go_sem] theorem Tryz.cof19 : Tryz.prog.cellsOf 19 = 1 := by kernel_rfl
@[go_sem] theorem Tryz.kind21 : kindT Tryz.prog 21 = some none := by kernel_rfl
@[go_sem] theorem Tryz.info21 : infoT Tryz.prog 21 = some (1, 4, [.val (.int .i32 0)]) := by kernel_rfl
@[go_sem] theorem Tryz.cof21 : Tryz.prog.cellsOf 21 = 1 := by kernel_rfl
@[go_sem] theorem Tryz.und21 : Tryz.prog.underlying 21 = some (.int .i32) := by kernel_rfl
@[go_sem] theorem Tryz.kind22 : kindT Tryz.prog 22 = some none := by kernel_rfl
@[go_sem] theorem Tryz.elem22 : elemT Tryz.prog 22 = some 5 := by kernel_rfl
@[go_sem] theorem Tryz.info22 : infoT Tryz.prog 22 = some (1, 24, [.val (.slice none 0 0)]) := by kernel_rfl
@[go_sem] theorem Tryz.cof22 : Tryz.prog.cellsOf 22 = 1 := by kernel_rfl
theorem Tryz.und22 : Tryz.prog.underlying 22 = some (.slice 5) := by kernel_rfl
@[go_sem] theorem Tryz.kind23 : kindT Tryz.prog 23 = some none := by kernel_rfl
@[go_sem] theorem Tryz.cof23 : Tryz.prog.cellsOf 23 = 1 := by kernel_rfl
@[go_sem] theorem Tryz.kind24 : kindT Tryz.prog 24 = some none := by kernel_rfl
@[go_sem] theorem Tryz.elem24 : elemT Tryz.prog 24 = some 92 := by kernel_rfl
@[go_sem] theorem Tryz.info24 : infoT Tryz.prog 24 = some (1, 24, [.val (.slice none 0 0)]) := by kernel_rfl
@[go_sem] theorem Tryz.cof24 : Tryz.prog.cellsOf 24 = 1 := by kernel_rfl
theorem Tryz.und24 : Tryz.prog.underlying 24 = some (.slice 92) := by kernel_rfl
@[go_sem] theorem Tryz.kind25 : kindT Tryz.prog 25 = some (some 2) := by kernel_rfl
@[go_sem] theorem Tryz.fld25_0 : fldT Tryz.prog 25 0 = some 0 := by kernel_rfl
@[go_sem] theorem Tryz.fl125_0 : fld1T Tryz.prog 25 0 = some 0 := by kernel_rfl
@[go_sem] theorem Tryz.pl25_0 : plT Tryz.prog 25 0 = some 0 := by kernel_rfl
@[go_sem] theorem Tryz.fld25_1 : fldT Tryz.prog 25 1 = some 1 := by kernel_rfl
@[go_sem] theorem Tryz.fl125_1 : fld1T Tryz.prog 25 1 = some 1 := by kernel_rfl
@[go_sem] theorem Tryz.pl25_1 : plT Tryz.prog 25 1 = some 1 := by kernel_rfl
@[go_sem] theorem Tryz.plk25 : plOk Tryz.prog 25 = true := by kernel_rfl
@[go_sem] theorem Tryz.info25 : infoT Tryz.prog 25 = some (2, 32, [.val (.int .i64 0), .val (.slice none 0 0)]) := by kernel_rfl
@[go_sem] theorem Tryz.cof25 : Tryz.prog.cellsOf 25 = 2 := by kernel_rfl
@[go_sem] theorem Tryz.kind26 : kindT Tryz.prog 26 = some (some 2) := by kernel_rfl
@[go_sem] theorem Tryz.fld26_0 : fldT Tryz.prog 26 0 = some 0 := by kernel_rfl
@[go_sem] theorem Tryz.fl126_0 : fld1T Tryz.prog 26 0 = some 0 := by kernel_rfl
@[go_sem] theorem Tryz.pl26_0 : plT Tryz.prog 26 0 = some 0 := by kernel_rfl
@[go_sem] theorem Tryz.fld26_1 : fldT Tryz.prog 26 1 = some 1 := by kernel_rfl
@[go_sem] theorem Tryz.fl126_1 : fld1T Tryz.prog 26 1 = some 1 := by kernel_rfl
@[go_sem] theorem Tryz.pl26_1 : plT Tryz.prog 26 1 = some 1 := by kernel_rfl
@[go_sem] theorem Tryz.plk26 : plOk Tryz.prog 26 = true := by kernel_rfl
@[go_sem] theorem Tryz.info26 : infoT Tryz.prog 26 = some (2, 32, [.val (.int .i64 0), .val (.slice none 0 0)]) := by kernel_rfl
@[go_sem] theorem Tryz.cof26 : Tryz.prog.cellsOf 26 = 2 := by kernel_rfl
@[go_sem] theorem Tryz.kind28 : kindT Tryz.prog 28 = some none := by kernel_rfl
@[go_sem] theorem Tryz.cof28 : Tryz.prog.cellsOf 28 = 1 := by kernel_rfl
@[go_sem] theorem Tryz.kind30 : kindT Tryz.prog 30 = some none := by kernel_rfl
@[go_sem] theorem Tryz.cof30 : Tryz.prog.cellsOf 30 = 1 := by kernel_rfl
@[go_sem] theorem Tryz.kind31 : kindT Tryz.prog 31 = some none := by kernel_rfl
@[go_sem] theorem Tryz.cof31 : Tryz.prog.cellsOf 31 = 1 := by kernel_rfl
@[go_sem] theorem Tryz.kind32 : kindT Tryz.prog 32 = some none := by kernel_rfl
@[go_sem] theorem Tryz.elem32 : elemT Tryz.prog 32 = none := by kernel_rfl
@[go_sem] theorem Tryz.cof32 : Tryz.prog.cellsOf 32 = 1 := by kernel_rfl
@[go_sem] theorem Tryz.kind33 : kindT Tryz.prog 33 = some none := by kernel_rfl
@[go_sem] theorem Tryz.cof33 : Tryz.prog.cellsOf 33 = 1 := by kernel_rfl
@[go_sem] theorem Tryz.kind34 : kindT Tryz.prog 34 = some none := by kernel_rfl
@[go_sem] theorem Tryz.info34 : infoT Tryz.prog 34 = some (1, 8, [.val (.int .u64 0)]) := by kernel_rfl
@[go_sem] theorem Tryz.cof34 : Tryz.prog.cellsOf 34 = 1 := by kernel_rfl
@[go_sem] theorem Tryz.und34 : Tryz.prog.underlying 34 = some (.int .u64) := by kernel_rfl
@[go_sem] theorem Tryz.kind35 : kindT Tryz.prog 35 = some none := by kernel_rfl
@[go_sem] theorem Tryz.elem35 : elemT Tryz.prog 35 = some 2 := by kernel_rfl
@[go_sem] theorem Tryz.info35 : infoT Tryz.prog 35 = some (1, 24, [.val (.slice none 0 0)]) := by kernel_rfl
@[go_sem] theorem Tryz.cof35 : Tryz.prog.cellsOf 35 = 1 := by kernel_rfl
theorem Tryz.und35 : Tryz.prog.underlying 35 = some (.slice 2) := by kernel_rfl
@[go_sem] theorem Tryz.kind36 : kindT Tryz.prog 36 = some none := by kernel_rfl
@[go_sem] theorem Tryz.cof36 : Tryz.prog.cellsOf 36 = 1 := by kernel_rfl
@[go_sem] theorem Tryz.kind37 : kindT Tryz.prog 37 = some none := by kernel_rfl
@[go_sem] theorem Tryz.cof37 : Tryz.prog.cellsOf 37 = 1 := by kernel_rfl
@[go_sem] theorem Tryz.kind39 : kindT Tryz.prog 39 = some none := by kernel_rfl
@[go_sem] theorem Tryz.cof39 : Tryz.prog.cellsOf 39 = 1 := by kernel_rfl
@[go_sem] theorem Tryz.kind40 : kindT Tryz.prog 40 = some none := by kernel_rfl
@[go_sem] theorem Tryz.cof40 : Tryz.prog.cellsOf 40 = 1 := by kernel_rfl
@[go_sem] theorem Tryz.kind41 : kindT Tryz.prog 41 = some none := by kernel_rfl
@[go_sem] theorem Tryz.cof41 : Tryz.prog.cellsOf 41 = 1 := by kernel_rfl
@[go_sem] theorem Tryz.kind42 : kindT Tryz.prog 42 = some none := by kernel_rfl
@[go_sem] theorem Tryz.cof42 : Tryz.prog.cellsOf 42 = 1 := by kernel_rfl
@[go_sem] theorem Tryz.kind43 : kindT Tryz.prog 43 = some none := by kernel_rfl
@[go_sem] theorem Tryz.cof43 : Tryz.prog.cellsOf 43 = 1 := by kernel_rfl
@[go_sem] theorem Tryz.kind44 : kindT Tryz.prog 44 = some none := by kernel_rfl
@[go_sem] theorem Tryz.cof44 : Tryz.prog.cellsOf 44 = 1 := by kernel_rfl
@[go_sem] theorem Tryz.kind45 : kindT Tryz.prog 45 = some none := by kernel_rfl
@[go_sem] theorem Tryz.elem45 : elemT Tryz.prog 45 = some 35 := by kernel_rfl
@[go_sem] theorem Tryz.info45 : infoT Tryz.prog 45 = some (1, 24, [.val (.slice none 0 0)]) := by kernel_rfl
@[go_sem] theorem Tryz.cof45 : Tryz.prog.cellsOf 45 = 1 := by kernel_rfl
theorem Tryz.und45 : Tryz.prog.underlying 45 = some (.slice 35) := by kernel_rfl
@[go_sem] theorem Tryz.kind46 : kindT Tryz.prog 46 = some none := by kernel_rfl
@[go_sem] theorem Tryz.elem46 : elemT Tryz.prog 46 = some 159 := by kernel_rfl
@[go_sem] theorem Tryz.info46 : infoT Tryz.prog 46 = some (1, 24, [.val (.slice none 0 0)]) := by kernel_rfl
@[go_sem] theorem Tryz.cof46 : Tryz.prog.cellsOf 46 = 1 := by kernel_rfl
theorem Tryz.und46 : Tryz.prog.underlying 46 = some (.slice 159) := by kernel_rfl
@[go_sem] theorem Tryz.kind47 : kindT Tryz.prog 47 = some (some 2) := by kernel_rfl
@[go_sem] theorem Tryz.fld47_0 : fldT Tryz.prog 47 0 = some 0 := by kernel_rfl
@[go_sem] theorem Tryz.fl147_0 : fld1T Tryz.prog 47 0 = some 0 := by kernel_rfl
@[go_sem] theorem Tryz.pl47_0 : plT Tryz.prog 47 0 = some 0 := by kernel_rfl
@[go_sem] theorem Tryz.fld47_1 : fldT Tryz.prog 47 1 = some 1 := by kernel_rfl
@[go_sem] theorem Tryz.fl147_1 : fld1T Tryz.prog 47 1 = some 1 := by kernel_rfl
@[go_sem] theorem Tryz.pl47_1 : plT Tryz.prog 47 1 = some 1 := by kernel_rfl
@[go_sem] theorem Tryz.plk47 : plOk Tryz.prog 47 = true := by kernel_rfl
@[go_sem] theorem Tryz.info47 : infoT Tryz.prog 47 = some (2, 32, [.val (.int .i64 0), .val (.slice none 0 0)]) := by kernel_rfl
@[go_sem] theorem Tryz.cof47 : Tryz.prog.cellsOf 47 = 2 := by kernel_rfl
@[go_sem] theorem Tryz.kind48 : kindT Tryz.prog 48 = some (some 2) := by kernel_rfl
@[go_sem] theorem Tryz.fld48_0 : fldT Tryz.prog 48 0 = some 0 := by kernel_rfl
@[go_sem] theorem Tryz.fl148_0 : fld1T Tryz.prog 48 0 = some 0 := by kernel_rfl
@[go_sem] theorem Tryz.pl48_0 : plT Tryz.prog 48 0 = some 0 := by kernel_rfl
@[go_sem] theorem Tryz.fld48_1 : fldT Tryz.prog 48 1 = some 1 := by kernel_rfl
@[go_sem] theorem Tryz.fl148_1 : fld1T Tryz.prog 48 1 = some 1 := by kernel_rfl
@[go_sem] theorem Tryz.pl48_1 : plT Tryz.prog 48 1 = some 1 := by kernel_rfl
@[go_sem] theorem Tryz.plk48 : plOk Tryz.prog 48 = true := by kernel_rfl
@[go_sem] theorem Tryz.info48 : infoT Tryz.prog 48 = some (2, 32, [.val (.int .i64 0), .val (.slice none 0 0)]) := by kernel_rfl
@[go_sem] theorem Tryz.cof48 : Tryz.prog.cellsOf 48 = 2 := by kernel_rfl
@[go_sem] theorem Tryz.kind49 : kindT Tryz.prog 49 = some none := by kernel_rfl
@[go_sem] theorem Tryz.cof49 : Tryz.prog.cellsOf 49 = 1 := by kernel_rfl
@[go_sem] theorem Tryz.kind50 : kindT Tryz.prog 50 = some none := by kernel_rfl
@[go_sem] theorem Tryz.cof50 : Tryz.prog.cellsOf 50 = 1 := by kernel_rfl
@[go_sem] theorem Tryz.kind51 : kindT Tryz.prog 51 = some none := by kernel_rfl
@[go_sem] theorem Tryz.cof51 : Tryz.prog.cellsOf 51 = 1 := by kernel_rfl
@[go_sem] theorem Tryz.kind52 : kindT Tryz.prog 52 = some none := by kernel_rfl
@[go_sem] theorem Tryz.cof52 : Tryz.prog.cellsOf 52 = 1 := by kernel_rfl
@[go_sem] theorem Tryz.kind53 : kindT Tryz.prog 53 = some none := by kernel_rfl
@[go_sem] theorem Tryz.cof53 : Tryz.prog.cellsOf 53 = 1 := by kernel_rfl
@[go_sem] theorem Tryz.kind54 : kindT Tryz.prog 54 = some none := by kernel_rfl
@[go_sem] theorem Tryz.cof54 : Tryz.prog.cellsOf 54 = 1 := by kernel_rfl
@[go_sem] theorem Tryz.kind55 : kindT Tryz.prog 55 = some none := by kernel_rfl
@[go_sem] theorem Tryz.cof55 : Tryz.prog.cellsOf 55 = 1 := by kernel_rfl
@[go_sem] theorem Tryz.kind56 : kindT Tryz.prog 56 = some none := by kernel_rfl
@[go_sem] theorem Tryz.cof56 : Tryz.prog.cellsOf 56 = 1 := by kernel_rfl
@[go_sem] theorem Tryz.kind58 : kindT Tryz.prog 58 = some none := by kernel_rfl
@[go_sem] theorem Tryz.cof58 : Tryz.prog.cellsOf 58 = 1 := by kernel_rfl
@[go_sem] theorem Tryz.kind60 : kindT Tryz.prog 60 = some none := by kernel_rfl
@[go_sem] theorem Tryz.cof60 : Tryz.prog.cellsOf 60 = 1 := by kernel_rfl
@[go_sem] theorem Tryz.kind61 : kindT Tryz.prog 61 = some none := by kernel_rfl
@[go_sem] theorem Tryz.cof61 : Tryz.prog.cellsOf 61 = 1 := by kernel_rfl
@[go_sem] theorem Tryz.kind62 : kindT Tryz.prog 62 = some none := by kernel_rfl
@[go_sem] theorem Tryz.cof62 : Tryz.prog.cellsOf 62 = 1 := by kernel_rfl
@[go_sem] theorem Tryz.kind64 : kindT Tryz.prog 64 = some none := by kernel_rfl
@[go_sem] theorem Tryz.cof64 : Tryz.prog.cellsOf 64 = 1 := by kernel_rfl
@[go_sem] theorem Tryz.kind65 : kindT Tryz.prog 65 = some none := by kernel_rfl
@[go_sem] theorem Tryz.cof65 : Tryz.prog.cellsOf 65 = 1 := by kernel_rfl
@[go_sem] theorem Tryz.kind66 : kindT Tryz.prog 66 = some none := by kernel_rfl
@[go_sem] theorem Tryz.cof66 : Tryz.prog.cellsOf 66 = 1 := by kernel_rfl
@[go_sem] theorem Tryz.kind67 : kindT Tryz.prog 67 = some none := by kernel_rfl
@[go_sem] theorem Tryz.cof67 : Tryz.prog.cellsOf 67 = 1 := by kernel_rfl
@[go_sem] theorem Tryz.kind68 : kindT Tryz.prog 68 = some none := by kernel_rfl
@[go_sem] theorem Tryz.cof68 : Tryz.prog.cellsOf 68 = 1 := by kernel_rfl
@[go_sem] theorem Tryz.kind69 : kindT Tryz.prog 69 = some (some 2) := by kernel_rfl
@[go_sem] theorem Tryz.fld69_0 : fldT Tryz.prog 69 0 = some 0 := by kernel_rfl
@[go_sem] theorem Tryz.fl169_0 : fld1T Tryz.prog 69 0 = some 0 := by kernel_rfl
@[go_sem] theorem Tryz.pl69_0 : plT Tryz.prog 69 0 = some 0 := by kernel_rfl
@[go_sem] theorem Tryz.fld69_1 : fldT Tryz.prog 69 1 = some 1 := by kernel_rfl
@[go_sem] theorem Tryz.fl169_1 : fld1T Tryz.prog 69 1 = some 1 := by kernel_rfl
@[go_sem] theorem Tryz.pl69_1 : plT Tryz.prog 69 1 = some 1 := by kernel_rfl
@[go_sem] theorem Tryz.plk69 : plOk Tryz.prog 69 = true := by kernel_rfl
@[go_sem] theorem Tryz.info69 : infoT Tryz.prog 69 = some (2, 48, [.val (.slice none 0 0), .val (.slice none 0 0)]) := by kernel_rfl
@[go_sem] theorem Tryz.cof69 : Tryz.prog.cellsOf 69 = 2 := by kernel_rfl
@[go_sem] theorem Tryz.kind70 : kindT Tryz.prog 70 = some (some 2) := by kernel_rfl
@[go_sem] theorem Tryz.fld70_0 : fldT Tryz.prog 70 0 = some 0 := by kernel_rfl
@[go_sem] theorem Tryz.fl170_0 : fld1T Tryz.prog 70 0 = some 0 := by kernel_rfl
@[go_sem] theorem Tryz.pl70_0 : plT Tryz.prog 70 0 = some 0 := by kernel_rfl
@[go_sem] theorem Tryz.fld70_1 : fldT Tryz.prog 70 1 = some 1 := by kernel_rfl
@[go_sem] theorem Tryz.fl170_1 : fld1T Tryz.prog 70 1 = some 1 := by kernel_rfl
@[go_sem] theorem Tryz.pl70_1 : plT Tryz.prog 70 1 = some 1 := by kernel_rfl
@[go_sem] theorem Tryz.plk70 : plOk Tryz.prog 70 = true := by kernel_rfl
@[go_sem] theorem Tryz.info70 : infoT Tryz.prog 70 = some (2, 48, [.val (.slice none 0 0), .val (.slice none 0 0)]) := by kernel_rfl
@[go_sem] theorem Tryz.cof70 : Tryz.prog.cellsOf 70 = 2 := by kernel_rfl
@[go_sem] theorem Tryz.kind72 : kindT Tryz.prog 72 = some none := by kernel_rfl
@[go_sem] theorem Tryz.cof72 : Tryz.prog.cellsOf 72 = 1 := by kernel_rfl
@[go_sem] theorem Tryz.kind73 : kindT Tryz.prog 73 = some none := by kernel_rfl
@[go_sem] theorem Tryz.cof73 : Tryz.prog.cellsOf 73 = 1 := by kernel_rfl
@[go_sem] theorem Tryz.kind74 : kindT Tryz.prog 74 = some none := by kernel_rfl
@[go_sem] theorem Tryz.cof74 : Tryz.prog.cellsOf 74 = 1 := by kernel_rfl
@[go_sem] theorem Tryz.kind75 : kindT Tryz.prog 75 = some none := by kernel_rfl
@[go_sem] theorem Tryz.cof75 : Tryz.prog.cellsOf 75 = 1 := by kernel_rfl
@[go_sem] theorem Tryz.kind76 : kindT Tryz.prog 76 = some none := by kernel_rfl
@[go_sem] theorem Tryz.cof76 : Tryz.prog.cellsOf 76 = 1 := by kernel_rfl
@[go_sem] theorem Tryz.kind77 : kindT Tryz.prog 77 = some none := by kernel_rfl
@[go_sem] theorem Tryz.cof77 : Tryz.prog.cellsOf 77 = 1 := by kernel_rfl
@[go_sem] theorem Tryz.kind78 : kindT Tryz.prog 78 = some none := by kernel_rfl
@[go_sem] theorem Tryz.cof78 : Tryz.prog.cellsOf 78 = 1 := by kernel_rfl
@[go_sem] theorem Tryz.kind79 : kindT Tryz.prog 79 = some none := by kernel_rfl
@[go_sem] theorem Tryz.elem79 : elemT Tryz.prog 79 = none := by kernel_rfl
@[go_sem] theorem Tryz.cof79 : Tryz.prog.cellsOf 79 = 1 := by kernel_rfl
@[go_sem] theorem Tryz.kind80 : kindT Tryz.prog 80 = some none := by kernel_rfl
@[go_sem] theorem Tryz.cof80 : Tryz.prog.cellsOf 80 = 1 := by kernel_rfl
@[go_sem] theorem Tryz.kind81 : kindT Tryz.prog 81 = some none := by kernel_rfl
@[go_sem] theorem Tryz.cof81 : Tryz.prog.cellsOf 81 = 1 := by kernel_rfl
@[go_sem] theorem Tryz.kind82 : kindT Tryz.prog 82 = some none := by kernel_rfl
@[go_sem] theorem Tryz.cof82 : Tryz.prog.cellsOf 82 = 1 := by kernel_rfl
@[go_sem] theorem Tryz.kind83 : kindT Tryz.prog 83 = some none := by kernel_rfl
@[go_sem] theorem Tryz.cof83 : Tryz.prog.cellsOf 83 = 1 := by kernel_rfl
@[go_sem] theorem Tryz.kind84 : kindT Tryz.prog 84 = some none := by kernel_rfl
@[go_sem] theorem Tryz.elem84 : elemT Tryz.prog 84 = some 87 := by kernel_rfl
@[go_sem] theorem Tryz.info84 : infoT Tryz.prog 84 = some (1, 24, [.val (.slice none 0 0)]) := by kernel_rfl
@[go_sem] theorem Tryz.cof84 : Tryz.prog.cellsOf 84 = 1 := by kernel_rfl
theorem Tryz.und84 : Tryz.prog.underlying 84 = some (.slice 87) := by kernel_rfl
@[go_sem] theorem Tryz.kind85 : kindT Tryz.prog 85 = some none := by kernel_rfl
@[go_sem] theorem Tryz.cof85 : Tryz.prog.cellsOf 85 = 1 := by kernel_rfl
@[go_sem] theorem Tryz.kind86 : kindT Tryz.prog 86 = some none := by kernel_rfl
@[go_sem] theorem Tryz.elem86 : elemT Tryz.prog 86 = none := by kernel_rfl
@[go_sem] theorem Tryz.map86 : mapT Tryz.prog 86 = true := by kernel_rfl
@[go_sem] theorem Tryz.ismap86 : isMapT Tryz.prog 86 = true := by kernel_rfl
@[go_sem] theorem Tryz.info86 : infoT Tryz.prog 86 = some (1, 8, [.val (.map none)]) := by kernel_rfl
@[go_sem] theorem Tryz.cof86 : Tryz.prog.cellsOf 86 = 1 := by kernel_rfl
@[go_sem] theorem Tryz.kind87 : kindT Tryz.prog 87 = some none := by kernel_rfl
@[go_sem] theorem Tryz.elem87 : elemT Tryz.prog 87 = none := by kernel_rfl
@[go_sem] theorem Tryz.map87 : mapT Tryz.prog 87 = true := by kernel_rfl
@[go_sem] theorem Tryz.ismap87 : isMapT Tryz.prog 87 = true := by kernel_rfl
@[go_sem] theorem Tryz.info87 : infoT Tryz.prog 87 = some (1, 8, [.val (.map none)]) := by kernel_rfl
@[go_sem] theorem Tryz.cof87 : Tryz.prog.cellsOf 87 = 1 := by kernel_rfl
@[go_sem] theorem Tryz.kind88 : kindT Tryz.prog 88 = some none := by kernel_rfl
@[go_sem] theorem Tryz.cof88 : Tryz.prog.cellsOf 88 = 1 := by kernel_rfl
@[go_sem] theorem Tryz.kind89 : kindT Tryz.prog 89 = some none := by kernel_rfl
@[go_sem] theorem Tryz.cof89 : Tryz.prog.cellsOf 89 = 1 := by kernel_rfl
@[go_sem] theorem Tryz.kind90 : kindT Tryz.prog 90 = some none := by kernel_rfl
@[go_sem] theorem Tryz.cof90 : Tryz.prog.cellsOf 90 = 1 := by kernel_rfl
@[go_sem] theorem Tryz.kind91 : kindT Tryz.prog 91 = some none := by kernel_rfl
@[go_sem] theorem Tryz.cof91 : Tryz.prog.cellsOf 91 = 1 := by kernel_rfl
@[go_sem] theorem Tryz.kind92 : kindT Tryz.prog 92 = some none := by kernel_rfl
@[go_sem] theorem Tryz.elem92 : elemT Tryz.prog 92 = some 97 := by kernel_rfl
@[go_sem] theorem Tryz.info92 : infoT Tryz.prog 92 = some (1, 24, [.val (.slice none 0 0)]) := by kernel_rfl
@[go_sem] theorem Tryz.cof92 : Tryz.prog.cellsOf 92 = 1 := by kernel_rfl
theorem Tryz.und92 : Tryz.prog.underlying 92 = some (.slice 97) := by kernel_rfl
@[go_sem] theorem Tryz.kind93 : kindT Tryz.prog 93 = some none := by kernel_rfl
@[go_sem] theorem Tryz.cof93 : Tryz.prog.cellsOf 93 = 1 := by kernel_rfl
@[go_sem] theorem Tryz.kind94 : kindT Tryz.prog 94 = some none := by kernel_rfl
@[go_sem] theorem Tryz.cof94 : Tryz.prog.cellsOf 94 = 1 := by kernel_rfl
@[go_sem] theorem Tryz.kind95 : kindT Tryz.prog 95 = some none := by kernel_rfl
@[go_sem] theorem Tryz.cof95 : Tryz.prog.cellsOf 95 = 1 := by kernel_rfl
@[go_sem] theorem Tryz.kind96 : kindT Tryz.prog 96 = some (some 2) := by kernel_rfl
@[go_sem] theorem Tryz.fld96_0 : fldT Tryz.prog 96 0 = some 0 := by kernel_rfl
@[go_sem] theorem Tryz.fl196_0 : fld1T Tryz.prog 96 0 = some 0 := by kernel_rfl
@[go_sem] theorem Tryz.pl96_0 : plT Tryz.prog 96 0 = some 0 := by kernel_rfl
@[go_sem] theorem Tryz.fld96_1 : fldT Tryz.prog 96 1 = some 1 := by kernel_rfl
@[go_sem] theorem Tryz.fl196_1 : fld1T Tryz.prog 96 1 = some 1 := by kernel_rfl
@[go_sem] theorem Tryz.pl96_1 : plT Tryz.prog 96 1 = some 1 := by kernel_rfl
@[go_sem] theorem Tryz.plk96 : plOk Tryz.prog 96 = true := by kernel_rfl
@[go_sem] theorem Tryz.info96 : infoT Tryz.prog 96 = some (2, 32, [.val (.int .i64 0), .val (.slice none 0 0)]) := by kernel_rfl
@[go_sem] theorem Tryz.cof96 : Tryz.prog.cellsOf 96 = 2 := by kernel_rfl
@[go_sem] theorem Tryz.kind97 : kindT Tryz.prog 97 = some (some 2) := by kernel_rfl
@[go_sem] theorem Tryz.fld97_0 : fldT Tryz.prog 97 0 = some 0 := by kernel_rfl
@[go_sem] theorem Tryz.fl197_0 : fld1T Tryz.prog 97 0 = some 0 := by kernel_rfl
@[go_sem] theorem Tryz.pl97_0 : plT Tryz.prog 97 0 = some 0 := by kernel_rfl
@[go_sem] theorem Tryz.fld97_1 : fldT Tryz.prog 97 1 = some 1 := by kernel_rfl
@[go_sem] theorem Tryz.fl197_1 : fld1T Tryz.prog 97 1 = some 1 := by kernel_rfl
@[go_sem] theorem Tryz.pl97_1 : plT Tryz.prog 97 1 = some 1 := by kernel_rfl
@[go_sem] theorem Tryz.plk97 : plOk Tryz.prog 97 = true := by kernel_rfl
@[go_sem] theorem Tryz.info97 : infoT Tryz.prog 97 = some (2, 32, [.val (.int .i64 0), .val (.slice none 0 0)]) := by kernel_rfl
@[go_sem] theorem Tryz.cof97 : Tryz.prog.cellsOf 97 = 2 := by kernel_rfl
@[go_sem] theorem Tryz.kind98 : kindT Tryz.prog 98 = some (some 3) := by kernel_rfl
@[go_sem] theorem Tryz.fld98_0 : fldT Tryz.prog 98 0 = some 0 := by kernel_rfl
@[go_sem] theorem Tryz.fl198_0 : fld1T Tryz.prog 98 0 = some 0 := by kernel_rfl
@[go_sem] theorem Tryz.pl98_0 : plT Tryz.prog 98 0 = some 0 := by kernel_rfl
@[go_sem] theorem Tryz.fld98_1 : fldT Tryz.prog 98 1 = some 1 := by kernel_rfl
@[go_sem] theorem Tryz.fl198_1 : fld1T Tryz.prog 98 1 = some 1 := by kernel_rfl
@[go_sem] theorem Tryz.pl98_1 : plT Tryz.prog 98 1 = some 1 := by kernel_rfl
@[go_sem] theorem Tryz.fld98_2 : fldT Tryz.prog 98 2 = some 2 := by kernel_rfl
@[go_sem] theorem Tryz.fl198_2 : fld1T Tryz.prog 98 2 = some 2 := by kernel_rfl
@[go_sem] theorem Tryz.pl98_2 : plT Tryz.prog 98 2 = some 2 := by kernel_rfl
@[go_sem] theorem Tryz.plk98 : plOk Tryz.prog 98 = true := by kernel_rfl
@[go_sem] theorem Tryz.info98 : infoT Tryz.prog 98 = some (3, 40, [.val (.slice none 0 0), .val (.int .i64 0), .val (.int .u64 0)]) := by kernel_rfl
@[go_sem] theorem Tryz.cof98 : Tryz.prog.cellsOf 98 = 3 := by kernel_rfl
@[go_sem] theorem Tryz.kind99 : kindT Tryz.prog 99 = some (some 3) := by kernel_rfl
@[go_sem] theorem Tryz.fld99_0 : fldT Tryz.prog 99 0 = some 0 := by kernel_rfl
@[go_sem] theorem Tryz.fl199_0 : fld1T Tryz.prog 99 0 = some 0 := by kernel_rfl
@[go_sem] theorem Tryz.pl99_0 : plT Tryz.prog 99 0 = some 0 := by kernel_rfl
@[go_sem] theorem Tryz.fld99_1 : fldT Tryz.prog 99 1 = some 1 := by kernel_rfl
@[go_sem] theorem Tryz.fl199_1 : fld1T Tryz.prog 99 1 = some 1 := by kernel_rfl
@[go_sem] theorem Tryz.pl99_1 : plT Tryz.prog 99 1 = some 1 := by kernel_rfl
@[go_sem] theorem Tryz.fld99_2 : fldT Tryz.prog 99 2 = some 2 := by kernel_rfl
@[go_sem] theorem Tryz.fl199_2 : fld1T Tryz.prog 99 2 = some 2 := by kernel_rfl
@[go_sem] theorem Tryz.pl99_2 : plT Tryz.prog 99 2 = some 2 := by kernel_rfl
@[go_sem] theorem Tryz.plk99 : plOk Tryz.prog 99 = true := by kernel_rfl
@[go_sem] theorem Tryz.info99 : infoT Tryz.prog 99 = some (3, 40, [.val (.slice none 0 0), .val (.int .i64 0), .val (.int .u64 0)]) := by kernel_rfl
@[go_sem] theorem Tryz.cof99 : Tryz.prog.cellsOf 99 = 3 := by kernel_rfl
@[go_sem] theorem Tryz.kind100 : kindT Tryz.prog 100 = some none := by kernel_rfl
@[go_sem] theorem Tryz.cof100 : Tryz.prog.cellsOf 100 = 1 := by kernel_rfl
@[go_sem] theorem Tryz.kind101 : kindT Tryz.prog 101 = some none := by kernel_rfl
@[go_sem] theorem Tryz.cof101 : Tryz.prog.cellsOf 101 = 1 := by kernel_rfl
@[go_sem] theorem Tryz.kind102 : kindT Tryz.prog 102 = some none := by kernel_rfl
@[go_sem] theorem Tryz.cof102 : Tryz.prog.cellsOf 102 = 1 := by kernel_rfl
@[go_sem] theorem Tryz.kind103 : kindT Tryz.prog 103 = some none := by kernel_rfl
@[go_sem] theorem Tryz.cof103 : Tryz.prog.cellsOf 103 = 1 := by kernel_rfl
@[go_sem] theorem Tryz.kind104 : kindT Tryz.prog 104 = some none := by kernel_rfl
@[go_sem] theorem Tryz.cof104 : Tryz.prog.cellsOf 104 = 1 := by kernel_rfl
@[go_sem] theorem Tryz.kind105 : kindT Tryz.prog 105 = some none := by kernel_rfl
@[go_sem] theorem Tryz.cof105 : Tryz.prog.cellsOf 105 = 1 := by kernel_rfl
@[go_sem] theorem Tryz.kind106 : kindT Tryz.prog 106 = some none := by kernel_rfl
@[go_sem] theorem Tryz.cof106 : Tryz.prog.cellsOf 106 = 1 := by kernel_rfl
@[go_sem] theorem Tryz.kind107 : kindT Tryz.prog 107 = some none := by kernel_rfl
@[go_sem] theorem Tryz.cof107 : Tryz.prog.cellsOf 107 = 1 := by kernel_rfl
@[go_sem] theorem Tryz.kind108 : kindT Tryz.prog 108 = some none := by kernel_rfl
@[go_sem] theorem Tryz.cof108 : Tryz.prog.cellsOf 108 = 1 := by kernel_rfl
@[go_sem] theorem Tryz.kind109 : kindT Tryz.prog 109 = some none := by kernel_rfl
@[go_sem] theorem Tryz.cof109 : Tryz.prog.cellsOf 109 = 1 := by kernel_rfl
@[go_sem] theorem Tryz.kind110 : kindT Tryz.prog 110 = some none := by kernel_rfl
@[go_sem] theorem Tryz.cof110 : Tryz.prog.cellsOf 110 = 1 := by kernel_rfl
@[go_sem] theorem Tryz.kind112 : kindT Tryz.prog 112 = some none := by kernel_rfl
@[go_sem] theorem Tryz.cof112 : Tryz.prog.cellsOf 112 = 1 := by kernel_rfl
@[go_sem] theorem Tryz.kind113 : kindT Tryz.prog 113 = some none := by kernel_rfl
@[go_sem] theorem Tryz.cof113 : Tryz.prog.cellsOf 113 = 1 := by kernel_rfl
@[go_sem] theorem Tryz.kind114 : kindT Tryz.prog 114 = some none := by kernel_rfl
@[go_sem] theorem Tryz.cof114 : Tryz.prog.cellsOf 114 = 1 := by kernel_rfl
@[go_sem] theorem Tryz.kind115 : kindT Tryz.prog 115 = some none := by kernel_rfl
@[go_sem] theorem Tryz.cof115 : Tryz.prog.cellsOf 115 = 1 := by kernel_rfl
@[go_sem] theorem Tryz.kind116 : kindT Tryz.prog 116 = some none := by kernel_rfl
@[go_sem] theorem Tryz.cof116 : Tryz.prog.cellsOf 116 = 1 := by kernel_rfl
@[go_sem] theorem Tryz.kind117 : kindT Tryz.prog 117 = some none := by kernel_rfl
@[go_sem] theorem Tryz.cof117 : Tryz.prog.cellsOf 117 = 1 := by kernel_rfl
@[go_sem] theorem Tryz.kind118 : kindT Tryz.prog 118 = some none := by kernel_rfl
@[go_sem] theorem Tryz.cof118 : Tryz.prog.cellsOf 118 = 1 := by kernel_rfl
@[go_sem] theorem Tryz.kind119 : kindT Tryz.prog 119 = some none := by kernel_rfl
@[go_sem] theorem Tryz.cof119 : Tryz.prog.cellsOf 119 = 1 := by kernel_rfl
@[go_sem] theorem Tryz.kind120 : kindT Tryz.prog 120 = some none := by kernel_rfl
@[go_sem] theorem Tryz.cof120 : Tryz.prog.cellsOf 120 = 1 := by kernel_rfl
@[go_sem] theorem Tryz.kind121 : kindT Tryz.prog 121 = some none := by kernel_rfl
@[go_sem] theorem Tryz.cof121 : Tryz.prog.cellsOf 121 = 1 := by kernel_rfl
@[go_sem] theorem Tryz.kind122 : kindT Tryz.prog 122 = some none := by kernel_rfl
@[go_sem] theorem Tryz.cof122 : Tryz.prog.cellsOf 122 = 1 := by kernel_rfl
@[go_sem] theorem Tryz.kind123 : kindT Tryz.prog 123 = some none := by kernel_rfl
@[go_sem] theorem Tryz.cof123 : Tryz.prog.cellsOf 123 = 1 := by kernel_rfl
@[go_sem] theorem Tryz.kind124 : kindT Tryz.prog 124 = some none := by kernel_rfl
@[go_sem] theorem Tryz.cof124 : Tryz.prog.cellsOf 124 = 1 := by kernel_rfl
@[go_sem] theorem Tryz.kind125 : kindT Tryz.prog 125 = some none := by kernel_rfl
@[go_sem] theorem Tryz.cof125 : Tryz.prog.cellsOf 125 = 1 := by kernel_rfl
@[go_sem] theorem Tryz.kind126 : kindT Tryz.prog 126 = some none := by kernel_rfl
@[go_sem] theorem Tryz.cof126 : Tryz.prog.cellsOf 126 = 1 := by kernel_rfl
@[go_sem] theorem Tryz.kind127 : kindT Tryz.prog 127 = some none := by kernel_rfl
@[go_sem] theorem Tryz.cof127 : Tryz.prog.cellsOf 127 = 1 := by kernel_rfl
@[go_sem] theorem Tryz.kind128 : kindT Tryz.prog 128 = some none := by kernel_rfl
@[go_sem] theorem Tryz.cof128 : Tryz.prog.cellsOf 128 = 1 := by kernel_rfl
@[go_sem] theorem Tryz.kind129 : kindT Tryz.prog 129 = some none := by kernel_rfl
@[go_sem] theorem Tryz.cof129 : Tryz.prog.cellsOf 129 = 1 := by kernel_rfl
@[go_sem] theorem Tryz.kind131 : kindT Tryz.prog 131 = some none := by kernel_rfl
@[go_sem] theorem Tryz.cof131 : Tryz.prog.cellsOf 131 = 1 := by kernel_rfl
@[go_sem] theorem Tryz.kind132 : kindT Tryz.prog 132 = some none := by kernel_rfl
@[go_sem] theorem Tryz.cof132 : Tryz.prog.cellsOf 132 = 1 := by kernel_rfl
@[go_sem] theorem Tryz.kind133 : kindT Tryz.prog 133 = some none := by kernel_rfl
@[go_sem] theorem Tryz.cof133 : Tryz.prog.cellsOf 133 = 1 := by kernel_rfl
@[go_sem] theorem Tryz.kind134 : kindT Tryz.prog 134 = some none := by kernel_rfl
@[go_sem] theorem Tryz.cof134 : Tryz.prog.cellsOf 134 = 1 := by kernel_rfl
@[go_sem] theorem Tryz.kind135 : kindT Tryz.prog 135 = some none := by kernel_rfl
@[go_sem] theorem Tryz.cof135 : Tryz.prog.cellsOf 135 = 1 := by kernel_rfl
@[go_sem] theorem Tryz.kind136 : kindT Tryz.prog 136 = some none := by kernel_rfl
@[go_sem] theorem Tryz.cof136 : Tryz.prog.cellsOf 136 = 1 := by kernel_rfl
@[go_sem] theorem Tryz.kind138 : kindT Tryz.prog 138 = some none := by kernel_rfl
@[go_sem] theorem Tryz.cof138 : Tryz.prog.cellsOf 138 = 1 := by kernel_rfl
@[go_sem] theorem Tryz.kind139 : kindT Tryz.prog 139 = some none := by kernel_rfl
@[go_sem] theorem Tryz.cof139 : Tryz.prog.cellsOf 139 = 1 := by kernel_rfl
@[go_sem] theorem Tryz.kind140 : kindT Tryz.prog 140 = some none := by kernel_rfl
@[go_sem] theorem Tryz.cof140 : Tryz.prog.cellsOf 140 = 1 := by kernel_rfl
@[go_sem] theorem Tryz.kind141 : kindT Tryz.prog 141 = some none := by kernel_rfl
@[go_sem] theorem Tryz.cof141 : Tryz.prog.cellsOf 141 = 1 := by kernel_rfl
@[go_sem] theorem Tryz.kind142 : kindT Tryz.prog 142 = some none := by kernel_rfl
@[go_sem] theorem Tryz.cof142 : Tryz.prog.cellsOf 142 = 1 := by kernel_rfl
@[go_sem] theorem Tryz.kind143 : kindT Tryz.prog 143 = some none := by kernel_rfl
@[go_sem] theorem Tryz.cof143 : Tryz.prog.cellsOf 143 = 1 := by kernel_rfl
@[go_sem] theorem Tryz.kind144 : kindT Tryz.prog 144 = some none := by kernel_rfl
@[go_sem] theorem Tryz.cof144 : Tryz.prog.cellsOf 144 = 1 := by kernel_rfl
@[go_sem] theorem Tryz.kind145 : kindT Tryz.prog 145 = some none := by kernel_rfl
@[go_sem] theorem Tryz.cof145 : Tryz.prog.cellsOf 145 = 1 := by kernel_rfl
@[go_sem] theorem Tryz.kind146 : kindT Tryz.prog 146 = some (some 3) := by kernel_rfl
@[go_sem] theorem Tryz.fld146_0 : fldT Tryz.prog 146 0 = some 0 := by kernel_rfl
@[go_sem] theorem Tryz.fl1146_0 : fld1T Tryz.prog 146 0 = some 0 := by kernel_rfl
@[go_sem] theorem Tryz.pl146_0 : plT Tryz.prog 146 0 = some 0 := by kernel_rfl
@[go_sem] theorem Tryz.fld146_1 : fldT Tryz.prog 146 1 = some 1 := by kernel_rfl
@[go_sem] theorem Tryz.fl1146_1 : fld1T Tryz.prog 146 1 = some 1 := by kernel_rfl
@[go_sem] theorem Tryz.pl146_1 : plT Tryz.prog 146 1 = some 1 := by kernel_rfl
@[go_sem] theorem Tryz.fld146_2 : fldT Tryz.prog 146 2 = some 2 := by kernel_rfl
@[go_sem] theorem Tryz.fl1146_2 : fld1T Tryz.prog 146 2 = some 2 := by kernel_rfl
@[go_sem] theorem Tryz.pl146_2 : plT Tryz.prog 146 2 = some 2 := by kernel_rfl
@[go_sem] theorem Tryz.plk146 : plOk Tryz.prog 146 = true := by kernel_rfl
@[go_sem] theorem Tryz.info146 : infoT Tryz.prog 146 = some (3, 40, [.val (.slice none 0 0), .val (.int .i64 0), .val (.int .u64 0)]) := by kernel_rfl
@[go_sem] theorem Tryz.cof146 : Tryz.prog.cellsOf 146 = 3 := by kernel_rfl
@[go_sem] theorem Tryz.kind147 : kindT Tryz.prog 147 = some (some 3) := by kernel_rfl
@[go_sem] theorem Tryz.fld147_0 : fldT Tryz.prog 147 0 = some 0 := by kernel_rfl
@[go_sem] theorem Tryz.fl1147_0 : fld1T Tryz.prog 147 0 = some 0 := by kernel_rfl
@[go_sem] theorem Tryz.pl147_0 : plT Tryz.prog 147 0 = some 0 := by kernel_rfl
@[go_sem] theorem Tryz.fld147_1 : fldT Tryz.prog 147 1 = some 1 := by kernel_rfl
@[go_sem] theorem Tryz.fl1147_1 : fld1T Tryz.prog 147 1 = some 1 := by kernel_rfl
@[go_sem] theorem Tryz.pl147_1 : plT Tryz.prog 147 1 = some 1 := by kernel_rfl
@[go_sem] theorem Tryz.fld147_2 : fldT Tryz.prog 147 2 = some 2 := by kernel_rfl
@[go_sem] theorem Tryz.fl1147_2 : fld1T Tryz.prog 147 2 = some 2 := by kernel_rfl
@[go_sem] theorem Tryz.pl147_2 : plT Tryz.prog 147 2 = some 2 := by kernel_rfl
@[go_sem] theorem Tryz.plk147 : plOk Tryz.prog 147 = true := by kernel_rfl
@[go_sem] theorem Tryz.info147 : infoT Tryz.prog 147 = some (3, 40, [.val (.slice none 0 0), .val (.int .i64 0), .val (.int .u64 0)]) := by kernel_rfl
@[go_sem] theorem Tryz.cof147 : Tryz.prog.cellsOf 147 = 3 := by kernel_rfl
@[go_sem] theorem Tryz.kind148 : kindT Tryz.prog 148 = some none := by kernel_rfl
@[go_sem] theorem Tryz.info148 : infoT Tryz.prog 148 = some (1, 8, [.val (.int .u64 0)]) := by kernel_rfl
@[go_sem] theorem Tryz.cof148 : Tryz.prog.cellsOf 148 = 1 := by kernel_rfl
@[go_sem] theorem Tryz.und148 : Tryz.prog.underlying 148 = some (.int .u64) := by kernel_rfl
@[go_sem] theorem Tryz.kind149 : kindT Tryz.prog 149 = some none := by kernel_rfl
@[go_sem] theorem Tryz.cof149 : Tryz.prog.cellsOf 149 = 1 := by kernel_rfl
@[go_sem] theorem Tryz.kind150 : kindT Tryz.prog 150 = some none := by kernel_rfl
@[go_sem] theorem Tryz.cof150 : Tryz.prog.cellsOf 150 = 1 := by kernel_rfl
@[go_sem] theorem Tryz.kind151 : kindT Tryz.prog 151 = some (some 3) := by kernel_rfl
@[go_sem] theorem Tryz.elem151 : elemT Tryz.prog 151 = none := by kernel_rfl
@[go_sem] theorem Tryz.arr151 : arrT Tryz.prog 151 = some (3, 1, true) := by kernel_rfl
@[go_sem] theorem Tryz.pl151_0 : plT Tryz.prog 151 0 = some 0 := by kernel_rfl
@[go_sem] theorem Tryz.pl151_1 : plT Tryz.prog 151 1 = some 1 := by kernel_rfl
@[go_sem] theorem Tryz.pl151_2 : plT Tryz.prog 151 2 = some 2 := by kernel_rfl
@[go_sem] theorem Tryz.plk151 : plOk Tryz.prog 151 = true := by kernel_rfl
@[go_sem] theorem Tryz.info151 : infoT Tryz.prog 151 = some (3, 24, [.val (.int .i64 0), .val (.int .i64 0), .val (.int .i64 0)]) := by kernel_rfl
@[go_sem] theorem Tryz.cof151 : Tryz.prog.cellsOf 151 = 3 := by kernel_rfl
@[go_sem] theorem Tryz.kind152 : kindT Tryz.prog 152 = some (some 3) := by kernel_rfl
@[go_sem] theorem Tryz.elem152 : elemT Tryz.prog 152 = none := by kernel_rfl
@[go_sem] theorem Tryz.arr152 : arrT Tryz.prog 152 = some (3, 1, true) := by kernel_rfl
@[go_sem] theorem Tryz.pl152_0 : plT Tryz.prog 152 0 = some 0 := by kernel_rfl
@[go_sem] theorem Tryz.pl152_1 : plT Tryz.prog 152 1 = some 1 := by kernel_rfl
@[go_sem] theorem Tryz.pl152_2 : plT Tryz.prog 152 2 = some 2 := by kernel_rfl
@[go_sem] theorem Tryz.plk152 : plOk Tryz.prog 152 = true := by kernel_rfl
@[go_sem] theorem Tryz.info152 : infoT Tryz.prog 152 = some (3, 24, [.val (.int .i64 0), .val (.int .i64 0), .val (.int .i64 0)]) := by kernel_rfl
@[go_sem] theorem Tryz.cof152 : Tryz.prog.cellsOf 152 = 3 := by kernel_rfl
@[go_sem] theorem Tryz.kind153 : kindT Tryz.prog 153 = some none := by kernel_rfl
@[go_sem] theorem Tryz.cof153 : Tryz.prog.cellsOf 153 = 1 := by kernel_rfl
@[go_sem] theorem Tryz.kind154 : kindT Tryz.prog 154 = some none := by kernel_rfl
@[go_sem] theorem Tryz.cof154 : Tryz.prog.cellsOf 154 = 1 := by kernel_rfl
@[go_sem] theorem Tryz.kind155 : kindT Tryz.prog 155 = some none := by kernel_rfl
@[go_sem] theorem Tryz.cof155 : Tryz.prog.cellsOf 155 = 1 := by kernel_rfl
@[go_sem] theorem Tryz.kind156 : kindT Tryz.prog 156 = some none := by kernel_rfl
@[go_sem] theorem Tryz.cof156 : Tryz.prog.cellsOf 156 = 1 := by kernel_rfl
@[go_sem] theorem Tryz.kind157 : kindT Tryz.prog 157 = some none := by kernel_rfl
@[go_sem] theorem Tryz.cof157 : Tryz.prog.cellsOf 157 = 1 := by kernel_rfl
@[go_sem] theorem Tryz.kind158 : kindT Tryz.prog 158 = some none := by kernel_rfl
@[go_sem] theorem Tryz.cof158 : Tryz.prog.cellsOf 158 = 1 := by kernel_rfl
@[go_sem] theorem Tryz.kind159 : kindT Tryz.prog 159 = some none := by kernel_rfl
@[go_sem] theorem Tryz.elem159 : elemT Tryz.prog 159 = some 191 := by kernel_rfl
@[go_sem] theorem Tryz.info159 : infoT Tryz.prog 159 = some (1, 24, [.val (.slice none 0 0)]) := by kernel_rfl
@[go_sem] theorem Tryz.cof159 : Tryz.prog.cellsOf 159 = 1 := by kernel_rfl
theorem Tryz.und159 : Tryz.prog.underlying 159 = some (.slice 191) := by kernel_rfl
@[go_sem] theorem Tryz.kind161 : kindT Tryz.prog 161 = some none := by kernel_rfl
@[go_sem] theorem Tryz.cof161 : Tryz.prog.cellsOf 161 = 1 := by kernel_rfl
@[go_sem] theorem Tryz.kind162 : kindT Tryz.prog 162 = some none := by kernel_rfl
@[go_sem] theorem Tryz.cof162 : Tryz.prog.cellsOf 162 = 1 := by kernel_rfl
@[go_sem] theorem Tryz.kind163 : kindT Tryz.prog 163 = some none := by kernel_rfl
@[go_sem] theorem Tryz.cof163 : Tryz.prog.cellsOf 163 = 1 := by kernel_rfl
@[go_sem] theorem Tryz.kind164 : kindT Tryz.prog 164 = some none := by kernel_rfl
@[go_sem] theorem Tryz.cof164 : Tryz.prog.cellsOf 164 = 1 := by kernel_rfl
@[go_sem] theorem Tryz.kind165 : kindT Tryz.prog 165 = some none := by kernel_rfl
@[go_sem] theorem Tryz.cof165 : Tryz.prog.cellsOf 165 = 1 := by kernel_rfl
@[go_sem] theorem Tryz.kind166 : kindT Tryz.prog 166 = some none := by kernel_rfl
@[go_sem] theorem Tryz.cof166 : Tryz.prog.cellsOf 166 = 1 := by kernel_rfl
@[go_sem] theorem Tryz.kind167 : kindT Tryz.prog 167 = some none := by kernel_rfl
@[go_sem] theorem Tryz.cof167 : Tryz.prog.cellsOf 167 = 1 := by kernel_rfl
@[go_sem] theorem Tryz.kind168 : kindT Tryz.prog 168 = some none := by kernel_rfl
@[go_sem] theorem Tryz.cof168 : Tryz.prog.cellsOf 168 = 1 := by kernel_rfl
@[go_sem] theorem Tryz.kind169 : kindT Tryz.prog 169 = some none := by kernel_rfl
@[go_sem] theorem Tryz.cof169 : Tryz.prog.cellsOf 169 = 1 := by kernel_rfl
@[go_sem] theorem Tryz.kind170 : kindT Tryz.prog 170 = some none := by kernel_rfl
@[go_sem] theorem Tryz.cof170 : Tryz.prog.cellsOf 170 = 1 := by kernel_rfl
@[go_sem] theorem Tryz.kind171 : kindT Tryz.prog 171 = some none := by kernel_rfl
@[go_sem] theorem Tryz.cof171 : Tryz.prog.cellsOf 171 = 1 := by kernel_rfl
@[go_sem] theorem Tryz.kind172 : kindT Tryz.prog 172 = some none := by kernel_rfl
@[go_sem] theorem Tryz.cof172 : Tryz.prog.cellsOf 172 = 1 := by kernel_rfl
@[go_sem] theorem Tryz.kind173 : kindT Tryz.prog 173 = some none := by kernel_rfl
@[go_sem] theorem Tryz.cof173 : Tryz.prog.cellsOf 173 = 1 := by kernel_rfl
@[go_sem] theorem Tryz.kind174 : kindT Tryz.prog 174 = some none := by kernel_rfl
@[go_sem] theorem Tryz.cof174 : Tryz.prog.cellsOf 174 = 1 := by kernel_rfl
@[go_sem] theorem Tryz.kind175 : kindT Tryz.prog 175 = some none := by kernel_rfl
@[go_sem] theorem Tryz.cof175 : Tryz.prog.cellsOf 175 = 1 := by kernel_rfl
@[go_sem] theorem Tryz.kind176 : kindT Tryz.prog 176 = some none := by kernel_rfl
@[go_sem] theorem Tryz.cof176 : Tryz.prog.cellsOf 176 = 1 := by kernel_rfl
@[go_sem] theorem Tryz.kind177 : kindT Tryz.prog 177 = some none := by kernel_rfl
@[go_sem] theorem Tryz.cof177 : Tryz.prog.cellsOf 177 = 1 := by kernel_rfl
@[go_sem] theorem Tryz.kind178 : kindT Tryz.prog 178 = some none := by kernel_rfl
@[go_sem] theorem Tryz.cof178 : Tryz.prog.cellsOf 178 = 1 := by kernel_rfl
@[go_sem] theorem Tryz.kind179 : kindT Tryz.prog 179 = some none := by kernel_rfl
@[go_sem] theorem Tryz.cof179 : Tryz.prog.cellsOf 179 = 1 := by kernel_rfl
@[go_sem] theorem Tryz.kind180 : kindT Tryz.prog 180 = some none := by kernel_rfl
@[go_sem] theorem Tryz.cof180 : Tryz.prog.cellsOf 180 = 1 := by kernel_rfl
@[go_sem] theorem Tryz.kind181 : kindT Tryz.prog 181 = some none := by kernel_rfl
@[go_sem] theorem Tryz.cof181 : Tryz.prog.cellsOf 181 = 1 := by kernel_rfl
@[go_sem] theorem Tryz.kind182 : kindT Tryz.prog 182 = some none := by kernel_rfl
@[go_sem] theorem Tryz.cof182 : Tryz.prog.cellsOf 182 = 1 := by kernel_rfl
@[go_sem] theorem Tryz.kind183 : kindT Tryz.prog 183 = some none := by kernel_rfl
@[go_sem] theorem Tryz.cof183 : Tryz.prog.cellsOf 183 = 1 := by kernel_rfl
@[go_sem] theorem Tryz.kind184 : kindT Tryz.prog 184 = some none := by kernel_rfl
@[go_sem] theorem Tryz.cof184 : Tryz.prog.cellsOf 184 = 1 := by kernel_rfl
@[go_sem] theorem Tryz.kind185 : kindT Tryz.prog 185 = some none := by kernel_rfl
@[go_sem] theorem Tryz.elem185 : elemT Tryz.prog 185 = some 45 := by kernel_rfl
@[go_sem] theorem Tryz.info185 : infoT Tryz.prog 185 = some (1, 24, [.val (.slice none 0 0)]) := by kernel_rfl
@[go_sem] theorem Tryz.cof185 : Tryz.prog.cellsOf 185 = 1 := by kernel_rfl
theorem Tryz.und185 : Tryz.prog.underlying 185 = some (.slice 45) := by kernel_rfl
@[go_sem] theorem Tryz.kind186 : kindT Tryz.prog 186 = some none := by kernel_rfl
@[go_sem] theorem Tryz.cof186 : Tryz.prog.cellsOf 186 = 1 := by kernel_rfl
@[go_sem] theorem Tryz.kind187 : kindT Tryz.prog 187 = some none := by kernel_rfl
@[go_sem] theorem Tryz.cof187 : Tryz.prog.cellsOf 187 = 1 := by kernel_rfl
@[go_sem] theorem Tryz.kind188 : kindT Tryz.prog 188 = some none := by kernel_rfl
@[go_sem] theorem Tryz.cof188 : Tryz.prog.cellsOf 188 = 1 := by kernel_rfl
@[go_sem] theorem Tryz.kind189 : kindT Tryz.prog 189 = some none := by kernel_rfl
@[go_sem] theorem Tryz.cof189 : Tryz.prog.cellsOf 189 = 1 := by kernel_rfl
@[go_sem] theorem Tryz.kind190 : kindT Tryz.prog 190 = some none := by kernel_rfl
@[go_sem] theorem Tryz.cof190 : Tryz.prog.cellsOf 190 = 1 := by kernel_rfl
@[go_sem] theorem Tryz.kind191 : kindT Tryz.prog 191 = some (some 2) := by kernel_rfl
@[go_sem] theorem Tryz.fld191_0 : fldT Tryz.prog 191 0 = some 0 := by kernel_rfl
@[go_sem] theorem Tryz.fl1191_0 : fld1T Tryz.prog 191 0 = some 0 := by kernel_rfl
@[go_sem] theorem Tryz.pl191_0 : plT Tryz.prog 191 0 = some 0 := by kernel_rfl
@[go_sem] theorem Tryz.fld191_1 : fldT Tryz.prog 191 1 = some 1 := by kernel_rfl
@[go_sem] theorem Tryz.fl1191_1 : fld1T Tryz.prog 191 1 = some 1 := by kernel_rfl
@[go_sem] theorem Tryz.pl191_1 : plT Tryz.prog 191 1 = some 1 := by kernel_rfl
@[go_sem] theorem Tryz.plk191 : plOk Tryz.prog 191 = true := by kernel_rfl
@[go_sem] theorem Tryz.info191 : infoT Tryz.prog 191 = some (2, 32, [.val (.int .i64 0), .val (.slice none 0 0)]) := by kernel_rfl
@[go_sem] theorem Tryz.cof191 : Tryz.prog.cellsOf 191 = 2 := by kernel_rfl
@[go_sem] theorem Tryz.kind192 : kindT Tryz.prog 192 = some none := by kernel_rfl
@[go_sem] theorem Tryz.cof192 : Tryz.prog.cellsOf 192 = 1 := by kernel_rfl
@[go_sem] theorem Tryz.kind193 : kindT Tryz.prog 193 = some none := by kernel_rfl
@[go_sem] theorem Tryz.cof193 : Tryz.prog.cellsOf 193 = 1 := by kernel_rfl
@[go_sem] theorem Tryz.kind194 : kindT Tryz.prog 194 = some none := by kernel_rfl
@[go_sem] theorem Tryz.cof194 : Tryz.prog.cellsOf 194 = 1 := by kernel_rfl
@[go_sem] theorem Tryz.kind195 : kindT Tryz.prog 195 = some none := by kernel_rfl
@[go_sem] theorem Tryz.cof195 : Tryz.prog.cellsOf 195 = 1 := by kernel_rfl
@[go_sem] theorem Tryz.kind196 : kindT Tryz.prog 196 = some none := by kernel_rfl
@[go_sem] theorem Tryz.cof196 : Tryz.prog.cellsOf 196 = 1 := by kernel_rfl
@[go_sem] theorem Tryz.kind197 : kindT Tryz.prog 197 = some none := by kernel_rfl
@[go_sem] theorem Tryz.cof197 : Tryz.prog.cellsOf 197 = 1 := by kernel_rfl
@[go_sem] theorem Tryz.kind198 : kindT Tryz.prog 198 = some none := by kernel_rfl
@[go_sem] theorem Tryz.cof198 : Tryz.prog.cellsOf 198 = 1 := by kernel_rfl
@[go_sem] theorem Tryz.kind199 : kindT Tryz.prog 199 = some none := by kernel_rfl
@[go_sem] theorem Tryz.cof199 : Tryz.prog.cellsOf 199 = 1 := by kernel_rfl
@[go_sem] theorem Tryz.kind200 : kindT Tryz.prog 200 = some none := by kernel_rfl
@[go_sem] theorem Tryz.cof200 : Tryz.prog.cellsOf 200 = 1 := by kernel_rfl
@[go_sem] theorem Tryz.kind201 : kindT Tryz.prog 201 = some none := by kernel_rfl
@[go_sem] theorem Tryz.cof201 : Tryz.prog.cellsOf 201 = 1 := by kernel_rfl
@[go_sem] theorem Tryz.kind202 : kindT Tryz.prog 202 = some none := by kernel_rfl
@[go_sem] theorem Tryz.cof202 : Tryz.prog.cellsOf 202 = 1 := by kernel_rfl
@[go_sem] theorem Tryz.kind203 : kindT Tryz.prog 203 = some none := by kernel_rfl
@[go_sem] theorem Tryz.cof203 : Tryz.prog.cellsOf 203 = 1 := by kernel_rfl
@[go_sem] theorem Tryz.kind204 : kindT Tryz.prog 204 = some none := by kernel_rfl
@[go_sem] theorem Tryz.cof204 : Tryz.prog.cellsOf 204 = 1 := by kernel_rfl
@[go_sem] theorem Tryz.kind205 : kindT Tryz.prog 205 = some none := by kernel_rfl
@[go_sem] theorem Tryz.cof205 : Tryz.prog.cellsOf 205 = 1 := by kernel_rfl
@[go_sem] theorem Tryz.kind206 : kindT Tryz.prog 206 = some none := by kernel_rfl
@[go_sem] theorem Tryz.cof206 : Tryz.prog.cellsOf 206 = 1 := by kernel_rfl
@[go_sem] theorem Tryz.kind207 : kindT Tryz.prog 207 = some none := by kernel_rfl
@[go_sem] theorem Tryz.cof207 : Tryz.prog.cellsOf 207 = 1 := by kernel_rfl
@[go_sem] theorem Tryz.kind208 : kindT Tryz.prog 208 = some none := by kernel_rfl
@[go_sem] theorem Tryz.elem208 : elemT Tryz.prog 208 = some 9 := by kernel_rfl
@[go_sem] theorem Tryz.info208 : infoT Tryz.prog 208 = some (1, 24, [.val (.slice none 0 0)]) := by kernel_rfl
@[go_sem] theorem Tryz.cof208 : Tryz.prog.cellsOf 208 = 1 := by kernel_rfl
theorem Tryz.und208 : Tryz.prog.underlying 208 = some (.slice 9) := by kernel_rfl
@[go_sem] theorem Tryz.kind209 : kindT Tryz.prog 209 = some none := by kernel_rfl
@[go_sem] theorem Tryz.cof209 : Tryz.prog.cellsOf 209 = 1 := by kernel_rfl
@[go_sem] theorem Tryz.kind210 : kindT Tryz.prog 210 = some none := by kernel_rfl
@[go_sem] theorem Tryz.cof210 : Tryz.prog.cellsOf 210 = 1 := by kernel_rfl
@[go_sem] theorem Tryz.kind211 : kindT Tryz.prog 211 = some none := by kernel_rfl
@[go_sem] theorem Tryz.cof211 : Tryz.prog.cellsOf 211 = 1 := by kernel_rfl
@[go_sem] theorem Tryz.kind212 : kindT Tryz.prog 212 = some none := by kernel_rfl
@[go_sem] theorem Tryz.cof212 : Tryz.prog.cellsOf 212 = 1 := by kernel_rfl
@[go_sem] theorem Tryz.kind213 : kindT Tryz.prog 213 = some none := by kernel_rfl
@[go_sem] theorem Tryz.info213 : infoT Tryz.prog 213 = some (1, 8, [.val (.int .i64 0)]) := by kernel_rfl
@[go_sem] theorem Tryz.cof213 : Tryz.prog.cellsOf 213 = 1 := by kernel_rfl
@[go_sem] theorem Tryz.und213 : Tryz.prog.underlying 213 = some (.int .i64) := by kernel_rfl
@[go_sem] theorem Tryz.kind215 : kindT Tryz.prog 215 = some none := by kernel_rfl
@[go_sem] theorem Tryz.cof215 : Tryz.prog.cellsOf 215 = 1 := by kernel_rfl
@[go_sem] theorem Tryz.kind216 : kindT Tryz.prog 216 = some none := by kernel_rfl
@[go_sem] theorem Tryz.cof216 : Tryz.prog.cellsOf 216 = 1 := by kernel_rfl
@[go_sem] theorem Tryz.kind217 : kindT Tryz.prog 217 = some none := by kernel_rfl
@[go_sem] theorem Tryz.cof217 : Tryz.prog.cellsOf 217 = 1 := by kernel_rfl
@[go_sem] theorem Tryz.kind219 : kindT Tryz.prog 219 = some none := by kernel_rfl
@[go_sem] theorem Tryz.cof219 : Tryz.prog.cellsOf 219 = 1 := by kernel_rfl
@[go_sem] theorem Tryz.kind220 : kindT Tryz.prog 220 = some none := by kernel_rfl
@[go_sem] theorem Tryz.cof220 : Tryz.prog.cellsOf 220 = 1 := by kernel_rfl
@[go_sem] theorem Tryz.kind221 : kindT Tryz.prog 221 = some none := by kernel_rfl
@[go_sem] theorem Tryz.info221 : infoT Tryz.prog 221 = some (1, 4, [.val (.int .u32 0)]) := by kernel_rfl
@[go_sem] theorem Tryz.cof221 : Tryz.prog.cellsOf 221 = 1 := by kernel_rfl
@[go_sem] theorem Tryz.und221 : Tryz.prog.underlying 221 = some (.int .u32) := by kernel_rfl
@[go_sem] theorem Tryz.kind222 : kindT Tryz.prog 222 = some none := by kernel_rfl
@[go_sem] theorem Tryz.cof222 : Tryz.prog.cellsOf 222 = 1 := by kernel_rfl
@[go_sem] theorem Tryz.kind223 : kindT Tryz.prog 223 = some none := by kernel_rfl
@[go_sem] theorem Tryz.cof223 : Tryz.prog.cellsOf 223 = 1 := by kernel_rfl
@[go_sem] theorem Tryz.kind224 : kindT Tryz.prog 224 = some none := by kernel_rfl
@[go_sem] theorem Tryz.cof224 : Tryz.prog.cellsOf 224 = 1 := by kernel_rfl
@[go_sem] theorem Tryz.kind225 : kindT Tryz.prog 225 = some none := by kernel_rfl
@[go_sem] theorem Tryz.cof225 : Tryz.prog.cellsOf 225 = 1 := by kernel_rfl
@[go_sem] theorem Tryz.kind226 : kindT Tryz.prog 226 = some none := by kernel_rfl
@[go_sem] theorem Tryz.cof226 : Tryz.prog.cellsOf 226 = 1 := by kernel_rfl
@[go_sem] theorem Tryz.kind227 : kindT Tryz.prog 227 = some none := by kernel_rfl
@[go_sem] theorem Tryz.cof227 : Tryz.prog.cellsOf 227 = 1 := by kernel_rfl
@[go_sem] theorem Tryz.kind228 : kindT Tryz.prog 228 = some none := by kernel_rfl
@[go_sem] theorem Tryz.cof228 : Tryz.prog.cellsOf 228 = 1 := by kernel_rfl
@[go_sem] theorem Tryz.kind229 : kindT Tryz.prog 229 = some none := by kernel_rfl
@[go_sem] theorem Tryz.cof229 : Tryz.prog.cellsOf 229 = 1 := by kernel_rfl
@[go_sem] theorem Tryz.kind230 : kindT Tryz.prog 230 = some none := by kernel_rfl
@[go_sem] theorem Tryz.info230 : infoT Tryz.prog 230 = some (1, 8, [.val (.int .u64 0)]) := by kernel_rfl
@[go_sem] theorem Tryz.cof230 : Tryz.prog.cellsOf 230 = 1 := by kernel_rfl
@[go_sem] theorem Tryz.und230 : Tryz.prog.underlying 230 = some (.int .u64) := by kernel_rfl
@[go_sem] theorem Tryz.kind231 : kindT Tryz.prog 231 = some none := by kernel_rfl
@[go_sem] theorem Tryz.cof231 : Tryz.prog.cellsOf 231 = 1 := by kernel_rfl
@[go_sem] theorem Tryz.kind232 : kindT Tryz.prog 232 = some none := by kernel_rfl
@[go_sem] theorem Tryz.cof232 : Tryz.prog.cellsOf 232 = 1 := by kernel_rfl
@[go_sem] theorem Tryz.kind233 : kindT Tryz.prog 233 = some none := by kernel_rfl
@[go_sem] theorem Tryz.cof233 : Tryz.prog.cellsOf 233 = 1 := by kernel_rfl
@[go_sem] theorem Tryz.kind234 : kindT Tryz.prog 234 = some none := by kernel_rfl
@[go_sem] theorem Tryz.elem234 : elemT Tryz.prog 234 = none := by kernel_rfl
@[go_sem] theorem Tryz.cof234 : Tryz.prog.cellsOf 234 = 1 := by kernel_rfl
@[go_sem] theorem Tryz.kind235 : kindT Tryz.prog 235 = some none := by kernel_rfl
@[go_sem] theorem Tryz.cof235 : Tryz.prog.cellsOf 235 = 1 := by kernel_rfl
@[go_sem] theorem Tryz.kind236 : kindT Tryz.prog 236 = some none := by kernel_rfl
@[go_sem] theorem Tryz.cof236 : Tryz.prog.cellsOf 236 = 1 := by kernel_rfl
@[go_sem] theorem Tryz.kind237 : kindT Tryz.prog 237 = some none := by kernel_rfl
@[go_sem] theorem Tryz.cof237 : Tryz.prog.cellsOf 237 = 1 := by kernel_rfl
@[go_sem] theorem Tryz.kind238 : kindT Tryz.prog 238 = some none := by kernel_rfl
@[go_sem] theorem Tryz.elem238 : elemT Tryz.prog 238 = none := by kernel_rfl
@[go_sem] theorem Tryz.cof238 : Tryz.prog.cellsOf 238 = 1 := by kernel_rfl
@[go_sem] theorem Tryz.kind240 : kindT Tryz.prog 240 = some none := by kernel_rfl
@[go_sem] theorem Tryz.cof240 : Tryz.prog.cellsOf 240 = 1 := by kernel_rfl
@[go_sem] theorem Tryz.kind241 : kindT Tryz.prog 241 = some none := by kernel_rfl
@[go_sem] theorem Tryz.cof241 : Tryz.prog.cellsOf 241 = 1 := by kernel_rfl
@[go_sem] theorem Tryz.kind242 : kindT Tryz.prog 242 = some none := by kernel_rfl
@[go_sem] theorem Tryz.cof242 : Tryz.prog.cellsOf 242 = 1 := by kernel_rfl
@[go_sem] theorem Tryz.kind243 : kindT Tryz.prog 243 = some (some 4) := by kernel_rfl
@[go_sem] theorem Tryz.fld243_0 : fldT Tryz.prog 243 0 = some 0 := by kernel_rfl
@[go_sem] theorem Tryz.fl1243_0 : fld1T Tryz.prog 243 0 = some 0 := by kernel_rfl
@[go_sem] theorem Tryz.pl243_0 : plT Tryz.prog 243 0 = some 0 := by kernel_rfl
@[go_sem] theorem Tryz.fld243_1 : fldT Tryz.prog 243 1 = some 1 := by kernel_rfl
@[go_sem] theorem Tryz.fl1243_1 : fld1T Tryz.prog 243 1 = some 1 := by kernel_rfl
@[go_sem] theorem Tryz.pl243_1 : plT Tryz.prog 243 1 = some 1 := by kernel_rfl
@[go_sem] theorem Tryz.fld243_2 : fldT Tryz.prog 243 2 = some 2 := by kernel_rfl
@[go_sem] theorem Tryz.fl1243_2 : fld1T Tryz.prog 243 2 = some 2 := by kernel_rfl
@[go_sem] theorem Tryz.pl243_2 : plT Tryz.prog 243 2 = some 2 := by kernel_rfl
@[go_sem] theorem Tryz.fld243_3 : fldT Tryz.prog 243 3 = some 3 := by kernel_rfl
@[go_sem] theorem Tryz.fl1243_3 : fld1T Tryz.prog 243 3 = some 3 := by kernel_rfl
@[go_sem] theorem Tryz.pl243_3 : plT Tryz.prog 243 3 = some 3 := by kernel_rfl
@[go_sem] theorem Tryz.plk243 : plOk Tryz.prog 243 = true := by kernel_rfl
@[go_sem] theorem Tryz.cof243 : Tryz.prog.cellsOf 243 = 4 := by kernel_rfl
@[go_sem] theorem Tryz.kind244 : kindT Tryz.prog 244 = some (some 4) := by kernel_rfl
@[go_sem] theorem Tryz.fld244_0 : fldT Tryz.prog 244 0 = some 0 := by kernel_rfl
@[go_sem] theorem Tryz.fl1244_0 : fld1T Tryz.prog 244 0 = some 0 := by kernel_rfl
@[go_sem] theorem Tryz.pl244_0 : plT Tryz.prog 244 0 = some 0 := by kernel_rfl
@[go_sem] theorem Tryz.fld244_1 : fldT Tryz.prog 244 1 = some 1 := by kernel_rfl
@[go_sem] theorem Tryz.fl1244_1 : fld1T Tryz.prog 244 1 = some 1 := by kernel_rfl
@[go_sem] theorem Tryz.pl244_1 : plT Tryz.prog 244 1 = some 1 := by kernel_rfl
@[go_sem] theorem Tryz.fld244_2 : fldT Tryz.prog 244 2 = some 2 := by kernel_rfl
@[go_sem] theorem Tryz.fl1244_2 : fld1T Tryz.prog 244 2 = some 2 := by kernel_rfl
@[go_sem] theorem Tryz.pl244_2 : plT Tryz.prog 244 2 = some 2 := by kernel_rfl
@[go_sem] theorem Tryz.fld244_3 : fldT Tryz.prog 244 3 = some 3 := by kernel_rfl
@[go_sem] theorem Tryz.fl1244_3 : fld1T Tryz.prog 244 3 = some 3 := by kernel_rfl
@[go_sem] theorem Tryz.pl244_3 : plT Tryz.prog 244 3 = some 3 := by kernel_rfl
@[go_sem] theorem Tryz.plk244 : plOk Tryz.prog 244 = true := by kernel_rfl
@[go_sem] theorem Tryz.cof244 : Tryz.prog.cellsOf 244 = 4 := by kernel_rfl
@[go_sem] theorem Tryz.kind245 : kindT Tryz.prog 245 = some (some 0) := by kernel_rfl
@[go_sem] theorem Tryz.elem245 : elemT Tryz.prog 245 = none := by kernel_rfl
@[go_sem] theorem Tryz.arr245 : arrT Tryz.prog 245 = some (0, 1, true) := by kernel_rfl
@[go_sem] theorem Tryz.plk245 : plOk Tryz.prog 245 = true := by kernel_rfl
@[go_sem] theorem Tryz.info245 : infoT Tryz.prog 245 = some (0, 0, []) := by kernel_rfl
@[go_sem] theorem Tryz.cof245 : Tryz.prog.cellsOf 245 = 0 := by kernel_rfl
@[go_sem] theorem Tryz.kind246 : kindT Tryz.prog 246 = some (some 0) := by kernel_rfl
@[go_sem] theorem Tryz.plk246 : plOk Tryz.prog 246 = true := by kernel_rfl
@[go_sem] theorem Tryz.info246 : infoT Tryz.prog 246 = some (0, 0, []) := by kernel_rfl
@[go_sem] theorem Tryz.cof246 : Tryz.prog.cellsOf 246 = 0 := by kernel_rfl
@[go_sem] theorem Tryz.kind247 : kindT Tryz.prog 247 = some (some 0) := by kernel_rfl
@[go_sem] theorem Tryz.plk247 : plOk Tryz.prog 247 = true := by kernel_rfl
@[go_sem] theorem Tryz.info247 : infoT Tryz.prog 247 = some (0, 0, []) := by kernel_rfl
@[go_sem] theorem Tryz.cof247 : Tryz.prog.cellsOf 247 = 0 := by kernel_rfl
@[go_sem] theorem Tryz.kind248 : kindT Tryz.prog 248 = some none := by kernel_rfl
@[go_sem] theorem Tryz.cof248 : Tryz.prog.cellsOf 248 = 1 := by kernel_rfl
@[go_sem] theorem Tryz.kind249 : kindT Tryz.prog 249 = some none := by kernel_rfl
@[go_sem] theorem Tryz.info249 : infoT Tryz.prog 249 = some (1, 1, [.val (.int .u8 0)]) := by kernel_rfl
@[go_sem] theorem Tryz.cof249 : Tryz.prog.cellsOf 249 = 1 := by kernel_rfl
@[go_sem] theorem Tryz.und249 : Tryz.prog.underlying 249 = some (.int .u8) := by kernel_rfl
@[go_sem] theorem Tryz.kind250 : kindT Tryz.prog 250 = some none := by kernel_rfl
@[go_sem] theorem Tryz.info250 : infoT Tryz.prog 250 = some (1, 1, [.val (.int .u8 0)]) := by kernel_rfl
@[go_sem] theorem Tryz.cof250 : Tryz.prog.cellsOf 250 = 1 := by kernel_rfl
@[go_sem] theorem Tryz.und250 : Tryz.prog.underlying 250 = some (.int .u8) := by kernel_rfl
@[go_sem] theorem Tryz.kind251 : kindT Tryz.prog 251 = some none := by kernel_rfl
@[go_sem] theorem Tryz.cof251 : Tryz.prog.cellsOf 251 = 1 := by kernel_rfl
@[go_sem] theorem Tryz.kind252 : kindT Tryz.prog 252 = some none := by kernel_rfl
@[go_sem] theorem Tryz.elem252 : elemT Tryz.prog 252 = none := by kernel_rfl
@[go_sem] theorem Tryz.cof252 : Tryz.prog.cellsOf 252 = 1 := by kernel_rfl
@[go_sem] theorem Tryz.kind253 : kindT Tryz.prog 253 = some none := by kernel_rfl
@[go_sem] theorem Tryz.info253 : infoT Tryz.prog 253 = some (1, 4, [.val (.int .i32 0)]) := by kernel_rfl
@[go_sem] theorem Tryz.cof253 : Tryz.prog.cellsOf 253 = 1 := by kernel_rfl
@[go_sem] theorem Tryz.und253 : Tryz.prog.underlying 253 = some (.int .i32) := by kernel_rfl
@[go_sem] theorem Tryz.kind254 : kindT Tryz.prog 254 = some none := by kernel_rfl
@[go_sem] theorem Tryz.info254 : infoT Tryz.prog 254 = some (1, 4, [.val (.int .i32 0)]) := by kernel_rfl
@[go_sem] theorem Tryz.cof254 : Tryz.prog.cellsOf 254 = 1 := by kernel_rfl
@[go_sem] theorem Tryz.und254 : Tryz.prog.underlying 254 = some (.int .i32) := by kernel_rfl
@[go_sem] theorem Tryz.kind255 : kindT Tryz.prog 255 = some (some 11) := by kernel_rfl
@[go_sem] theorem Tryz.fld255_0 : fldT Tryz.prog 255 0 = some 0 := by kernel_rfl
@[go_sem] theorem Tryz.fl1255_0 : fld1T Tryz.prog 255 0 = some 0 := by kernel_rfl
@[go_sem] theorem Tryz.pl255_0 : plT Tryz.prog 255 0 = some 0 := by kernel_rfl
@[go_sem] theorem Tryz.fld255_1 : fldT Tryz.prog 255 1 = some 1 := by kernel_rfl
@[go_sem] theorem Tryz.fl1255_1 : fld1T Tryz.prog 255 1 = some 1 := by kernel_rfl
@[go_sem] theorem Tryz.pl255_1 : plT Tryz.prog 255 1 = some 1 := by kernel_rfl
@[go_sem] theorem Tryz.fld255_2 : fldT Tryz.prog 255 2 = some 2 := by kernel_rfl
@[go_sem] theorem Tryz.fl1255_2 : fld1T Tryz.prog 255 2 = some 2 := by kernel_rfl
@[go_sem] theorem Tryz.pl255_2 : plT Tryz.prog 255 2 = some 2 := by kernel_rfl
@[go_sem] theorem Tryz.fld255_3 : fldT Tryz.prog 255 3 = some 3 := by kernel_rfl
@[go_sem] theorem Tryz.fl1255_3 : fld1T Tryz.prog 255 3 = some 3 := by kernel_rfl
@[go_sem] theorem Tryz.pl255_3 : plT Tryz.prog 255 3 = some 3 := by kernel_rfl
@[go_sem] theorem Tryz.fld255_4 : fldT Tryz.prog 255 4 = some 4 := by kernel_rfl
@[go_sem] theorem Tryz.fl1255_4 : fld1T Tryz.prog 255 4 = some 4 := by kernel_rfl
@[go_sem] theorem Tryz.pl255_4 : plT Tryz.prog 255 4 = some 4 := by kernel_rfl
@[go_sem] theorem Tryz.fld255_5 : fldT Tryz.prog 255 5 = some 5 := by kernel_rfl
@[go_sem] theorem Tryz.fl1255_5 : fld1T Tryz.prog 255 5 = some 5 := by kernel_rfl
@[go_sem] theorem Tryz.pl255_5 : plT Tryz.prog 255 5 = some 5 := by kernel_rfl
@[go_sem] theorem Tryz.fld255_6 : fldT Tryz.prog 255 6 = some 6 := by kernel_rfl
@[go_sem] theorem Tryz.fl1255_6 : fld1T Tryz.prog 255 6 = some 6 := by kernel_rfl
@[go_sem] theorem Tryz.pl255_6 : plT Tryz.prog 255 6 = some 6 := by kernel_rfl
@[go_sem] theorem Tryz.fld255_7 : fldT Tryz.prog 255 7 = some 7 := by kernel_rfl
@[go_sem] theorem Tryz.fl1255_7 : fld1T Tryz.prog 255 7 = some 7 := by kernel_rfl
@[go_sem] theorem Tryz.pl255_7 : plT Tryz.prog 255 7 = some 7 := by kernel_rfl
@[go_sem] theorem Tryz.fld255_8 : fldT Tryz.prog 255 8 = some 8 := by kernel_rfl
@[go_sem] theorem Tryz.fl1255_8 : fld1T Tryz.prog 255 8 = some 8 := by kernel_rfl
@[go_sem] theorem Tryz.pl255_8 : plT Tryz.prog 255 8 = some 8 := by kernel_rfl
@[go_sem] theorem Tryz.fld255_9 : fldT Tryz.prog 255 9 = some 9 := by kernel_rfl
@[go_sem] theorem Tryz.fl1255_9 : fld1T Tryz.prog 255 9 = some 9 := by kernel_rfl
@[go_sem] theorem Tryz.pl255_9 : plT Tryz.prog 255 9 = some 9 := by kernel_rfl
@[go_sem] theorem Tryz.fld255_10 : fldT Tryz.prog 255 10 = some 10 := by kernel_rfl
@[go_sem] theorem Tryz.fl1255_10 : fld1T Tryz.prog 255 10 = some 10 := by kernel_rfl
@[go_sem] theorem Tryz.pl255_10 : plT Tryz.prog 255 10 = some 10 := by kernel_rfl
@[go_sem] theorem Tryz.plk255 : plOk Tryz.prog 255 = true := by kernel_rfl
@[go_sem] theorem Tryz.cof255 : Tryz.prog.cellsOf 255 = 11 := by kernel_rfl
@[go_sem] theorem Tryz.kind256 : kindT Tryz.prog 256 = some (some 11) := by kernel_rfl
@[go_sem] theorem Tryz.fld256_0 : fldT Tryz.prog 256 0 = some 0 := by kernel_rfl
@[go_sem] theorem Tryz.fl1256_0 : fld1T Tryz.prog 256 0 = some 0 := by kernel_rfl
@[go_sem] theorem Tryz.pl256_0 : plT Tryz.prog 256 0 = some 0 := by kernel_rfl
@[go_sem] theorem Tryz.fld256_1 : fldT Tryz.prog 256 1 = some 1 := by kernel_rfl
@[go_sem] theorem Tryz.fl1256_1 : fld1T Tryz.prog 256 1 = some 1 := by kernel_rfl
@[go_sem] theorem Tryz.pl256_1 : plT Tryz.prog 256 1 = some 1 := by kernel_rfl
@[go_sem] theorem Tryz.fld256_2 : fldT Tryz.prog 256 2 = some 2 := by kernel_rfl
@[go_sem] theorem Tryz.fl1256_2 : fld1T Tryz.prog 256 2 = some 2 := by kernel_rfl
@[go_sem] theorem Tryz.pl256_2 : plT Tryz.prog 256 2 = some 2 := by kernel_rfl
@[go_sem] theorem Tryz.fld256_3 : fldT Tryz.prog 256 3 = some 3 := by kernel_rfl
@[go_sem] theorem Tryz.fl1256_3 : fld1T Tryz.prog 256 3 = some 3 := by kernel_rfl
@[go_sem] theorem Tryz.pl256_3 : plT Tryz.prog 256 3 = some 3 := by kernel_rfl
@[go_sem] theorem Tryz.fld256_4 : fldT Tryz.prog 256 4 = some 4 := by kernel_rfl
@[go_sem] theorem Tryz.fl1256_4 : fld1T Tryz.prog 256 4 = some 4 := by kernel_rfl
@[go_sem] theorem Tryz.pl256_4 : plT Tryz.prog 256 4 = some 4 := by kernel_rfl
@[go_sem] theorem Tryz.fld256_5 : fldT Tryz.prog 256 5 = some 5 := by kernel_rfl
@[go_sem] theorem Tryz.fl1256_5 : fld1T Tryz.prog 256 5 = some 5 := by kernel_rfl
@[go_sem] theorem Tryz.pl256_5 : plT Tryz.prog 256 5 = some 5 := by kernel_rfl
@[go_sem] theorem Tryz.fld256_6 : fldT Tryz.prog 256 6 = some 6 := by kernel_rfl
@[go_sem] theorem Tryz.fl1256_6 : fld1T Tryz.prog 256 6 = some 6 := by kernel_rfl
@[go_sem] theorem Tryz.pl256_6 : plT Tryz.prog 256 6 = some 6 := by kernel_rfl
@[go_sem] theorem Tryz.fld256_7 : fldT Tryz.prog 256 7 = some 7 := by kernel_rfl
@[go_sem] theorem Tryz.fl1256_7 : fld1T Tryz.prog 256 7 = some 7 := by kernel_rfl
@[go_sem] theorem Tryz.pl256_7 : plT Tryz.prog 256 7 = some 7 := by kernel_rfl
@[go_sem] theorem Tryz.fld256_8 : fldT Tryz.prog 256 8 = some 8 := by kernel_rfl
@[go_sem] theorem Tryz.fl1256_8 : fld1T Tryz.prog 256 8 = some 8 := by kernel_rfl
@[go_sem] theorem Tryz.pl256_8 : plT Tryz.prog 256 8 = some 8 := by kernel_rfl
@[go_sem] theorem Tryz.fld256_9 : fldT Tryz.prog 256 9 = some 9 := by kernel_rfl
@[go_sem] theorem Tryz.fl1256_9 : fld1T Tryz.prog 256 9 = some 9 := by kernel_rfl
@[go_sem] theorem Tryz.pl256_9 : plT Tryz.prog 256 9 = some 9 := by kernel_rfl
@[go_sem] theorem Tryz.fld256_10 : fldT Tryz.prog 256 10 = some 10 := by kernel_rfl
@[go_sem] theorem Tryz.fl1256_10 : fld1T Tryz.prog 256 10 = some 10 := by kernel_rfl
@[go_sem] theorem Tryz.pl256_10 : plT Tryz.prog 256 10 = some 10 := by kernel_rfl
@[go_sem] theorem Tryz.plk256 : plOk Tryz.prog 256 = true := by kernel_rfl
@[go_sem] theorem Tryz.cof256 : Tryz.prog.cellsOf 256 = 11 := by kernel_rfl
@[go_sem] theorem Tryz.kind257 : kindT Tryz.prog 257 = some none := by kernel_rfl
@[go_sem] theorem Tryz.cof257 : Tryz.prog.cellsOf 257 = 1 := by kernel_rfl
@[go_sem] theorem Tryz.kind258 : kindT Tryz.prog 258 = some none := by kernel_rfl
@[go_sem] theorem Tryz.cof258 : Tryz.prog.cellsOf 258 = 1 := by kernel_rfl
end Go.Proofs

/- Layings of the library's sort at the program's own types. -/
namespace Go.Proofs.YtoeikpioonlmfaaGreat
open Go.Shelf Go.Sort
set_option maxRecDepth 100000
def Tryz.sortMon_ren : Go.Shelf.Ren := ⟨fun | 6 => 193 | 15 => 226 | 14 => 225 | 28 => 244 | 29 => 245 | 20 => 236 | 21 => 237 | 22 => 238 | 23 => 239 | 24 => 240 | 25 => 241 | 26 => 242 | 27 => 243 | 46 => 260 | 47 => 261 | 48 => 262 | 49 => 263 | 50 => 264 | 57 => 269 | n => n, fun | 22 => 92 | 24 => 97 | 25 => 188 | 3 => 3 | 39 => 148 | 0 => 0 | 53 => 221 | 55 => 34 | 4 => 4 | 46 => 214 | 45 => 213 | 50 => 218 | 5 => 5 | 9 => 9 | 66 => 230 | 70 => 234 | 76 => 238 | 77 => 239 | n => n, fun | n => n⟩
theorem Tryz.sortMon : Go.Proofs.SlLaysF0.n6 Tryz.prog Tryz.sortMon_ren := {
  mixed := by kernel_rfl,
  f6 := ⟨Tryz.f193.name, by decide, Tryz.func193.trans (congrArg some (by kernel_rfl))⟩,
  f14 := ⟨Tryz.f225.name, by decide, Tryz.func225.trans (congrArg some (by kernel_rfl))⟩,
  f15 := Tryz.func226.trans (congrArg some (by kernel_rfl)),
  f20 := ⟨Tryz.f236.name, by decide, Tryz.func236.trans (congrArg some (by kernel_rfl))⟩,
  f21 := ⟨Tryz.f237.name, by decide, Tryz.func237.trans (congrArg some (by kernel_rfl))⟩,
  f22 := ⟨Tryz.f238.name, by decide, Tryz.func238.trans (congrArg some (by kernel_rfl))⟩,
  f23 := ⟨Tryz.f239.name, by decide, Tryz.func239.trans (congrArg some (by kernel_rfl))⟩,
  f24 := ⟨Tryz.f240.name, by decide, Tryz.func240.trans (congrArg some (by kernel_rfl))⟩,
  f25 := ⟨Tryz.f241.name, by decide, Tryz.func241.trans (congrArg some (by kernel_rfl))⟩,
  f26 := ⟨Tryz.f242.name, by decide, Tryz.func242.trans (congrArg some (by kernel_rfl))⟩,
  f27 := ⟨Tryz.f243.name, by decide, Tryz.func243.trans (congrArg some (by kernel_rfl))⟩,
  f28 := Tryz.func244.trans (congrArg some (by kernel_rfl)),
  f29 := Tryz.func245.trans (congrArg some (by kernel_rfl)),
  f46 := ⟨Tryz.f260.name, by decide, Tryz.func260.trans (congrArg some (by kernel_rfl))⟩,
  f47 := Tryz.func261.trans (congrArg some (by kernel_rfl)),
  f48 := Tryz.func262.trans (congrArg some (by kernel_rfl)),
  f49 := ⟨Tryz.f263.name, by decide, Tryz.func263.trans (congrArg some (by kernel_rfl))⟩,
  f50 := ⟨Tryz.f264.name, by decide, Tryz.func264.trans (congrArg some (by kernel_rfl))⟩,
  f57 := ⟨Tryz.f269.name, by decide, Tryz.func269.trans (congrArg some (by kernel_rfl))⟩,
  t0 := Tryz.underlying0,
  a0 := Tryz.isAgg0,
  z0 := Tryz.sizeOf0,
  v0 := Tryz.zeroValue0,
  t3 := Tryz.underlying3,
  a3 := Tryz.isAgg3,
  z3 := Tryz.sizeOf3,
  v3 := Tryz.zeroValue3,
  t4 := Tryz.underlying4,
  a4 := Tryz.isAgg4,
  z4 := Tryz.sizeOf4,
  v4 := Tryz.zeroValue4,
  t5 := Tryz.underlying5,
  a5 := Tryz.isAgg5,
  z5 := Tryz.sizeOf5,
  v5 := Tryz.zeroValue5,
  t9 := Tryz.underlying9,
  a9 := Tryz.isAgg9,
  z9 := Tryz.sizeOf9,
  v9 := Tryz.zeroValue9,
  t22 := Tryz.underlying92,
  a22 := Tryz.isAgg92,
  z22 := Tryz.sizeOf92,
  v22 := Tryz.zeroValue92,
  t25 := Tryz.underlying188,
  a25 := Tryz.isAgg188,
  z25 := Tryz.sizeOf188,
  v25 := Tryz.zeroValue188,
  t39 := Tryz.underlying148,
  a39 := Tryz.isAgg148,
  z39 := Tryz.sizeOf148,
  v39 := Tryz.zeroValue148,
  t45 := Tryz.underlying213,
  a45 := Tryz.isAgg213,
  z45 := Tryz.sizeOf213,
  v45 := Tryz.zeroValue213,
  t46 := Tryz.underlying214,
  a46 := Tryz.isAgg214,
  z46 := Tryz.sizeOf214,
  v46 := Tryz.zeroValue214,
  t50 := Tryz.underlying218,
  a50 := Tryz.isAgg218,
  z50 := Tryz.sizeOf218,
  v50 := Tryz.zeroValue218,
  t53 := Tryz.underlying221,
  a53 := Tryz.isAgg221,
  z53 := Tryz.sizeOf221,
  v53 := Tryz.zeroValue221,
  t55 := Tryz.underlying34,
  a55 := Tryz.isAgg34,
  z55 := Tryz.sizeOf34,
  v55 := Tryz.zeroValue34,
  t66 := Tryz.underlying230,
  a66 := Tryz.isAgg230,
  z66 := Tryz.sizeOf230,
  v66 := Tryz.zeroValue230,
  t70 := Tryz.underlying234,
  a70 := Tryz.isAgg234,
  z70 := Tryz.sizeOf234,
  v70 := Tryz.zeroValue234,
  t76 := Tryz.underlying238,
  a76 := Tryz.isAgg238,
  z76 := Tryz.sizeOf238,
  v76 := Tryz.zeroValue238,
  t77 := Tryz.underlying239,
  a77 := Tryz.isAgg239,
  z77 := Tryz.sizeOf239,
  v77 := Tryz.zeroValue239 }
end Go.Proofs.YtoeikpioonlmfaaGreat
