/- Texts of the own layer and contracts, part 4: Tab. -/
import Derived.Test.YtngakdgkeemjhaaGreatProg
import Derived.KernelRfl
import Derived.Test.YtngakdgkeemjhaaGreatM3
/- What the loaded program says of its types. Written by a program (gentab.py). -/
namespace Go.Proofs
open Go.Abs
theorem Tryz.mixed : Tryz.prog.follows .mixedOrders = true := by kernel_rfl
@[go_sem] theorem Tryz.kind1 : kindT Tryz.prog 1 = some none := by kernel_rfl
@[go_sem] theorem Tryz.cof1 : Tryz.prog.cellsOf 1 = 1 := by kernel_rfl
@[go_sem] theorem Tryz.kind2 : kindT Tryz.prog 2 = some none := by kernel_rfl
@[go_sem] theorem Tryz.info2 : infoT Tryz.prog 2 = some (1, 8, [.val (.int .i64 0)]) := by kernel_rfl
@[go_sem] theorem Tryz.cof2 : Tryz.prog.cellsOf 2 = 1 := by kernel_rfl
@[go_sem] theorem Tryz.und2 : Tryz.prog.underlying 2 = some (.int .i64) := by kernel_rfl
@[go_sem] theorem Tryz.kind3 : kindT Tryz.prog 3 = some none := by kernel_rfl
@[go_sem] theorem Tryz.info3 : infoT Tryz.prog 3 = some (1, 8, [.val (.int .i64 0)]) := by kernel_rfl
@[go_sem] theorem Tryz.cof3 : Tryz.prog.cellsOf 3 = 1 := by kernel_rfl
@[go_sem] theorem Tryz.und3 : Tryz.prog.underlying 3 = some (.int .i64) := by kernel_rfl
@[go_sem] theorem Tryz.kind4 : kindT Tryz.prog 4 = some none := by kernel_rfl
@[go_sem] theorem Tryz.info4 : infoT Tryz.prog 4 = some (1, 1, [.val (.bool false)]) := by kernel_rfl
@[go_sem] theorem Tryz.cof4 : Tryz.prog.cellsOf 4 = 1 := by kernel_rfl
@[go_sem] theorem Tryz.kind5 : kindT Tryz.prog 5 = some none := by kernel_rfl
@[go_sem] theorem Tryz.info5 : infoT Tryz.prog 5 = some (1, 1, [.val (.int .u8 0)]) := by kernel_rfl
@[go_sem] theorem Tryz.cof5 : Tryz.prog.cellsOf 5 = 1 := by kernel_rfl
@[go_sem] theorem Tryz.und5 : Tryz.prog.underlying 5 = some (.int .u8) := by kernel_rfl
@[go_sem] theorem Tryz.kind6 : kindT Tryz.prog 6 = some none := by kernel_rfl
@[go_sem] theorem Tryz.info6 : infoT Tryz.prog 6 = some (1, 1, [.val (.int .u8 0)]) := by kernel_rfl
@[go_sem] theorem Tryz.cof6 : Tryz.prog.cellsOf 6 = 1 := by kernel_rfl
@[go_sem] theorem Tryz.und6 : Tryz.prog.underlying 6 = some (.int .u8) := by kernel_rfl
@[go_sem] theorem Tryz.kind7 : kindT Tryz.prog 7 = some (some 4) := by kernel_rfl
@[go_sem] theorem Tryz.fld7_0 : fldT Tryz.prog 7 0 = some 0 := by kernel_rfl
@[go_sem] theorem Tryz.fl17_0 : fld1T Tryz.prog 7 0 = some 0 := by kernel_rfl
@[go_sem] theorem Tryz.pl7_0 : plT Tryz.prog 7 0 = some 0 := by kernel_rfl
@[go_sem] theorem Tryz.fld7_1 : fldT Tryz.prog 7 1 = some 1 := by kernel_rfl
@[go_sem] theorem Tryz.fl17_1 : fld1T Tryz.prog 7 1 = some 1 := by kernel_rfl
@[go_sem] theorem Tryz.pl7_1 : plT Tryz.prog 7 1 = some 1 := by kernel_rfl
@[go_sem] theorem Tryz.fld7_2 : fldT Tryz.prog 7 2 = some 2 := by kernel_rfl
@[go_sem] theorem Tryz.fl17_2 : fld1T Tryz.prog 7 2 = some 2 := by kernel_rfl
@[go_sem] theorem Tryz.pl7_2 : plT Tryz.prog 7 2 = some 2 := by kernel_rfl
@[go_sem] theorem Tryz.fld7_3 : fldT Tryz.prog 7 3 = some 3 := by kernel_rfl
@[go_sem] theorem Tryz.fl17_3 : fld1T Tryz.prog 7 3 = some 3 := by kernel_rfl
@[go_sem] theorem Tryz.pl7_3 : plT Tryz.prog 7 3 = some 3 := by kernel_rfl
@[go_sem] theorem Tryz.plk7 : plOk Tryz.prog 7 = true := by kernel_rfl
@[go_sem] theorem Tryz.info7 : infoT Tryz.prog 7 = some (4, 24, [.val (.int .i64 0), .val (.int .i64 0), .val (.bool false), .val (.int .u8 0)]) := by kernel_rfl
@[go_sem] theorem Tryz.cof7 : Tryz.prog.cellsOf 7 = 4 := by kernel_rfl
@[go_sem] theorem Tryz.kind8 : kindT Tryz.prog 8 = some (some 4) := by kernel_rfl
@[go_sem] theorem Tryz.fld8_0 : fldT Tryz.prog 8 0 = some 0 := by kernel_rfl
@[go_sem] theorem Tryz.fl18_0 : fld1T Tryz.prog 8 0 = some 0 := by kernel_rfl
@[go_sem] theorem Tryz.pl8_0 : plT Tryz.prog 8 0 = some 0 := by kernel_rfl
@[go_sem] theorem Tryz.fld8_1 : fldT Tryz.prog 8 1 = some 1 := by kernel_rfl
@[go_sem] theorem Tryz.fl18_1 : fld1T Tryz.prog 8 1 = some 1 := by kernel_rfl
@[go_sem] theorem Tryz.pl8_1 : plT Tryz.prog 8 1 = some 1 := by kernel_rfl
@[go_sem] theorem Tryz.fld8_2 : fldT Tryz.prog 8 2 = some 2 := by kernel_rfl
@[go_sem] theorem Tryz.fl18_2 : fld1T Tryz.prog 8 2 = some 2 := by kernel_rfl
@[go_sem] theorem Tryz.pl8_2 : plT Tryz.prog 8 2 = some 2 := by kernel_rfl
@[go_sem] theorem Tryz.fld8_3 : fldT Tryz.prog 8 3 = some 3 := by kernel_rfl
@[go_sem] theorem Tryz.fl18_3 : fld1T Tryz.prog 8 3 = some 3 := by kernel_rfl
@[go_sem] theorem Tryz.pl8_3 : plT Tryz.prog 8 3 = some 3 := by kernel_rfl
@[go_sem] theorem Tryz.plk8 : plOk Tryz.prog 8 = true := by kernel_rfl
@[go_sem] theorem Tryz.info8 : infoT Tryz.prog 8 = some (4, 24, [.val (.int .i64 0), .val (.int .i64 0), .val (.bool false), .val (.int .u8 0)]) := by kernel_rfl
@[go_sem] theorem Tryz.cof8 : Tryz.prog.cellsOf 8 = 4 := by kernel_rfl
@[go_sem] theorem Tryz.kind9 : kindT Tryz.prog 9 = some none := by kernel_rfl
@[go_sem] theorem Tryz.elem9 : elemT Tryz.prog 9 = none := by kernel_rfl
@[go_sem] theorem Tryz.info9 : infoT Tryz.prog 9 = some (1, 16, [.val (.string ⟨#[]⟩)]) := by kernel_rfl
@[go_sem] theorem Tryz.cof9 : Tryz.prog.cellsOf 9 = 1 := by kernel_rfl
theorem Tryz.und9 : Tryz.prog.underlying 9 = some (.string) := by kernel_rfl
@[go_sem] theorem Tryz.kind10 : kindT Tryz.prog 10 = some none := by kernel_rfl
@[go_sem] theorem Tryz.elem10 : elemT Tryz.prog 10 = none := by kernel_rfl
@[go_sem] theorem Tryz.info10 : infoT Tryz.prog 10 = some (1, 16, [.val (.string ⟨#[]⟩)]) := by kernel_rfl
@[go_sem] theorem Tryz.cof10 : Tryz.prog.cellsOf 10 = 1 := by kernel_rfl
theorem Tryz.und10 : Tryz.prog.underlying 10 = some (.string) := by kernel_rfl
@[go_sem] theorem Tryz.kind11 : kindT Tryz.prog 11 = some none := by kernel_rfl
@[go_sem] theorem Tryz.elem11 : elemT Tryz.prog 11 = none := by kernel_rfl
@[go_sem] theorem Tryz.info11 : infoT Tryz.prog 11 = some (1, 16, [.val (.string ⟨#[]⟩)]) := by kernel_rfl
@[go_sem] theorem Tryz.cof11 : Tryz.prog.cellsOf 11 = 1 := by kernel_rfl
theorem Tryz.und11 : Tryz.prog.underlying 11 = some (.string) := by kernel_rfl
@[go_sem] theorem Tryz.kind12 : kindT Tryz.prog 12 = some none := by kernel_rfl
@[go_sem] theorem Tryz.info12 : infoT Tryz.prog 12 = some (1, 8, [.val (.int .u64 0)]) := by kernel_rfl
@[go_sem] theorem Tryz.cof12 : Tryz.prog.cellsOf 12 = 1 := by kernel_rfl
@[go_sem] theorem Tryz.und12 : Tryz.prog.underlying 12 = some (.int .u64) := by kernel_rfl
@[go_sem] theorem Tryz.kind13 : kindT Tryz.prog 13 = some (some 2) := by kernel_rfl
@[go_sem] theorem Tryz.fld13_0 : fldT Tryz.prog 13 0 = some 0 := by kernel_rfl
@[go_sem] theorem Tryz.fl113_0 : fld1T Tryz.prog 13 0 = some 0 := by kernel_rfl
@[go_sem] theorem Tryz.pl13_0 : plT Tryz.prog 13 0 = some 0 := by kernel_rfl
@[go_sem] theorem Tryz.fld13_1 : fldT Tryz.prog 13 1 = some 1 := by kernel_rfl
@[go_sem] theorem Tryz.fl113_1 : fld1T Tryz.prog 13 1 = some 1 := by kernel_rfl
@[go_sem] theorem Tryz.pl13_1 : plT Tryz.prog 13 1 = some 1 := by kernel_rfl
@[go_sem] theorem Tryz.plk13 : plOk Tryz.prog 13 = true := by kernel_rfl
@[go_sem] theorem Tryz.info13 : infoT Tryz.prog 13 = some (2, 24, [.val (.string ⟨#[]⟩), .val (.int .u64 0)]) := by kernel_rfl
@[go_sem] theorem Tryz.cof13 : Tryz.prog.cellsOf 13 = 2 := by kernel_rfl
@[go_sem] theorem Tryz.kind14 : kindT Tryz.prog 14 = some (some 2) := by kernel_rfl
@[go_sem] theorem Tryz.fld14_0 : fldT Tryz.prog 14 0 = some 0 := by kernel_rfl
@[go_sem] theorem Tryz.fl114_0 : fld1T Tryz.prog 14 0 = some 0 := by kernel_rfl
@[go_sem] theorem Tryz.pl14_0 : plT Tryz.prog 14 0 = some 0 := by kernel_rfl
@[go_sem] theorem Tryz.fld14_1 : fldT Tryz.prog 14 1 = some 1 := by kernel_rfl
@[go_sem] theorem Tryz.fl114_1 : fld1T Tryz.prog 14 1 = some 1 := by kernel_rfl
@[go_sem] theorem Tryz.pl14_1 : plT Tryz.prog 14 1 = some 1 := by kernel_rfl
@[go_sem] theorem Tryz.plk14 : plOk Tryz.prog 14 = true := by kernel_rfl
@[go_sem] theorem Tryz.info14 : infoT Tryz.prog 14 = some (2, 24, [.val (.string ⟨#[]⟩), .val (.int .u64 0)]) := by kernel_rfl
@[go_sem] theorem Tryz.cof14 : Tryz.prog.cellsOf 14 = 2 := by kernel_rfl
@[go_sem] theorem Tryz.kind15 : kindT Tryz.prog 15 = some none := by kernel_rfl
@[go_sem] theorem Tryz.elem15 : elemT Tryz.prog 15 = none := by kernel_rfl
@[go_sem] theorem Tryz.cof15 : Tryz.prog.cellsOf 15 = 1 := by kernel_rfl
@[go_sem] theorem Tryz.kind16 : kindT Tryz.prog 16 = some none := by kernel_rfl
@[go_sem] theorem Tryz.elem16 : elemT Tryz.prog 16 = none := by kernel_rfl
@[go_sem] theorem Tryz.cof16 : Tryz.prog.cellsOf 16 = 1 := by kernel_rfl
@[go_sem] theorem Tryz.kind17 : kindT Tryz.prog 17 = some none := by kernel_rfl
@[go_sem] theorem Tryz.elem17 : elemT Tryz.prog 17 = none := by kernel_rfl
@[go_sem] theorem Tryz.cof17 : Tryz.prog.cellsOf 17 = 1 := by kernel_rfl
@[go_sem] theorem Tryz.kind18 : kindT Tryz.prog 18 = some (some 1) := by kernel_rfl
@[go_sem] theorem Tryz.fld18_0 : fldT Tryz.prog 18 0 = some 0 := by kernel_rfl
@[go_sem] theorem Tryz.fl118_0 : fld1T Tryz.prog 18 0 = some 0 := by kernel_rfl
@[go_sem] theorem Tryz.pl18_0 : plT Tryz.prog 18 0 = some 0 := by kernel_rfl
@[go_sem] theorem Tryz.plk18 : plOk Tryz.prog 18 = true := by kernel_rfl
@[go_sem] theorem Tryz.cof18 : Tryz.prog.cellsOf 18 = 1 := by kernel_rfl
@[go_sem] theorem Tryz.kind19 : kindT Tryz.prog 19 = some (some 1) := by kernel_rfl
@[go_sem] theorem Tryz.fld19_0 : fldT Tryz.prog 19 0 = some 0 := by kernel_rfl
@[go_sem] theorem Tryz.fl119_0 : fld1T Tryz.prog 19 0 = some 0 := by kernel_rfl
@[go_sem] theorem Tryz.pl19_0 : plT Tryz.prog 19 0 = some 0 := by kernel_rfl
@[go_sem] theorem Tryz.plk19 : plOk Tryz.prog 19 = true := by kernel_rfl
@[go_sem] theorem Tryz.cof19 : Tryz.prog.cellsOf 19 = 1 := by kernel_rfl
@[go_sem] theorem Tryz.kind21 : kindT Tryz.prog 21 = some none := by kernel_rfl
@[go_sem] theorem Tryz.info21 : infoT Tryz.prog 21 = some (1, 4, [.val (.int .i32 0)]) := by kernel_rfl
@[go_sem] theorem Tryz.cof21 : Tryz.prog.cellsOf 21 = 1 := by kernel_rfl
@[go_sem] theorem Tryz.und21 : Tryz.prog.underlying 21 = some (.int .i32) := by kernel_rfl
@[go_sem] theorem Tryz.kind22 : kindT Tryz.prog 22 = some none := by kernel_rfl
@[go_sem] theorem Tryz.elem22 : elemT Tryz.prog 22 = some 5 := by kernel_rfl
@[go_sem] theorem Tryz.info22 : infoT Tryz.prog 22 = some (1, 24, [.val (.slice none 0 0)]) := by kernel_rfl
@[go_sem] theorem Tryz.cof22 : Tryz.prog.cellsOf 22 = 1 := by kernel_rfl
theorem Tryz.und22 : Tryz.prog.underlying 22 = some (.slice 5) := by kernel_rfl
@[go_sem] theorem Tryz.kind23 : kindT Tryz.prog 23 = some none := by kernel_rfl
@[go_sem] theorem Tryz.cof23 : Tryz.prog.cellsOf 23 = 1 := by kernel_rfl
@[go_sem] theorem Tryz.kind24 : kindT Tryz.prog 24 = some none := by kernel_rfl
@[go_sem] theorem Tryz.elem24 : elemT Tryz.prog 24 = some 25 := by kernel_rfl
@[go_sem] theorem Tryz.info24 : infoT Tryz.prog 24 = some (1, 24, [.val (.slice none 0 0)]) := by kernel_rfl
@[go_sem] theorem Tryz.cof24 : Tryz.prog.cellsOf 24 = 1 := by kernel_rfl
theorem Tryz.und24 : Tryz.prog.underlying 24 = some (.slice 25) := by kernel_rfl
@[go_sem] theorem Tryz.kind25 : kindT Tryz.prog 25 = some none := by kernel_rfl
@[go_sem] theorem Tryz.elem25 : elemT Tryz.prog 25 = some 2 := by kernel_rfl
@[go_sem] theorem Tryz.info25 : infoT Tryz.prog 25 = some (1, 24, [.val (.slice none 0 0)]) := by kernel_rfl
@[go_sem] theorem Tryz.cof25 : Tryz.prog.cellsOf 25 = 1 := by kernel_rfl
theorem Tryz.und25 : Tryz.prog.underlying 25 = some (.slice 2) := by kernel_rfl
@[go_sem] theorem Tryz.kind26 : kindT Tryz.prog 26 = some (some 2) := by kernel_rfl
@[go_sem] theorem Tryz.fld26_0 : fldT Tryz.prog 26 0 = some 0 := by kernel_rfl
@[go_sem] theorem Tryz.fl126_0 : fld1T Tryz.prog 26 0 = some 0 := by kernel_rfl
@[go_sem] theorem Tryz.pl26_0 : plT Tryz.prog 26 0 = some 0 := by kernel_rfl
@[go_sem] theorem Tryz.fld26_1 : fldT Tryz.prog 26 1 = some 1 := by kernel_rfl
@[go_sem] theorem Tryz.fl126_1 : fld1T Tryz.prog 26 1 = some 1 := by kernel_rfl
@[go_sem] theorem Tryz.pl26_1 : plT Tryz.prog 26 1 = some 1 := by kernel_rfl
@[go_sem] theorem Tryz.plk26 : plOk Tryz.prog 26 = true := by kernel_rfl
@[go_sem] theorem Tryz.info26 : infoT Tryz.prog 26 = some (2, 48, [.val (.slice none 0 0), .val (.slice none 0 0)]) := by kernel_rfl
@[go_sem] theorem Tryz.cof26 : Tryz.prog.cellsOf 26 = 2 := by kernel_rfl
@[go_sem] theorem Tryz.kind27 : kindT Tryz.prog 27 = some (some 2) := by kernel_rfl
@[go_sem] theorem Tryz.fld27_0 : fldT Tryz.prog 27 0 = some 0 := by kernel_rfl
@[go_sem] theorem Tryz.fl127_0 : fld1T Tryz.prog 27 0 = some 0 := by kernel_rfl
@[go_sem] theorem Tryz.pl27_0 : plT Tryz.prog 27 0 = some 0 := by kernel_rfl
@[go_sem] theorem Tryz.fld27_1 : fldT Tryz.prog 27 1 = some 1 := by kernel_rfl
@[go_sem] theorem Tryz.fl127_1 : fld1T Tryz.prog 27 1 = some 1 := by kernel_rfl
@[go_sem] theorem Tryz.pl27_1 : plT Tryz.prog 27 1 = some 1 := by kernel_rfl
@[go_sem] theorem Tryz.plk27 : plOk Tryz.prog 27 = true := by kernel_rfl
@[go_sem] theorem Tryz.info27 : infoT Tryz.prog 27 = some (2, 48, [.val (.slice none 0 0), .val (.slice none 0 0)]) := by kernel_rfl
@[go_sem] theorem Tryz.cof27 : Tryz.prog.cellsOf 27 = 2 := by kernel_rfl
@[go_sem] theorem Tryz.kind28 : kindT Tryz.prog 28 = some none := by kernel_rfl
@[go_sem] theorem Tryz.elem28 : elemT Tryz.prog 28 = some 93 := by kernel_rfl
@[go_sem] theorem Tryz.info28 : infoT Tryz.prog 28 = some (1, 24, [.val (.slice none 0 0)]) := by kernel_rfl
@[go_sem] theorem Tryz.cof28 : Tryz.prog.cellsOf 28 = 1 := by kernel_rfl
theorem Tryz.und28 : Tryz.prog.underlying 28 = some (.slice 93) := by kernel_rfl
@[go_sem] theorem Tryz.kind29 : kindT Tryz.prog 29 = some (some 2) := by kernel_rfl
@[go_sem] theorem Tryz.fld29_0 : fldT Tryz.prog 29 0 = some 0 := by kernel_rfl
@[go_sem] theorem Tryz.fl129_0 : fld1T Tryz.prog 29 0 = some 0 := by kernel_rfl
@[go_sem] theorem Tryz.pl29_0 : plT Tryz.prog 29 0 = some 0 := by kernel_rfl
@[go_sem] theorem Tryz.fld29_1 : fldT Tryz.prog 29 1 = some 1 := by kernel_rfl
@[go_sem] theorem Tryz.fl129_1 : fld1T Tryz.prog 29 1 = some 1 := by kernel_rfl
@[go_sem] theorem Tryz.pl29_1 : plT Tryz.prog 29 1 = some 1 := by kernel_rfl
@[go_sem] theorem Tryz.plk29 : plOk Tryz.prog 29 = true := by kernel_rfl
@[go_sem] theorem Tryz.info29 : infoT Tryz.prog 29 = some (2, 32, [.val (.int .i64 0), .val (.slice none 0 0)]) := by kernel_rfl
@[go_sem] theorem Tryz.cof29 : Tryz.prog.cellsOf 29 = 2 := by kernel_rfl
@[go_sem] theorem Tryz.kind30 : kindT Tryz.prog 30 = some (some 2) := by kernel_rfl
@[go_sem] theorem Tryz.fld30_0 : fldT Tryz.prog 30 0 = some 0 := by kernel_rfl
@[go_sem] theorem Tryz.fl130_0 : fld1T Tryz.prog 30 0 = some 0 := by kernel_rfl
@[go_sem] theorem Tryz.pl30_0 : plT Tryz.prog 30 0 = some 0 := by kernel_rfl
@[go_sem] theorem Tryz.fld30_1 : fldT Tryz.prog 30 1 = some 1 := by kernel_rfl
@[go_sem] theorem Tryz.fl130_1 : fld1T Tryz.prog 30 1 = some 1 := by kernel_rfl
@[go_sem] theorem Tryz.pl30_1 : plT Tryz.prog 30 1 = some 1 := by kernel_rfl
@[go_sem] theorem Tryz.plk30 : plOk Tryz.prog 30 = true := by kernel_rfl
@[go_sem] theorem Tryz.info30 : infoT Tryz.prog 30 = some (2, 32, [.val (.int .i64 0), .val (.slice none 0 0)]) := by kernel_rfl
@[go_sem] theorem Tryz.cof30 : Tryz.prog.cellsOf 30 = 2 := by kernel_rfl
@[go_sem] theorem Tryz.kind32 : kindT Tryz.prog 32 = some none := by kernel_rfl
@[go_sem] theorem Tryz.cof32 : Tryz.prog.cellsOf 32 = 1 := by kernel_rfl
@[go_sem] theorem Tryz.kind33 : kindT Tryz.prog 33 = some none := by kernel_rfl
@[go_sem] theorem Tryz.elem33 : elemT Tryz.prog 33 = some 24 := by kernel_rfl
@[go_sem] theorem Tryz.info33 : infoT Tryz.prog 33 = some (1, 24, [.val (.slice none 0 0)]) := by kernel_rfl
@[go_sem] theorem Tryz.cof33 : Tryz.prog.cellsOf 33 = 1 := by kernel_rfl
theorem Tryz.und33 : Tryz.prog.underlying 33 = some (.slice 24) := by kernel_rfl
@[go_sem] theorem Tryz.kind35 : kindT Tryz.prog 35 = some none := by kernel_rfl
@[go_sem] theorem Tryz.cof35 : Tryz.prog.cellsOf 35 = 1 := by kernel_rfl
@[go_sem] theorem Tryz.kind36 : kindT Tryz.prog 36 = some none := by kernel_rfl
@[go_sem] theorem Tryz.cof36 : Tryz.prog.cellsOf 36 = 1 := by kernel_rfl
@[go_sem] theorem Tryz.kind38 : kindT Tryz.prog 38 = some none := by kernel_rfl
@[go_sem] theorem Tryz.cof38 : Tryz.prog.cellsOf 38 = 1 := by kernel_rfl
@[go_sem] theorem Tryz.kind40 : kindT Tryz.prog 40 = some none := by kernel_rfl
@[go_sem] theorem Tryz.cof40 : Tryz.prog.cellsOf 40 = 1 := by kernel_rfl
@[go_sem] theorem Tryz.kind41 : kindT Tryz.prog 41 = some none := by kernel_rfl
@[go_sem] theorem Tryz.cof41 : Tryz.prog.cellsOf 41 = 1 := by kernel_rfl
@[go_sem] theorem Tryz.kind42 : kindT Tryz.prog 42 = some none := by kernel_rfl
@[go_sem] theorem Tryz.cof42 : Tryz.prog.cellsOf 42 = 1 := by kernel_rfl
@[go_sem] theorem Tryz.kind43 : kindT Tryz.prog 43 = some none := by kernel_rfl
@[go_sem] theorem Tryz.cof43 : Tryz.prog.cellsOf 43 = 1 := by kernel_rfl
@[go_sem] theorem Tryz.kind44 : kindT Tryz.prog 44 = some (some 2) := by kernel_rfl
@[go_sem] theorem Tryz.fld44_0 : fldT Tryz.prog 44 0 = some 0 := by kernel_rfl
@[go_sem] theorem Tryz.fl144_0 : fld1T Tryz.prog 44 0 = some 0 := by kernel_rfl
@[go_sem] theorem Tryz.pl44_0 : plT Tryz.prog 44 0 = some 0 := by kernel_rfl
@[go_sem] theorem Tryz.fld44_1 : fldT Tryz.prog 44 1 = some 1 := by kernel_rfl
@[go_sem] theorem Tryz.fl144_1 : fld1T Tryz.prog 44 1 = some 1 := by kernel_rfl
@[go_sem] theorem Tryz.pl44_1 : plT Tryz.prog 44 1 = some 1 := by kernel_rfl
@[go_sem] theorem Tryz.plk44 : plOk Tryz.prog 44 = true := by kernel_rfl
@[go_sem] theorem Tryz.info44 : infoT Tryz.prog 44 = some (2, 48, [.val (.slice none 0 0), .val (.slice none 0 0)]) := by kernel_rfl
@[go_sem] theorem Tryz.cof44 : Tryz.prog.cellsOf 44 = 2 := by kernel_rfl
@[go_sem] theorem Tryz.kind45 : kindT Tryz.prog 45 = some none := by kernel_rfl
@[go_sem] theorem Tryz.elem45 : elemT Tryz.prog 45 = some 103 := by kernel_rfl
@[go_sem] theorem Tryz.info45 : infoT Tryz.prog 45 = some (1, 24, [.val (.slice none 0 0)]) := by kernel_rfl
@[go_sem] theorem Tryz.cof45 : Tryz.prog.cellsOf 45 = 1 := by kernel_rfl
theorem Tryz.und45 : Tryz.prog.underlying 45 = some (.slice 103) := by kernel_rfl
@[go_sem] theorem Tryz.kind46 : kindT Tryz.prog 46 = some (some 2) := by kernel_rfl
@[go_sem] theorem Tryz.fld46_0 : fldT Tryz.prog 46 0 = some 0 := by kernel_rfl
@[go_sem] theorem Tryz.fl146_0 : fld1T Tryz.prog 46 0 = some 0 := by kernel_rfl
@[go_sem] theorem Tryz.pl46_0 : plT Tryz.prog 46 0 = some 0 := by kernel_rfl
@[go_sem] theorem Tryz.fld46_1 : fldT Tryz.prog 46 1 = some 1 := by kernel_rfl
@[go_sem] theorem Tryz.fl146_1 : fld1T Tryz.prog 46 1 = some 1 := by kernel_rfl
@[go_sem] theorem Tryz.pl46_1 : plT Tryz.prog 46 1 = some 1 := by kernel_rfl
@[go_sem] theorem Tryz.plk46 : plOk Tryz.prog 46 = true := by kernel_rfl
@[go_sem] theorem Tryz.info46 : infoT Tryz.prog 46 = some (2, 32, [.val (.int .i64 0), .val (.slice none 0 0)]) := by kernel_rfl
@[go_sem] theorem Tryz.cof46 : Tryz.prog.cellsOf 46 = 2 := by kernel_rfl
@[go_sem] theorem Tryz.kind47 : kindT Tryz.prog 47 = some (some 2) := by kernel_rfl
@[go_sem] theorem Tryz.fld47_0 : fldT Tryz.prog 47 0 = some 0 := by kernel_rfl
@[go_sem] theorem Tryz.fl147_0 : fld1T Tryz.prog 47 0 = some 0 := by kernel_rfl
@[go_sem] theorem Tryz.pl47_0 : plT Tryz.prog 47 0 = some 0 := by kernel_rfl
@[go_sem] theorem Tryz.fld47_1 : fldT Tryz.prog 47 1 = some 1 := by kernel_rfl
@[go_sem] theorem Tryz.fl147_1 : fld1T Tryz.prog 47 1 = some 1 := by kernel_rfl
@[go_sem] theorem Tryz.pl47_1 : plT Tryz.prog 47 1 = some 1 := by kernel_rfl
@[go_sem] theorem Tryz.plk47 : plOk Tryz.prog 47 = true := by kernel_rfl
@[go_sem] theorem Tryz.info47 : infoT Tryz.prog 47 = some (2, 32, [.val (.int .i64 0), .val (.slice none 0 0)]) := by kernel_rfl
@[go_sem] theorem Tryz.cof47 : Tryz.prog.cellsOf 47 = 2 := by kernel_rfl
@[go_sem] theorem Tryz.kind48 : kindT Tryz.prog 48 = some none := by kernel_rfl
@[go_sem] theorem Tryz.cof48 : Tryz.prog.cellsOf 48 = 1 := by kernel_rfl
@[go_sem] theorem Tryz.kind49 : kindT Tryz.prog 49 = some none := by kernel_rfl
@[go_sem] theorem Tryz.cof49 : Tryz.prog.cellsOf 49 = 1 := by kernel_rfl
@[go_sem] theorem Tryz.kind51 : kindT Tryz.prog 51 = some none := by kernel_rfl
@[go_sem] theorem Tryz.cof51 : Tryz.prog.cellsOf 51 = 1 := by kernel_rfl
@[go_sem] theorem Tryz.kind52 : kindT Tryz.prog 52 = some none := by kernel_rfl
@[go_sem] theorem Tryz.cof52 : Tryz.prog.cellsOf 52 = 1 := by kernel_rfl
@[go_sem] theorem Tryz.kind53 : kindT Tryz.prog 53 = some none := by kernel_rfl
@[go_sem] theorem Tryz.cof53 : Tryz.prog.cellsOf 53 = 1 := by kernel_rfl
@[go_sem] theorem Tryz.kind54 : kindT Tryz.prog 54 = some none := by kernel_rfl
@[go_sem] theorem Tryz.cof54 : Tryz.prog.cellsOf 54 = 1 := by kernel_rfl
@[go_sem] theorem Tryz.kind55 : kindT Tryz.prog 55 = some none := by kernel_rfl
@[go_sem] theorem Tryz.cof55 : Tryz.prog.cellsOf 55 = 1 := by kernel_rfl
@[go_sem] theorem Tryz.kind56 : kindT Tryz.prog 56 = some none := by kernel_rfl
@[go_sem] theorem Tryz.cof56 : Tryz.prog.cellsOf 56 = 1 := by kernel_rfl
@[go_sem] theorem Tryz.kind57 : kindT Tryz.prog 57 = some none := by kernel_rfl
@[go_sem] theorem Tryz.cof57 : Tryz.prog.cellsOf 57 = 1 := by kernel_rfl
@[go_sem] theorem Tryz.kind58 : kindT Tryz.prog 58 = some none := by kernel_rfl
@[go_sem] theorem Tryz.cof58 : Tryz.prog.cellsOf 58 = 1 := by kernel_rfl
@[go_sem] theorem Tryz.kind59 : kindT Tryz.prog 59 = some none := by kernel_rfl
@[go_sem] theorem Tryz.cof59 : Tryz.prog.cellsOf 59 = 1 := by kernel_rfl
@[go_sem] theorem Tryz.kind60 : kindT Tryz.prog 60 = some none := by kernel_rfl
@[go_sem] theorem Tryz.cof60 : Tryz.prog.cellsOf 60 = 1 := by kernel_rfl
@[go_sem] theorem Tryz.kind61 : kindT Tryz.prog 61 = some none := by kernel_rfl
@[go_sem] theorem Tryz.cof61 : Tryz.prog.cellsOf 61 = 1 := by kernel_rfl
@[go_sem] theorem Tryz.kind62 : kindT Tryz.prog 62 = some none := by kernel_rfl
@[go_sem] theorem Tryz.elem62 : elemT Tryz.prog 62 = none := by kernel_rfl
@[go_sem] theorem Tryz.cof62 : Tryz.prog.cellsOf 62 = 1 := by kernel_rfl
@[go_sem] theorem Tryz.kind64 : kindT Tryz.prog 64 = some none := by kernel_rfl
@[go_sem] theorem Tryz.cof64 : Tryz.prog.cellsOf 64 = 1 := by kernel_rfl
@[go_sem] theorem Tryz.kind65 : kindT Tryz.prog 65 = some none := by kernel_rfl
@[go_sem] theorem Tryz.cof65 : Tryz.prog.cellsOf 65 = 1 := by kernel_rfl
@[go_sem] theorem Tryz.kind66 : kindT Tryz.prog 66 = some none := by kernel_rfl
@[go_sem] theorem Tryz.cof66 : Tryz.prog.cellsOf 66 = 1 := by kernel_rfl
@[go_sem] theorem Tryz.kind67 : kindT Tryz.prog 67 = some none := by kernel_rfl
@[go_sem] theorem Tryz.elem67 : elemT Tryz.prog 67 = some 95 := by kernel_rfl
@[go_sem] theorem Tryz.info67 : infoT Tryz.prog 67 = some (1, 24, [.val (.slice none 0 0)]) := by kernel_rfl
@[go_sem] theorem Tryz.cof67 : Tryz.prog.cellsOf 67 = 1 := by kernel_rfl
theorem Tryz.und67 : Tryz.prog.underlying 67 = some (.slice 95) := by kernel_rfl
@[go_sem] theorem Tryz.kind68 : kindT Tryz.prog 68 = some none := by kernel_rfl
@[go_sem] theorem Tryz.cof68 : Tryz.prog.cellsOf 68 = 1 := by kernel_rfl
@[go_sem] theorem Tryz.kind69 : kindT Tryz.prog 69 = some none := by kernel_rfl
@[go_sem] theorem Tryz.cof69 : Tryz.prog.cellsOf 69 = 1 := by kernel_rfl
@[go_sem] theorem Tryz.kind70 : kindT Tryz.prog 70 = some none := by kernel_rfl
@[go_sem] theorem Tryz.cof70 : Tryz.prog.cellsOf 70 = 1 := by kernel_rfl
@[go_sem] theorem Tryz.kind71 : kindT Tryz.prog 71 = some none := by kernel_rfl
@[go_sem] theorem Tryz.cof71 : Tryz.prog.cellsOf 71 = 1 := by kernel_rfl
@[go_sem] theorem Tryz.kind72 : kindT Tryz.prog 72 = some none := by kernel_rfl
@[go_sem] theorem Tryz.cof72 : Tryz.prog.cellsOf 72 = 1 := by kernel_rfl
@[go_sem] theorem Tryz.kind73 : kindT Tryz.prog 73 = some none := by kernel_rfl
@[go_sem] theorem Tryz.cof73 : Tryz.prog.cellsOf 73 = 1 := by kernel_rfl
@[go_sem] theorem Tryz.kind74 : kindT Tryz.prog 74 = some none := by kernel_rfl
@[go_sem] theorem Tryz.cof74 : Tryz.prog.cellsOf 74 = 1 := by kernel_rfl
@[go_sem] theorem Tryz.kind75 : kindT Tryz.prog 75 = some none := by kernel_rfl
@[go_sem] theorem Tryz.cof75 : Tryz.prog.cellsOf 75 = 1 := by kernel_rfl
@[go_sem] theorem Tryz.kind76 : kindT Tryz.prog 76 = some none := by kernel_rfl
@[go_sem] theorem Tryz.cof76 : Tryz.prog.cellsOf 76 = 1 := by kernel_rfl
@[go_sem] theorem Tryz.kind77 : kindT Tryz.prog 77 = some none := by kernel_rfl
@[go_sem] theorem Tryz.cof77 : Tryz.prog.cellsOf 77 = 1 := by kernel_rfl
@[go_sem] theorem Tryz.kind78 : kindT Tryz.prog 78 = some none := by kernel_rfl
@[go_sem] theorem Tryz.cof78 : Tryz.prog.cellsOf 78 = 1 := by kernel_rfl
@[go_sem] theorem Tryz.kind79 : kindT Tryz.prog 79 = some none := by kernel_rfl
@[go_sem] theorem Tryz.cof79 : Tryz.prog.cellsOf 79 = 1 := by kernel_rfl
@[go_sem] theorem Tryz.kind80 : kindT Tryz.prog 80 = some none := by kernel_rfl
@[go_sem] theorem Tryz.cof80 : Tryz.prog.cellsOf 80 = 1 := by kernel_rfl
@[go_sem] theorem Tryz.kind81 : kindT Tryz.prog 81 = some none := by kernel_rfl
@[go_sem] theorem Tryz.cof81 : Tryz.prog.cellsOf 81 = 1 := by kernel_rfl
@[go_sem] theorem Tryz.kind82 : kindT Tryz.prog 82 = some none := by kernel_rfl
@[go_sem] theorem Tryz.cof82 : Tryz.prog.cellsOf 82 = 1 := by kernel_rfl
@[go_sem] theorem Tryz.kind83 : kindT Tryz.prog 83 = some none := by kernel_rfl
@[go_sem] theorem Tryz.cof83 : Tryz.prog.cellsOf 83 = 1 := by kernel_rfl
@[go_sem] theorem Tryz.kind84 : kindT Tryz.prog 84 = some none := by kernel_rfl
@[go_sem] theorem Tryz.cof84 : Tryz.prog.cellsOf 84 = 1 := by kernel_rfl
@[go_sem] theorem Tryz.kind85 : kindT Tryz.prog 85 = some none := by kernel_rfl
@[go_sem] theorem Tryz.cof85 : Tryz.prog.cellsOf 85 = 1 := by kernel_rfl
@[go_sem] theorem Tryz.kind86 : kindT Tryz.prog 86 = some none := by kernel_rfl
@[go_sem] theorem Tryz.cof86 : Tryz.prog.cellsOf 86 = 1 := by kernel_rfl
@[go_sem] theorem Tryz.kind87 : kindT Tryz.prog 87 = some none := by kernel_rfl
@[go_sem] theorem Tryz.cof87 : Tryz.prog.cellsOf 87 = 1 := by kernel_rfl
@[go_sem] theorem Tryz.kind88 : kindT Tryz.prog 88 = some none := by kernel_rfl
@[go_sem] theorem Tryz.cof88 : Tryz.prog.cellsOf 88 = 1 := by kernel_rfl
@[go_sem] theorem Tryz.kind89 : kindT Tryz.prog 89 = some none := by kernel_rfl
@[go_sem] theorem Tryz.cof89 : Tryz.prog.cellsOf 89 = 1 := by kernel_rfl
@[go_sem] theorem Tryz.kind90 : kindT Tryz.prog 90 = some none := by kernel_rfl
@[go_sem] theorem Tryz.cof90 : Tryz.prog.cellsOf 90 = 1 := by kernel_rfl
@[go_sem] theorem Tryz.kind91 : kindT Tryz.prog 91 = some none := by kernel_rfl
@[go_sem] theorem Tryz.cof91 : Tryz.prog.cellsOf 91 = 1 := by kernel_rfl
@[go_sem] theorem Tryz.kind92 : kindT Tryz.prog 92 = some none := by kernel_rfl
@[go_sem] theorem Tryz.cof92 : Tryz.prog.cellsOf 92 = 1 := by kernel_rfl
@[go_sem] theorem Tryz.kind93 : kindT Tryz.prog 93 = some none := by kernel_rfl
@[go_sem] theorem Tryz.elem93 : elemT Tryz.prog 93 = some 110 := by kernel_rfl
@[go_sem] theorem Tryz.info93 : infoT Tryz.prog 93 = some (1, 24, [.val (.slice none 0 0)]) := by kernel_rfl
@[go_sem] theorem Tryz.cof93 : Tryz.prog.cellsOf 93 = 1 := by kernel_rfl
theorem Tryz.und93 : Tryz.prog.underlying 93 = some (.slice 110) := by kernel_rfl
@[go_sem] theorem Tryz.kind94 : kindT Tryz.prog 94 = some none := by kernel_rfl
@[go_sem] theorem Tryz.elem94 : elemT Tryz.prog 94 = none := by kernel_rfl
@[go_sem] theorem Tryz.map94 : mapT Tryz.prog 94 = true := by kernel_rfl
@[go_sem] theorem Tryz.ismap94 : isMapT Tryz.prog 94 = true := by kernel_rfl
@[go_sem] theorem Tryz.info94 : infoT Tryz.prog 94 = some (1, 8, [.val (.map none)]) := by kernel_rfl
@[go_sem] theorem Tryz.cof94 : Tryz.prog.cellsOf 94 = 1 := by kernel_rfl
@[go_sem] theorem Tryz.kind95 : kindT Tryz.prog 95 = some none := by kernel_rfl
@[go_sem] theorem Tryz.elem95 : elemT Tryz.prog 95 = none := by kernel_rfl
@[go_sem] theorem Tryz.map95 : mapT Tryz.prog 95 = true := by kernel_rfl
@[go_sem] theorem Tryz.ismap95 : isMapT Tryz.prog 95 = true := by kernel_rfl
@[go_sem] theorem Tryz.info95 : infoT Tryz.prog 95 = some (1, 8, [.val (.map none)]) := by kernel_rfl
@[go_sem] theorem Tryz.cof95 : Tryz.prog.cellsOf 95 = 1 := by kernel_rfl
@[go_sem] theorem Tryz.kind96 : kindT Tryz.prog 96 = some none := by kernel_rfl
@[go_sem] theorem Tryz.cof96 : Tryz.prog.cellsOf 96 = 1 := by kernel_rfl
@[go_sem] theorem Tryz.kind97 : kindT Tryz.prog 97 = some none := by kernel_rfl
@[go_sem] theorem Tryz.cof97 : Tryz.prog.cellsOf 97 = 1 := by kernel_rfl
@[go_sem] theorem Tryz.kind98 : kindT Tryz.prog 98 = some none := by kernel_rfl
@[go_sem] theorem Tryz.cof98 : Tryz.prog.cellsOf 98 = 1 := by kernel_rfl
@[go_sem] theorem Tryz.kind99 : kindT Tryz.prog 99 = some none := by kernel_rfl
@[go_sem] theorem Tryz.cof99 : Tryz.prog.cellsOf 99 = 1 := by kernel_rfl
@[go_sem] theorem Tryz.kind100 : kindT Tryz.prog 100 = some none := by kernel_rfl
@[go_sem] theorem Tryz.cof100 : Tryz.prog.cellsOf 100 = 1 := by kernel_rfl
@[go_sem] theorem Tryz.kind101 : kindT Tryz.prog 101 = some none := by kernel_rfl
@[go_sem] theorem Tryz.cof101 : Tryz.prog.cellsOf 101 = 1 := by kernel_rfl
@[go_sem] theorem Tryz.kind102 : kindT Tryz.prog 102 = some none := by kernel_rfl
@[go_sem] theorem Tryz.cof102 : Tryz.prog.cellsOf 102 = 1 := by kernel_rfl
@[go_sem] theorem Tryz.kind103 : kindT Tryz.prog 103 = some none := by kernel_rfl
@[go_sem] theorem Tryz.elem103 : elemT Tryz.prog 103 = some 131 := by kernel_rfl
@[go_sem] theorem Tryz.info103 : infoT Tryz.prog 103 = some (1, 24, [.val (.slice none 0 0)]) := by kernel_rfl
@[go_sem] theorem Tryz.cof103 : Tryz.prog.cellsOf 103 = 1 := by kernel_rfl
theorem Tryz.und103 : Tryz.prog.underlying 103 = some (.slice 131) := by kernel_rfl
@[go_sem] theorem Tryz.kind104 : kindT Tryz.prog 104 = some none := by kernel_rfl
@[go_sem] theorem Tryz.cof104 : Tryz.prog.cellsOf 104 = 1 := by kernel_rfl
@[go_sem] theorem Tryz.kind105 : kindT Tryz.prog 105 = some none := by kernel_rfl
@[go_sem] theorem Tryz.cof105 : Tryz.prog.cellsOf 105 = 1 := by kernel_rfl
@[go_sem] theorem Tryz.kind106 : kindT Tryz.prog 106 = some none := by kernel_rfl
@[go_sem] theorem Tryz.cof106 : Tryz.prog.cellsOf 106 = 1 := by kernel_rfl
@[go_sem] theorem Tryz.kind107 : kindT Tryz.prog 107 = some none := by kernel_rfl
@[go_sem] theorem Tryz.cof107 : Tryz.prog.cellsOf 107 = 1 := by kernel_rfl
@[go_sem] theorem Tryz.kind108 : kindT Tryz.prog 108 = some none := by kernel_rfl
@[go_sem] theorem Tryz.cof108 : Tryz.prog.cellsOf 108 = 1 := by kernel_rfl
@[go_sem] theorem Tryz.kind109 : kindT Tryz.prog 109 = some (some 2) := by kernel_rfl
@[go_sem] theorem Tryz.fld109_0 : fldT Tryz.prog 109 0 = some 0 := by kernel_rfl
@[go_sem] theorem Tryz.fl1109_0 : fld1T Tryz.prog 109 0 = some 0 := by kernel_rfl
@[go_sem] theorem Tryz.pl109_0 : plT Tryz.prog 109 0 = some 0 := by kernel_rfl
@[go_sem] theorem Tryz.fld109_1 : fldT Tryz.prog 109 1 = some 1 := by kernel_rfl
@[go_sem] theorem Tryz.fl1109_1 : fld1T Tryz.prog 109 1 = some 1 := by kernel_rfl
@[go_sem] theorem Tryz.pl109_1 : plT Tryz.prog 109 1 = some 1 := by kernel_rfl
@[go_sem] theorem Tryz.plk109 : plOk Tryz.prog 109 = true := by kernel_rfl
@[go_sem] theorem Tryz.info109 : infoT Tryz.prog 109 = some (2, 32, [.val (.int .i64 0), .val (.slice none 0 0)]) := by kernel_rfl
@[go_sem] theorem Tryz.cof109 : Tryz.prog.cellsOf 109 = 2 := by kernel_rfl
@[go_sem] theorem Tryz.kind110 : kindT Tryz.prog 110 = some (some 2) := by kernel_rfl
@[go_sem] theorem Tryz.fld110_0 : fldT Tryz.prog 110 0 = some 0 := by kernel_rfl
@[go_sem] theorem Tryz.fl1110_0 : fld1T Tryz.prog 110 0 = some 0 := by kernel_rfl
@[go_sem] theorem Tryz.pl110_0 : plT Tryz.prog 110 0 = some 0 := by kernel_rfl
@[go_sem] theorem Tryz.fld110_1 : fldT Tryz.prog 110 1 = some 1 := by kernel_rfl
@[go_sem] theorem Tryz.fl1110_1 : fld1T Tryz.prog 110 1 = some 1 := by kernel_rfl
@[go_sem] theorem Tryz.pl110_1 : plT Tryz.prog 110 1 = some 1 := by kernel_rfl
@[go_sem] theorem Tryz.plk110 : plOk Tryz.prog 110 = true := by kernel_rfl
@[go_sem] theorem Tryz.info110 : infoT Tryz.prog 110 = some (2, 32, [.val (.int .i64 0), .val (.slice none 0 0)]) := by kernel_rfl
@[go_sem] theorem Tryz.cof110 : Tryz.prog.cellsOf 110 = 2 := by kernel_rfl
@[go_sem] theorem Tryz.kind111 : kindT Tryz.prog 111 = some none := by kernel_rfl
@[go_sem] theorem Tryz.cof111 : Tryz.prog.cellsOf 111 = 1 := by kernel_rfl
@[go_sem] theorem Tryz.kind112 : kindT Tryz.prog 112 = some none := by kernel_rfl
@[go_sem] theorem Tryz.cof112 : Tryz.prog.cellsOf 112 = 1 := by kernel_rfl
@[go_sem] theorem Tryz.kind113 : kindT Tryz.prog 113 = some none := by kernel_rfl
@[go_sem] theorem Tryz.cof113 : Tryz.prog.cellsOf 113 = 1 := by kernel_rfl
@[go_sem] theorem Tryz.kind114 : kindT Tryz.prog 114 = some none := by kernel_rfl
@[go_sem] theorem Tryz.cof114 : Tryz.prog.cellsOf 114 = 1 := by kernel_rfl
@[go_sem] theorem Tryz.kind115 : kindT Tryz.prog 115 = some none := by kernel_rfl
@[go_sem] theorem Tryz.info115 : infoT Tryz.prog 115 = some (1, 8, [.val (.int .u64 0)]) := by kernel_rfl
@[go_sem] theorem Tryz.cof115 : Tryz.prog.cellsOf 115 = 1 := by kernel_rfl
@[go_sem] theorem Tryz.und115 : Tryz.prog.underlying 115 = some (.int .u64) := by kernel_rfl
@[go_sem] theorem Tryz.kind116 : kindT Tryz.prog 116 = some (some 3) := by kernel_rfl
@[go_sem] theorem Tryz.fld116_0 : fldT Tryz.prog 116 0 = some 0 := by kernel_rfl
@[go_sem] theorem Tryz.fl1116_0 : fld1T Tryz.prog 116 0 = some 0 := by kernel_rfl
@[go_sem] theorem Tryz.pl116_0 : plT Tryz.prog 116 0 = some 0 := by kernel_rfl
@[go_sem] theorem Tryz.fld116_1 : fldT Tryz.prog 116 1 = some 1 := by kernel_rfl
@[go_sem] theorem Tryz.fl1116_1 : fld1T Tryz.prog 116 1 = some 1 := by kernel_rfl
@[go_sem] theorem Tryz.pl116_1 : plT Tryz.prog 116 1 = some 1 := by kernel_rfl
@[go_sem] theorem Tryz.fld116_2 : fldT Tryz.prog 116 2 = some 2 := by kernel_rfl
@[go_sem] theorem Tryz.fl1116_2 : fld1T Tryz.prog 116 2 = some 2 := by kernel_rfl
@[go_sem] theorem Tryz.pl116_2 : plT Tryz.prog 116 2 = some 2 := by kernel_rfl
@[go_sem] theorem Tryz.plk116 : plOk Tryz.prog 116 = true := by kernel_rfl
@[go_sem] theorem Tryz.info116 : infoT Tryz.prog 116 = some (3, 40, [.val (.slice none 0 0), .val (.int .i64 0), .val (.int .u64 0)]) := by kernel_rfl
@[go_sem] theorem Tryz.cof116 : Tryz.prog.cellsOf 116 = 3 := by kernel_rfl
@[go_sem] theorem Tryz.kind117 : kindT Tryz.prog 117 = some (some 3) := by kernel_rfl
@[go_sem] theorem Tryz.fld117_0 : fldT Tryz.prog 117 0 = some 0 := by kernel_rfl
@[go_sem] theorem Tryz.fl1117_0 : fld1T Tryz.prog 117 0 = some 0 := by kernel_rfl
@[go_sem] theorem Tryz.pl117_0 : plT Tryz.prog 117 0 = some 0 := by kernel_rfl
@[go_sem] theorem Tryz.fld117_1 : fldT Tryz.prog 117 1 = some 1 := by kernel_rfl
@[go_sem] theorem Tryz.fl1117_1 : fld1T Tryz.prog 117 1 = some 1 := by kernel_rfl
@[go_sem] theorem Tryz.pl117_1 : plT Tryz.prog 117 1 = some 1 := by kernel_rfl
@[go_sem] theorem Tryz.fld117_2 : fldT Tryz.prog 117 2 = some 2 := by kernel_rfl
@[go_sem] theorem Tryz.fl1117_2 : fld1T Tryz.prog 117 2 = some 2 := by kernel_rfl
@[go_sem] theorem Tryz.pl117_2 : plT Tryz.prog 117 2 = some 2 := by kernel_rfl
@[go_sem] theorem Tryz.plk117 : plOk Tryz.prog 117 = true := by kernel_rfl
@[go_sem] theorem Tryz.info117 : infoT Tryz.prog 117 = some (3, 40, [.val (.slice none 0 0), .val (.int .i64 0), .val (.int .u64 0)]) := by kernel_rfl
@[go_sem] theorem Tryz.cof117 : Tryz.prog.cellsOf 117 = 3 := by kernel_rfl
@[go_sem] theorem Tryz.kind118 : kindT Tryz.prog 118 = some none := by kernel_rfl
@[go_sem] theorem Tryz.cof118 : Tryz.prog.cellsOf 118 = 1 := by kernel_rfl
@[go_sem] theorem Tryz.kind119 : kindT Tryz.prog 119 = some none := by kernel_rfl
@[go_sem] theorem Tryz.cof119 : Tryz.prog.cellsOf 119 = 1 := by kernel_rfl
@[go_sem] theorem Tryz.kind120 : kindT Tryz.prog 120 = some none := by kernel_rfl
@[go_sem] theorem Tryz.cof120 : Tryz.prog.cellsOf 120 = 1 := by kernel_rfl
@[go_sem] theorem Tryz.kind121 : kindT Tryz.prog 121 = some none := by kernel_rfl
@[go_sem] theorem Tryz.cof121 : Tryz.prog.cellsOf 121 = 1 := by kernel_rfl
@[go_sem] theorem Tryz.kind122 : kindT Tryz.prog 122 = some none := by kernel_rfl
@[go_sem] theorem Tryz.cof122 : Tryz.prog.cellsOf 122 = 1 := by kernel_rfl
@[go_sem] theorem Tryz.kind123 : kindT Tryz.prog 123 = some none := by kernel_rfl
@[go_sem] theorem Tryz.cof123 : Tryz.prog.cellsOf 123 = 1 := by kernel_rfl
@[go_sem] theorem Tryz.kind124 : kindT Tryz.prog 124 = some none := by kernel_rfl
@[go_sem] theorem Tryz.cof124 : Tryz.prog.cellsOf 124 = 1 := by kernel_rfl
@[go_sem] theorem Tryz.kind125 : kindT Tryz.prog 125 = some none := by kernel_rfl
@[go_sem] theorem Tryz.cof125 : Tryz.prog.cellsOf 125 = 1 := by kernel_rfl
@[go_sem] theorem Tryz.kind126 : kindT Tryz.prog 126 = some none := by kernel_rfl
@[go_sem] theorem Tryz.cof126 : Tryz.prog.cellsOf 126 = 1 := by kernel_rfl
@[go_sem] theorem Tryz.kind127 : kindT Tryz.prog 127 = some (some 3) := by kernel_rfl
@[go_sem] theorem Tryz.elem127 : elemT Tryz.prog 127 = none := by kernel_rfl
@[go_sem] theorem Tryz.arr127 : arrT Tryz.prog 127 = some (3, 1, true) := by kernel_rfl
@[go_sem] theorem Tryz.pl127_0 : plT Tryz.prog 127 0 = some 0 := by kernel_rfl
@[go_sem] theorem Tryz.pl127_1 : plT Tryz.prog 127 1 = some 1 := by kernel_rfl
@[go_sem] theorem Tryz.pl127_2 : plT Tryz.prog 127 2 = some 2 := by kernel_rfl
@[go_sem] theorem Tryz.plk127 : plOk Tryz.prog 127 = true := by kernel_rfl
@[go_sem] theorem Tryz.info127 : infoT Tryz.prog 127 = some (3, 24, [.val (.int .i64 0), .val (.int .i64 0), .val (.int .i64 0)]) := by kernel_rfl
@[go_sem] theorem Tryz.cof127 : Tryz.prog.cellsOf 127 = 3 := by kernel_rfl
@[go_sem] theorem Tryz.kind128 : kindT Tryz.prog 128 = some (some 3) := by kernel_rfl
@[go_sem] theorem Tryz.elem128 : elemT Tryz.prog 128 = none := by kernel_rfl
@[go_sem] theorem Tryz.arr128 : arrT Tryz.prog 128 = some (3, 1, true) := by kernel_rfl
@[go_sem] theorem Tryz.pl128_0 : plT Tryz.prog 128 0 = some 0 := by kernel_rfl
@[go_sem] theorem Tryz.pl128_1 : plT Tryz.prog 128 1 = some 1 := by kernel_rfl
@[go_sem] theorem Tryz.pl128_2 : plT Tryz.prog 128 2 = some 2 := by kernel_rfl
@[go_sem] theorem Tryz.plk128 : plOk Tryz.prog 128 = true := by kernel_rfl
@[go_sem] theorem Tryz.info128 : infoT Tryz.prog 128 = some (3, 24, [.val (.int .i64 0), .val (.int .i64 0), .val (.int .i64 0)]) := by kernel_rfl
@[go_sem] theorem Tryz.cof128 : Tryz.prog.cellsOf 128 = 3 := by kernel_rfl
@[go_sem] theorem Tryz.kind129 : kindT Tryz.prog 129 = some none := by kernel_rfl
@[go_sem] theorem Tryz.cof129 : Tryz.prog.cellsOf 129 = 1 := by kernel_rfl
@[go_sem] theorem Tryz.kind130 : kindT Tryz.prog 130 = some none := by kernel_rfl
@[go_sem] theorem Tryz.cof130 : Tryz.prog.cellsOf 130 = 1 := by kernel_rfl
@[go_sem] theorem Tryz.kind131 : kindT Tryz.prog 131 = some (some 2) := by kernel_rfl
@[go_sem] theorem Tryz.fld131_0 : fldT Tryz.prog 131 0 = some 0 := by kernel_rfl
@[go_sem] theorem Tryz.fl1131_0 : fld1T Tryz.prog 131 0 = some 0 := by kernel_rfl
@[go_sem] theorem Tryz.pl131_0 : plT Tryz.prog 131 0 = some 0 := by kernel_rfl
@[go_sem] theorem Tryz.fld131_1 : fldT Tryz.prog 131 1 = some 1 := by kernel_rfl
@[go_sem] theorem Tryz.fl1131_1 : fld1T Tryz.prog 131 1 = some 1 := by kernel_rfl
@[go_sem] theorem Tryz.pl131_1 : plT Tryz.prog 131 1 = some 1 := by kernel_rfl
@[go_sem] theorem Tryz.plk131 : plOk Tryz.prog 131 = true := by kernel_rfl
@[go_sem] theorem Tryz.info131 : infoT Tryz.prog 131 = some (2, 32, [.val (.int .i64 0), .val (.slice none 0 0)]) := by kernel_rfl
@[go_sem] theorem Tryz.cof131 : Tryz.prog.cellsOf 131 = 2 := by kernel_rfl
@[go_sem] theorem Tryz.kind132 : kindT Tryz.prog 132 = some none := by kernel_rfl
@[go_sem] theorem Tryz.cof132 : Tryz.prog.cellsOf 132 = 1 := by kernel_rfl
@[go_sem] theorem Tryz.kind133 : kindT Tryz.prog 133 = some none := by kernel_rfl
@[go_sem] theorem Tryz.cof133 : Tryz.prog.cellsOf 133 = 1 := by kernel_rfl
@[go_sem] theorem Tryz.kind134 : kindT Tryz.prog 134 = some none := by kernel_rfl
@[go_sem] theorem Tryz.cof134 : Tryz.prog.cellsOf 134 = 1 := by kernel_rfl
@[go_sem] theorem Tryz.kind135 : kindT Tryz.prog 135 = some none := by kernel_rfl
@[go_sem] theorem Tryz.cof135 : Tryz.prog.cellsOf 135 = 1 := by kernel_rfl
@[go_sem] theorem Tryz.kind136 : kindT Tryz.prog 136 = some none := by kernel_rfl
@[go_sem] theorem Tryz.cof136 : Tryz.prog.cellsOf 136 = 1 := by kernel_rfl
@[go_sem] theorem Tryz.kind137 : kindT Tryz.prog 137 = some none := by kernel_rfl
@[go_sem] theorem Tryz.cof137 : Tryz.prog.cellsOf 137 = 1 := by kernel_rfl
@[go_sem] theorem Tryz.kind138 : kindT Tryz.prog 138 = some none := by kernel_rfl
@[go_sem] theorem Tryz.elem138 : elemT Tryz.prog 138 = some 9 := by kernel_rfl
@[go_sem] theorem Tryz.info138 : infoT Tryz.prog 138 = some (1, 24, [.val (.slice none 0 0)]) := by kernel_rfl
@[go_sem] theorem Tryz.cof138 : Tryz.prog.cellsOf 138 = 1 := by kernel_rfl
theorem Tryz.und138 : Tryz.prog.underlying 138 = some (.slice 9) := by kernel_rfl
@[go_sem] theorem Tryz.kind139 : kindT Tryz.prog 139 = some none := by kernel_rfl
@[go_sem] theorem Tryz.cof139 : Tryz.prog.cellsOf 139 = 1 := by kernel_rfl
@[go_sem] theorem Tryz.kind140 : kindT Tryz.prog 140 = some none := by kernel_rfl
@[go_sem] theorem Tryz.cof140 : Tryz.prog.cellsOf 140 = 1 := by kernel_rfl
@[go_sem] theorem Tryz.kind141 : kindT Tryz.prog 141 = some none := by kernel_rfl
@[go_sem] theorem Tryz.info141 : infoT Tryz.prog 141 = some (1, 8, [.val (.int .u64 0)]) := by kernel_rfl
@[go_sem] theorem Tryz.cof141 : Tryz.prog.cellsOf 141 = 1 := by kernel_rfl
@[go_sem] theorem Tryz.und141 : Tryz.prog.underlying 141 = some (.int .u64) := by kernel_rfl
@[go_sem] theorem Tryz.kind142 : kindT Tryz.prog 142 = some none := by kernel_rfl
@[go_sem] theorem Tryz.cof142 : Tryz.prog.cellsOf 142 = 1 := by kernel_rfl
@[go_sem] theorem Tryz.kind143 : kindT Tryz.prog 143 = some none := by kernel_rfl
@[go_sem] theorem Tryz.cof143 : Tryz.prog.cellsOf 143 = 1 := by kernel_rfl
@[go_sem] theorem Tryz.kind144 : kindT Tryz.prog 144 = some none := by kernel_rfl
@[go_sem] theorem Tryz.cof144 : Tryz.prog.cellsOf 144 = 1 := by kernel_rfl
@[go_sem] theorem Tryz.kind145 : kindT Tryz.prog 145 = some none := by kernel_rfl
@[go_sem] theorem Tryz.cof145 : Tryz.prog.cellsOf 145 = 1 := by kernel_rfl
@[go_sem] theorem Tryz.kind146 : kindT Tryz.prog 146 = some none := by kernel_rfl
@[go_sem] theorem Tryz.cof146 : Tryz.prog.cellsOf 146 = 1 := by kernel_rfl
@[go_sem] theorem Tryz.kind147 : kindT Tryz.prog 147 = some none := by kernel_rfl
@[go_sem] theorem Tryz.cof147 : Tryz.prog.cellsOf 147 = 1 := by kernel_rfl
@[go_sem] theorem Tryz.kind148 : kindT Tryz.prog 148 = some none := by kernel_rfl
@[go_sem] theorem Tryz.cof148 : Tryz.prog.cellsOf 148 = 1 := by kernel_rfl
@[go_sem] theorem Tryz.kind149 : kindT Tryz.prog 149 = some none := by kernel_rfl
@[go_sem] theorem Tryz.cof149 : Tryz.prog.cellsOf 149 = 1 := by kernel_rfl
@[go_sem] theorem Tryz.kind150 : kindT Tryz.prog 150 = some none := by kernel_rfl
@[go_sem] theorem Tryz.cof150 : Tryz.prog.cellsOf 150 = 1 := by kernel_rfl
@[go_sem] theorem Tryz.kind151 : kindT Tryz.prog 151 = some none := by kernel_rfl
@[go_sem] theorem Tryz.cof151 : Tryz.prog.cellsOf 151 = 1 := by kernel_rfl
@[go_sem] theorem Tryz.kind152 : kindT Tryz.prog 152 = some (some 4) := by kernel_rfl
@[go_sem] theorem Tryz.fld152_0 : fldT Tryz.prog 152 0 = some 0 := by kernel_rfl
@[go_sem] theorem Tryz.fl1152_0 : fld1T Tryz.prog 152 0 = some 0 := by kernel_rfl
@[go_sem] theorem Tryz.pl152_0 : plT Tryz.prog 152 0 = some 0 := by kernel_rfl
@[go_sem] theorem Tryz.fld152_1 : fldT Tryz.prog 152 1 = some 1 := by kernel_rfl
@[go_sem] theorem Tryz.fl1152_1 : fld1T Tryz.prog 152 1 = some 1 := by kernel_rfl
@[go_sem] theorem Tryz.pl152_1 : plT Tryz.prog 152 1 = some 1 := by kernel_rfl
@[go_sem] theorem Tryz.fld152_2 : fldT Tryz.prog 152 2 = some 2 := by kernel_rfl
@[go_sem] theorem Tryz.fl1152_2 : fld1T Tryz.prog 152 2 = some 2 := by kernel_rfl
@[go_sem] theorem Tryz.pl152_2 : plT Tryz.prog 152 2 = some 2 := by kernel_rfl
@[go_sem] theorem Tryz.fld152_3 : fldT Tryz.prog 152 3 = some 3 := by kernel_rfl
@[go_sem] theorem Tryz.fl1152_3 : fld1T Tryz.prog 152 3 = some 3 := by kernel_rfl
@[go_sem] theorem Tryz.pl152_3 : plT Tryz.prog 152 3 = some 3 := by kernel_rfl
@[go_sem] theorem Tryz.plk152 : plOk Tryz.prog 152 = true := by kernel_rfl
@[go_sem] theorem Tryz.cof152 : Tryz.prog.cellsOf 152 = 4 := by kernel_rfl
@[go_sem] theorem Tryz.kind153 : kindT Tryz.prog 153 = some (some 4) := by kernel_rfl
@[go_sem] theorem Tryz.fld153_0 : fldT Tryz.prog 153 0 = some 0 := by kernel_rfl
@[go_sem] theorem Tryz.fl1153_0 : fld1T Tryz.prog 153 0 = some 0 := by kernel_rfl
@[go_sem] theorem Tryz.pl153_0 : plT Tryz.prog 153 0 = some 0 := by kernel_rfl
@[go_sem] theorem Tryz.fld153_1 : fldT Tryz.prog 153 1 = some 1 := by kernel_rfl
@[go_sem] theorem Tryz.fl1153_1 : fld1T Tryz.prog 153 1 = some 1 := by kernel_rfl
@[go_sem] theorem Tryz.pl153_1 : plT Tryz.prog 153 1 = some 1 := by kernel_rfl
@[go_sem] theorem Tryz.fld153_2 : fldT Tryz.prog 153 2 = some 2 := by kernel_rfl
@[go_sem] theorem Tryz.fl1153_2 : fld1T Tryz.prog 153 2 = some 2 := by kernel_rfl
@[go_sem] theorem Tryz.pl153_2 : plT Tryz.prog 153 2 = some 2 := by kernel_rfl
@[go_sem] theorem Tryz.fld153_3 : fldT Tryz.prog 153 3 = some 3 := by kernel_rfl
@[go_sem] theorem Tryz.fl1153_3 : fld1T Tryz.prog 153 3 = some 3 := by kernel_rfl
@[go_sem] theorem Tryz.pl153_3 : plT Tryz.prog 153 3 = some 3 := by kernel_rfl
@[go_sem] theorem Tryz.plk153 : plOk Tryz.prog 153 = true := by kernel_rfl
@[go_sem] theorem Tryz.cof153 : Tryz.prog.cellsOf 153 = 4 := by kernel_rfl
@[go_sem] theorem Tryz.kind154 : kindT Tryz.prog 154 = some (some 0) := by kernel_rfl
@[go_sem] theorem Tryz.elem154 : elemT Tryz.prog 154 = none := by kernel_rfl
@[go_sem] theorem Tryz.arr154 : arrT Tryz.prog 154 = some (0, 1, true) := by kernel_rfl
@[go_sem] theorem Tryz.plk154 : plOk Tryz.prog 154 = true := by kernel_rfl
@[go_sem] theorem Tryz.info154 : infoT Tryz.prog 154 = some (0, 0, []) := by kernel_rfl
@[go_sem] theorem Tryz.cof154 : Tryz.prog.cellsOf 154 = 0 := by kernel_rfl
@[go_sem] theorem Tryz.kind155 : kindT Tryz.prog 155 = some (some 0) := by kernel_rfl
@[go_sem] theorem Tryz.plk155 : plOk Tryz.prog 155 = true := by kernel_rfl
@[go_sem] theorem Tryz.info155 : infoT Tryz.prog 155 = some (0, 0, []) := by kernel_rfl
@[go_sem] theorem Tryz.cof155 : Tryz.prog.cellsOf 155 = 0 := by kernel_rfl
@[go_sem] theorem Tryz.kind156 : kindT Tryz.prog 156 = some (some 0) := by kernel_rfl
@[go_sem] theorem Tryz.plk156 : plOk Tryz.prog 156 = true := by kernel_rfl
@[go_sem] theorem Tryz.info156 : infoT Tryz.prog 156 = some (0, 0, []) := by kernel_rfl
@[go_sem] theorem Tryz.cof156 : Tryz.prog.cellsOf 156 = 0 := by kernel_rfl
@[go_sem] theorem Tryz.kind157 : kindT Tryz.prog 157 = some none := by kernel_rfl
@[go_sem] theorem Tryz.cof157 : Tryz.prog.cellsOf 157 = 1 := by kernel_rfl
@[go_sem] theorem Tryz.kind158 : kindT Tryz.prog 158 = some none := by kernel_rfl
@[go_sem] theorem Tryz.info158 : infoT Tryz.prog 158 = some (1, 4, [.val (.int .u32 0)]) := by kernel_rfl
@[go_sem] theorem Tryz.cof158 : Tryz.prog.cellsOf 158 = 1 := by kernel_rfl
@[go_sem] theorem Tryz.und158 : Tryz.prog.underlying 158 = some (.int .u32) := by kernel_rfl
@[go_sem] theorem Tryz.kind159 : kindT Tryz.prog 159 = some none := by kernel_rfl
@[go_sem] theorem Tryz.info159 : infoT Tryz.prog 159 = some (1, 1, [.val (.int .u8 0)]) := by kernel_rfl
@[go_sem] theorem Tryz.cof159 : Tryz.prog.cellsOf 159 = 1 := by kernel_rfl
@[go_sem] theorem Tryz.und159 : Tryz.prog.underlying 159 = some (.int .u8) := by kernel_rfl
@[go_sem] theorem Tryz.kind160 : kindT Tryz.prog 160 = some none := by kernel_rfl
@[go_sem] theorem Tryz.info160 : infoT Tryz.prog 160 = some (1, 1, [.val (.int .u8 0)]) := by kernel_rfl
@[go_sem] theorem Tryz.cof160 : Tryz.prog.cellsOf 160 = 1 := by kernel_rfl
@[go_sem] theorem Tryz.und160 : Tryz.prog.underlying 160 = some (.int .u8) := by kernel_rfl
@[go_sem] theorem Tryz.kind161 : kindT Tryz.prog 161 = some none := by kernel_rfl
@[go_sem] theorem Tryz.cof161 : Tryz.prog.cellsOf 161 = 1 := by kernel_rfl
@[go_sem] theorem Tryz.kind162 : kindT Tryz.prog 162 = some none := by kernel_rfl
@[go_sem] theorem Tryz.elem162 : elemT Tryz.prog 162 = none := by kernel_rfl
@[go_sem] theorem Tryz.cof162 : Tryz.prog.cellsOf 162 = 1 := by kernel_rfl
@[go_sem] theorem Tryz.kind163 : kindT Tryz.prog 163 = some none := by kernel_rfl
@[go_sem] theorem Tryz.info163 : infoT Tryz.prog 163 = some (1, 4, [.val (.int .i32 0)]) := by kernel_rfl
@[go_sem] theorem Tryz.cof163 : Tryz.prog.cellsOf 163 = 1 := by kernel_rfl
@[go_sem] theorem Tryz.und163 : Tryz.prog.underlying 163 = some (.int .i32) := by kernel_rfl
@[go_sem] theorem Tryz.kind164 : kindT Tryz.prog 164 = some none := by kernel_rfl
@[go_sem] theorem Tryz.info164 : infoT Tryz.prog 164 = some (1, 4, [.val (.int .i32 0)]) := by kernel_rfl
@[go_sem] theorem Tryz.cof164 : Tryz.prog.cellsOf 164 = 1 := by kernel_rfl
@[go_sem] theorem Tryz.und164 : Tryz.prog.underlying 164 = some (.int .i32) := by kernel_rfl
@[go_sem] theorem Tryz.kind165 : kindT Tryz.prog 165 = some (some 11) := by kernel_rfl
@[go_sem] theorem Tryz.fld165_0 : fldT Tryz.prog 165 0 = some 0 := by kernel_rfl
@[go_sem] theorem Tryz.fl1165_0 : fld1T Tryz.prog 165 0 = some 0 := by kernel_rfl
@[go_sem] theorem Tryz.pl165_0 : plT Tryz.prog 165 0 = some 0 := by kernel_rfl
@[go_sem] theorem Tryz.fld165_1 : fldT Tryz.prog 165 1 = some 1 := by kernel_rfl
@[go_sem] theorem Tryz.fl1165_1 : fld1T Tryz.prog 165 1 = some 1 := by kernel_rfl
@[go_sem] theorem Tryz.pl165_1 : plT Tryz.prog 165 1 = some 1 := by kernel_rfl
@[go_sem] theorem Tryz.fld165_2 : fldT Tryz.prog 165 2 = some 2 := by kernel_rfl
@[go_sem] theorem Tryz.fl1165_2 : fld1T Tryz.prog 165 2 = some 2 := by kernel_rfl
@[go_sem] theorem Tryz.pl165_2 : plT Tryz.prog 165 2 = some 2 := by kernel_rfl
@[go_sem] theorem Tryz.fld165_3 : fldT Tryz.prog 165 3 = some 3 := by kernel_rfl
@[go_sem] theorem Tryz.fl1165_3 : fld1T Tryz.prog 165 3 = some 3 := by kernel_rfl
@[go_sem] theorem Tryz.pl165_3 : plT Tryz.prog 165 3 = some 3 := by kernel_rfl
@[go_sem] theorem Tryz.fld165_4 : fldT Tryz.prog 165 4 = some 4 := by kernel_rfl
@[go_sem] theorem Tryz.fl1165_4 : fld1T Tryz.prog 165 4 = some 4 := by kernel_rfl
@[go_sem] theorem Tryz.pl165_4 : plT Tryz.prog 165 4 = some 4 := by kernel_rfl
@[go_sem] theorem Tryz.fld165_5 : fldT Tryz.prog 165 5 = some 5 := by kernel_rfl
@[go_sem] theorem Tryz.fl1165_5 : fld1T Tryz.prog 165 5 = some 5 := by kernel_rfl
@[go_sem] theorem Tryz.pl165_5 : plT Tryz.prog 165 5 = some 5 := by kernel_rfl
@[go_sem] theorem Tryz.fld165_6 : fldT Tryz.prog 165 6 = some 6 := by kernel_rfl
@[go_sem] theorem Tryz.fl1165_6 : fld1T Tryz.prog 165 6 = some 6 := by kernel_rfl
@[go_sem] theorem Tryz.pl165_6 : plT Tryz.prog 165 6 = some 6 := by kernel_rfl
@[go_sem] theorem Tryz.fld165_7 : fldT Tryz.prog 165 7 = some 7 := by kernel_rfl
@[go_sem] theorem Tryz.fl1165_7 : fld1T Tryz.prog 165 7 = some 7 := by kernel_rfl
@[go_sem] theorem Tryz.pl165_7 : plT Tryz.prog 165 7 = some 7 := by kernel_rfl
@[go_sem] theorem Tryz.fld165_8 : fldT Tryz.prog 165 8 = some 8 := by kernel_rfl
@[go_sem] theorem Tryz.fl1165_8 : fld1T Tryz.prog 165 8 = some 8 := by kernel_rfl
@[go_sem] theorem Tryz.pl165_8 : plT Tryz.prog 165 8 = some 8 := by kernel_rfl
@[go_sem] theorem Tryz.fld165_9 : fldT Tryz.prog 165 9 = some 9 := by kernel_rfl
@[go_sem] theorem Tryz.fl1165_9 : fld1T Tryz.prog 165 9 = some 9 := by kernel_rfl
@[go_sem] theorem Tryz.pl165_9 : plT Tryz.prog 165 9 = some 9 := by kernel_rfl
@[go_sem] theorem Tryz.fld165_10 : fldT Tryz.prog 165 10 = some 10 := by kernel_rfl
@[go_sem] theorem Tryz.fl1165_10 : fld1T Tryz.prog 165 10 = some 10 := by kernel_rfl
@[go_sem] theorem Tryz.pl165_10 : plT Tryz.prog 165 10 = some 10 := by kernel_rfl
@[go_sem] theorem Tryz.plk165 : plOk Tryz.prog 165 = true := by kernel_rfl
@[go_sem] theorem Tryz.cof165 : Tryz.prog.cellsOf 165 = 11 := by kernel_rfl
@[go_sem] theorem Tryz.kind166 : kindT Tryz.prog 166 = some (some 11) := by kernel_rfl
@[go_sem] theorem Tryz.fld166_0 : fldT Tryz.prog 166 0 = some 0 := by kernel_rfl
@[go_sem] theorem Tryz.fl1166_0 : fld1T Tryz.prog 166 0 = some 0 := by kernel_rfl
@[go_sem] theorem Tryz.pl166_0 : plT Tryz.prog 166 0 = some 0 := by kernel_rfl
@[go_sem] theorem Tryz.fld166_1 : fldT Tryz.prog 166 1 = some 1 := by kernel_rfl
@[go_sem] theorem Tryz.fl1166_1 : fld1T Tryz.prog 166 1 = some 1 := by kernel_rfl
@[go_sem] theorem Tryz.pl166_1 : plT Tryz.prog 166 1 = some 1 := by kernel_rfl
@[go_sem] theorem Tryz.fld166_2 : fldT Tryz.prog 166 2 = some 2 := by kernel_rfl
@[go_sem] theorem Tryz.fl1166_2 : fld1T Tryz.prog 166 2 = some 2 := by kernel_rfl
@[go_sem] theorem Tryz.pl166_2 : plT Tryz.prog 166 2 = some 2 := by kernel_rfl
@[go_sem] theorem Tryz.fld166_3 : fldT Tryz.prog 166 3 = some 3 := by kernel_rfl
@[go_sem] theorem Tryz.fl1166_3 : fld1T Tryz.prog 166 3 = some 3 := by kernel_rfl
@[go_sem] theorem Tryz.pl166_3 : plT Tryz.prog 166 3 = some 3 := by kernel_rfl
@[go_sem] theorem Tryz.fld166_4 : fldT Tryz.prog 166 4 = some 4 := by kernel_rfl
@[go_sem] theorem Tryz.fl1166_4 : fld1T Tryz.prog 166 4 = some 4 := by kernel_rfl
@[go_sem] theorem Tryz.pl166_4 : plT Tryz.prog 166 4 = some 4 := by kernel_rfl
@[go_sem] theorem Tryz.fld166_5 : fldT Tryz.prog 166 5 = some 5 := by kernel_rfl
@[go_sem] theorem Tryz.fl1166_5 : fld1T Tryz.prog 166 5 = some 5 := by kernel_rfl
@[go_sem] theorem Tryz.pl166_5 : plT Tryz.prog 166 5 = some 5 := by kernel_rfl
@[go_sem] theorem Tryz.fld166_6 : fldT Tryz.prog 166 6 = some 6 := by kernel_rfl
@[go_sem] theorem Tryz.fl1166_6 : fld1T Tryz.prog 166 6 = some 6 := by kernel_rfl
@[go_sem] theorem Tryz.pl166_6 : plT Tryz.prog 166 6 = some 6 := by kernel_rfl
@[go_sem] theorem Tryz.fld166_7 : fldT Tryz.prog 166 7 = some 7 := by kernel_rfl
@[go_sem] theorem Tryz.fl1166_7 : fld1T Tryz.prog 166 7 = some 7 := by kernel_rfl
@[go_sem] theorem Tryz.pl166_7 : plT Tryz.prog 166 7 = some 7 := by kernel_rfl
@[go_sem] theorem Tryz.fld166_8 : fldT Tryz.prog 166 8 = some 8 := by kernel_rfl
@[go_sem] theorem Tryz.fl1166_8 : fld1T Tryz.prog 166 8 = some 8 := by kernel_rfl
@[go_sem] theorem Tryz.pl166_8 : plT Tryz.prog 166 8 = some 8 := by kernel_rfl
@[go_sem] theorem Tryz.fld166_9 : fldT Tryz.prog 166 9 = some 9 := by kernel_rfl
@[go_sem] theorem Tryz.fl1166_9 : fld1T Tryz.prog 166 9 = some 9 := by kernel_rfl
@[go_sem] theorem Tryz.pl166_9 : plT Tryz.prog 166 9 = some 9 := by kernel_rfl
@[go_sem] theorem Tryz.fld166_10 : fldT Tryz.prog 166 10 = some 10 := by kernel_rfl
@[go_sem] theorem Tryz.fl1166_10 : fld1T Tryz.prog 166 10 = some 10 := by kernel_rfl
@[go_sem] theorem Tryz.pl166_10 : plT Tryz.prog 166 10 = some 10 := by kernel_rfl
@[go_sem] theorem Tryz.plk166 : plOk Tryz.prog 166 = true := by kernel_rfl
@[go_sem] theorem Tryz.cof166 : Tryz.prog.cellsOf 166 = 11 := by kernel_rfl
@[go_sem] theorem Tryz.kind167 : kindT Tryz.prog 167 = some none := by kernel_rfl
@[go_sem] theorem Tryz.cof167 : Tryz.prog.cellsOf 167 = 1 := by kernel_rfl
@[go_sem] theorem Tryz.kind168 : kindT Tryz.prog 168 = some none := by kernel_rfl
@[go_sem] theorem Tryz.cof168 : Tryz.prog.cellsOf 168 = 1 := by kernel_rfl
end Go.Proofs
