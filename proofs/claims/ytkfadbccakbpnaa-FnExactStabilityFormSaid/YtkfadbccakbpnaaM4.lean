/- Texts of the own layer and contracts, part 4: Tab. -/
import Derived.Test.YtkfadbccakbpnaaProg
import Derived.KernelRfl
import Derived.Test.YtkfadbccakbpnaaM3
/- What the loaded program says of its types. Written by a program (gentab.py). -/
namespace Go.Proofs
open Go.Abs
theorem Try.mixed : Try.prog.follows .mixedOrders = true := by kernel_rfl
@[go_sem] theorem Try.kind1 : kindT Try.prog 1 = some none := by kernel_rfl
@[go_sem] theorem Try.cof1 : Try.prog.cellsOf 1 = 1 := by kernel_rfl
@[go_sem] theorem Try.kind2 : kindT Try.prog 2 = some none := by kernel_rfl
@[go_sem] theorem Try.info2 : infoT Try.prog 2 = some (1, 8, [.val (.int .i64 0)]) := by kernel_rfl
@[go_sem] theorem Try.cof2 : Try.prog.cellsOf 2 = 1 := by kernel_rfl
@[go_sem] theorem Try.und2 : Try.prog.underlying 2 = some (.int .i64) := by kernel_rfl
@[go_sem] theorem Try.kind3 : kindT Try.prog 3 = some none := by kernel_rfl
@[go_sem] theorem Try.info3 : infoT Try.prog 3 = some (1, 8, [.val (.int .i64 0)]) := by kernel_rfl
@[go_sem] theorem Try.cof3 : Try.prog.cellsOf 3 = 1 := by kernel_rfl
@[go_sem] theorem Try.und3 : Try.prog.underlying 3 = some (.int .i64) := by kernel_rfl
@[go_sem] theorem Try.kind4 : kindT Try.prog 4 = some none := by kernel_rfl
@[go_sem] theorem Try.isbool4 : boolT Try.prog 4 = true := by kernel_rfl
@[go_sem] theorem Try.info4 : infoT Try.prog 4 = some (1, 1, [.val (.bool false)]) := by kernel_rfl
@[go_sem] theorem Try.cof4 : Try.prog.cellsOf 4 = 1 := by kernel_rfl
@[go_sem] theorem Try.kind5 : kindT Try.prog 5 = some none := by kernel_rfl
@[go_sem] theorem Try.info5 : infoT Try.prog 5 = some (1, 1, [.val (.int .u8 0)]) := by kernel_rfl
@[go_sem] theorem Try.cof5 : Try.prog.cellsOf 5 = 1 := by kernel_rfl
@[go_sem] theorem Try.und5 : Try.prog.underlying 5 = some (.int .u8) := by kernel_rfl
@[go_sem] theorem Try.kind6 : kindT Try.prog 6 = some none := by kernel_rfl
@[go_sem] theorem Try.info6 : infoT Try.prog 6 = some (1, 1, [.val (.int .u8 0)]) := by kernel_rfl
@[go_sem] theorem Try.cof6 : Try.prog.cellsOf 6 = 1 := by kernel_rfl
@[go_sem] theorem Try.und6 : Try.prog.underlying 6 = some (.int .u8) := by kernel_rfl
@[go_sem] theorem Try.kind7 : kindT Try.prog 7 = some (some 4) := by kernel_rfl
@[go_sem] theorem Try.fld7_0 : fldT Try.prog 7 0 = some 0 := by kernel_rfl
@[go_sem] theorem Try.fl17_0 : fld1T Try.prog 7 0 = some 0 := by kernel_rfl
@[go_sem] theorem Try.pl7_0 : plT Try.prog 7 0 = some 0 := by kernel_rfl
@[go_sem] theorem Try.fld7_1 : fldT Try.prog 7 1 = some 1 := by kernel_rfl
@[go_sem] theorem Try.fl17_1 : fld1T Try.prog 7 1 = some 1 := by kernel_rfl
@[go_sem] theorem Try.pl7_1 : plT Try.prog 7 1 = some 1 := by kernel_rfl
@[go_sem] theorem Try.fld7_2 : fldT Try.prog 7 2 = some 2 := by kernel_rfl
@[go_sem] theorem Try.fl17_2 : fld1T Try.prog 7 2 = some 2 := by kernel_rfl
@[go_sem] theorem Try.pl7_2 : plT Try.prog 7 2 = some 2 := by kernel_rfl
@[go_sem] theorem Try.fld7_3 : fldT Try.prog 7 3 = some 3 := by kernel_rfl
@[go_sem] theorem Try.fl17_3 : fld1T Try.prog 7 3 = some 3 := by kernel_rfl
@[go_sem] theorem Try.pl7_3 : plT Try.prog 7 3 = some 3 := by kernel_rfl
@[go_sem] theorem Try.plk7 : plOk Try.prog 7 = true := by kernel_rfl
@[go_sem] theorem Try.info7 : infoT Try.prog 7 = some (4, 24, [.val (.int .i64 0), .val (.int .i64 0), .val (.bool false), .val (.int .u8 0)]) := by kernel_rfl
@[go_sem] theorem Try.cof7 : Try.prog.cellsOf 7 = 4 := by kernel_rfl
@[go_sem] theorem Try.kind8 : kindT Try.prog 8 = some (some 4) := by kernel_rfl
@[go_sem] theorem Try.fld8_0 : fldT Try.prog 8 0 = some 0 := by kernel_rfl
@[go_sem] theorem Try.fl18_0 : fld1T Try.prog 8 0 = some 0 := by kernel_rfl
@[go_sem] theorem Try.pl8_0 : plT Try.prog 8 0 = some 0 := by kernel_rfl
@[go_sem] theorem Try.fld8_1 : fldT Try.prog 8 1 = some 1 := by kernel_rfl
@[go_sem] theorem Try.fl18_1 : fld1T Try.prog 8 1 = some 1 := by kernel_rfl
@[go_sem] theorem Try.pl8_1 : plT Try.prog 8 1 = some 1 := by kernel_rfl
@[go_sem] theorem Try.fld8_2 : fldT Try.prog 8 2 = some 2 := by kernel_rfl
@[go_sem] theorem Try.fl18_2 : fld1T Try.prog 8 2 = some 2 := by kernel_rfl
@[go_sem] theorem Try.pl8_2 : plT Try.prog 8 2 = some 2 := by kernel_rfl
@[go_sem] theorem Try.fld8_3 : fldT Try.prog 8 3 = some 3 := by kernel_rfl
@[go_sem] theorem Try.fl18_3 : fld1T Try.prog 8 3 = some 3 := by kernel_rfl
@[go_sem] theorem Try.pl8_3 : plT Try.prog 8 3 = some 3 := by kernel_rfl
@[go_sem] theorem Try.plk8 : plOk Try.prog 8 = true := by kernel_rfl
@[go_sem] theorem Try.info8 : infoT Try.prog 8 = some (4, 24, [.val (.int .i64 0), .val (.int .i64 0), .val (.bool false), .val (.int .u8 0)]) := by kernel_rfl
@[go_sem] theorem Try.cof8 : Try.prog.cellsOf 8 = 4 := by kernel_rfl
@[go_sem] theorem Try.kind9 : kindT Try.prog 9 = some none := by kernel_rfl
@[go_sem] theorem Try.elem9 : elemT Try.prog 9 = none := by kernel_rfl
@[go_sem] theorem Try.info9 : infoT Try.prog 9 = some (1, 16, [.val (.string ⟨#[]⟩)]) := by kernel_rfl
@[go_sem] theorem Try.cof9 : Try.prog.cellsOf 9 = 1 := by kernel_rfl
theorem Try.und9 : Try.prog.underlying 9 = some (.string) := by kernel_rfl
@[go_sem] theorem Try.kind10 : kindT Try.prog 10 = some none := by kernel_rfl
@[go_sem] theorem Try.elem10 : elemT Try.prog 10 = none := by kernel_rfl
@[go_sem] theorem Try.info10 : infoT Try.prog 10 = some (1, 16, [.val (.string ⟨#[]⟩)]) := by kernel_rfl
@[go_sem] theorem Try.cof10 : Try.prog.cellsOf 10 = 1 := by kernel_rfl
theorem Try.und10 : Try.prog.underlying 10 = some (.string) := by kernel_rfl
@[go_sem] theorem Try.kind11 : kindT Try.prog 11 = some none := by kernel_rfl
@[go_sem] theorem Try.elem11 : elemT Try.prog 11 = none := by kernel_rfl
@[go_sem] theorem Try.info11 : infoT Try.prog 11 = some (1, 16, [.val (.string ⟨#[]⟩)]) := by kernel_rfl
@[go_sem] theorem Try.cof11 : Try.prog.cellsOf 11 = 1 := by kernel_rfl
theorem Try.und11 : Try.prog.underlying 11 = some (.string) := by kernel_rfl
@[go_sem] theorem Try.kind12 : kindT Try.prog 12 = some none := by kernel_rfl
@[go_sem] theorem Try.info12 : infoT Try.prog 12 = some (1, 8, [.val (.int .u64 0)]) := by kernel_rfl
@[go_sem] theorem Try.cof12 : Try.prog.cellsOf 12 = 1 := by kernel_rfl
@[go_sem] theorem Try.und12 : Try.prog.underlying 12 = some (.int .u64) := by kernel_rfl
@[go_sem] theorem Try.kind13 : kindT Try.prog 13 = some (some 2) := by kernel_rfl
@[go_sem] theorem Try.fld13_0 : fldT Try.prog 13 0 = some 0 := by kernel_rfl
@[go_sem] theorem Try.fl113_0 : fld1T Try.prog 13 0 = some 0 := by kernel_rfl
@[go_sem] theorem Try.pl13_0 : plT Try.prog 13 0 = some 0 := by kernel_rfl
@[go_sem] theorem Try.fld13_1 : fldT Try.prog 13 1 = some 1 := by kernel_rfl
@[go_sem] theorem Try.fl113_1 : fld1T Try.prog 13 1 = some 1 := by kernel_rfl
@[go_sem] theorem Try.pl13_1 : plT Try.prog 13 1 = some 1 := by kernel_rfl
@[go_sem] theorem Try.plk13 : plOk Try.prog 13 = true := by kernel_rfl
@[go_sem] theorem Try.info13 : infoT Try.prog 13 = some (2, 24, [.val (.string ⟨#[]⟩), .val (.int .u64 0)]) := by kernel_rfl
@[go_sem] theorem Try.cof13 : Try.prog.cellsOf 13 = 2 := by kernel_rfl
@[go_sem] theorem Try.kind14 : kindT Try.prog 14 = some (some 2) := by kernel_rfl
@[go_sem] theorem Try.fld14_0 : fldT Try.prog 14 0 = some 0 := by kernel_rfl
@[go_sem] theorem Try.fl114_0 : fld1T Try.prog 14 0 = some 0 := by kernel_rfl
@[go_sem] theorem Try.pl14_0 : plT Try.prog 14 0 = some 0 := by kernel_rfl
@[go_sem] theorem Try.fld14_1 : fldT Try.prog 14 1 = some 1 := by kernel_rfl
@[go_sem] theorem Try.fl114_1 : fld1T Try.prog 14 1 = some 1 := by kernel_rfl
@[go_sem] theorem Try.pl14_1 : plT Try.prog 14 1 = some 1 := by kernel_rfl
@[go_sem] theorem Try.plk14 : plOk Try.prog 14 = true := by kernel_rfl
@[go_sem] theorem Try.info14 : infoT Try.prog 14 = some (2, 24, [.val (.string ⟨#[]⟩), .val (.int .u64 0)]) := by kernel_rfl
@[go_sem] theorem Try.cof14 : Try.prog.cellsOf 14 = 2 := by kernel_rfl
@[go_sem] theorem Try.kind15 : kindT Try.prog 15 = some none := by kernel_rfl
@[go_sem] theorem Try.elem15 : elemT Try.prog 15 = none := by kernel_rfl
@[go_sem] theorem Try.cof15 : Try.prog.cellsOf 15 = 1 := by kernel_rfl
@[go_sem] theorem Try.kind16 : kindT Try.prog 16 = some none := by kernel_rfl
@[go_sem] theorem Try.elem16 : elemT Try.prog 16 = none := by kernel_rfl
@[go_sem] theorem Try.cof16 : Try.prog.cellsOf 16 = 1 := by kernel_rfl
@[go_sem] theorem Try.kind17 : kindT Try.prog 17 = some none := by kernel_rfl
@[go_sem] theorem Try.elem17 : elemT Try.prog 17 = none := by kernel_rfl
@[go_sem] theorem Try.cof17 : Try.prog.cellsOf 17 = 1 := by kernel_rfl
@[go_sem] theorem Try.kind18 : kindT Try.prog 18 = some (some 1) := by kernel_rfl
@[go_sem] theorem Try.fld18_0 : fldT Try.prog 18 0 = some 0 := by kernel_rfl
@[go_sem] theorem Try.fl118_0 : fld1T Try.prog 18 0 = some 0 := by kernel_rfl
@[go_sem] theorem Try.pl18_0 : plT Try.prog 18 0 = some 0 := by kernel_rfl
@[go_sem] theorem Try.plk18 : plOk Try.prog 18 = true := by kernel_rfl
@[go_sem] theorem Try.cof18 : Try.prog.cellsOf 18 = 1 := by kernel_rfl
@[go_sem] theorem Try.kind19 : kindT Try.prog 19 = some (some 1) := by kernel_rfl
@[go_sem] theorem Try.fld19_0 : fldT Try.prog 19 0 = some 0 := by kernel_rfl
@[go_sem] theorem Try.fl119_0 : fld1T Try.prog 19 0 = some 0 := by kernel_rfl
@[go_sem] theorem Try.pl19_0 : plT Try.prog 19 0 = some 0 := by kernel_rfl
@[go_sem] theorem Try.plk19 : plOk Try.prog 19 = true := by kernel_rfl
@[go_sem] theorem Try.cof19 : Try.prog.cellsOf 19 = 1 := by kernel_rfl
@[go_sem] theorem Try.kind21 : kindT Try.prog 21 = some none := by kernel_rfl
@[go_sem] theorem Try.info21 : infoT Try.prog 21 = some (1, 4, [.val (.int .i32 0)]) := by kernel_rfl
@[go_sem] theorem Try.cof21 : Try.prog.cellsOf 21 = 1 := by kernel_rfl
@[go_sem] theorem Try.und21 : Try.prog.underlying 21 = some (.int .i32) := by kernel_rfl
@[go_sem] theorem Try.kind22 : kindT Try.prog 22 = some none := by kernel_rfl
@[go_sem] theorem Try.elem22 : elemT Try.prog 22 = some 2 := by kernel_rfl
@[go_sem] theorem Try.info22 : infoT Try.prog 22 = some (1, 24, [.val (.slice none 0 0)]) := by kernel_rfl
@[go_sem] theorem Try.cof22 : Try.prog.cellsOf 22 = 1 := by kernel_rfl
theorem Try.und22 : Try.prog.underlying 22 = some (.slice 2) := by kernel_rfl
@[go_sem] theorem Try.kind24 : kindT Try.prog 24 = some none := by kernel_rfl
@[go_sem] theorem Try.cof24 : Try.prog.cellsOf 24 = 1 := by kernel_rfl
@[go_sem] theorem Try.kind25 : kindT Try.prog 25 = some none := by kernel_rfl
@[go_sem] theorem Try.cof25 : Try.prog.cellsOf 25 = 1 := by kernel_rfl
@[go_sem] theorem Try.kind26 : kindT Try.prog 26 = some none := by kernel_rfl
@[go_sem] theorem Try.cof26 : Try.prog.cellsOf 26 = 1 := by kernel_rfl
@[go_sem] theorem Try.kind27 : kindT Try.prog 27 = some none := by kernel_rfl
@[go_sem] theorem Try.cof27 : Try.prog.cellsOf 27 = 1 := by kernel_rfl
@[go_sem] theorem Try.kind28 : kindT Try.prog 28 = some none := by kernel_rfl
@[go_sem] theorem Try.cof28 : Try.prog.cellsOf 28 = 1 := by kernel_rfl
@[go_sem] theorem Try.kind29 : kindT Try.prog 29 = some none := by kernel_rfl
@[go_sem] theorem Try.elem29 : elemT Try.prog 29 = some 22 := by kernel_rfl
@[go_sem] theorem Try.info29 : infoT Try.prog 29 = some (1, 24, [.val (.slice none 0 0)]) := by kernel_rfl
@[go_sem] theorem Try.cof29 : Try.prog.cellsOf 29 = 1 := by kernel_rfl
theorem Try.und29 : Try.prog.underlying 29 = some (.slice 22) := by kernel_rfl
@[go_sem] theorem Try.kind30 : kindT Try.prog 30 = some (some 2) := by kernel_rfl
@[go_sem] theorem Try.fld30_0 : fldT Try.prog 30 0 = some 0 := by kernel_rfl
@[go_sem] theorem Try.fl130_0 : fld1T Try.prog 30 0 = some 0 := by kernel_rfl
@[go_sem] theorem Try.pl30_0 : plT Try.prog 30 0 = some 0 := by kernel_rfl
@[go_sem] theorem Try.fld30_1 : fldT Try.prog 30 1 = some 1 := by kernel_rfl
@[go_sem] theorem Try.fl130_1 : fld1T Try.prog 30 1 = some 1 := by kernel_rfl
@[go_sem] theorem Try.pl30_1 : plT Try.prog 30 1 = some 1 := by kernel_rfl
@[go_sem] theorem Try.plk30 : plOk Try.prog 30 = true := by kernel_rfl
@[go_sem] theorem Try.info30 : infoT Try.prog 30 = some (2, 48, [.val (.slice none 0 0), .val (.slice none 0 0)]) := by kernel_rfl
@[go_sem] theorem Try.cof30 : Try.prog.cellsOf 30 = 2 := by kernel_rfl
@[go_sem] theorem Try.kind31 : kindT Try.prog 31 = some (some 2) := by kernel_rfl
@[go_sem] theorem Try.fld31_0 : fldT Try.prog 31 0 = some 0 := by kernel_rfl
@[go_sem] theorem Try.fl131_0 : fld1T Try.prog 31 0 = some 0 := by kernel_rfl
@[go_sem] theorem Try.pl31_0 : plT Try.prog 31 0 = some 0 := by kernel_rfl
@[go_sem] theorem Try.fld31_1 : fldT Try.prog 31 1 = some 1 := by kernel_rfl
@[go_sem] theorem Try.fl131_1 : fld1T Try.prog 31 1 = some 1 := by kernel_rfl
@[go_sem] theorem Try.pl31_1 : plT Try.prog 31 1 = some 1 := by kernel_rfl
@[go_sem] theorem Try.plk31 : plOk Try.prog 31 = true := by kernel_rfl
@[go_sem] theorem Try.info31 : infoT Try.prog 31 = some (2, 48, [.val (.slice none 0 0), .val (.slice none 0 0)]) := by kernel_rfl
@[go_sem] theorem Try.cof31 : Try.prog.cellsOf 31 = 2 := by kernel_rfl
@[go_sem] theorem Try.kind32 : kindT Try.prog 32 = some none := by kernel_rfl
@[go_sem] theorem Try.cof32 : Try.prog.cellsOf 32 = 1 := by kernel_rfl
@[go_sem] theorem Try.kind33 : kindT Try.prog 33 = some none := by kernel_rfl
@[go_sem] theorem Try.cof33 : Try.prog.cellsOf 33 = 1 := by kernel_rfl
@[go_sem] theorem Try.kind34 : kindT Try.prog 34 = some (some 2) := by kernel_rfl
@[go_sem] theorem Try.fld34_0 : fldT Try.prog 34 0 = some 0 := by kernel_rfl
@[go_sem] theorem Try.fl134_0 : fld1T Try.prog 34 0 = some 0 := by kernel_rfl
@[go_sem] theorem Try.pl34_0 : plT Try.prog 34 0 = some 0 := by kernel_rfl
@[go_sem] theorem Try.fld34_1 : fldT Try.prog 34 1 = some 1 := by kernel_rfl
@[go_sem] theorem Try.fl134_1 : fld1T Try.prog 34 1 = some 1 := by kernel_rfl
@[go_sem] theorem Try.pl34_1 : plT Try.prog 34 1 = some 1 := by kernel_rfl
@[go_sem] theorem Try.plk34 : plOk Try.prog 34 = true := by kernel_rfl
@[go_sem] theorem Try.info34 : infoT Try.prog 34 = some (2, 48, [.val (.slice none 0 0), .val (.slice none 0 0)]) := by kernel_rfl
@[go_sem] theorem Try.cof34 : Try.prog.cellsOf 34 = 2 := by kernel_rfl
@[go_sem] theorem Try.kind35 : kindT Try.prog 35 = some none := by kernel_rfl
@[go_sem] theorem Try.cof35 : Try.prog.cellsOf 35 = 1 := by kernel_rfl
@[go_sem] theorem Try.kind36 : kindT Try.prog 36 = some none := by kernel_rfl
@[go_sem] theorem Try.cof36 : Try.prog.cellsOf 36 = 1 := by kernel_rfl
@[go_sem] theorem Try.kind37 : kindT Try.prog 37 = some none := by kernel_rfl
@[go_sem] theorem Try.cof37 : Try.prog.cellsOf 37 = 1 := by kernel_rfl
@[go_sem] theorem Try.kind38 : kindT Try.prog 38 = some none := by kernel_rfl
@[go_sem] theorem Try.cof38 : Try.prog.cellsOf 38 = 1 := by kernel_rfl
@[go_sem] theorem Try.kind40 : kindT Try.prog 40 = some none := by kernel_rfl
@[go_sem] theorem Try.cof40 : Try.prog.cellsOf 40 = 1 := by kernel_rfl
@[go_sem] theorem Try.kind41 : kindT Try.prog 41 = some none := by kernel_rfl
@[go_sem] theorem Try.cof41 : Try.prog.cellsOf 41 = 1 := by kernel_rfl
@[go_sem] theorem Try.kind42 : kindT Try.prog 42 = some none := by kernel_rfl
@[go_sem] theorem Try.cof42 : Try.prog.cellsOf 42 = 1 := by kernel_rfl
@[go_sem] theorem Try.kind44 : kindT Try.prog 44 = some none := by kernel_rfl
@[go_sem] theorem Try.cof44 : Try.prog.cellsOf 44 = 1 := by kernel_rfl
@[go_sem] theorem Try.kind45 : kindT Try.prog 45 = some none := by kernel_rfl
@[go_sem] theorem Try.cof45 : Try.prog.cellsOf 45 = 1 := by kernel_rfl
@[go_sem] theorem Try.kind46 : kindT Try.prog 46 = some none := by kernel_rfl
@[go_sem] theorem Try.cof46 : Try.prog.cellsOf 46 = 1 := by kernel_rfl
@[go_sem] theorem Try.kind47 : kindT Try.prog 47 = some none := by kernel_rfl
@[go_sem] theorem Try.cof47 : Try.prog.cellsOf 47 = 1 := by kernel_rfl
@[go_sem] theorem Try.kind48 : kindT Try.prog 48 = some none := by kernel_rfl
@[go_sem] theorem Try.elem48 : elemT Try.prog 48 = some 160 := by kernel_rfl
@[go_sem] theorem Try.info48 : infoT Try.prog 48 = some (1, 24, [.val (.slice none 0 0)]) := by kernel_rfl
@[go_sem] theorem Try.cof48 : Try.prog.cellsOf 48 = 1 := by kernel_rfl
theorem Try.und48 : Try.prog.underlying 48 = some (.slice 160) := by kernel_rfl
@[go_sem] theorem Try.kind49 : kindT Try.prog 49 = some (some 2) := by kernel_rfl
@[go_sem] theorem Try.fld49_0 : fldT Try.prog 49 0 = some 0 := by kernel_rfl
@[go_sem] theorem Try.fl149_0 : fld1T Try.prog 49 0 = some 0 := by kernel_rfl
@[go_sem] theorem Try.pl49_0 : plT Try.prog 49 0 = some 0 := by kernel_rfl
@[go_sem] theorem Try.fld49_1 : fldT Try.prog 49 1 = some 1 := by kernel_rfl
@[go_sem] theorem Try.fl149_1 : fld1T Try.prog 49 1 = some 1 := by kernel_rfl
@[go_sem] theorem Try.pl49_1 : plT Try.prog 49 1 = some 1 := by kernel_rfl
@[go_sem] theorem Try.plk49 : plOk Try.prog 49 = true := by kernel_rfl
@[go_sem] theorem Try.info49 : infoT Try.prog 49 = some (2, 32, [.val (.int .i64 0), .val (.slice none 0 0)]) := by kernel_rfl
@[go_sem] theorem Try.cof49 : Try.prog.cellsOf 49 = 2 := by kernel_rfl
@[go_sem] theorem Try.kind50 : kindT Try.prog 50 = some (some 2) := by kernel_rfl
@[go_sem] theorem Try.fld50_0 : fldT Try.prog 50 0 = some 0 := by kernel_rfl
@[go_sem] theorem Try.fl150_0 : fld1T Try.prog 50 0 = some 0 := by kernel_rfl
@[go_sem] theorem Try.pl50_0 : plT Try.prog 50 0 = some 0 := by kernel_rfl
@[go_sem] theorem Try.fld50_1 : fldT Try.prog 50 1 = some 1 := by kernel_rfl
@[go_sem] theorem Try.fl150_1 : fld1T Try.prog 50 1 = some 1 := by kernel_rfl
@[go_sem] theorem Try.pl50_1 : plT Try.prog 50 1 = some 1 := by kernel_rfl
@[go_sem] theorem Try.plk50 : plOk Try.prog 50 = true := by kernel_rfl
@[go_sem] theorem Try.info50 : infoT Try.prog 50 = some (2, 32, [.val (.int .i64 0), .val (.slice none 0 0)]) := by kernel_rfl
@[go_sem] theorem Try.cof50 : Try.prog.cellsOf 50 = 2 := by kernel_rfl
@[go_sem] theorem Try.kind51 : kindT Try.prog 51 = some none := by kernel_rfl
@[go_sem] theorem Try.cof51 : Try.prog.cellsOf 51 = 1 := by kernel_rfl
@[go_sem] theorem Try.kind52 : kindT Try.prog 52 = some none := by kernel_rfl
@[go_sem] theorem Try.elem52 : elemT Try.prog 52 = some 111 := by kernel_rfl
@[go_sem] theorem Try.info52 : infoT Try.prog 52 = some (1, 24, [.val (.slice none 0 0)]) := by kernel_rfl
@[go_sem] theorem Try.cof52 : Try.prog.cellsOf 52 = 1 := by kernel_rfl
theorem Try.und52 : Try.prog.underlying 52 = some (.slice 111) := by kernel_rfl
@[go_sem] theorem Try.kind53 : kindT Try.prog 53 = some (some 2) := by kernel_rfl
@[go_sem] theorem Try.fld53_0 : fldT Try.prog 53 0 = some 0 := by kernel_rfl
@[go_sem] theorem Try.fl153_0 : fld1T Try.prog 53 0 = some 0 := by kernel_rfl
@[go_sem] theorem Try.pl53_0 : plT Try.prog 53 0 = some 0 := by kernel_rfl
@[go_sem] theorem Try.fld53_1 : fldT Try.prog 53 1 = some 1 := by kernel_rfl
@[go_sem] theorem Try.fl153_1 : fld1T Try.prog 53 1 = some 1 := by kernel_rfl
@[go_sem] theorem Try.pl53_1 : plT Try.prog 53 1 = some 1 := by kernel_rfl
@[go_sem] theorem Try.plk53 : plOk Try.prog 53 = true := by kernel_rfl
@[go_sem] theorem Try.info53 : infoT Try.prog 53 = some (2, 32, [.val (.int .i64 0), .val (.slice none 0 0)]) := by kernel_rfl
@[go_sem] theorem Try.cof53 : Try.prog.cellsOf 53 = 2 := by kernel_rfl
@[go_sem] theorem Try.kind54 : kindT Try.prog 54 = some (some 2) := by kernel_rfl
@[go_sem] theorem Try.fld54_0 : fldT Try.prog 54 0 = some 0 := by kernel_rfl
@[go_sem] theorem Try.fl154_0 : fld1T Try.prog 54 0 = some 0 := by kernel_rfl
@[go_sem] theorem Try.pl54_0 : plT Try.prog 54 0 = some 0 := by kernel_rfl
@[go_sem] theorem Try.fld54_1 : fldT Try.prog 54 1 = some 1 := by kernel_rfl
@[go_sem] theorem Try.fl154_1 : fld1T Try.prog 54 1 = some 1 := by kernel_rfl
@[go_sem] theorem Try.pl54_1 : plT Try.prog 54 1 = some 1 := by kernel_rfl
@[go_sem] theorem Try.plk54 : plOk Try.prog 54 = true := by kernel_rfl
@[go_sem] theorem Try.info54 : infoT Try.prog 54 = some (2, 32, [.val (.int .i64 0), .val (.slice none 0 0)]) := by kernel_rfl
@[go_sem] theorem Try.cof54 : Try.prog.cellsOf 54 = 2 := by kernel_rfl
@[go_sem] theorem Try.kind56 : kindT Try.prog 56 = some none := by kernel_rfl
@[go_sem] theorem Try.cof56 : Try.prog.cellsOf 56 = 1 := by kernel_rfl
@[go_sem] theorem Try.kind57 : kindT Try.prog 57 = some none := by kernel_rfl
@[go_sem] theorem Try.cof57 : Try.prog.cellsOf 57 = 1 := by kernel_rfl
@[go_sem] theorem Try.kind58 : kindT Try.prog 58 = some none := by kernel_rfl
@[go_sem] theorem Try.cof58 : Try.prog.cellsOf 58 = 1 := by kernel_rfl
@[go_sem] theorem Try.kind59 : kindT Try.prog 59 = some none := by kernel_rfl
@[go_sem] theorem Try.cof59 : Try.prog.cellsOf 59 = 1 := by kernel_rfl
@[go_sem] theorem Try.kind60 : kindT Try.prog 60 = some none := by kernel_rfl
@[go_sem] theorem Try.cof60 : Try.prog.cellsOf 60 = 1 := by kernel_rfl
@[go_sem] theorem Try.kind61 : kindT Try.prog 61 = some none := by kernel_rfl
@[go_sem] theorem Try.cof61 : Try.prog.cellsOf 61 = 1 := by kernel_rfl
@[go_sem] theorem Try.kind62 : kindT Try.prog 62 = some none := by kernel_rfl
@[go_sem] theorem Try.cof62 : Try.prog.cellsOf 62 = 1 := by kernel_rfl
@[go_sem] theorem Try.kind63 : kindT Try.prog 63 = some none := by kernel_rfl
@[go_sem] theorem Try.elem63 : elemT Try.prog 63 = some 5 := by kernel_rfl
@[go_sem] theorem Try.info63 : infoT Try.prog 63 = some (1, 24, [.val (.slice none 0 0)]) := by kernel_rfl
@[go_sem] theorem Try.cof63 : Try.prog.cellsOf 63 = 1 := by kernel_rfl
theorem Try.und63 : Try.prog.underlying 63 = some (.slice 5) := by kernel_rfl
@[go_sem] theorem Try.kind64 : kindT Try.prog 64 = some none := by kernel_rfl
@[go_sem] theorem Try.cof64 : Try.prog.cellsOf 64 = 1 := by kernel_rfl
@[go_sem] theorem Try.kind66 : kindT Try.prog 66 = some none := by kernel_rfl
@[go_sem] theorem Try.cof66 : Try.prog.cellsOf 66 = 1 := by kernel_rfl
@[go_sem] theorem Try.kind67 : kindT Try.prog 67 = some none := by kernel_rfl
@[go_sem] theorem Try.cof67 : Try.prog.cellsOf 67 = 1 := by kernel_rfl
@[go_sem] theorem Try.kind68 : kindT Try.prog 68 = some none := by kernel_rfl
@[go_sem] theorem Try.cof68 : Try.prog.cellsOf 68 = 1 := by kernel_rfl
@[go_sem] theorem Try.kind69 : kindT Try.prog 69 = some none := by kernel_rfl
@[go_sem] theorem Try.cof69 : Try.prog.cellsOf 69 = 1 := by kernel_rfl
@[go_sem] theorem Try.kind70 : kindT Try.prog 70 = some none := by kernel_rfl
@[go_sem] theorem Try.cof70 : Try.prog.cellsOf 70 = 1 := by kernel_rfl
@[go_sem] theorem Try.kind72 : kindT Try.prog 72 = some none := by kernel_rfl
@[go_sem] theorem Try.cof72 : Try.prog.cellsOf 72 = 1 := by kernel_rfl
@[go_sem] theorem Try.kind73 : kindT Try.prog 73 = some none := by kernel_rfl
@[go_sem] theorem Try.cof73 : Try.prog.cellsOf 73 = 1 := by kernel_rfl
@[go_sem] theorem Try.kind74 : kindT Try.prog 74 = some none := by kernel_rfl
@[go_sem] theorem Try.cof74 : Try.prog.cellsOf 74 = 1 := by kernel_rfl
@[go_sem] theorem Try.kind76 : kindT Try.prog 76 = some none := by kernel_rfl
@[go_sem] theorem Try.cof76 : Try.prog.cellsOf 76 = 1 := by kernel_rfl
@[go_sem] theorem Try.kind77 : kindT Try.prog 77 = some none := by kernel_rfl
@[go_sem] theorem Try.elem77 : elemT Try.prog 77 = none := by kernel_rfl
@[go_sem] theorem Try.cof77 : Try.prog.cellsOf 77 = 1 := by kernel_rfl
@[go_sem] theorem Try.kind78 : kindT Try.prog 78 = some none := by kernel_rfl
@[go_sem] theorem Try.cof78 : Try.prog.cellsOf 78 = 1 := by kernel_rfl
@[go_sem] theorem Try.kind79 : kindT Try.prog 79 = some none := by kernel_rfl
@[go_sem] theorem Try.info79 : infoT Try.prog 79 = some (1, 8, [.val (.int .u64 0)]) := by kernel_rfl
@[go_sem] theorem Try.cof79 : Try.prog.cellsOf 79 = 1 := by kernel_rfl
@[go_sem] theorem Try.und79 : Try.prog.underlying 79 = some (.int .u64) := by kernel_rfl
@[go_sem] theorem Try.kind80 : kindT Try.prog 80 = some none := by kernel_rfl
@[go_sem] theorem Try.cof80 : Try.prog.cellsOf 80 = 1 := by kernel_rfl
@[go_sem] theorem Try.kind81 : kindT Try.prog 81 = some none := by kernel_rfl
@[go_sem] theorem Try.cof81 : Try.prog.cellsOf 81 = 1 := by kernel_rfl
@[go_sem] theorem Try.kind82 : kindT Try.prog 82 = some none := by kernel_rfl
@[go_sem] theorem Try.cof82 : Try.prog.cellsOf 82 = 1 := by kernel_rfl
@[go_sem] theorem Try.kind83 : kindT Try.prog 83 = some none := by kernel_rfl
@[go_sem] theorem Try.cof83 : Try.prog.cellsOf 83 = 1 := by kernel_rfl
@[go_sem] theorem Try.kind84 : kindT Try.prog 84 = some none := by kernel_rfl
@[go_sem] theorem Try.cof84 : Try.prog.cellsOf 84 = 1 := by kernel_rfl
@[go_sem] theorem Try.kind85 : kindT Try.prog 85 = some none := by kernel_rfl
@[go_sem] theorem Try.cof85 : Try.prog.cellsOf 85 = 1 := by kernel_rfl
@[go_sem] theorem Try.kind86 : kindT Try.prog 86 = some none := by kernel_rfl
@[go_sem] theorem Try.cof86 : Try.prog.cellsOf 86 = 1 := by kernel_rfl
@[go_sem] theorem Try.kind87 : kindT Try.prog 87 = some none := by kernel_rfl
@[go_sem] theorem Try.cof87 : Try.prog.cellsOf 87 = 1 := by kernel_rfl
@[go_sem] theorem Try.kind89 : kindT Try.prog 89 = some none := by kernel_rfl
@[go_sem] theorem Try.cof89 : Try.prog.cellsOf 89 = 1 := by kernel_rfl
@[go_sem] theorem Try.kind90 : kindT Try.prog 90 = some none := by kernel_rfl
@[go_sem] theorem Try.cof90 : Try.prog.cellsOf 90 = 1 := by kernel_rfl
@[go_sem] theorem Try.kind91 : kindT Try.prog 91 = some none := by kernel_rfl
@[go_sem] theorem Try.cof91 : Try.prog.cellsOf 91 = 1 := by kernel_rfl
@[go_sem] theorem Try.kind92 : kindT Try.prog 92 = some none := by kernel_rfl
@[go_sem] theorem Try.cof92 : Try.prog.cellsOf 92 = 1 := by kernel_rfl
@[go_sem] theorem Try.kind93 : kindT Try.prog 93 = some none := by kernel_rfl
@[go_sem] theorem Try.cof93 : Try.prog.cellsOf 93 = 1 := by kernel_rfl
@[go_sem] theorem Try.kind95 : kindT Try.prog 95 = some none := by kernel_rfl
@[go_sem] theorem Try.cof95 : Try.prog.cellsOf 95 = 1 := by kernel_rfl
@[go_sem] theorem Try.kind96 : kindT Try.prog 96 = some none := by kernel_rfl
@[go_sem] theorem Try.cof96 : Try.prog.cellsOf 96 = 1 := by kernel_rfl
@[go_sem] theorem Try.kind97 : kindT Try.prog 97 = some none := by kernel_rfl
@[go_sem] theorem Try.cof97 : Try.prog.cellsOf 97 = 1 := by kernel_rfl
@[go_sem] theorem Try.kind98 : kindT Try.prog 98 = some none := by kernel_rfl
@[go_sem] theorem Try.cof98 : Try.prog.cellsOf 98 = 1 := by kernel_rfl
@[go_sem] theorem Try.kind99 : kindT Try.prog 99 = some none := by kernel_rfl
@[go_sem] theorem Try.cof99 : Try.prog.cellsOf 99 = 1 := by kernel_rfl
@[go_sem] theorem Try.kind100 : kindT Try.prog 100 = some none := by kernel_rfl
@[go_sem] theorem Try.cof100 : Try.prog.cellsOf 100 = 1 := by kernel_rfl
@[go_sem] theorem Try.kind101 : kindT Try.prog 101 = some none := by kernel_rfl
@[go_sem] theorem Try.cof101 : Try.prog.cellsOf 101 = 1 := by kernel_rfl
@[go_sem] theorem Try.kind102 : kindT Try.prog 102 = some none := by kernel_rfl
@[go_sem] theorem Try.cof102 : Try.prog.cellsOf 102 = 1 := by kernel_rfl
@[go_sem] theorem Try.kind103 : kindT Try.prog 103 = some none := by kernel_rfl
@[go_sem] theorem Try.cof103 : Try.prog.cellsOf 103 = 1 := by kernel_rfl
@[go_sem] theorem Try.kind105 : kindT Try.prog 105 = some none := by kernel_rfl
@[go_sem] theorem Try.cof105 : Try.prog.cellsOf 105 = 1 := by kernel_rfl
@[go_sem] theorem Try.kind106 : kindT Try.prog 106 = some none := by kernel_rfl
@[go_sem] theorem Try.cof106 : Try.prog.cellsOf 106 = 1 := by kernel_rfl
@[go_sem] theorem Try.kind107 : kindT Try.prog 107 = some none := by kernel_rfl
@[go_sem] theorem Try.cof107 : Try.prog.cellsOf 107 = 1 := by kernel_rfl
@[go_sem] theorem Try.kind108 : kindT Try.prog 108 = some none := by kernel_rfl
@[go_sem] theorem Try.cof108 : Try.prog.cellsOf 108 = 1 := by kernel_rfl
@[go_sem] theorem Try.kind109 : kindT Try.prog 109 = some none := by kernel_rfl
@[go_sem] theorem Try.cof109 : Try.prog.cellsOf 109 = 1 := by kernel_rfl
@[go_sem] theorem Try.kind110 : kindT Try.prog 110 = some none := by kernel_rfl
@[go_sem] theorem Try.cof110 : Try.prog.cellsOf 110 = 1 := by kernel_rfl
@[go_sem] theorem Try.kind111 : kindT Try.prog 111 = some none := by kernel_rfl
@[go_sem] theorem Try.elem111 : elemT Try.prog 111 = some 125 := by kernel_rfl
@[go_sem] theorem Try.info111 : infoT Try.prog 111 = some (1, 24, [.val (.slice none 0 0)]) := by kernel_rfl
@[go_sem] theorem Try.cof111 : Try.prog.cellsOf 111 = 1 := by kernel_rfl
theorem Try.und111 : Try.prog.underlying 111 = some (.slice 125) := by kernel_rfl
@[go_sem] theorem Try.kind112 : kindT Try.prog 112 = some none := by kernel_rfl
@[go_sem] theorem Try.cof112 : Try.prog.cellsOf 112 = 1 := by kernel_rfl
@[go_sem] theorem Try.kind113 : kindT Try.prog 113 = some none := by kernel_rfl
@[go_sem] theorem Try.cof113 : Try.prog.cellsOf 113 = 1 := by kernel_rfl
@[go_sem] theorem Try.kind114 : kindT Try.prog 114 = some none := by kernel_rfl
@[go_sem] theorem Try.cof114 : Try.prog.cellsOf 114 = 1 := by kernel_rfl
@[go_sem] theorem Try.kind115 : kindT Try.prog 115 = some none := by kernel_rfl
@[go_sem] theorem Try.elem115 : elemT Try.prog 115 = some 118 := by kernel_rfl
@[go_sem] theorem Try.info115 : infoT Try.prog 115 = some (1, 24, [.val (.slice none 0 0)]) := by kernel_rfl
@[go_sem] theorem Try.cof115 : Try.prog.cellsOf 115 = 1 := by kernel_rfl
theorem Try.und115 : Try.prog.underlying 115 = some (.slice 118) := by kernel_rfl
@[go_sem] theorem Try.kind116 : kindT Try.prog 116 = some none := by kernel_rfl
@[go_sem] theorem Try.cof116 : Try.prog.cellsOf 116 = 1 := by kernel_rfl
@[go_sem] theorem Try.kind117 : kindT Try.prog 117 = some none := by kernel_rfl
@[go_sem] theorem Try.elem117 : elemT Try.prog 117 = none := by kernel_rfl
@[go_sem] theorem Try.map117 : mapT Try.prog 117 = true := by kernel_rfl
@[go_sem] theorem Try.ismap117 : isMapT Try.prog 117 = true := by kernel_rfl
@[go_sem] theorem Try.info117 : infoT Try.prog 117 = some (1, 8, [.val (.map none)]) := by kernel_rfl
@[go_sem] theorem Try.cof117 : Try.prog.cellsOf 117 = 1 := by kernel_rfl
@[go_sem] theorem Try.kind118 : kindT Try.prog 118 = some none := by kernel_rfl
@[go_sem] theorem Try.elem118 : elemT Try.prog 118 = none := by kernel_rfl
@[go_sem] theorem Try.map118 : mapT Try.prog 118 = true := by kernel_rfl
@[go_sem] theorem Try.ismap118 : isMapT Try.prog 118 = true := by kernel_rfl
@[go_sem] theorem Try.info118 : infoT Try.prog 118 = some (1, 8, [.val (.map none)]) := by kernel_rfl
@[go_sem] theorem Try.cof118 : Try.prog.cellsOf 118 = 1 := by kernel_rfl
@[go_sem] theorem Try.kind119 : kindT Try.prog 119 = some none := by kernel_rfl
@[go_sem] theorem Try.cof119 : Try.prog.cellsOf 119 = 1 := by kernel_rfl
@[go_sem] theorem Try.kind120 : kindT Try.prog 120 = some none := by kernel_rfl
@[go_sem] theorem Try.cof120 : Try.prog.cellsOf 120 = 1 := by kernel_rfl
@[go_sem] theorem Try.kind121 : kindT Try.prog 121 = some none := by kernel_rfl
@[go_sem] theorem Try.cof121 : Try.prog.cellsOf 121 = 1 := by kernel_rfl
@[go_sem] theorem Try.kind122 : kindT Try.prog 122 = some none := by kernel_rfl
@[go_sem] theorem Try.cof122 : Try.prog.cellsOf 122 = 1 := by kernel_rfl
@[go_sem] theorem Try.kind123 : kindT Try.prog 123 = some none := by kernel_rfl
@[go_sem] theorem Try.cof123 : Try.prog.cellsOf 123 = 1 := by kernel_rfl
@[go_sem] theorem Try.kind124 : kindT Try.prog 124 = some (some 2) := by kernel_rfl
@[go_sem] theorem Try.fld124_0 : fldT Try.prog 124 0 = some 0 := by kernel_rfl
@[go_sem] theorem Try.fl1124_0 : fld1T Try.prog 124 0 = some 0 := by kernel_rfl
@[go_sem] theorem Try.pl124_0 : plT Try.prog 124 0 = some 0 := by kernel_rfl
@[go_sem] theorem Try.fld124_1 : fldT Try.prog 124 1 = some 1 := by kernel_rfl
@[go_sem] theorem Try.fl1124_1 : fld1T Try.prog 124 1 = some 1 := by kernel_rfl
@[go_sem] theorem Try.pl124_1 : plT Try.prog 124 1 = some 1 := by kernel_rfl
@[go_sem] theorem Try.plk124 : plOk Try.prog 124 = true := by kernel_rfl
@[go_sem] theorem Try.info124 : infoT Try.prog 124 = some (2, 32, [.val (.int .i64 0), .val (.slice none 0 0)]) := by kernel_rfl
@[go_sem] theorem Try.cof124 : Try.prog.cellsOf 124 = 2 := by kernel_rfl
@[go_sem] theorem Try.kind125 : kindT Try.prog 125 = some (some 2) := by kernel_rfl
@[go_sem] theorem Try.fld125_0 : fldT Try.prog 125 0 = some 0 := by kernel_rfl
@[go_sem] theorem Try.fl1125_0 : fld1T Try.prog 125 0 = some 0 := by kernel_rfl
@[go_sem] theorem Try.pl125_0 : plT Try.prog 125 0 = some 0 := by kernel_rfl
@[go_sem] theorem Try.fld125_1 : fldT Try.prog 125 1 = some 1 := by kernel_rfl
@[go_sem] theorem Try.fl1125_1 : fld1T Try.prog 125 1 = some 1 := by kernel_rfl
@[go_sem] theorem Try.pl125_1 : plT Try.prog 125 1 = some 1 := by kernel_rfl
@[go_sem] theorem Try.plk125 : plOk Try.prog 125 = true := by kernel_rfl
@[go_sem] theorem Try.info125 : infoT Try.prog 125 = some (2, 32, [.val (.int .i64 0), .val (.slice none 0 0)]) := by kernel_rfl
@[go_sem] theorem Try.cof125 : Try.prog.cellsOf 125 = 2 := by kernel_rfl
@[go_sem] theorem Try.kind126 : kindT Try.prog 126 = some none := by kernel_rfl
@[go_sem] theorem Try.cof126 : Try.prog.cellsOf 126 = 1 := by kernel_rfl
@[go_sem] theorem Try.kind127 : kindT Try.prog 127 = some none := by kernel_rfl
@[go_sem] theorem Try.cof127 : Try.prog.cellsOf 127 = 1 := by kernel_rfl
@[go_sem] theorem Try.kind128 : kindT Try.prog 128 = some none := by kernel_rfl
@[go_sem] theorem Try.elem128 : elemT Try.prog 128 = none := by kernel_rfl
@[go_sem] theorem Try.cof128 : Try.prog.cellsOf 128 = 1 := by kernel_rfl
@[go_sem] theorem Try.kind129 : kindT Try.prog 129 = some none := by kernel_rfl
@[go_sem] theorem Try.cof129 : Try.prog.cellsOf 129 = 1 := by kernel_rfl
@[go_sem] theorem Try.kind130 : kindT Try.prog 130 = some none := by kernel_rfl
@[go_sem] theorem Try.cof130 : Try.prog.cellsOf 130 = 1 := by kernel_rfl
@[go_sem] theorem Try.kind131 : kindT Try.prog 131 = some none := by kernel_rfl
@[go_sem] theorem Try.cof131 : Try.prog.cellsOf 131 = 1 := by kernel_rfl
@[go_sem] theorem Try.kind132 : kindT Try.prog 132 = some none := by kernel_rfl
@[go_sem] theorem Try.cof132 : Try.prog.cellsOf 132 = 1 := by kernel_rfl
@[go_sem] theorem Try.kind133 : kindT Try.prog 133 = some none := by kernel_rfl
@[go_sem] theorem Try.cof133 : Try.prog.cellsOf 133 = 1 := by kernel_rfl
@[go_sem] theorem Try.kind134 : kindT Try.prog 134 = some none := by kernel_rfl
@[go_sem] theorem Try.cof134 : Try.prog.cellsOf 134 = 1 := by kernel_rfl
@[go_sem] theorem Try.kind135 : kindT Try.prog 135 = some none := by kernel_rfl
@[go_sem] theorem Try.cof135 : Try.prog.cellsOf 135 = 1 := by kernel_rfl
@[go_sem] theorem Try.kind136 : kindT Try.prog 136 = some none := by kernel_rfl
@[go_sem] theorem Try.cof136 : Try.prog.cellsOf 136 = 1 := by kernel_rfl
@[go_sem] theorem Try.kind137 : kindT Try.prog 137 = some none := by kernel_rfl
@[go_sem] theorem Try.cof137 : Try.prog.cellsOf 137 = 1 := by kernel_rfl
@[go_sem] theorem Try.kind138 : kindT Try.prog 138 = some none := by kernel_rfl
@[go_sem] theorem Try.cof138 : Try.prog.cellsOf 138 = 1 := by kernel_rfl
@[go_sem] theorem Try.kind139 : kindT Try.prog 139 = some none := by kernel_rfl
@[go_sem] theorem Try.cof139 : Try.prog.cellsOf 139 = 1 := by kernel_rfl
@[go_sem] theorem Try.kind140 : kindT Try.prog 140 = some none := by kernel_rfl
@[go_sem] theorem Try.cof140 : Try.prog.cellsOf 140 = 1 := by kernel_rfl
@[go_sem] theorem Try.kind141 : kindT Try.prog 141 = some none := by kernel_rfl
@[go_sem] theorem Try.cof141 : Try.prog.cellsOf 141 = 1 := by kernel_rfl
@[go_sem] theorem Try.kind142 : kindT Try.prog 142 = some none := by kernel_rfl
@[go_sem] theorem Try.cof142 : Try.prog.cellsOf 142 = 1 := by kernel_rfl
@[go_sem] theorem Try.kind143 : kindT Try.prog 143 = some (some 3) := by kernel_rfl
@[go_sem] theorem Try.fld143_0 : fldT Try.prog 143 0 = some 0 := by kernel_rfl
@[go_sem] theorem Try.fl1143_0 : fld1T Try.prog 143 0 = some 0 := by kernel_rfl
@[go_sem] theorem Try.pl143_0 : plT Try.prog 143 0 = some 0 := by kernel_rfl
@[go_sem] theorem Try.fld143_1 : fldT Try.prog 143 1 = some 1 := by kernel_rfl
@[go_sem] theorem Try.fl1143_1 : fld1T Try.prog 143 1 = some 1 := by kernel_rfl
@[go_sem] theorem Try.pl143_1 : plT Try.prog 143 1 = some 1 := by kernel_rfl
@[go_sem] theorem Try.fld143_2 : fldT Try.prog 143 2 = some 2 := by kernel_rfl
@[go_sem] theorem Try.fl1143_2 : fld1T Try.prog 143 2 = some 2 := by kernel_rfl
@[go_sem] theorem Try.pl143_2 : plT Try.prog 143 2 = some 2 := by kernel_rfl
@[go_sem] theorem Try.plk143 : plOk Try.prog 143 = true := by kernel_rfl
@[go_sem] theorem Try.info143 : infoT Try.prog 143 = some (3, 40, [.val (.slice none 0 0), .val (.int .i64 0), .val (.int .u64 0)]) := by kernel_rfl
@[go_sem] theorem Try.cof143 : Try.prog.cellsOf 143 = 3 := by kernel_rfl
@[go_sem] theorem Try.kind144 : kindT Try.prog 144 = some (some 3) := by kernel_rfl
@[go_sem] theorem Try.fld144_0 : fldT Try.prog 144 0 = some 0 := by kernel_rfl
@[go_sem] theorem Try.fl1144_0 : fld1T Try.prog 144 0 = some 0 := by kernel_rfl
@[go_sem] theorem Try.pl144_0 : plT Try.prog 144 0 = some 0 := by kernel_rfl
@[go_sem] theorem Try.fld144_1 : fldT Try.prog 144 1 = some 1 := by kernel_rfl
@[go_sem] theorem Try.fl1144_1 : fld1T Try.prog 144 1 = some 1 := by kernel_rfl
@[go_sem] theorem Try.pl144_1 : plT Try.prog 144 1 = some 1 := by kernel_rfl
@[go_sem] theorem Try.fld144_2 : fldT Try.prog 144 2 = some 2 := by kernel_rfl
@[go_sem] theorem Try.fl1144_2 : fld1T Try.prog 144 2 = some 2 := by kernel_rfl
@[go_sem] theorem Try.pl144_2 : plT Try.prog 144 2 = some 2 := by kernel_rfl
@[go_sem] theorem Try.plk144 : plOk Try.prog 144 = true := by kernel_rfl
@[go_sem] theorem Try.info144 : infoT Try.prog 144 = some (3, 40, [.val (.slice none 0 0), .val (.int .i64 0), .val (.int .u64 0)]) := by kernel_rfl
@[go_sem] theorem Try.cof144 : Try.prog.cellsOf 144 = 3 := by kernel_rfl
@[go_sem] theorem Try.kind145 : kindT Try.prog 145 = some none := by kernel_rfl
@[go_sem] theorem Try.cof145 : Try.prog.cellsOf 145 = 1 := by kernel_rfl
@[go_sem] theorem Try.kind146 : kindT Try.prog 146 = some none := by kernel_rfl
@[go_sem] theorem Try.cof146 : Try.prog.cellsOf 146 = 1 := by kernel_rfl
@[go_sem] theorem Try.kind147 : kindT Try.prog 147 = some none := by kernel_rfl
@[go_sem] theorem Try.cof147 : Try.prog.cellsOf 147 = 1 := by kernel_rfl
@[go_sem] theorem Try.kind148 : kindT Try.prog 148 = some none := by kernel_rfl
@[go_sem] theorem Try.cof148 : Try.prog.cellsOf 148 = 1 := by kernel_rfl
@[go_sem] theorem Try.kind149 : kindT Try.prog 149 = some none := by kernel_rfl
@[go_sem] theorem Try.cof149 : Try.prog.cellsOf 149 = 1 := by kernel_rfl
@[go_sem] theorem Try.kind150 : kindT Try.prog 150 = some none := by kernel_rfl
@[go_sem] theorem Try.cof150 : Try.prog.cellsOf 150 = 1 := by kernel_rfl
@[go_sem] theorem Try.kind151 : kindT Try.prog 151 = some none := by kernel_rfl
@[go_sem] theorem Try.cof151 : Try.prog.cellsOf 151 = 1 := by kernel_rfl
@[go_sem] theorem Try.kind152 : kindT Try.prog 152 = some none := by kernel_rfl
@[go_sem] theorem Try.cof152 : Try.prog.cellsOf 152 = 1 := by kernel_rfl
@[go_sem] theorem Try.kind153 : kindT Try.prog 153 = some none := by kernel_rfl
@[go_sem] theorem Try.cof153 : Try.prog.cellsOf 153 = 1 := by kernel_rfl
@[go_sem] theorem Try.kind154 : kindT Try.prog 154 = some none := by kernel_rfl
@[go_sem] theorem Try.cof154 : Try.prog.cellsOf 154 = 1 := by kernel_rfl
@[go_sem] theorem Try.kind155 : kindT Try.prog 155 = some none := by kernel_rfl
@[go_sem] theorem Try.cof155 : Try.prog.cellsOf 155 = 1 := by kernel_rfl
@[go_sem] theorem Try.kind156 : kindT Try.prog 156 = some none := by kernel_rfl
@[go_sem] theorem Try.cof156 : Try.prog.cellsOf 156 = 1 := by kernel_rfl
@[go_sem] theorem Try.kind157 : kindT Try.prog 157 = some none := by kernel_rfl
@[go_sem] theorem Try.cof157 : Try.prog.cellsOf 157 = 1 := by kernel_rfl
@[go_sem] theorem Try.kind158 : kindT Try.prog 158 = some none := by kernel_rfl
@[go_sem] theorem Try.cof158 : Try.prog.cellsOf 158 = 1 := by kernel_rfl
@[go_sem] theorem Try.kind159 : kindT Try.prog 159 = some none := by kernel_rfl
@[go_sem] theorem Try.cof159 : Try.prog.cellsOf 159 = 1 := by kernel_rfl
@[go_sem] theorem Try.kind160 : kindT Try.prog 160 = some none := by kernel_rfl
@[go_sem] theorem Try.elem160 : elemT Try.prog 160 = some 187 := by kernel_rfl
@[go_sem] theorem Try.info160 : infoT Try.prog 160 = some (1, 24, [.val (.slice none 0 0)]) := by kernel_rfl
@[go_sem] theorem Try.cof160 : Try.prog.cellsOf 160 = 1 := by kernel_rfl
theorem Try.und160 : Try.prog.underlying 160 = some (.slice 187) := by kernel_rfl
@[go_sem] theorem Try.kind161 : kindT Try.prog 161 = some none := by kernel_rfl
@[go_sem] theorem Try.cof161 : Try.prog.cellsOf 161 = 1 := by kernel_rfl
@[go_sem] theorem Try.kind162 : kindT Try.prog 162 = some none := by kernel_rfl
@[go_sem] theorem Try.cof162 : Try.prog.cellsOf 162 = 1 := by kernel_rfl
@[go_sem] theorem Try.kind163 : kindT Try.prog 163 = some none := by kernel_rfl
@[go_sem] theorem Try.cof163 : Try.prog.cellsOf 163 = 1 := by kernel_rfl
@[go_sem] theorem Try.kind164 : kindT Try.prog 164 = some none := by kernel_rfl
@[go_sem] theorem Try.cof164 : Try.prog.cellsOf 164 = 1 := by kernel_rfl
@[go_sem] theorem Try.kind165 : kindT Try.prog 165 = some (some 3) := by kernel_rfl
@[go_sem] theorem Try.elem165 : elemT Try.prog 165 = none := by kernel_rfl
@[go_sem] theorem Try.arr165 : arrT Try.prog 165 = some (3, 1, true) := by kernel_rfl
@[go_sem] theorem Try.pl165_0 : plT Try.prog 165 0 = some 0 := by kernel_rfl
@[go_sem] theorem Try.pl165_1 : plT Try.prog 165 1 = some 1 := by kernel_rfl
@[go_sem] theorem Try.pl165_2 : plT Try.prog 165 2 = some 2 := by kernel_rfl
@[go_sem] theorem Try.plk165 : plOk Try.prog 165 = true := by kernel_rfl
@[go_sem] theorem Try.info165 : infoT Try.prog 165 = some (3, 24, [.val (.int .i64 0), .val (.int .i64 0), .val (.int .i64 0)]) := by kernel_rfl
@[go_sem] theorem Try.cof165 : Try.prog.cellsOf 165 = 3 := by kernel_rfl
@[go_sem] theorem Try.kind166 : kindT Try.prog 166 = some (some 3) := by kernel_rfl
@[go_sem] theorem Try.elem166 : elemT Try.prog 166 = none := by kernel_rfl
@[go_sem] theorem Try.arr166 : arrT Try.prog 166 = some (3, 1, true) := by kernel_rfl
@[go_sem] theorem Try.pl166_0 : plT Try.prog 166 0 = some 0 := by kernel_rfl
@[go_sem] theorem Try.pl166_1 : plT Try.prog 166 1 = some 1 := by kernel_rfl
@[go_sem] theorem Try.pl166_2 : plT Try.prog 166 2 = some 2 := by kernel_rfl
@[go_sem] theorem Try.plk166 : plOk Try.prog 166 = true := by kernel_rfl
@[go_sem] theorem Try.info166 : infoT Try.prog 166 = some (3, 24, [.val (.int .i64 0), .val (.int .i64 0), .val (.int .i64 0)]) := by kernel_rfl
@[go_sem] theorem Try.cof166 : Try.prog.cellsOf 166 = 3 := by kernel_rfl
@[go_sem] theorem Try.kind167 : kindT Try.prog 167 = some none := by kernel_rfl
@[go_sem] theorem Try.cof167 : Try.prog.cellsOf 167 = 1 := by kernel_rfl
@[go_sem] theorem Try.kind168 : kindT Try.prog 168 = some none := by kernel_rfl
@[go_sem] theorem Try.cof168 : Try.prog.cellsOf 168 = 1 := by kernel_rfl
@[go_sem] theorem Try.kind169 : kindT Try.prog 169 = some none := by kernel_rfl
@[go_sem] theorem Try.cof169 : Try.prog.cellsOf 169 = 1 := by kernel_rfl
@[go_sem] theorem Try.kind170 : kindT Try.prog 170 = some none := by kernel_rfl
@[go_sem] theorem Try.cof170 : Try.prog.cellsOf 170 = 1 := by kernel_rfl
@[go_sem] theorem Try.kind171 : kindT Try.prog 171 = some none := by kernel_rfl
@[go_sem] theorem Try.cof171 : Try.prog.cellsOf 171 = 1 := by kernel_rfl
@[go_sem] theorem Try.kind172 : kindT Try.prog 172 = some none := by kernel_rfl
@[go_sem] theorem Try.cof172 : Try.prog.cellsOf 172 = 1 := by kernel_rfl
@[go_sem] theorem Try.kind173 : kindT Try.prog 173 = some none := by kernel_rfl
@[go_sem] theorem Try.cof173 : Try.prog.cellsOf 173 = 1 := by kernel_rfl
@[go_sem] theorem Try.kind174 : kindT Try.prog 174 = some none := by kernel_rfl
@[go_sem] theorem Try.cof174 : Try.prog.cellsOf 174 = 1 := by kernel_rfl
@[go_sem] theorem Try.kind175 : kindT Try.prog 175 = some (some 3) := by kernel_rfl
@[go_sem] theorem Try.fld175_0 : fldT Try.prog 175 0 = some 0 := by kernel_rfl
@[go_sem] theorem Try.fl1175_0 : fld1T Try.prog 175 0 = some 0 := by kernel_rfl
@[go_sem] theorem Try.pl175_0 : plT Try.prog 175 0 = some 0 := by kernel_rfl
@[go_sem] theorem Try.fld175_1 : fldT Try.prog 175 1 = some 1 := by kernel_rfl
@[go_sem] theorem Try.fl1175_1 : fld1T Try.prog 175 1 = some 1 := by kernel_rfl
@[go_sem] theorem Try.pl175_1 : plT Try.prog 175 1 = some 1 := by kernel_rfl
@[go_sem] theorem Try.fld175_2 : fldT Try.prog 175 2 = some 2 := by kernel_rfl
@[go_sem] theorem Try.fl1175_2 : fld1T Try.prog 175 2 = some 2 := by kernel_rfl
@[go_sem] theorem Try.pl175_2 : plT Try.prog 175 2 = some 2 := by kernel_rfl
@[go_sem] theorem Try.plk175 : plOk Try.prog 175 = true := by kernel_rfl
@[go_sem] theorem Try.info175 : infoT Try.prog 175 = some (3, 40, [.val (.slice none 0 0), .val (.int .i64 0), .val (.int .u64 0)]) := by kernel_rfl
@[go_sem] theorem Try.cof175 : Try.prog.cellsOf 175 = 3 := by kernel_rfl
@[go_sem] theorem Try.kind176 : kindT Try.prog 176 = some (some 3) := by kernel_rfl
@[go_sem] theorem Try.fld176_0 : fldT Try.prog 176 0 = some 0 := by kernel_rfl
@[go_sem] theorem Try.fl1176_0 : fld1T Try.prog 176 0 = some 0 := by kernel_rfl
@[go_sem] theorem Try.pl176_0 : plT Try.prog 176 0 = some 0 := by kernel_rfl
@[go_sem] theorem Try.fld176_1 : fldT Try.prog 176 1 = some 1 := by kernel_rfl
@[go_sem] theorem Try.fl1176_1 : fld1T Try.prog 176 1 = some 1 := by kernel_rfl
@[go_sem] theorem Try.pl176_1 : plT Try.prog 176 1 = some 1 := by kernel_rfl
@[go_sem] theorem Try.fld176_2 : fldT Try.prog 176 2 = some 2 := by kernel_rfl
@[go_sem] theorem Try.fl1176_2 : fld1T Try.prog 176 2 = some 2 := by kernel_rfl
@[go_sem] theorem Try.pl176_2 : plT Try.prog 176 2 = some 2 := by kernel_rfl
@[go_sem] theorem Try.plk176 : plOk Try.prog 176 = true := by kernel_rfl
@[go_sem] theorem Try.info176 : infoT Try.prog 176 = some (3, 40, [.val (.slice none 0 0), .val (.int .i64 0), .val (.int .u64 0)]) := by kernel_rfl
@[go_sem] theorem Try.cof176 : Try.prog.cellsOf 176 = 3 := by kernel_rfl
@[go_sem] theorem Try.kind177 : kindT Try.prog 177 = some none := by kernel_rfl
@[go_sem] theorem Try.info177 : infoT Try.prog 177 = some (1, 8, [.val (.int .u64 0)]) := by kernel_rfl
@[go_sem] theorem Try.cof177 : Try.prog.cellsOf 177 = 1 := by kernel_rfl
@[go_sem] theorem Try.und177 : Try.prog.underlying 177 = some (.int .u64) := by kernel_rfl
@[go_sem] theorem Try.kind178 : kindT Try.prog 178 = some none := by kernel_rfl
@[go_sem] theorem Try.cof178 : Try.prog.cellsOf 178 = 1 := by kernel_rfl
@[go_sem] theorem Try.kind179 : kindT Try.prog 179 = some none := by kernel_rfl
@[go_sem] theorem Try.cof179 : Try.prog.cellsOf 179 = 1 := by kernel_rfl
@[go_sem] theorem Try.kind180 : kindT Try.prog 180 = some none := by kernel_rfl
@[go_sem] theorem Try.cof180 : Try.prog.cellsOf 180 = 1 := by kernel_rfl
@[go_sem] theorem Try.kind181 : kindT Try.prog 181 = some none := by kernel_rfl
@[go_sem] theorem Try.cof181 : Try.prog.cellsOf 181 = 1 := by kernel_rfl
@[go_sem] theorem Try.kind182 : kindT Try.prog 182 = some none := by kernel_rfl
@[go_sem] theorem Try.cof182 : Try.prog.cellsOf 182 = 1 := by kernel_rfl
@[go_sem] theorem Try.kind183 : kindT Try.prog 183 = some none := by kernel_rfl
@[go_sem] theorem Try.cof183 : Try.prog.cellsOf 183 = 1 := by kernel_rfl
@[go_sem] theorem Try.kind184 : kindT Try.prog 184 = some none := by kernel_rfl
@[go_sem] theorem Try.cof184 : Try.prog.cellsOf 184 = 1 := by kernel_rfl
@[go_sem] theorem Try.kind185 : kindT Try.prog 185 = some none := by kernel_rfl
@[go_sem] theorem Try.cof185 : Try.prog.cellsOf 185 = 1 := by kernel_rfl
@[go_sem] theorem Try.kind186 : kindT Try.prog 186 = some none := by kernel_rfl
@[go_sem] theorem Try.cof186 : Try.prog.cellsOf 186 = 1 := by kernel_rfl
@[go_sem] theorem Try.kind187 : kindT Try.prog 187 = some (some 2) := by kernel_rfl
@[go_sem] theorem Try.fld187_0 : fldT Try.prog 187 0 = some 0 := by kernel_rfl
@[go_sem] theorem Try.fl1187_0 : fld1T Try.prog 187 0 = some 0 := by kernel_rfl
@[go_sem] theorem Try.pl187_0 : plT Try.prog 187 0 = some 0 := by kernel_rfl
@[go_sem] theorem Try.fld187_1 : fldT Try.prog 187 1 = some 1 := by kernel_rfl
@[go_sem] theorem Try.fl1187_1 : fld1T Try.prog 187 1 = some 1 := by kernel_rfl
@[go_sem] theorem Try.pl187_1 : plT Try.prog 187 1 = some 1 := by kernel_rfl
@[go_sem] theorem Try.plk187 : plOk Try.prog 187 = true := by kernel_rfl
@[go_sem] theorem Try.info187 : infoT Try.prog 187 = some (2, 32, [.val (.int .i64 0), .val (.slice none 0 0)]) := by kernel_rfl
@[go_sem] theorem Try.cof187 : Try.prog.cellsOf 187 = 2 := by kernel_rfl
@[go_sem] theorem Try.kind188 : kindT Try.prog 188 = some none := by kernel_rfl
@[go_sem] theorem Try.cof188 : Try.prog.cellsOf 188 = 1 := by kernel_rfl
@[go_sem] theorem Try.kind189 : kindT Try.prog 189 = some none := by kernel_rfl
@[go_sem] theorem Try.cof189 : Try.prog.cellsOf 189 = 1 := by kernel_rfl
@[go_sem] theorem Try.kind190 : kindT Try.prog 190 = some none := by kernel_rfl
@[go_sem] theorem Try.cof190 : Try.prog.cellsOf 190 = 1 := by kernel_rfl
@[go_sem] theorem Try.kind191 : kindT Try.prog 191 = some none := by kernel_rfl
@[go_sem] theorem Try.cof191 : Try.prog.cellsOf 191 = 1 := by kernel_rfl
@[go_sem] theorem Try.kind192 : kindT Try.prog 192 = some none := by kernel_rfl
@[go_sem] theorem Try.cof192 : Try.prog.cellsOf 192 = 1 := by kernel_rfl
@[go_sem] theorem Try.kind193 : kindT Try.prog 193 = some none := by kernel_rfl
@[go_sem] theorem Try.cof193 : Try.prog.cellsOf 193 = 1 := by kernel_rfl
@[go_sem] theorem Try.kind194 : kindT Try.prog 194 = some none := by kernel_rfl
@[go_sem] theorem Try.cof194 : Try.prog.cellsOf 194 = 1 := by kernel_rfl
@[go_sem] theorem Try.kind195 : kindT Try.prog 195 = some none := by kernel_rfl
@[go_sem] theorem Try.cof195 : Try.prog.cellsOf 195 = 1 := by kernel_rfl
@[go_sem] theorem Try.kind196 : kindT Try.prog 196 = some none := by kernel_rfl
@[go_sem] theorem Try.cof196 : Try.prog.cellsOf 196 = 1 := by kernel_rfl
@[go_sem] theorem Try.kind197 : kindT Try.prog 197 = some none := by kernel_rfl
@[go_sem] theorem Try.cof197 : Try.prog.cellsOf 197 = 1 := by kernel_rfl
@[go_sem] theorem Try.kind198 : kindT Try.prog 198 = some none := by kernel_rfl
@[go_sem] theorem Try.info198 : infoT Try.prog 198 = some (1, 8, [.val (.int .i64 0)]) := by kernel_rfl
@[go_sem] theorem Try.cof198 : Try.prog.cellsOf 198 = 1 := by kernel_rfl
@[go_sem] theorem Try.und198 : Try.prog.underlying 198 = some (.int .i64) := by kernel_rfl
@[go_sem] theorem Try.kind200 : kindT Try.prog 200 = some none := by kernel_rfl
@[go_sem] theorem Try.cof200 : Try.prog.cellsOf 200 = 1 := by kernel_rfl
@[go_sem] theorem Try.kind201 : kindT Try.prog 201 = some none := by kernel_rfl
@[go_sem] theorem Try.cof201 : Try.prog.cellsOf 201 = 1 := by kernel_rfl
@[go_sem] theorem Try.kind202 : kindT Try.prog 202 = some none := by kernel_rfl
@[go_sem] theorem Try.cof202 : Try.prog.cellsOf 202 = 1 := by kernel_rfl
@[go_sem] theorem Try.kind204 : kindT Try.prog 204 = some none := by kernel_rfl
@[go_sem] theorem Try.cof204 : Try.prog.cellsOf 204 = 1 := by kernel_rfl
@[go_sem] theorem Try.kind205 : kindT Try.prog 205 = some none := by kernel_rfl
@[go_sem] theorem Try.cof205 : Try.prog.cellsOf 205 = 1 := by kernel_rfl
@[go_sem] theorem Try.kind206 : kindT Try.prog 206 = some none := by kernel_rfl
@[go_sem] theorem Try.info206 : infoT Try.prog 206 = some (1, 4, [.val (.int .u32 0)]) := by kernel_rfl
@[go_sem] theorem Try.cof206 : Try.prog.cellsOf 206 = 1 := by kernel_rfl
@[go_sem] theorem Try.und206 : Try.prog.underlying 206 = some (.int .u32) := by kernel_rfl
@[go_sem] theorem Try.kind207 : kindT Try.prog 207 = some none := by kernel_rfl
@[go_sem] theorem Try.cof207 : Try.prog.cellsOf 207 = 1 := by kernel_rfl
@[go_sem] theorem Try.kind208 : kindT Try.prog 208 = some none := by kernel_rfl
@[go_sem] theorem Try.info208 : infoT Try.prog 208 = some (1, 8, [.val (.int .u64 0)]) := by kernel_rfl
@[go_sem] theorem Try.cof208 : Try.prog.cellsOf 208 = 1 := by kernel_rfl
@[go_sem] theorem Try.und208 : Try.prog.underlying 208 = some (.int .u64) := by kernel_rfl
@[go_sem] theorem Try.kind209 : kindT Try.prog 209 = some none := by kernel_rfl
@[go_sem] theorem Try.cof209 : Try.prog.cellsOf 209 = 1 := by kernel_rfl
@[go_sem] theorem Try.kind210 : kindT Try.prog 210 = some none := by kernel_rfl
@[go_sem] theorem Try.cof210 : Try.prog.cellsOf 210 = 1 := by kernel_rfl
@[go_sem] theorem Try.kind211 : kindT Try.prog 211 = some none := by kernel_rfl
@[go_sem] theorem Try.cof211 : Try.prog.cellsOf 211 = 1 := by kernel_rfl
@[go_sem] theorem Try.kind212 : kindT Try.prog 212 = some none := by kernel_rfl
@[go_sem] theorem Try.elem212 : elemT Try.prog 212 = none := by kernel_rfl
@[go_sem] theorem Try.cof212 : Try.prog.cellsOf 212 = 1 := by kernel_rfl
@[go_sem] theorem Try.kind213 : kindT Try.prog 213 = some none := by kernel_rfl
@[go_sem] theorem Try.cof213 : Try.prog.cellsOf 213 = 1 := by kernel_rfl
@[go_sem] theorem Try.kind214 : kindT Try.prog 214 = some none := by kernel_rfl
@[go_sem] theorem Try.elem214 : elemT Try.prog 214 = none := by kernel_rfl
@[go_sem] theorem Try.cof214 : Try.prog.cellsOf 214 = 1 := by kernel_rfl
@[go_sem] theorem Try.kind216 : kindT Try.prog 216 = some none := by kernel_rfl
@[go_sem] theorem Try.cof216 : Try.prog.cellsOf 216 = 1 := by kernel_rfl
@[go_sem] theorem Try.kind217 : kindT Try.prog 217 = some none := by kernel_rfl
@[go_sem] theorem Try.cof217 : Try.prog.cellsOf 217 = 1 := by kernel_rfl
@[go_sem] theorem Try.kind218 : kindT Try.prog 218 = some (some 4) := by kernel_rfl
@[go_sem] theorem Try.fld218_0 : fldT Try.prog 218 0 = some 0 := by kernel_rfl
@[go_sem] theorem Try.fl1218_0 : fld1T Try.prog 218 0 = some 0 := by kernel_rfl
@[go_sem] theorem Try.pl218_0 : plT Try.prog 218 0 = some 0 := by kernel_rfl
@[go_sem] theorem Try.fld218_1 : fldT Try.prog 218 1 = some 1 := by kernel_rfl
@[go_sem] theorem Try.fl1218_1 : fld1T Try.prog 218 1 = some 1 := by kernel_rfl
@[go_sem] theorem Try.pl218_1 : plT Try.prog 218 1 = some 1 := by kernel_rfl
@[go_sem] theorem Try.fld218_2 : fldT Try.prog 218 2 = some 2 := by kernel_rfl
@[go_sem] theorem Try.fl1218_2 : fld1T Try.prog 218 2 = some 2 := by kernel_rfl
@[go_sem] theorem Try.pl218_2 : plT Try.prog 218 2 = some 2 := by kernel_rfl
@[go_sem] theorem Try.fld218_3 : fldT Try.prog 218 3 = some 3 := by kernel_rfl
@[go_sem] theorem Try.fl1218_3 : fld1T Try.prog 218 3 = some 3 := by kernel_rfl
@[go_sem] theorem Try.pl218_3 : plT Try.prog 218 3 = some 3 := by kernel_rfl
@[go_sem] theorem Try.plk218 : plOk Try.prog 218 = true := by kernel_rfl
@[go_sem] theorem Try.cof218 : Try.prog.cellsOf 218 = 4 := by kernel_rfl
@[go_sem] theorem Try.kind219 : kindT Try.prog 219 = some (some 4) := by kernel_rfl
@[go_sem] theorem Try.fld219_0 : fldT Try.prog 219 0 = some 0 := by kernel_rfl
@[go_sem] theorem Try.fl1219_0 : fld1T Try.prog 219 0 = some 0 := by kernel_rfl
@[go_sem] theorem Try.pl219_0 : plT Try.prog 219 0 = some 0 := by kernel_rfl
@[go_sem] theorem Try.fld219_1 : fldT Try.prog 219 1 = some 1 := by kernel_rfl
@[go_sem] theorem Try.fl1219_1 : fld1T Try.prog 219 1 = some 1 := by kernel_rfl
@[go_sem] theorem Try.pl219_1 : plT Try.prog 219 1 = some 1 := by kernel_rfl
@[go_sem] theorem Try.fld219_2 : fldT Try.prog 219 2 = some 2 := by kernel_rfl
@[go_sem] theorem Try.fl1219_2 : fld1T Try.prog 219 2 = some 2 := by kernel_rfl
@[go_sem] theorem Try.pl219_2 : plT Try.prog 219 2 = some 2 := by kernel_rfl
@[go_sem] theorem Try.fld219_3 : fldT Try.prog 219 3 = some 3 := by kernel_rfl
@[go_sem] theorem Try.fl1219_3 : fld1T Try.prog 219 3 = some 3 := by kernel_rfl
@[go_sem] theorem Try.pl219_3 : plT Try.prog 219 3 = some 3 := by kernel_rfl
@[go_sem] theorem Try.plk219 : plOk Try.prog 219 = true := by kernel_rfl
@[go_sem] theorem Try.cof219 : Try.prog.cellsOf 219 = 4 := by kernel_rfl
@[go_sem] theorem Try.kind220 : kindT Try.prog 220 = some (some 0) := by kernel_rfl
@[go_sem] theorem Try.elem220 : elemT Try.prog 220 = none := by kernel_rfl
@[go_sem] theorem Try.arr220 : arrT Try.prog 220 = some (0, 1, true) := by kernel_rfl
@[go_sem] theorem Try.plk220 : plOk Try.prog 220 = true := by kernel_rfl
@[go_sem] theorem Try.info220 : infoT Try.prog 220 = some (0, 0, []) := by kernel_rfl
@[go_sem] theorem Try.cof220 : Try.prog.cellsOf 220 = 0 := by kernel_rfl
@[go_sem] theorem Try.kind221 : kindT Try.prog 221 = some (some 0) := by kernel_rfl
@[go_sem] theorem Try.plk221 : plOk Try.prog 221 = true := by kernel_rfl
@[go_sem] theorem Try.info221 : infoT Try.prog 221 = some (0, 0, []) := by kernel_rfl
@[go_sem] theorem Try.cof221 : Try.prog.cellsOf 221 = 0 := by kernel_rfl
@[go_sem] theorem Try.kind222 : kindT Try.prog 222 = some (some 0) := by kernel_rfl
@[go_sem] theorem Try.plk222 : plOk Try.prog 222 = true := by kernel_rfl
@[go_sem] theorem Try.info222 : infoT Try.prog 222 = some (0, 0, []) := by kernel_rfl
@[go_sem] theorem Try.cof222 : Try.prog.cellsOf 222 = 0 := by kernel_rfl
@[go_sem] theorem Try.kind223 : kindT Try.prog 223 = some none := by kernel_rfl
@[go_sem] theorem Try.cof223 : Try.prog.cellsOf 223 = 1 := by kernel_rfl
@[go_sem] theorem Try.kind224 : kindT Try.prog 224 = some none := by kernel_rfl
@[go_sem] theorem Try.info224 : infoT Try.prog 224 = some (1, 1, [.val (.int .u8 0)]) := by kernel_rfl
@[go_sem] theorem Try.cof224 : Try.prog.cellsOf 224 = 1 := by kernel_rfl
@[go_sem] theorem Try.und224 : Try.prog.underlying 224 = some (.int .u8) := by kernel_rfl
@[go_sem] theorem Try.kind225 : kindT Try.prog 225 = some none := by kernel_rfl
@[go_sem] theorem Try.info225 : infoT Try.prog 225 = some (1, 1, [.val (.int .u8 0)]) := by kernel_rfl
@[go_sem] theorem Try.cof225 : Try.prog.cellsOf 225 = 1 := by kernel_rfl
@[go_sem] theorem Try.und225 : Try.prog.underlying 225 = some (.int .u8) := by kernel_rfl
@[go_sem] theorem Try.kind226 : kindT Try.prog 226 = some none := by kernel_rfl
@[go_sem] theorem Try.cof226 : Try.prog.cellsOf 226 = 1 := by kernel_rfl
@[go_sem] theorem Try.kind227 : kindT Try.prog 227 = some none := by kernel_rfl
@[go_sem] theorem Try.elem227 : elemT Try.prog 227 = none := by kernel_rfl
@[go_sem] theorem Try.cof227 : Try.prog.cellsOf 227 = 1 := by kernel_rfl
@[go_sem] theorem Try.kind228 : kindT Try.prog 228 = some none := by kernel_rfl
@[go_sem] theorem Try.info228 : infoT Try.prog 228 = some (1, 4, [.val (.int .i32 0)]) := by kernel_rfl
@[go_sem] theorem Try.cof228 : Try.prog.cellsOf 228 = 1 := by kernel_rfl
@[go_sem] theorem Try.und228 : Try.prog.underlying 228 = some (.int .i32) := by kernel_rfl
@[go_sem] theorem Try.kind229 : kindT Try.prog 229 = some none := by kernel_rfl
@[go_sem] theorem Try.info229 : infoT Try.prog 229 = some (1, 4, [.val (.int .i32 0)]) := by kernel_rfl
@[go_sem] theorem Try.cof229 : Try.prog.cellsOf 229 = 1 := by kernel_rfl
@[go_sem] theorem Try.und229 : Try.prog.underlying 229 = some (.int .i32) := by kernel_rfl
@[go_sem] theorem Try.kind230 : kindT Try.prog 230 = some (some 11) := by kernel_rfl
@[go_sem] theorem Try.fld230_0 : fldT Try.prog 230 0 = some 0 := by kernel_rfl
@[go_sem] theorem Try.fl1230_0 : fld1T Try.prog 230 0 = some 0 := by kernel_rfl
@[go_sem] theorem Try.pl230_0 : plT Try.prog 230 0 = some 0 := by kernel_rfl
@[go_sem] theorem Try.fld230_1 : fldT Try.prog 230 1 = some 1 := by kernel_rfl
@[go_sem] theorem Try.fl1230_1 : fld1T Try.prog 230 1 = some 1 := by kernel_rfl
@[go_sem] theorem Try.pl230_1 : plT Try.prog 230 1 = some 1 := by kernel_rfl
@[go_sem] theorem Try.fld230_2 : fldT Try.prog 230 2 = some 2 := by kernel_rfl
@[go_sem] theorem Try.fl1230_2 : fld1T Try.prog 230 2 = some 2 := by kernel_rfl
@[go_sem] theorem Try.pl230_2 : plT Try.prog 230 2 = some 2 := by kernel_rfl
@[go_sem] theorem Try.fld230_3 : fldT Try.prog 230 3 = some 3 := by kernel_rfl
@[go_sem] theorem Try.fl1230_3 : fld1T Try.prog 230 3 = some 3 := by kernel_rfl
@[go_sem] theorem Try.pl230_3 : plT Try.prog 230 3 = some 3 := by kernel_rfl
@[go_sem] theorem Try.fld230_4 : fldT Try.prog 230 4 = some 4 := by kernel_rfl
@[go_sem] theorem Try.fl1230_4 : fld1T Try.prog 230 4 = some 4 := by kernel_rfl
@[go_sem] theorem Try.pl230_4 : plT Try.prog 230 4 = some 4 := by kernel_rfl
@[go_sem] theorem Try.fld230_5 : fldT Try.prog 230 5 = some 5 := by kernel_rfl
@[go_sem] theorem Try.fl1230_5 : fld1T Try.prog 230 5 = some 5 := by kernel_rfl
@[go_sem] theorem Try.pl230_5 : plT Try.prog 230 5 = some 5 := by kernel_rfl
@[go_sem] theorem Try.fld230_6 : fldT Try.prog 230 6 = some 6 := by kernel_rfl
@[go_sem] theorem Try.fl1230_6 : fld1T Try.prog 230 6 = some 6 := by kernel_rfl
@[go_sem] theorem Try.pl230_6 : plT Try.prog 230 6 = some 6 := by kernel_rfl
@[go_sem] theorem Try.fld230_7 : fldT Try.prog 230 7 = some 7 := by kernel_rfl
@[go_sem] theorem Try.fl1230_7 : fld1T Try.prog 230 7 = some 7 := by kernel_rfl
@[go_sem] theorem Try.pl230_7 : plT Try.prog 230 7 = some 7 := by kernel_rfl
@[go_sem] theorem Try.fld230_8 : fldT Try.prog 230 8 = some 8 := by kernel_rfl
@[go_sem] theorem Try.fl1230_8 : fld1T Try.prog 230 8 = some 8 := by kernel_rfl
@[go_sem] theorem Try.pl230_8 : plT Try.prog 230 8 = some 8 := by kernel_rfl
@[go_sem] theorem Try.fld230_9 : fldT Try.prog 230 9 = some 9 := by kernel_rfl
@[go_sem] theorem Try.fl1230_9 : fld1T Try.prog 230 9 = some 9 := by kernel_rfl
@[go_sem] theorem Try.pl230_9 : plT Try.prog 230 9 = some 9 := by kernel_rfl
@[go_sem] theorem Try.fld230_10 : fldT Try.prog 230 10 = some 10 := by kernel_rfl
@[go_sem] theorem Try.fl1230_10 : fld1T Try.prog 230 10 = some 10 := by kernel_rfl
@[go_sem] theorem Try.pl230_10 : plT Try.prog 230 10 = some 10 := by kernel_rfl
@[go_sem] theorem Try.plk230 : plOk Try.prog 230 = true := by kernel_rfl
@[go_sem] theorem Try.cof230 : Try.prog.cellsOf 230 = 11 := by kernel_rfl
@[go_sem] theorem Try.kind231 : kindT Try.prog 231 = some (some 11) := by kernel_rfl
@[go_sem] theorem Try.fld231_0 : fldT Try.prog 231 0 = some 0 := by kernel_rfl
@[go_sem] theorem Try.fl1231_0 : fld1T Try.prog 231 0 = some 0 := by kernel_rfl
@[go_sem] theorem Try.pl231_0 : plT Try.prog 231 0 = some 0 := by kernel_rfl
@[go_sem] theorem Try.fld231_1 : fldT Try.prog 231 1 = some 1 := by kernel_rfl
@[go_sem] theorem Try.fl1231_1 : fld1T Try.prog 231 1 = some 1 := by kernel_rfl
@[go_sem] theorem Try.pl231_1 : plT Try.prog 231 1 = some 1 := by kernel_rfl
@[go_sem] theorem Try.fld231_2 : fldT Try.prog 231 2 = some 2 := by kernel_rfl
@[go_sem] theorem Try.fl1231_2 : fld1T Try.prog 231 2 = some 2 := by kernel_rfl
@[go_sem] theorem Try.pl231_2 : plT Try.prog 231 2 = some 2 := by kernel_rfl
@[go_sem] theorem Try.fld231_3 : fldT Try.prog 231 3 = some 3 := by kernel_rfl
@[go_sem] theorem Try.fl1231_3 : fld1T Try.prog 231 3 = some 3 := by kernel_rfl
@[go_sem] theorem Try.pl231_3 : plT Try.prog 231 3 = some 3 := by kernel_rfl
@[go_sem] theorem Try.fld231_4 : fldT Try.prog 231 4 = some 4 := by kernel_rfl
@[go_sem] theorem Try.fl1231_4 : fld1T Try.prog 231 4 = some 4 := by kernel_rfl
@[go_sem] theorem Try.pl231_4 : plT Try.prog 231 4 = some 4 := by kernel_rfl
@[go_sem] theorem Try.fld231_5 : fldT Try.prog 231 5 = some 5 := by kernel_rfl
@[go_sem] theorem Try.fl1231_5 : fld1T Try.prog 231 5 = some 5 := by kernel_rfl
@[go_sem] theorem Try.pl231_5 : plT Try.prog 231 5 = some 5 := by kernel_rfl
@[go_sem] theorem Try.fld231_6 : fldT Try.prog 231 6 = some 6 := by kernel_rfl
@[go_sem] theorem Try.fl1231_6 : fld1T Try.prog 231 6 = some 6 := by kernel_rfl
@[go_sem] theorem Try.pl231_6 : plT Try.prog 231 6 = some 6 := by kernel_rfl
@[go_sem] theorem Try.fld231_7 : fldT Try.prog 231 7 = some 7 := by kernel_rfl
@[go_sem] theorem Try.fl1231_7 : fld1T Try.prog 231 7 = some 7 := by kernel_rfl
@[go_sem] theorem Try.pl231_7 : plT Try.prog 231 7 = some 7 := by kernel_rfl
@[go_sem] theorem Try.fld231_8 : fldT Try.prog 231 8 = some 8 := by kernel_rfl
@[go_sem] theorem Try.fl1231_8 : fld1T Try.prog 231 8 = some 8 := by kernel_rfl
@[go_sem] theorem Try.pl231_8 : plT Try.prog 231 8 = some 8 := by kernel_rfl
@[go_sem] theorem Try.fld231_9 : fldT Try.prog 231 9 = some 9 := by kernel_rfl
@[go_sem] theorem Try.fl1231_9 : fld1T Try.prog 231 9 = some 9 := by kernel_rfl
@[go_sem] theorem Try.pl231_9 : plT Try.prog 231 9 = some 9 := by kernel_rfl
@[go_sem] theorem Try.fld231_10 : fldT Try.prog 231 10 = some 10 := by kernel_rfl
@[go_sem] theorem Try.fl1231_10 : fld1T Try.prog 231 10 = some 10 := by kernel_rfl
@[go_sem] theorem Try.pl231_10 : plT Try.prog 231 10 = some 10 := by kernel_rfl
@[go_sem] theorem Try.plk231 : plOk Try.prog 231 = true := by kernel_rfl
@[go_sem] theorem Try.cof231 : Try.prog.cellsOf 231 = 11 := by kernel_rfl
@[go_sem] theorem Try.kind232 : kindT Try.prog 232 = some none := by kernel_rfl
@[go_sem] theorem Try.cof232 : Try.prog.cellsOf 232 = 1 := by kernel_rfl
@[go_sem] theorem Try.kind233 : kindT Try.prog 233 = some none := by kernel_rfl
@[go_sem] theorem Try.cof233 : Try.prog.cellsOf 233 = 1 := by kernel_rfl
end Go.Proofs
