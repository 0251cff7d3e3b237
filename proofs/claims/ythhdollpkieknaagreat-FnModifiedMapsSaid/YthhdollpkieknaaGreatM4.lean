/- Texts of the own layer and contracts, part 4: Tab Srt. -/
import Derived.Test.YthhdollpkieknaaGreatProg
import Derived.KernelRfl
import Derived.Shelf.SlSortCmp.NoneTotal
import Derived.Test.YthhdollpkieknaaGreatM3
set_option linter.unusedSectionVars false
set_option linter.unusedVariables false
set_option linter.unusedSimpArgs false
set_option maxHeartbeats 4000000
set_option maxRecDepth 100000
/- What the loaded program says of its types. Written by a program (gentab.py). -/
namespace Go.Proofs
open Go.Abs
instance Tryz.drawK:DrawK:=⟨0⟩
theorem Tryz.mixed:Tryz.prog.follows .mixedOrders=true:=by kernel_rfl
@[go_sem] theorem Tryz.g0:zaj Tryz.prog 2=some none/\zar Tryz.prog 2=some (1,8,[.val (.int .i64 0)])/\Tryz.prog.cellsOf 2=1/\Tryz.prog.underlying 2=some (.int .i64)/\zaj Tryz.prog 3=some none/\zar Tryz.prog 3=some (1,8,[.val (.int .i64 0)])/\Tryz.prog.cellsOf 3=1/\Tryz.prog.underlying 3=some (.int .i64)/\zaj Tryz.prog 4=some none/\zl0 Tryz.prog 4=true/\zar Tryz.prog 4=some (1,1,[.val (.bool false)])/\Tryz.prog.cellsOf 4=1/\zaj Tryz.prog 5=some none/\zar Tryz.prog 5=some (1,1,[.val (.int .u8 0)])/\Tryz.prog.cellsOf 5=1/\Tryz.prog.underlying 5=some (.int .u8)/\zaj Tryz.prog 9=some none/\zaE Tryz.prog 9=none/\zar Tryz.prog 9=some (1,16,[.val (.string ⟨#[]⟩)])/\Tryz.prog.cellsOf 9=1:=by and_intros <;> kernel_rfl
theorem Tryz.und9:Tryz.prog.underlying 9=some (.string):=by kernel_rfl
@[go_sem] theorem Tryz.g1:zaj Tryz.prog 12=some none/\zar Tryz.prog 12=some (1,8,[.val (.int .u64 0)])/\Tryz.prog.cellsOf 12=1/\Tryz.prog.underlying 12=some (.int .u64)/\zaj Tryz.prog 15=some none/\zaE Tryz.prog 15=none/\Tryz.prog.cellsOf 15=1/\zaj Tryz.prog 16=some none/\zaE Tryz.prog 16=none/\Tryz.prog.cellsOf 16=1/\zaj Tryz.prog 17=some none/\zaE Tryz.prog 17=none/\Tryz.prog.cellsOf 17=1/\zaj Tryz.prog 21=some none/\zar Tryz.prog 21=some (1,4,[.val (.int .i32 0)])/\Tryz.prog.cellsOf 21=1/\Tryz.prog.underlying 21=some (.int .i32)/\zaj Tryz.prog 22=some none/\zaE Tryz.prog 22=some 5/\zar Tryz.prog 22=some (1,24,[.val (.slice none 0 0)])/\Tryz.prog.cellsOf 22=1:=by and_intros <;> kernel_rfl
theorem Tryz.und22:Tryz.prog.underlying 22=some (.slice 5):=by kernel_rfl
@[go_sem] theorem Tryz.g2:zaj Tryz.prog 24=some none/\zaE Tryz.prog 24=some 25/\zar Tryz.prog 24=some (1,24,[.val (.slice none 0 0)])/\Tryz.prog.cellsOf 24=1:=by and_intros <;> kernel_rfl
theorem Tryz.und24:Tryz.prog.underlying 24=some (.slice 25):=by kernel_rfl
@[go_sem] theorem Tryz.g3:zaj Tryz.prog 25=some none/\zaE Tryz.prog 25=some 2:=by and_intros <;> kernel_rfl
@[go_sem] theorem Tryz.info25:zar Tryz.prog 25=some (1,24,[.val (.slice none 0 0)]):=by kernel_rfl
@[go_sem] theorem Tryz.g4:Tryz.prog.cellsOf 25=1:=by kernel_rfl
theorem Tryz.und25:Tryz.prog.underlying 25=some (.slice 2):=by kernel_rfl
@[go_sem] theorem Tryz.g5:zaj Tryz.prog 26=some (some 2)/\fldT Tryz.prog 26 0=some 0/\zat Tryz.prog 26 0=some 0/\plT Tryz.prog 26 0=some 0/\fldT Tryz.prog 26 1=some 1/\zat Tryz.prog 26 1=some 1/\plT Tryz.prog 26 1=some 1/\plOk Tryz.prog 26=true/\zar Tryz.prog 26=some (2,48,[.val (.slice none 0 0),.val (.slice none 0 0)])/\Tryz.prog.cellsOf 26=2/\zaj Tryz.prog 27=some (some 2)/\fldT Tryz.prog 27 0=some 0/\zat Tryz.prog 27 0=some 0/\plT Tryz.prog 27 0=some 0/\fldT Tryz.prog 27 1=some 1/\zat Tryz.prog 27 1=some 1/\plT Tryz.prog 27 1=some 1/\plOk Tryz.prog 27=true/\zar Tryz.prog 27=some (2,48,[.val (.slice none 0 0),.val (.slice none 0 0)])/\Tryz.prog.cellsOf 27=2/\zaj Tryz.prog 28=some none/\zaE Tryz.prog 28=some 63/\zar Tryz.prog 28=some (1,24,[.val (.slice none 0 0)])/\Tryz.prog.cellsOf 28=1:=by and_intros <;> kernel_rfl
theorem Tryz.und28:Tryz.prog.underlying 28=some (.slice 63):=by kernel_rfl
@[go_sem] theorem Tryz.g6:zaj Tryz.prog 29=some (some 2)/\fldT Tryz.prog 29 0=some 0/\zat Tryz.prog 29 0=some 0/\plT Tryz.prog 29 0=some 0/\fldT Tryz.prog 29 1=some 1/\zat Tryz.prog 29 1=some 1/\plT Tryz.prog 29 1=some 1/\plOk Tryz.prog 29=true/\zar Tryz.prog 29=some (2,32,[.val (.int .i64 0),.val (.slice none 0 0)])/\Tryz.prog.cellsOf 29=2/\zaj Tryz.prog 30=some (some 2)/\fldT Tryz.prog 30 0=some 0/\zat Tryz.prog 30 0=some 0/\plT Tryz.prog 30 0=some 0/\fldT Tryz.prog 30 1=some 1/\zat Tryz.prog 30 1=some 1/\plT Tryz.prog 30 1=some 1/\plOk Tryz.prog 30=true/\zar Tryz.prog 30=some (2,32,[.val (.int .i64 0),.val (.slice none 0 0)])/\Tryz.prog.cellsOf 30=2/\zaj Tryz.prog 56=some none/\zaE Tryz.prog 56=none/\Tryz.prog.cellsOf 56=1/\zaj Tryz.prog 58=some none/\zar Tryz.prog 58=some (1,8,[.val (.int .u64 0)])/\Tryz.prog.cellsOf 58=1/\Tryz.prog.underlying 58=some (.int .u64)/\zaj Tryz.prog 61=some (some 2)/\fldT Tryz.prog 61 0=some 0/\zat Tryz.prog 61 0=some 0/\plT Tryz.prog 61 0=some 0/\fldT Tryz.prog 61 1=some 1:=by and_intros <;> kernel_rfl
@[go_sem] theorem Tryz.g7:zat Tryz.prog 61 1=some 1/\plT Tryz.prog 61 1=some 1/\plOk Tryz.prog 61=true/\zar Tryz.prog 61=some (2,32,[.val (.int .i64 0),.val (.slice none 0 0)])/\Tryz.prog.cellsOf 61=2/\zaj Tryz.prog 62=some (some 2)/\fldT Tryz.prog 62 0=some 0/\zat Tryz.prog 62 0=some 0/\plT Tryz.prog 62 0=some 0/\fldT Tryz.prog 62 1=some 1/\zat Tryz.prog 62 1=some 1/\plT Tryz.prog 62 1=some 1/\plOk Tryz.prog 62=true/\zar Tryz.prog 62=some (2,32,[.val (.int .i64 0),.val (.slice none 0 0)])/\Tryz.prog.cellsOf 62=2/\zaj Tryz.prog 63=some none/\zaE Tryz.prog 63=some 62/\zar Tryz.prog 63=some (1,24,[.val (.slice none 0 0)])/\Tryz.prog.cellsOf 63=1:=by and_intros <;> kernel_rfl
theorem Tryz.und63:Tryz.prog.underlying 63=some (.slice 62):=by kernel_rfl
@[go_sem] theorem Tryz.g8:zaj Tryz.prog 70=some none/\Tryz.prog.cellsOf 70=1/\zaj Tryz.prog 73=some none/\zaE Tryz.prog 73=none/\Tryz.prog.cellsOf 73=1/\zaj Tryz.prog 79=some none/\zaE Tryz.prog 79=some 120/\zar Tryz.prog 79=some (1,24,[.val (.slice none 0 0)])/\Tryz.prog.cellsOf 79=1:=by and_intros <;> kernel_rfl
theorem Tryz.und79:Tryz.prog.underlying 79=some (.slice 120):=by kernel_rfl
@[go_sem] theorem Tryz.g9:zaj Tryz.prog 86=some none/\zaE Tryz.prog 86=some 144/\zar Tryz.prog 86=some (1,24,[.val (.slice none 0 0)])/\Tryz.prog.cellsOf 86=1:=by and_intros <;> kernel_rfl
theorem Tryz.und86:Tryz.prog.underlying 86=some (.slice 144):=by kernel_rfl
@[go_sem] theorem Tryz.g10:zaj Tryz.prog 87=some (some 2)/\fldT Tryz.prog 87 0=some 0/\zat Tryz.prog 87 0=some 0/\plT Tryz.prog 87 0=some 0/\fldT Tryz.prog 87 1=some 1/\zat Tryz.prog 87 1=some 1/\plT Tryz.prog 87 1=some 1/\plOk Tryz.prog 87=true/\zar Tryz.prog 87=some (2,48,[.val (.slice none 0 0),.val (.slice none 0 0)])/\Tryz.prog.cellsOf 87=2/\zaj Tryz.prog 88=some (some 2)/\fldT Tryz.prog 88 0=some 0/\zat Tryz.prog 88 0=some 0/\plT Tryz.prog 88 0=some 0/\fldT Tryz.prog 88 1=some 1/\zat Tryz.prog 88 1=some 1/\plT Tryz.prog 88 1=some 1/\plOk Tryz.prog 88=true/\zar Tryz.prog 88=some (2,48,[.val (.slice none 0 0),.val (.slice none 0 0)])/\Tryz.prog.cellsOf 88=2/\zaj Tryz.prog 103=some none/\Tryz.prog.cellsOf 103=1/\zaj Tryz.prog 109=some none/\zaE Tryz.prog 109=some 165/\zar Tryz.prog 109=some (1,24,[.val (.slice none 0 0)])/\Tryz.prog.cellsOf 109=1:=by and_intros <;> kernel_rfl
theorem Tryz.und109:Tryz.prog.underlying 109=some (.slice 165):=by kernel_rfl
@[go_sem] theorem Tryz.g11:zaj Tryz.prog 116=some (some 3)/\fldT Tryz.prog 116 0=some 0/\zat Tryz.prog 116 0=some 0/\plT Tryz.prog 116 0=some 0/\fldT Tryz.prog 116 1=some 1/\zat Tryz.prog 116 1=some 1/\plT Tryz.prog 116 1=some 1/\fldT Tryz.prog 116 2=some 2/\zat Tryz.prog 116 2=some 2/\plT Tryz.prog 116 2=some 2/\plOk Tryz.prog 116=true/\zar Tryz.prog 116=some (3,40,[.val (.slice none 0 0),.val (.int .i64 0),.val (.int .u64 0)])/\Tryz.prog.cellsOf 116=3/\zaj Tryz.prog 117=some (some 3)/\fldT Tryz.prog 117 0=some 0/\zat Tryz.prog 117 0=some 0/\plT Tryz.prog 117 0=some 0/\fldT Tryz.prog 117 1=some 1/\zat Tryz.prog 117 1=some 1/\plT Tryz.prog 117 1=some 1/\fldT Tryz.prog 117 2=some 2/\zat Tryz.prog 117 2=some 2/\plT Tryz.prog 117 2=some 2/\plOk Tryz.prog 117=true/\zar Tryz.prog 117=some (3,40,[.val (.slice none 0 0),.val (.int .i64 0),.val (.int .u64 0)])/\Tryz.prog.cellsOf 117=3/\zaj Tryz.prog 119=some none/\zaE Tryz.prog 119=none/\mapT Tryz.prog 119=true/\zkP Tryz.prog 119=true/\zar Tryz.prog 119=some (1,8,[.val (.map none)])/\Tryz.prog.cellsOf 119=1:=by and_intros <;> kernel_rfl
@[go_sem] theorem Tryz.g12:zaj Tryz.prog 120=some none/\zaE Tryz.prog 120=none/\mapT Tryz.prog 120=true/\zkP Tryz.prog 120=true/\zar Tryz.prog 120=some (1,8,[.val (.map none)])/\Tryz.prog.cellsOf 120=1/\zaj Tryz.prog 126=some none/\Tryz.prog.cellsOf 126=1/\zaj Tryz.prog 136=some none/\zaE Tryz.prog 136=some 24/\zar Tryz.prog 136=some (1,24,[.val (.slice none 0 0)])/\Tryz.prog.cellsOf 136=1:=by and_intros <;> kernel_rfl
theorem Tryz.und136:Tryz.prog.underlying 136=some (.slice 24):=by kernel_rfl
@[go_sem] theorem Tryz.g13:zaj Tryz.prog 144=some none/\zaE Tryz.prog 144=some 151/\zar Tryz.prog 144=some (1,24,[.val (.slice none 0 0)])/\Tryz.prog.cellsOf 144=1:=by and_intros <;> kernel_rfl
theorem Tryz.und144:Tryz.prog.underlying 144=some (.slice 151):=by kernel_rfl
@[go_sem] theorem Tryz.g14:zaj Tryz.prog 145=some none/\zaE Tryz.prog 145=some 148/\zar Tryz.prog 145=some (1,24,[.val (.slice none 0 0)])/\Tryz.prog.cellsOf 145=1:=by and_intros <;> kernel_rfl
theorem Tryz.und145:Tryz.prog.underlying 145=some (.slice 148):=by kernel_rfl
@[go_sem] theorem Tryz.g15:zaj Tryz.prog 147=some (some 3)/\fldT Tryz.prog 147 0=some 0/\zat Tryz.prog 147 0=some 0/\plT Tryz.prog 147 0=some 0/\fldT Tryz.prog 147 1=some 1/\zat Tryz.prog 147 1=some 1/\plT Tryz.prog 147 1=some 1/\fldT Tryz.prog 147 2=some 2/\zat Tryz.prog 147 2=some 2/\plT Tryz.prog 147 2=some 2/\plOk Tryz.prog 147=true/\zar Tryz.prog 147=some (3,56,[.val (.slice none 0 0),.val (.slice none 0 0),.val (.int .i64 0)])/\Tryz.prog.cellsOf 147=3/\zaj Tryz.prog 148=some (some 3)/\fldT Tryz.prog 148 0=some 0/\zat Tryz.prog 148 0=some 0/\plT Tryz.prog 148 0=some 0/\fldT Tryz.prog 148 1=some 1/\zat Tryz.prog 148 1=some 1/\plT Tryz.prog 148 1=some 1/\fldT Tryz.prog 148 2=some 2/\zat Tryz.prog 148 2=some 2/\plT Tryz.prog 148 2=some 2/\plOk Tryz.prog 148=true/\zar Tryz.prog 148=some (3,56,[.val (.slice none 0 0),.val (.slice none 0 0),.val (.int .i64 0)])/\Tryz.prog.cellsOf 148=3/\zaj Tryz.prog 149=some none/\zaE Tryz.prog 149=some 3/\zar Tryz.prog 149=some (1,24,[.val (.slice none 0 0)])/\Tryz.prog.cellsOf 149=1:=by and_intros <;> kernel_rfl
theorem Tryz.und149:Tryz.prog.underlying 149=some (.slice 3):=by kernel_rfl
@[go_sem] theorem Tryz.g16:zaj Tryz.prog 150=some (some 3)/\fldT Tryz.prog 150 0=some 0/\zat Tryz.prog 150 0=some 0/\plT Tryz.prog 150 0=some 0/\fldT Tryz.prog 150 1=some 1/\zat Tryz.prog 150 1=some 1/\plT Tryz.prog 150 1=some 1/\fldT Tryz.prog 150 2=some 2/\zat Tryz.prog 150 2=some 2/\plT Tryz.prog 150 2=some 2/\plOk Tryz.prog 150=true/\zar Tryz.prog 150=some (3,40,[.val (.int .i64 0),.val (.slice none 0 0),.val (.int .i64 0)])/\Tryz.prog.cellsOf 150=3/\zaj Tryz.prog 151=some (some 3)/\fldT Tryz.prog 151 0=some 0/\zat Tryz.prog 151 0=some 0/\plT Tryz.prog 151 0=some 0/\fldT Tryz.prog 151 1=some 1/\zat Tryz.prog 151 1=some 1/\plT Tryz.prog 151 1=some 1/\fldT Tryz.prog 151 2=some 2/\zat Tryz.prog 151 2=some 2/\plT Tryz.prog 151 2=some 2/\plOk Tryz.prog 151=true/\zar Tryz.prog 151=some (3,40,[.val (.int .i64 0),.val (.slice none 0 0),.val (.int .i64 0)])/\Tryz.prog.cellsOf 151=3/\zaj Tryz.prog 155=some none/\Tryz.prog.cellsOf 155=1/\zaj Tryz.prog 161=some (some 3)/\fldT Tryz.prog 161 0=some 0/\zat Tryz.prog 161 0=some 0/\plT Tryz.prog 161 0=some 0:=by and_intros <;> kernel_rfl
@[go_sem] theorem Tryz.g17:fldT Tryz.prog 161 1=some 1/\zat Tryz.prog 161 1=some 1/\plT Tryz.prog 161 1=some 1/\fldT Tryz.prog 161 2=some 2/\zat Tryz.prog 161 2=some 2/\plT Tryz.prog 161 2=some 2/\plOk Tryz.prog 161=true/\zar Tryz.prog 161=some (3,40,[.val (.slice none 0 0),.val (.int .i64 0),.val (.int .u64 0)])/\Tryz.prog.cellsOf 161=3/\zaj Tryz.prog 162=some (some 3)/\fldT Tryz.prog 162 0=some 0/\zat Tryz.prog 162 0=some 0/\plT Tryz.prog 162 0=some 0/\fldT Tryz.prog 162 1=some 1/\zat Tryz.prog 162 1=some 1/\plT Tryz.prog 162 1=some 1/\fldT Tryz.prog 162 2=some 2/\zat Tryz.prog 162 2=some 2/\plT Tryz.prog 162 2=some 2/\plOk Tryz.prog 162=true/\zar Tryz.prog 162=some (3,40,[.val (.slice none 0 0),.val (.int .i64 0),.val (.int .u64 0)])/\Tryz.prog.cellsOf 162=3/\zaj Tryz.prog 165=some none/\zaE Tryz.prog 165=some 167/\zar Tryz.prog 165=some (1,24,[.val (.slice none 0 0)])/\Tryz.prog.cellsOf 165=1:=by and_intros <;> kernel_rfl
theorem Tryz.und165:Tryz.prog.underlying 165=some (.slice 167):=by kernel_rfl
@[go_sem] theorem Tryz.g18:zaj Tryz.prog 166=some (some 3)/\fldT Tryz.prog 166 0=some 0/\zat Tryz.prog 166 0=some 0/\plT Tryz.prog 166 0=some 0/\fldT Tryz.prog 166 1=some 1/\zat Tryz.prog 166 1=some 1/\plT Tryz.prog 166 1=some 1/\fldT Tryz.prog 166 2=some 2/\zat Tryz.prog 166 2=some 2/\plT Tryz.prog 166 2=some 2/\plOk Tryz.prog 166=true/\zar Tryz.prog 166=some (3,40,[.val (.int .i64 0),.val (.slice none 0 0),.val (.int .i64 0)])/\Tryz.prog.cellsOf 166=3/\zaj Tryz.prog 167=some (some 3)/\fldT Tryz.prog 167 0=some 0/\zat Tryz.prog 167 0=some 0/\plT Tryz.prog 167 0=some 0/\fldT Tryz.prog 167 1=some 1/\zat Tryz.prog 167 1=some 1/\plT Tryz.prog 167 1=some 1/\fldT Tryz.prog 167 2=some 2/\zat Tryz.prog 167 2=some 2/\plT Tryz.prog 167 2=some 2/\plOk Tryz.prog 167=true/\zar Tryz.prog 167=some (3,40,[.val (.int .i64 0),.val (.slice none 0 0),.val (.int .i64 0)])/\Tryz.prog.cellsOf 167=3/\zaj Tryz.prog 169=some none/\zaE Tryz.prog 169=some 172/\zar Tryz.prog 169=some (1,24,[.val (.slice none 0 0)])/\Tryz.prog.cellsOf 169=1:=by and_intros <;> kernel_rfl
theorem Tryz.und169:Tryz.prog.underlying 169=some (.slice 172):=by kernel_rfl
@[go_sem] theorem Tryz.g19:zaj Tryz.prog 171=some (some 3)/\fldT Tryz.prog 171 0=some 0/\zat Tryz.prog 171 0=some 0/\plT Tryz.prog 171 0=some 0/\fldT Tryz.prog 171 1=some 1/\zat Tryz.prog 171 1=some 1/\plT Tryz.prog 171 1=some 1/\fldT Tryz.prog 171 2=some 2/\zat Tryz.prog 171 2=some 2/\plT Tryz.prog 171 2=some 2/\plOk Tryz.prog 171=true/\zar Tryz.prog 171=some (3,56,[.val (.slice none 0 0),.val (.slice none 0 0),.val (.int .i64 0)])/\Tryz.prog.cellsOf 171=3/\zaj Tryz.prog 172=some (some 3)/\fldT Tryz.prog 172 0=some 0/\zat Tryz.prog 172 0=some 0/\plT Tryz.prog 172 0=some 0/\fldT Tryz.prog 172 1=some 1/\zat Tryz.prog 172 1=some 1/\plT Tryz.prog 172 1=some 1/\fldT Tryz.prog 172 2=some 2/\zat Tryz.prog 172 2=some 2/\plT Tryz.prog 172 2=some 2/\plOk Tryz.prog 172=true/\zar Tryz.prog 172=some (3,56,[.val (.slice none 0 0),.val (.slice none 0 0),.val (.int .i64 0)])/\Tryz.prog.cellsOf 172=3/\zaj Tryz.prog 180=some none/\Tryz.prog.cellsOf 180=1/\zaj Tryz.prog 182=some none/\zar Tryz.prog 182=some (1,8,[.val (.int .u64 0)])/\Tryz.prog.cellsOf 182=1/\Tryz.prog.underlying 182=some (.int .u64):=by and_intros <;> kernel_rfl
@[go_sem] theorem Tryz.g20:zaj Tryz.prog 183=some (some 3)/\zaE Tryz.prog 183=none/\arrT Tryz.prog 183=some (3,1,true)/\plT Tryz.prog 183 0=some 0/\plT Tryz.prog 183 1=some 1/\plT Tryz.prog 183 2=some 2/\plOk Tryz.prog 183=true/\zar Tryz.prog 183=some (3,24,[.val (.int .i64 0),.val (.int .i64 0),.val (.int .i64 0)])/\Tryz.prog.cellsOf 183=3/\zaj Tryz.prog 184=some (some 3)/\zaE Tryz.prog 184=none/\arrT Tryz.prog 184=some (3,1,true)/\plT Tryz.prog 184 0=some 0/\plT Tryz.prog 184 1=some 1/\plT Tryz.prog 184 2=some 2/\plOk Tryz.prog 184=true/\zar Tryz.prog 184=some (3,24,[.val (.int .i64 0),.val (.int .i64 0),.val (.int .i64 0)])/\Tryz.prog.cellsOf 184=3/\zaj Tryz.prog 188=some none/\zaE Tryz.prog 188=some 218/\zar Tryz.prog 188=some (1,24,[.val (.slice none 0 0)])/\Tryz.prog.cellsOf 188=1:=by and_intros <;> kernel_rfl
theorem Tryz.und188:Tryz.prog.underlying 188=some (.slice 218):=by kernel_rfl
@[go_sem] theorem Tryz.g21:zaj Tryz.prog 194=some none/\zaE Tryz.prog 194=some 198/\zar Tryz.prog 194=some (1,24,[.val (.slice none 0 0)])/\Tryz.prog.cellsOf 194=1:=by and_intros <;> kernel_rfl
theorem Tryz.und194:Tryz.prog.underlying 194=some (.slice 198):=by kernel_rfl
@[go_sem] theorem Tryz.g22:zaj Tryz.prog 197=some (some 3)/\fldT Tryz.prog 197 0=some 0/\zat Tryz.prog 197 0=some 0/\plT Tryz.prog 197 0=some 0/\fldT Tryz.prog 197 1=some 1/\zat Tryz.prog 197 1=some 1/\plT Tryz.prog 197 1=some 1/\fldT Tryz.prog 197 2=some 2/\zat Tryz.prog 197 2=some 2/\plT Tryz.prog 197 2=some 2/\plOk Tryz.prog 197=true/\zar Tryz.prog 197=some (3,56,[.val (.slice none 0 0),.val (.slice none 0 0),.val (.int .i64 0)])/\Tryz.prog.cellsOf 197=3/\zaj Tryz.prog 198=some (some 3)/\fldT Tryz.prog 198 0=some 0/\zat Tryz.prog 198 0=some 0/\plT Tryz.prog 198 0=some 0/\fldT Tryz.prog 198 1=some 1/\zat Tryz.prog 198 1=some 1/\plT Tryz.prog 198 1=some 1/\fldT Tryz.prog 198 2=some 2/\zat Tryz.prog 198 2=some 2/\plT Tryz.prog 198 2=some 2/\plOk Tryz.prog 198=true/\zar Tryz.prog 198=some (3,56,[.val (.slice none 0 0),.val (.slice none 0 0),.val (.int .i64 0)])/\Tryz.prog.cellsOf 198=3/\zaj Tryz.prog 203=some none/\Tryz.prog.cellsOf 203=1/\zaj Tryz.prog 209=some none/\Tryz.prog.cellsOf 209=1/\zaj Tryz.prog 211=some none/\Tryz.prog.cellsOf 211=1:=by and_intros <;> kernel_rfl
@[go_sem] theorem Tryz.g23:zaj Tryz.prog 213=some none/\zaE Tryz.prog 213=some 9/\zar Tryz.prog 213=some (1,24,[.val (.slice none 0 0)])/\Tryz.prog.cellsOf 213=1:=by and_intros <;> kernel_rfl
theorem Tryz.und213:Tryz.prog.underlying 213=some (.slice 9):=by kernel_rfl
@[go_sem] theorem Tryz.g24:zaj Tryz.prog 218=some none/\zaE Tryz.prog 218=some 220/\zar Tryz.prog 218=some (1,24,[.val (.slice none 0 0)])/\Tryz.prog.cellsOf 218=1:=by and_intros <;> kernel_rfl
theorem Tryz.und218:Tryz.prog.underlying 218=some (.slice 220):=by kernel_rfl
@[go_sem] theorem Tryz.g25:zaj Tryz.prog 219=some (some 3)/\fldT Tryz.prog 219 0=some 0/\zat Tryz.prog 219 0=some 0/\plT Tryz.prog 219 0=some 0/\fldT Tryz.prog 219 1=some 1/\zat Tryz.prog 219 1=some 1/\plT Tryz.prog 219 1=some 1/\fldT Tryz.prog 219 2=some 2/\zat Tryz.prog 219 2=some 2/\plT Tryz.prog 219 2=some 2/\plOk Tryz.prog 219=true/\zar Tryz.prog 219=some (3,40,[.val (.int .i64 0),.val (.slice none 0 0),.val (.int .i64 0)])/\Tryz.prog.cellsOf 219=3/\zaj Tryz.prog 220=some (some 3)/\fldT Tryz.prog 220 0=some 0/\zat Tryz.prog 220 0=some 0/\plT Tryz.prog 220 0=some 0/\fldT Tryz.prog 220 1=some 1/\zat Tryz.prog 220 1=some 1/\plT Tryz.prog 220 1=some 1/\fldT Tryz.prog 220 2=some 2/\zat Tryz.prog 220 2=some 2/\plT Tryz.prog 220 2=some 2/\plOk Tryz.prog 220=true/\zar Tryz.prog 220=some (3,40,[.val (.int .i64 0),.val (.slice none 0 0),.val (.int .i64 0)])/\Tryz.prog.cellsOf 220=3/\zaj Tryz.prog 229=some none/\Tryz.prog.cellsOf 229=1/\zaj Tryz.prog 236=some none/\zaE Tryz.prog 236=some 149/\zar Tryz.prog 236=some (1,24,[.val (.slice none 0 0)])/\Tryz.prog.cellsOf 236=1:=by and_intros <;> kernel_rfl
theorem Tryz.und236:Tryz.prog.underlying 236=some (.slice 149):=by kernel_rfl
@[go_sem] theorem Tryz.g26:zaj Tryz.prog 237=some none/\zaE Tryz.prog 237=some 238/\zar Tryz.prog 237=some (1,24,[.val (.slice none 0 0)])/\Tryz.prog.cellsOf 237=1:=by and_intros <;> kernel_rfl
theorem Tryz.und237:Tryz.prog.underlying 237=some (.slice 238):=by kernel_rfl
@[go_sem] theorem Tryz.g27:zaj Tryz.prog 238=some (some 2)/\zaE Tryz.prog 238=none/\arrT Tryz.prog 238=some (2,1,true)/\plT Tryz.prog 238 0=some 0/\plT Tryz.prog 238 1=some 1/\plOk Tryz.prog 238=true/\zar Tryz.prog 238=some (2,16,[.val (.int .i64 0),.val (.int .i64 0)])/\Tryz.prog.cellsOf 238=2/\zaj Tryz.prog 241=some none/\zaE Tryz.prog 241=some 4/\zar Tryz.prog 241=some (1,24,[.val (.slice none 0 0)])/\Tryz.prog.cellsOf 241=1:=by and_intros <;> kernel_rfl
theorem Tryz.und241:Tryz.prog.underlying 241=some (.slice 4):=by kernel_rfl
@[go_sem] theorem Tryz.g28:zaj Tryz.prog 243=some none/\zar Tryz.prog 243=some (1,8,[.val (.int .i64 0)])/\Tryz.prog.cellsOf 243=1/\Tryz.prog.underlying 243=some (.int .i64)/\zaj Tryz.prog 250=some none/\zar Tryz.prog 250=some (1,4,[.val (.int .u32 0)])/\Tryz.prog.cellsOf 250=1/\Tryz.prog.underlying 250=some (.int .u32)/\zaj Tryz.prog 257=some (some 2)/\fldT Tryz.prog 257 0=some 0/\zat Tryz.prog 257 0=some 0/\plT Tryz.prog 257 0=some 0/\fldT Tryz.prog 257 1=some 1/\zat Tryz.prog 257 1=some 1/\plT Tryz.prog 257 1=some 1/\plOk Tryz.prog 257=true/\zar Tryz.prog 257=some (2,32,[.val (.slice none 0 0),.val (.int .i64 0)])/\Tryz.prog.cellsOf 257=2/\zaj Tryz.prog 258=some (some 2)/\fldT Tryz.prog 258 0=some 0/\zat Tryz.prog 258 0=some 0/\plT Tryz.prog 258 0=some 0/\fldT Tryz.prog 258 1=some 1/\zat Tryz.prog 258 1=some 1/\plT Tryz.prog 258 1=some 1/\plOk Tryz.prog 258=true/\zar Tryz.prog 258=some (2,32,[.val (.slice none 0 0),.val (.int .i64 0)])/\Tryz.prog.cellsOf 258=2/\zaj Tryz.prog 259=some none/\zaE Tryz.prog 259=some 258/\zar Tryz.prog 259=some (1,24,[.val (.slice none 0 0)])/\Tryz.prog.cellsOf 259=1:=by and_intros <;> kernel_rfl
theorem Tryz.und259:Tryz.prog.underlying 259=some (.slice 258):=by kernel_rfl
@[go_sem] theorem Tryz.g29:zaj Tryz.prog 275=some none/\zar Tryz.prog 275=some (1,8,[.val (.int .u64 0)])/\Tryz.prog.cellsOf 275=1/\Tryz.prog.underlying 275=some (.int .u64)/\zaj Tryz.prog 279=some none/\zaE Tryz.prog 279=none/\Tryz.prog.cellsOf 279=1/\zaj Tryz.prog 302=some none/\zaE Tryz.prog 302=none/\Tryz.prog.cellsOf 302=1/\zaj Tryz.prog 322=some (some 0)/\zaE Tryz.prog 322=none/\arrT Tryz.prog 322=some (0,1,true)/\plOk Tryz.prog 322=true/\zar Tryz.prog 322=some (0,0,[])/\Tryz.prog.cellsOf 322=0/\zaj Tryz.prog 328=some none/\zaE Tryz.prog 328=none/\Tryz.prog.cellsOf 328=1/\zaj Tryz.prog 331=some (some 11)/\fldT Tryz.prog 331 0=some 0/\zat Tryz.prog 331 0=some 0/\plT Tryz.prog 331 0=some 0/\fldT Tryz.prog 331 1=some 1/\zat Tryz.prog 331 1=some 1/\plT Tryz.prog 331 1=some 1/\fldT Tryz.prog 331 2=some 2/\zat Tryz.prog 331 2=some 2/\plT Tryz.prog 331 2=some 2/\fldT Tryz.prog 331 3=some 3/\zat Tryz.prog 331 3=some 3/\plT Tryz.prog 331 3=some 3:=by and_intros <;> kernel_rfl
@[go_sem] theorem Tryz.g30:fldT Tryz.prog 331 4=some 4/\zat Tryz.prog 331 4=some 4/\plT Tryz.prog 331 4=some 4/\fldT Tryz.prog 331 5=some 5/\zat Tryz.prog 331 5=some 5/\plT Tryz.prog 331 5=some 5/\fldT Tryz.prog 331 6=some 6/\zat Tryz.prog 331 6=some 6/\plT Tryz.prog 331 6=some 6/\fldT Tryz.prog 331 7=some 7/\zat Tryz.prog 331 7=some 7/\plT Tryz.prog 331 7=some 7/\fldT Tryz.prog 331 8=some 8/\zat Tryz.prog 331 8=some 8/\plT Tryz.prog 331 8=some 8/\fldT Tryz.prog 331 9=some 9/\zat Tryz.prog 331 9=some 9/\plT Tryz.prog 331 9=some 9/\fldT Tryz.prog 331 10=some 10/\zat Tryz.prog 331 10=some 10/\plT Tryz.prog 331 10=some 10/\plOk Tryz.prog 331=true/\Tryz.prog.cellsOf 331=11:=by and_intros <;> kernel_rfl
end Go.Proofs

namespace Go.Proofs.YthhdollpkieknaaGreat
open Go.Shelf Go.Sort
def Tryz.sortSplits_ren:Go.Shelf.Ren:=⟨fun | 6=>284 | 15=>254 | 14=>325 | 28=>302 | 29=>303 | 20=>360 | 21=>361 | 22=>362 | 23=>363 | 24=>364 | 25=>365 | 26=>366 | 27=>367 | 46=>381 | 47=>337 | 48=>338 | 49=>382 | 50=>383 | 57=>391 | n=>n,fun | 22=>194 | 24=>198 | 25=>229 | 3=>3 | 39=>182 | 0=>0 | 53=>250 | 55=>58 | 4=>4 | 46=>244 | 45=>243 | 50=>175 | 5=>5 | 9=>9 | 66=>275 | 70=>279 | 76=>302 | 77=>303 | n=>n,fun | n=>n⟩
theorem Tryz.sortSplits:Go.Proofs.SlLaysF0.n6 Tryz.prog Tryz.sortSplits_ren:={
 mixed:=by kernel_rfl,
 f6:=⟨Tryz.f284.name,by decide,Tryz.func284.trans (congrArg some (by kernel_rfl))⟩,
 f14:=⟨Tryz.f325.name,by decide,Tryz.func325.trans (congrArg some (by kernel_rfl))⟩,
 f15:=Tryz.func254.trans (congrArg some (by kernel_rfl)),
 f20:=⟨Tryz.f360.name,by decide,Tryz.func360.trans (congrArg some (by kernel_rfl))⟩,
 f21:=⟨Tryz.f361.name,by decide,Tryz.func361.trans (congrArg some (by kernel_rfl))⟩,
 f22:=⟨Tryz.f362.name,by decide,Tryz.func362.trans (congrArg some (by kernel_rfl))⟩,
 f23:=⟨Tryz.f363.name,by decide,Tryz.func363.trans (congrArg some (by kernel_rfl))⟩,
 f24:=⟨Tryz.f364.name,by decide,Tryz.func364.trans (congrArg some (by kernel_rfl))⟩,
 f25:=⟨Tryz.f365.name,by decide,Tryz.func365.trans (congrArg some (by kernel_rfl))⟩,
 f26:=⟨Tryz.f366.name,by decide,Tryz.func366.trans (congrArg some (by kernel_rfl))⟩,
 f27:=⟨Tryz.f367.name,by decide,Tryz.func367.trans (congrArg some (by kernel_rfl))⟩,
 f28:=Tryz.func302.trans (congrArg some (by kernel_rfl)),
 f29:=Tryz.func303.trans (congrArg some (by kernel_rfl)),
 f46:=⟨Tryz.f381.name,by decide,Tryz.func381.trans (congrArg some (by kernel_rfl))⟩,
 f47:=Tryz.func337.trans (congrArg some (by kernel_rfl)),
 f48:=Tryz.func338.trans (congrArg some (by kernel_rfl)),
 f49:=⟨Tryz.f382.name,by decide,Tryz.func382.trans (congrArg some (by kernel_rfl))⟩,
 f50:=⟨Tryz.f383.name,by decide,Tryz.func383.trans (congrArg some (by kernel_rfl))⟩,
 f57:=⟨Tryz.f391.name,by decide,Tryz.func391.trans (congrArg some (by kernel_rfl))⟩,
 t0:=Tryz.underlying0,
 a0:=Tryz.isAgg0,
 z0:=Tryz.sizeOf0,
 v0:=Tryz.zeroValue0,
 t3:=Tryz.underlying3,
 a3:=Tryz.isAgg3,
 z3:=Tryz.sizeOf3,
 v3:=Tryz.zeroValue3,
 t4:=Tryz.underlying4,
 a4:=Tryz.isAgg4,
 z4:=Tryz.sizeOf4,
 v4:=Tryz.zeroValue4,
 t5:=Tryz.underlying5,
 a5:=Tryz.isAgg5,
 z5:=Tryz.sizeOf5,
 v5:=Tryz.zeroValue5,
 t9:=Tryz.underlying9,
 a9:=Tryz.isAgg9,
 z9:=Tryz.sizeOf9,
 v9:=Tryz.zeroValue9,
 t22:=Tryz.underlying194,
 a22:=Tryz.isAgg194,
 z22:=Tryz.sizeOf194,
 v22:=Tryz.zeroValue194,
 t25:=Tryz.underlying229,
 a25:=Tryz.isAgg229,
 z25:=Tryz.sizeOf229,
 v25:=Tryz.zeroValue229,
 t39:=Tryz.underlying182,
 a39:=Tryz.isAgg182,
 z39:=Tryz.sizeOf182,
 v39:=Tryz.zeroValue182,
 t45:=Tryz.underlying243,
 a45:=Tryz.isAgg243,
 z45:=Tryz.sizeOf243,
 v45:=Tryz.zeroValue243,
 t46:=Tryz.underlying244,
 a46:=Tryz.isAgg244,
 z46:=Tryz.sizeOf244,
 v46:=Tryz.zeroValue244,
 t50:=Tryz.underlying175,
 a50:=Tryz.isAgg175,
 z50:=Tryz.sizeOf175,
 v50:=Tryz.zeroValue175,
 t53:=Tryz.underlying250,
 a53:=Tryz.isAgg250,
 z53:=Tryz.sizeOf250,
 v53:=Tryz.zeroValue250,
 t55:=Tryz.underlying58,
 a55:=Tryz.isAgg58,
 z55:=Tryz.sizeOf58,
 v55:=Tryz.zeroValue58,
 t66:=Tryz.underlying275,
 a66:=Tryz.isAgg275,
 z66:=Tryz.sizeOf275,
 v66:=Tryz.zeroValue275,
 t70:=Tryz.underlying279,
 a70:=Tryz.isAgg279,
 z70:=Tryz.sizeOf279,
 v70:=Tryz.zeroValue279,
 t76:=Tryz.underlying302,
 a76:=Tryz.isAgg302,
 z76:=Tryz.sizeOf302,
 v76:=Tryz.zeroValue302,
 t77:=Tryz.underlying303,
 a77:=Tryz.isAgg303,
 z77:=Tryz.sizeOf303,
 v77:=Tryz.zeroValue303 }
def Tryz.sortParts_ren:Go.Shelf.Ren:=⟨fun | 6=>247 | 15=>254 | 14=>292 | 28=>302 | 29=>303 | 20=>328 | 21=>329 | 22=>330 | 23=>331 | 24=>332 | 25=>333 | 26=>334 | 27=>335 | 46=>369 | 47=>337 | 48=>338 | 49=>370 | 50=>371 | 57=>385 | n=>n,fun | 22=>169 | 24=>172 | 25=>203 | 3=>3 | 39=>182 | 0=>0 | 53=>250 | 55=>58 | 4=>4 | 46=>244 | 45=>243 | 50=>175 | 5=>5 | 9=>9 | 66=>275 | 70=>279 | 76=>302 | 77=>303 | n=>n,fun | n=>n⟩
theorem Tryz.sortParts:Go.Proofs.SlLaysF0.n6 Tryz.prog Tryz.sortParts_ren:={
 mixed:=by kernel_rfl,
 f6:=⟨Tryz.f247.name,by decide,Tryz.func247.trans (congrArg some (by kernel_rfl))⟩,
 f14:=⟨Tryz.f292.name,by decide,Tryz.func292.trans (congrArg some (by kernel_rfl))⟩,
 f15:=Tryz.func254.trans (congrArg some (by kernel_rfl)),
 f20:=⟨Tryz.f328.name,by decide,Tryz.func328.trans (congrArg some (by kernel_rfl))⟩,
 f21:=⟨Tryz.f329.name,by decide,Tryz.func329.trans (congrArg some (by kernel_rfl))⟩,
 f22:=⟨Tryz.f330.name,by decide,Tryz.func330.trans (congrArg some (by kernel_rfl))⟩,
 f23:=⟨Tryz.f331.name,by decide,Tryz.func331.trans (congrArg some (by kernel_rfl))⟩,
 f24:=⟨Tryz.f332.name,by decide,Tryz.func332.trans (congrArg some (by kernel_rfl))⟩,
 f25:=⟨Tryz.f333.name,by decide,Tryz.func333.trans (congrArg some (by kernel_rfl))⟩,
 f26:=⟨Tryz.f334.name,by decide,Tryz.func334.trans (congrArg some (by kernel_rfl))⟩,
 f27:=⟨Tryz.f335.name,by decide,Tryz.func335.trans (congrArg some (by kernel_rfl))⟩,
 f28:=Tryz.func302.trans (congrArg some (by kernel_rfl)),
 f29:=Tryz.func303.trans (congrArg some (by kernel_rfl)),
 f46:=⟨Tryz.f369.name,by decide,Tryz.func369.trans (congrArg some (by kernel_rfl))⟩,
 f47:=Tryz.func337.trans (congrArg some (by kernel_rfl)),
 f48:=Tryz.func338.trans (congrArg some (by kernel_rfl)),
 f49:=⟨Tryz.f370.name,by decide,Tryz.func370.trans (congrArg some (by kernel_rfl))⟩,
 f50:=⟨Tryz.f371.name,by decide,Tryz.func371.trans (congrArg some (by kernel_rfl))⟩,
 f57:=⟨Tryz.f385.name,by decide,Tryz.func385.trans (congrArg some (by kernel_rfl))⟩,
 t0:=Tryz.underlying0,
 a0:=Tryz.isAgg0,
 z0:=Tryz.sizeOf0,
 v0:=Tryz.zeroValue0,
 t3:=Tryz.underlying3,
 a3:=Tryz.isAgg3,
 z3:=Tryz.sizeOf3,
 v3:=Tryz.zeroValue3,
 t4:=Tryz.underlying4,
 a4:=Tryz.isAgg4,
 z4:=Tryz.sizeOf4,
 v4:=Tryz.zeroValue4,
 t5:=Tryz.underlying5,
 a5:=Tryz.isAgg5,
 z5:=Tryz.sizeOf5,
 v5:=Tryz.zeroValue5,
 t9:=Tryz.underlying9,
 a9:=Tryz.isAgg9,
 z9:=Tryz.sizeOf9,
 v9:=Tryz.zeroValue9,
 t22:=Tryz.underlying169,
 a22:=Tryz.isAgg169,
 z22:=Tryz.sizeOf169,
 v22:=Tryz.zeroValue169,
 t25:=Tryz.underlying203,
 a25:=Tryz.isAgg203,
 z25:=Tryz.sizeOf203,
 v25:=Tryz.zeroValue203,
 t39:=Tryz.underlying182,
 a39:=Tryz.isAgg182,
 z39:=Tryz.sizeOf182,
 v39:=Tryz.zeroValue182,
 t45:=Tryz.underlying243,
 a45:=Tryz.isAgg243,
 z45:=Tryz.sizeOf243,
 v45:=Tryz.zeroValue243,
 t46:=Tryz.underlying244,
 a46:=Tryz.isAgg244,
 z46:=Tryz.sizeOf244,
 v46:=Tryz.zeroValue244,
 t50:=Tryz.underlying175,
 a50:=Tryz.isAgg175,
 z50:=Tryz.sizeOf175,
 v50:=Tryz.zeroValue175,
 t53:=Tryz.underlying250,
 a53:=Tryz.isAgg250,
 z53:=Tryz.sizeOf250,
 v53:=Tryz.zeroValue250,
 t55:=Tryz.underlying58,
 a55:=Tryz.isAgg58,
 z55:=Tryz.sizeOf58,
 v55:=Tryz.zeroValue58,
 t66:=Tryz.underlying275,
 a66:=Tryz.isAgg275,
 z66:=Tryz.sizeOf275,
 v66:=Tryz.zeroValue275,
 t70:=Tryz.underlying279,
 a70:=Tryz.isAgg279,
 z70:=Tryz.sizeOf279,
 v70:=Tryz.zeroValue279,
 t76:=Tryz.underlying302,
 a76:=Tryz.isAgg302,
 z76:=Tryz.sizeOf302,
 v76:=Tryz.zeroValue302,
 t77:=Tryz.underlying303,
 a77:=Tryz.isAgg303,
 z77:=Tryz.sizeOf303,
 v77:=Tryz.zeroValue303 }
def Tryz.sortTrees_ren:Go.Shelf.Ren:=⟨fun | 6=>196 | 15=>254 | 14=>253 | 28=>302 | 29=>303 | 20=>294 | 21=>295 | 22=>296 | 23=>297 | 24=>298 | 25=>299 | 26=>300 | 27=>301 | 46=>336 | 47=>337 | 48=>338 | 49=>339 | 50=>340 | 57=>372 | n=>n,fun | 22=>24 | 24=>25 | 25=>155 | 3=>3 | 39=>182 | 0=>0 | 53=>250 | 55=>58 | 4=>4 | 46=>244 | 45=>243 | 50=>175 | 5=>5 | 9=>9 | 66=>275 | 70=>279 | 76=>302 | 77=>303 | n=>n,fun | n=>n⟩
theorem Tryz.sortTrees:Go.Proofs.SlLaysF.n6 Tryz.prog Tryz.sortTrees_ren:={
 mixed:=by kernel_rfl,
 f6:=⟨Tryz.f196.name,by decide,Tryz.func196.trans (congrArg some (by kernel_rfl))⟩,
 f14:=⟨Tryz.f253.name,by decide,Tryz.func253.trans (congrArg some (by kernel_rfl))⟩,
 f15:=Tryz.func254.trans (congrArg some (by kernel_rfl)),
 f20:=⟨Tryz.f294.name,by decide,Tryz.func294.trans (congrArg some (by kernel_rfl))⟩,
 f21:=⟨Tryz.f295.name,by decide,Tryz.func295.trans (congrArg some (by kernel_rfl))⟩,
 f22:=⟨Tryz.f296.name,by decide,Tryz.func296.trans (congrArg some (by kernel_rfl))⟩,
 f23:=⟨Tryz.f297.name,by decide,Tryz.func297.trans (congrArg some (by kernel_rfl))⟩,
 f24:=⟨Tryz.f298.name,by decide,Tryz.func298.trans (congrArg some (by kernel_rfl))⟩,
 f25:=⟨Tryz.f299.name,by decide,Tryz.func299.trans (congrArg some (by kernel_rfl))⟩,
 f26:=⟨Tryz.f300.name,by decide,Tryz.func300.trans (congrArg some (by kernel_rfl))⟩,
 f27:=⟨Tryz.f301.name,by decide,Tryz.func301.trans (congrArg some (by kernel_rfl))⟩,
 f28:=Tryz.func302.trans (congrArg some (by kernel_rfl)),
 f29:=Tryz.func303.trans (congrArg some (by kernel_rfl)),
 f46:=⟨Tryz.f336.name,by decide,Tryz.func336.trans (congrArg some (by kernel_rfl))⟩,
 f47:=Tryz.func337.trans (congrArg some (by kernel_rfl)),
 f48:=Tryz.func338.trans (congrArg some (by kernel_rfl)),
 f49:=⟨Tryz.f339.name,by decide,Tryz.func339.trans (congrArg some (by kernel_rfl))⟩,
 f50:=⟨Tryz.f340.name,by decide,Tryz.func340.trans (congrArg some (by kernel_rfl))⟩,
 f57:=⟨Tryz.f372.name,by decide,Tryz.func372.trans (congrArg some (by kernel_rfl))⟩,
 t0:=Tryz.underlying0,
 a0:=Tryz.isAgg0,
 z0:=Tryz.sizeOf0,
 v0:=Tryz.zeroValue0,
 t3:=Tryz.underlying3,
 a3:=Tryz.isAgg3,
 z3:=Tryz.sizeOf3,
 v3:=Tryz.zeroValue3,
 t4:=Tryz.underlying4,
 a4:=Tryz.isAgg4,
 z4:=Tryz.sizeOf4,
 v4:=Tryz.zeroValue4,
 t5:=Tryz.underlying5,
 a5:=Tryz.isAgg5,
 z5:=Tryz.sizeOf5,
 v5:=Tryz.zeroValue5,
 t9:=Tryz.underlying9,
 a9:=Tryz.isAgg9,
 z9:=Tryz.sizeOf9,
 v9:=Tryz.zeroValue9,
 t22:=Tryz.underlying24,
 a22:=Tryz.isAgg24,
 z22:=Tryz.sizeOf24,
 v22:=Tryz.zeroValue24,
 a24:=Tryz.isAgg25,
 z24:=Tryz.sizeOf25,
 t25:=Tryz.underlying155,
 a25:=Tryz.isAgg155,
 z25:=Tryz.sizeOf155,
 v25:=Tryz.zeroValue155,
 t39:=Tryz.underlying182,
 a39:=Tryz.isAgg182,
 z39:=Tryz.sizeOf182,
 v39:=Tryz.zeroValue182,
 t45:=Tryz.underlying243,
 a45:=Tryz.isAgg243,
 z45:=Tryz.sizeOf243,
 v45:=Tryz.zeroValue243,
 t46:=Tryz.underlying244,
 a46:=Tryz.isAgg244,
 z46:=Tryz.sizeOf244,
 v46:=Tryz.zeroValue244,
 t50:=Tryz.underlying175,
 a50:=Tryz.isAgg175,
 z50:=Tryz.sizeOf175,
 v50:=Tryz.zeroValue175,
 t53:=Tryz.underlying250,
 a53:=Tryz.isAgg250,
 z53:=Tryz.sizeOf250,
 v53:=Tryz.zeroValue250,
 t55:=Tryz.underlying58,
 a55:=Tryz.isAgg58,
 z55:=Tryz.sizeOf58,
 v55:=Tryz.zeroValue58,
 t66:=Tryz.underlying275,
 a66:=Tryz.isAgg275,
 z66:=Tryz.sizeOf275,
 v66:=Tryz.zeroValue275,
 t70:=Tryz.underlying279,
 a70:=Tryz.isAgg279,
 z70:=Tryz.sizeOf279,
 v70:=Tryz.zeroValue279,
 t76:=Tryz.underlying302,
 a76:=Tryz.isAgg302,
 z76:=Tryz.sizeOf302,
 v76:=Tryz.zeroValue302,
 t77:=Tryz.underlying303,
 a77:=Tryz.isAgg303,
 z77:=Tryz.sizeOf303,
 v77:=Tryz.zeroValue303 }
def Tryz.insTrees_ren:Go.Shelf.Ren:=⟨fun | 20=>294 | n=>n,fun | 24=>25 | 22=>24 | 3=>3 | 25=>155 | 4=>4 | 0=>0 | n=>n,fun | n=>n⟩
theorem Tryz.insTrees:Go.Proofs.SlLaysF.n20 Tryz.prog Tryz.insTrees_ren:={
 mixed:=by kernel_rfl,
 f20:=⟨Tryz.f294.name,by decide,Tryz.func294.trans (congrArg some (by kernel_rfl))⟩,
 t0:=Tryz.underlying0,
 a0:=Tryz.isAgg0,
 z0:=Tryz.sizeOf0,
 v0:=Tryz.zeroValue0,
 t3:=Tryz.underlying3,
 a3:=Tryz.isAgg3,
 z3:=Tryz.sizeOf3,
 v3:=Tryz.zeroValue3,
 t4:=Tryz.underlying4,
 a4:=Tryz.isAgg4,
 z4:=Tryz.sizeOf4,
 v4:=Tryz.zeroValue4,
 t22:=Tryz.underlying24,
 a22:=Tryz.isAgg24,
 z22:=Tryz.sizeOf24,
 v22:=Tryz.zeroValue24,
 a24:=Tryz.isAgg25,
 z24:=Tryz.sizeOf25,
 t25:=Tryz.underlying155,
 a25:=Tryz.isAgg155,
 z25:=Tryz.sizeOf155,
 v25:=Tryz.zeroValue155 }
end Go.Proofs.YthhdollpkieknaaGreat

