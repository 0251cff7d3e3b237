/- The rules by which the conditions of a walk are reckoned out. -/
import Derived.Test.YtdhnnpohpfjaiaaAbsN
set_option linter.unusedVariables false
set_option linter.unusedSimpArgs false
namespace Go.Abs

@[go_sem] theorem upd_app (d : Nat) (v : AV) (S : St) (i : Nat) : upd d v S i = kl [d] (if i = d then v else S i) := rfl
@[go_sem] theorem updn_app (d : Nat) (v : AV) (S : St) (i : Nat) : updn d v S i = if i = d then v else kn d (S i) := rfl
@[go_sem] theorem kl_any (W : List Nat) : kl W .any = .any := rfl
@[go_sem] theorem kl_val (W : List Nat) (v : Value) : kl W (.val v) = .val v := rfl
@[go_sem] theorem kl_sl (W : List Nat) (n : Nat) (cs : List AV) : kl W (.sl n cs) = .sl n cs := rfl
@[go_sem] theorem kl_own (W : List Nat) (e n : Nat) (cs : List AV) : kl W (.own e n cs) = .own e n cs := rfl
@[go_sem] theorem kl_box (W : List Nat) (e : Nat) (cs : List AV) : kl W (.box e cs) = .box e cs := rfl
@[go_sem] theorem kl_fptr (W : List Nat) (cs : List AV) : kl W (.fptr cs) = .fptr cs := rfl
@[go_sem] theorem kl_agg (W : List Nat) (cs : List AV) : kl W (.agg cs) = .agg (klL W cs) := by rw [kl]
@[go_sem] theorem kl_tup (W : List Nat) (cs : List AV) : kl W (.tup cs) = .tup (klL W cs) := by rw [kl]
@[go_sem] theorem kl_fn (W : List Nat) (f : FuncId) (cs : List AV) : kl W (.fn f cs) = .fn f (klL W cs) := by rw [kl]
@[go_sem] theorem klL_nil' (W : List Nat) : klL W [] = [] := rfl
@[go_sem] theorem klL_cons (W : List Nat) (c : AV) (cs : List AV) : klL W (c :: cs) = kl W c :: klL W cs := by rw [klL]
@[go_sem] theorem kl_bor (d s : Nat) (p : List Nat) : kl [d] (.bor s p) = if s = d then .any else .bor s p := by
  rw [kl]; by_cases h : s = d <;> simp [h]
@[go_sem] theorem kl_ptr (d s : Nat) (p : List Nat) (o : Nat) : kl [d] (.ptr s p o) = if s = d then .any else .ptr s p o := by
  rw [kl]; by_cases h : s = d <;> simp [h]
@[go_sem] theorem kn_any (d : Nat) : kn d .any = .any := rfl
@[go_sem] theorem kn_val (d : Nat) (v : Value) : kn d (.val v) = .val v := rfl
@[go_sem] theorem kn_sl (d : Nat) (n : Nat) (cs : List AV) : kn d (.sl n cs) = .sl n cs := rfl
@[go_sem] theorem kn_own (d : Nat) (e n : Nat) (cs : List AV) : kn d (.own e n cs) = .own e n cs := rfl
@[go_sem] theorem kn_box (d : Nat) (e : Nat) (cs : List AV) : kn d (.box e cs) = .box e cs := rfl
@[go_sem] theorem kn_fptr (d : Nat) (cs : List AV) : kn d (.fptr cs) = .fptr cs := rfl
@[go_sem] theorem kn_agg (d : Nat) (cs : List AV) : kn d (.agg cs) = .agg (knL d cs) := by rw [kn]
@[go_sem] theorem kn_tup (d : Nat) (cs : List AV) : kn d (.tup cs) = .tup (knL d cs) := by rw [kn]
@[go_sem] theorem kn_fn (d : Nat) (f : FuncId) (cs : List AV) : kn d (.fn f cs) = .fn f (knL d cs) := by rw [kn]
@[go_sem] theorem knL_nil' (d : Nat) : knL d [] = [] := rfl
@[go_sem] theorem knL_cons (d : Nat) (c : AV) (cs : List AV) : knL d (c :: cs) = kn d c :: knL d cs := by rw [knL]
@[go_sem] theorem kn_bor0 (d s : Nat) : kn d (.bor s []) = .bor s [] := by rw [kn]; simp
@[go_sem] theorem kn_bor1 (d s i : Nat) (p : List Nat) : kn d (.bor s (i :: p)) = if s = d then .any else .bor s (i :: p) := by
  rw [kn]; by_cases h : s = d <;> simp [h]
@[go_sem] theorem kn_ptr0 (d s o : Nat) : kn d (.ptr s [] o) = .ptr s [] o := by rw [kn]; simp
@[go_sem] theorem kn_ptr1 (d s i : Nat) (p : List Nat) (o : Nat) : kn d (.ptr s (i :: p) o) = if s = d then .any else .ptr s (i :: p) o := by
  rw [kn]; by_cases h : s = d <;> simp [h]

@[go_sem] theorem kn1_any (d : Nat) : kn1 d .any = .any := rfl
@[go_sem] theorem kn1_val (d : Nat) (v : Value) : kn1 d (.val v) = .val v := rfl
@[go_sem] theorem kn1_sl (d : Nat) (n : Nat) (cs : List AV) : kn1 d (.sl n cs) = .sl n cs := rfl
@[go_sem] theorem kn1_own (d : Nat) (e n : Nat) (cs : List AV) : kn1 d (.own e n cs) = .own e n cs := rfl
@[go_sem] theorem kn1_box (d : Nat) (e : Nat) (cs : List AV) : kn1 d (.box e cs) = .box e cs := rfl
@[go_sem] theorem kn1_fptr (d : Nat) (cs : List AV) : kn1 d (.fptr cs) = .fptr cs := rfl
@[go_sem] theorem kn1_agg (d : Nat) (cs : List AV) : kn1 d (.agg cs) = .agg (kn1L d cs) := by rw [kn1]
@[go_sem] theorem kn1_tup (d : Nat) (cs : List AV) : kn1 d (.tup cs) = .tup (kn1L d cs) := by rw [kn1]
@[go_sem] theorem kn1_fn (d : Nat) (f : FuncId) (cs : List AV) : kn1 d (.fn f cs) = .fn f (kn1L d cs) := by rw [kn1]
@[go_sem] theorem kn1L_nil' (d : Nat) : kn1L d [] = [] := rfl
@[go_sem] theorem kn1L_cons (d : Nat) (c : AV) (cs : List AV) : kn1L d (c :: cs) = kn1 d c :: kn1L d cs := by rw [kn1L]
@[go_sem] theorem kn1_bor (d s : Nat) (p : List Nat) : kn1 d (.bor s p) = if s = d ∧ 2 ≤ p.length then .any else .bor s p := by rw [kn1]; simp
@[go_sem] theorem kn1_ptr (d s : Nat) (p : List Nat) (o : Nat) : kn1 d (.ptr s p o) = if s = d ∧ 2 ≤ p.length then .any else .ptr s p o := by rw [kn1]; simp
@[go_sem] theorem updn1_app (d : Nat) (v : AV) (S : St) (i : Nat) : updn1 d v S i = if i = d then v else kn1 d (S i) := rfl

@[go_sem] theorem kl_mp (W : List Nat) (c : Key → Option Int) : kl W (.mp c) = .mp c := rfl
@[go_sem] theorem kl_fmp (W : List Nat) (c : Key → Option Int) : kl W (.fmp c) = .fmp c := rfl
@[go_sem] theorem kl_it (W : List Nat) (l : Option (Key × Int)) (es : List (Key × Int)) : kl W (.it l es) = .it l es := rfl
@[go_sem] theorem kl_slp (d s : Nat) (p : List Nat) (o n : Nat) : kl [d] (.slp s p o n) = if s = d then .any else .slp s p o n := by
  rw [kl]; by_cases h : s = d <;> simp [h]
@[go_sem] theorem kn_mp (d : Nat) (c : Key → Option Int) : kn d (.mp c) = .mp c := rfl
@[go_sem] theorem kn_fmp (d : Nat) (c : Key → Option Int) : kn d (.fmp c) = .fmp c := rfl
@[go_sem] theorem kn_it (d : Nat) (l : Option (Key × Int)) (es : List (Key × Int)) : kn d (.it l es) = .it l es := rfl
@[go_sem] theorem kn_slp0 (d s o n : Nat) : kn d (.slp s [] o n) = .slp s [] o n := by rw [kn]; simp
@[go_sem] theorem kn_slp1 (d s i : Nat) (p : List Nat) (o n : Nat) : kn d (.slp s (i :: p) o n) = if s = d then .any else .slp s (i :: p) o n := by
  rw [kn]; by_cases h : s = d <;> simp [h]
@[go_sem] theorem kn1_mp (d : Nat) (c : Key → Option Int) : kn1 d (.mp c) = .mp c := rfl
@[go_sem] theorem kn1_fmp (d : Nat) (c : Key → Option Int) : kn1 d (.fmp c) = .fmp c := rfl
@[go_sem] theorem kn1_it (d : Nat) (l : Option (Key × Int)) (es : List (Key × Int)) : kn1 d (.it l es) = .it l es := rfl
@[go_sem] theorem kn1_slp (d s : Nat) (p : List Nat) (o n : Nat) : kn1 d (.slp s p o n) = if s = d ∧ 2 ≤ p.length then .any else .slp s p o n := by rw [kn1]; simp
@[go_sem] theorem kl_keyAV (W : List Nat) (k : Key) : kl W (keyAV k) = keyAV k := rfl
@[go_sem] theorem kn_keyAV (d : Nat) (k : Key) : kn d (keyAV k) = keyAV k := rfl
@[go_sem] theorem kn1_keyAV (d : Nat) (k : Key) : kn1 d (keyAV k) = keyAV k := rfl
@[go_sem] theorem cv_nilmap : cv (.map none) = .val (.map none) := rfl
@[go_sem] theorem hasOwn_keyAV (k : Key) : hasOwn (keyAV k) = false := rfl
@[go_sem] theorem keyA_keyAV (k : Key) : keyA (keyAV k) = some k := rfl
@[go_sem] theorem frz_keyAV (k : Key) : frz (keyAV k) = keyAV k := rfl
@[go_sem] theorem initS_app (args : List AV) (i : Nat) : initS args i = (match args[i]? with | some c => c | none => .any) := rfl
@[go_sem] theorem aop_tmp (S : St) (t : Nat) : aop S (.tmp t) = S t := rfl
@[go_sem] theorem aop_const (S : St) (v : Value) : aop S (.const v) = cv v := rfl
@[go_sem] theorem aop_func (S : St) (f : FuncId) : aop S (.func f) = .val (.func (.func f) #[] #[]) := rfl
@[go_sem] theorem cv_nil : cv (.slice none 0 0) = .val (.slice none 0 0) := rfl
@[go_sem] theorem cv_int (k : IntKind) (n : Int) : cv (.int k n) = .val (.int k n) := rfl
@[go_sem] theorem cv_bool (b : Bool) : cv (.bool b) = .val (.bool b) := rfl
@[go_sem] theorem cv_string (s : ByteArray) : cv (.string s) = .val (.string s) := rfl

@[go_sem] theorem lookup_nil' (i : Nat) : List.lookup i ([] : List (Nat × AV)) = none := rfl
@[go_sem] theorem lookup_cons' (i d : Nat) (v : AV) (T : List (Nat × AV)) : List.lookup i ((d, v) :: T) = if i = d then some v else List.lookup i T := by
  rw [List.lookup_cons]
  by_cases h : i = d
  · simp [h]
  · have : (i == d) = false := by simpa using h
    simp [h, this]

attribute [go_sem] rangeOf nextOf ixR ixA ivS fdS ptS bnd bndSl prS poS slS plc srcC cpS bdS plTs putAll b1S blS mmS mapA keyA lkS mplc muS enS RangeVC NextVC tkLm callV cap1 caps mfS bxS faS alS stAS ldAS takeA tkU ldCs ldC cellB cellsB valsB setMany app TestVC_true TestVC_false callOf stepO withD mvR mvS mvT valR ldR stR hasOwn hasOwnL isOB roots rootsL binI unI cnI
  ld1S ld1A adr ctn kids setKids getP putP ldC IntKind.signed slotsOf ixS mkS isV st1S apS els isSome2 tk tkP tks bsS idxOk lnS exS rsvArgs rsv rsvL frz frzL gslot skipU retAV retOf inK_i64
section
variable (P : Program) (cf : Cfg) (N : Nat × List Nat) (ops : Array Oper) (K : St → Prop) (Q : Exit → St → Prop) (S : St)
@[go_sem] theorem vcOps_nil : vcOps P cf N ops [] K S = K S := rfl
@[go_sem] theorem vcOps_plain (dst : Option Tmp) (op : Op) (ty : TypeId) (pos : String) (after : Array Edge) (l : List Oper) :
    vcOps P cf N ops (⟨dst, op, ty, pos, after, none⟩ :: l) K S = vcOp P cf N ⟨dst, op, ty, pos, after, none⟩ (vcOps P cf N ops l K) S := rfl
/-- A guarded operation. -/
def GuardVC (g : Nat) (b : Bool) (A B : St → Prop) (S : St) : Prop :=
  match S g with
  | .val (.bool c) => g < N.1 ∧ TestVC (c == b) A B (upd g (.val (.bool b)) S) (upd g (.val (.bool !b)) S)
  | .tup [] => B S
  | _ => False
@[go_sem] theorem vcOps_guard (dst : Option Tmp) (op : Op) (ty : TypeId) (pos : String) (after : Array Edge) (j : Nat) (b : Bool) (l : List Oper) :
    vcOps P cf N ops (⟨dst, op, ty, pos, after, some (j, b)⟩ :: l) K S = (match gslot ops j with
      | some g => GuardVC N g b (vcOp P cf N ⟨dst, op, ty, pos, after, some (j, b)⟩ (vcOps P cf N ops l K)) (skipK ⟨dst, op, ty, pos, after, some (j, b)⟩ (vcOps P cf N ops l K)) S
      | none => False) := rfl
@[go_sem] theorem GuardVC_app (g : Nat) (b : Bool) (A B : St → Prop) : GuardVC N g b A B S = (match S g with
  | .val (.bool c) => g < N.1 ∧ TestVC (c == b) A B (upd g (.val (.bool b)) S) (upd g (.val (.bool !b)) S)
  | .tup [] => B S
  | _ => False) := rfl
@[go_sem] theorem vcOp_app (o : Oper) : vcOp P cf N o K S = (match callOf o.op with
  | some (f, xs) => if cf.mu.contains f then MVC P N f xs o.dst K S else match rsvArgs S xs with
    | some as => CallVC P cf N f as o.dst K S
    | none => False
  | none => match callV S o.op with
    | some (f, xs, cs) => match rsvArgs S xs, rsvL S cs with
      | some as, some bs => CallVC P cf N f (as ++ bs) o.dst K S
      | _, _ => False
    | none => match rangeOf P S o.op, o.dst with
      | some c, some d => RangeVC N c d K S
      | _, _ => match nextOf S o.op, o.dst with
        | some (t, rem), some d => NextVC N t rem d K S
        | _, _ => match stepO P cf N S o.op o.dst with
          | some (p, _, U) => p ∧ K (app U S)
          | none => False) := rfl
@[go_sem] theorem skipK_app (o : Oper) : skipK o K S = K (app (skipU o) S) := rfl
@[go_sem] theorem vc_skip : vc P cf N .skip Q S = Q .normal S := rfl
@[go_sem] theorem vc_region (id : Nat) : vc P cf N (.region id ops false) Q S = vcOps P cf N ops ops.toList (Q .normal) S := rfl
@[go_sem] theorem vc_draw (id : Nat) : vc P cf N (.region id ops true) Q S = DrawVC P cf N ops (Q .normal) S := rfl
@[go_sem] theorem vcD_nil (i : Nat) (tr : List Ent) : vcD P cf N ops i [] K tr S = doneD ops K tr S := rfl
@[go_sem] theorem vcD_plain (i : Nat) (tr : List Ent) (dst : Option Tmp) (op : Op) (ty : TypeId) (pos : String) (after : Array Edge) (l : List Oper) :
    vcD P cf N ops i (⟨dst, op, ty, pos, after, none⟩ :: l) K tr S = runD P cf N i ⟨dst, op, ty, pos, after, none⟩ [] (vcD P cf N ops (i + 1) l K) tr S := rfl
@[go_sem] theorem vcD_guard (i : Nat) (tr : List Ent) (dst : Option Tmp) (op : Op) (ty : TypeId) (pos : String) (after : Array Edge) (j : Nat) (b : Bool) (l : List Oper) :
    vcD P cf N ops i (⟨dst, op, ty, pos, after, some (j, b)⟩ :: l) K tr S = (match gslot ops j with
      | some g => GuardD N g b (runD P cf N i ⟨dst, op, ty, pos, after, some (j, b)⟩ [g] (vcD P cf N ops (i + 1) l K)) (skipD i ⟨dst, op, ty, pos, after, some (j, b)⟩ [g] (vcD P cf N ops (i + 1) l K)) tr S
      | none => False) := rfl
@[go_sem] theorem runD_app (i : Nat) (o : Oper) (G : List Nat) (C : List Ent → St → Prop) (tr : List Ent) : runD P cf N i o G C tr S = (match callOf o.op with
  | some (f, xs) => if cf.mu.contains f then False else match rsvArgs S xs with
    | some as => closedB (G ++ (opsD S o.op).flatMap (rdO S)) S = true ∧ CallD P cf N f as o.dst i (G ++ (opsD S o.op).flatMap (rdO S)) C tr S
    | none => False
  | none => match stepO P cf N S o.op o.dst with
    | some (p, _, U) => (closedB (G ++ (opsD S o.op).flatMap (rdO S)) S && inB (rts U) (G ++ (opsD S o.op).flatMap (rdO S))) = true ∧ p ∧ C (⟨i, G ++ (opsD S o.op).flatMap (rdO S), wrs U⟩ :: tr) (app U S)
    | none => False) := rfl
@[go_sem] theorem skipD_app (i : Nat) (o : Oper) (G : List Nat) (C : List Ent → St → Prop) (tr : List Ent) : skipD i o G C tr S = (closedB G S = true ∧ C (⟨i, G, wrs (skipU o)⟩ :: tr) (app (skipU o) S)) := rfl
@[go_sem] theorem GuardD_app (g : Nat) (b : Bool) (A B : List Ent → St → Prop) (tr : List Ent) : GuardD N g b A B tr S = (match S g with
  | .val (.bool c) => g < N.1 ∧ DTest (c == b) A B tr S
  | .tup [] => B tr S
  | _ => False) := rfl
@[go_sem] theorem DTest_true (A B : List Ent → St → Prop) (tr : List Ent) : DTest true A B tr S = A tr S := by simp [DTest]
@[go_sem] theorem DTest_false (A B : List Ent → St → Prop) (tr : List Ent) : DTest false A B tr S = B tr S := by simp [DTest]
@[go_sem] theorem DrawVC_app : DrawVC P cf N ops K S = (edgesOk ops = true ∧ vcD P cf N ops 0 ops.toList K [] S) := rfl
@[go_sem] theorem vc_seq (x y : Code) : vc P cf N (.seq x y) Q S = vc P cf N x (thenQ (vc P cf N y Q) Q) S := rfl
@[go_sem] theorem vc_cond (c : Operand) (x y : Code) : vc P cf N (.cond c x y) Q S = (match aop S c with
    | .val (.bool t) => TestVC t (vc P cf N x Q) (vc P cf N y Q) S S
    | _ => False) := rfl
@[go_sem] theorem vc_block (id : Nat) (b : Code) : vc P cf N (.block id b) Q S = vc P cf N b (blockQ id Q) S := rfl
@[go_sem] theorem vc_loop (b : Code) : vc P cf N (.loop b) Q S = LoopVC (vc P cf N b) Q S := rfl
@[go_sem] theorem vc_exit (id : Nat) : vc P cf N (.exit id) Q S = Q (.exit id) S := rfl
@[go_sem] theorem vc_ret : vc P cf N .ret Q S = Q .ret S := rfl
@[go_sem] theorem thenQ_normal : thenQ K Q .normal S = K S := rfl
@[go_sem] theorem thenQ_ret : thenQ K Q .ret S = Q .ret S := rfl
@[go_sem] theorem thenQ_exit (id : Nat) : thenQ K Q (.exit id) S = Q (.exit id) S := rfl
@[go_sem] theorem blockQ_normal (id : Nat) : blockQ id Q .normal S = Q .normal S := rfl
@[go_sem] theorem blockQ_ret (id : Nat) : blockQ id Q .ret S = Q .ret S := rfl
@[go_sem] theorem blockQ_exit (id id' : Nat) : blockQ id Q (.exit id') S = if id' = id then Q .normal S else Q (.exit id') S := rfl
@[go_sem] theorem loopQ_ret (I : Nat → St → Prop) (n : Nat) : loopQ I n Q .ret S = Q .ret S := rfl
@[go_sem] theorem loopQ_exit (I : Nat → St → Prop) (n id : Nat) : loopQ I n Q (.exit id) S = Q (.exit id) S := rfl
@[go_sem] theorem retQ_ret (rs : List ResultVar) (r : AV) : retQ P rs r .ret S = ∃ cs, retAV P S rs = some cs ∧ retOf cs = r := rfl
@[go_sem] theorem retQ_normal (rs : List ResultVar) (r : AV) : retQ P rs r .normal S = ∃ cs, retAV P S rs = some cs ∧ retOf cs = r := rfl
@[go_sem] theorem retM_ret (rs : List ResultVar) (kp : List Nat) (n : Nat) (r : AV) (outs : List AV) : retM P rs kp n r outs .ret S = ∃ cs, retAV P S (rs ++ kp.map .tmp) = some cs ∧ retOf (cs.take rs.length) = r ∧ outsOf kp (cs.drop rs.length) n = outs ∧ freshL cs = true := rfl
end
attribute [go_sem] opsD closedB inB wrs rts rdO af afL Op.operands Call.operands OkD MVC locs locB locArgs fillA fillB fillArgs leafA leafB leafArgs tkLs ptLs locOk outsOf freshOK freshL
end Go.Abs
