/- One operation; a region; code: the conditions that a walk leaves, and that they suffice. It holds over any program. -/
import Derived.Test.YtdhnnpohpfjaiaaAbsT4
set_option linter.unusedVariables false
set_option linter.unusedSimpArgs false
namespace Go.Abs
open Go.RowKit (Below)

def withD (N : Nat × List Nat) (d : Nat) : R → R
  | some (p, rd, U) => some (OkD N d ∧ p, rd, U)
  | none => none
def mvR (cf : Cfg) (S : St) (d : Nat) (x : Operand) : R :=
  match mvS cf S d x with
  | some (rd, U) => some (True, rd, U)
  | none => none
def valR (d : Nat) (rd : List Nat) : Option (Prop × Value) → R
  | some (p, v) => some (p, rd, [.w d (.val v)])
  | none => none
def ldR (P : Program) (S : St) (d : Nat) (T : TypeId) (x : Operand) : R :=
  match kindT P T with
  | some none => match ld1S S d x with
    | some (rd, U) => some (True, rd, U)
    | none => none
  | some (some m) => ldAS S d m x
  | none => none
def stR (P : Program) (cf : Cfg) (S : St) (T : TypeId) (x y : Operand) : R :=
  match kindT P T with
  | some none => st1S P cf S T x y
  | some (some _) => stAS P S T x y
  | none => none

/-- What a function value takes along of a slot. -/
def cap1 (S : St) (x : Operand) : Option AV :=
  match x, aop S x with
  | _, .any => none
  | .tmp t, .box _ _ => some (.bor t [])
  | _, c => if hasOwn c then none else some c
def caps (S : St) : List Operand → Option (List AV)
  | [] => some []
  | x :: xs => match cap1 S x, caps S xs with
    | some c, some cs => some (c :: cs)
    | _, _ => none
def mfS (S : St) (d : Nat) (f : FuncId) (xs : List Operand) : R :=
  match caps S xs with
  | some cs => some (True, xs.flatMap slotsOf, [.w d (.fn f cs)])
  | none => none
/-- One operation that calls nothing. -/
def stepO (P : Program) (cf : Cfg) (N : Nat × List Nat) (S : St) (op : Op) (dst : Option Nat) : R :=
  match op, dst with
  | .move x, some d => withD N d (mvR cf S d x)
  | .assign x, some d => withD N d (mvR cf S d x)
  | .pick c x y, some d => match aop S c with
    | .val (.bool true) => withD N d (mvR cf S d x)
    | .val (.bool false) => withD N d (mvR cf S d y)
    | _ => none
  | .binOp o _ x y _, some d => match aop S x, aop S y with
    | .val (.int k m), .val (.int k' n) => if k = k' then withD N d (valR d (slotsOf x ++ slotsOf y) (binI o k m n)) else none
    | _, _ => none
  | .unOp o _ x, some d => match aop S x with
    | .val v => withD N d (valR d (slotsOf x) (unI o v))
    | _ => none
  | .convert s t x, some d => match kindT P s, aop S x with
    | some none, .val v => withD N d (valR d (slotsOf x) (cnI P t v))
    | _, _ => none
  | .load T x, some d => withD N d (ldR P S d T x)
  | .store T x y, none => stR P cf S T x y
  | .makeFunc (.func f) ⟨[]⟩ xs, some d => withD N d (mfS S d f xs.toList)
  | .alloc T, some d => withD N d (alS P d T)
  | .box T x, some d => withD N d (bxS cf N S d T x)
  | .fieldAddr T x i, some d => withD N d (faS P S d T x i)
  | .indexAddr T x i, some d => withD N d (ixR P S d T x i)
  | .index T x i, some d => withD N d (ivS P S N d T x i)
  | .field T x i, some d => withD N d (fdS P S N d T x i)
  | .slice T x lo hi none, some d => withD N d (slS P cf S d T x lo hi)
  | .build T parts, some d => withD N d (bdS P cf S d T parts.toList)
  | .makeMap _ r, some d => withD N d (mmS d r)
  | .lookup T x i ok, some d => withD N d (lkS P S d T x i ok)
  | .mapUpdate T x i y, none => muS P S T x i y
  | .insert T x i y, none => muS P S T x i y
  | .entry x, some d => withD N d (enS S d x)
  | .extract t i, some d => withD N d (exS S N d t i)
  | .buildSlice T len parts, some d => withD N d (blS P cf S d T len parts.toList)
  | .makeSlice T l c, some d => withD N d (mkS P S d T l c)
  | .call { callee := .builtin .append, args := ⟨[x, y]⟩, argTypes := ⟨[T, T']⟩ }, some d => if T = T' then withD N d (apS P S d T x y) else none
  | .call { callee := .builtin .len, args := ⟨[x]⟩, argTypes := ⟨[T]⟩ }, some d => withD N d (lnS P S d T x)
  | .call { callee := .builtin .copy, args := ⟨[x, y]⟩, argTypes := ⟨[T, _]⟩ }, some d => withD N d (cpS P S d T x y)
  | _, _ => none

def Enters (P : Program) (f : FuncId) : Prop := ∃ fn, P.funcs[f]? = some fn ∧ (fn.name == "runtime.NumGoroutine") = false ∧ fn.body.isNone = false

/-- A function's contract: called with these, it gives this. -/
def Con (P : Program) (f : FuncId) (args : List AV) (r : AV) : Prop := Enters P f ∧ ACalls P f args r

/-- A call, and what comes of it. -/
def CallVC (P : Program) (cf : Cfg) (N : Nat × List Nat) (f : FuncId) (args : List AV) (dst : Option Nat) (K : St → Prop) (S : St) : Prop :=
  ∃ r, Con P f args r ∧ match dst with
    | some d => OkD N d ∧ K (upd d (if cf.fz.contains d then frz r else r) S)
    | none => K S
theorem CallVC.of {P : Program} {cf : Cfg} {N : Nat × List Nat} {f : FuncId} {args : List AV} {d : Nat} {K : St → Prop} {S : St} {r : AV} (hc : Con P f args r) (hd : OkD N d)
    (h : K (upd d (if cf.fz.contains d then frz r else r) S)) : CallVC P cf N f args (some d) K S := ⟨r, hc, hd, h⟩
theorem CallVC.of' {P : Program} {cf : Cfg} {N : Nat × List Nat} {f : FuncId} {args : List AV} {K : St → Prop} {S : St} {r : AV} (hc : Con P f args r) (h : K S) : CallVC P cf N f args none K S := ⟨r, hc, h⟩
/-- A contract of a function that writes into what it is handed. -/
def MCon (P : Program) (f : FuncId) (args : List AV) (r : AV) (outs : List AV) : Prop := Enters P f ∧ MCalls P f args r outs

def locOk (S : St) (l : Loc) : Bool := match l.2 with
  | [] => true
  | [_] => (kids (S l.1)).isSome
  | _ => false
def MKVC (P : Program) (N : Nat × List Nat) (f : FuncId) (args : List AV) (S : St) (xs : List Operand) (S1 : St) (dst : Option Nat) (K : St → Prop) : Prop :=
  ∃ r outs, MCon P f args r outs ∧ match leafArgs S xs outs with
    | some lf => match ptLs S1 (locArgs S xs) lf with
      | some S2 => match dst with
        | some d => OkD N d ∧ K (upd d r S2)
        | none => K S2
      | none => False
    | none => False
theorem MKVC.of {P : Program} {N : Nat × List Nat} {f : FuncId} {args : List AV} {S : St} {xs : List Operand} {S1 : St} {d : Nat} {K : St → Prop} {r : AV} {outs lf : List AV} {S2 : St} (hc : MCon P f args r outs)
    (h1 : leafArgs S xs outs = some lf) (h2 : ptLs S1 (locArgs S xs) lf = some S2) (hd : OkD N d) (h : K (upd d r S2)) : MKVC P N f args S xs S1 (some d) K :=
  ⟨r, outs, hc, by rw [h1]; simp only; rw [h2]; exact ⟨hd, h⟩⟩
def MVC (P : Program) (N : Nat × List Nat) (f : FuncId) (xs : List Operand) (dst : Option Nat) (K : St → Prop) (S : St) : Prop :=
  match tkLm S (locArgs S xs) with
  | some (lf, S1) => match fillArgs S xs lf with
    | some as => ((locArgs S xs).all (locOk S1) = true ∧ ((locArgs S xs).all fun l => decide (l.1 < N.1)) = true) ∧ MKVC P N f as S xs S1 dst K
    | none => False
  | none => False

/-- A test: both ways. -/
def TestVC (c : Bool) (A B : St → Prop) (S1 S2 : St) : Prop := (c = true → A S1) ∧ (c = false → B S2)
theorem TestVC_true {A B : St → Prop} {S1 S2 : St} : TestVC true A B S1 S2 = A S1 := by simp [TestVC]
theorem TestVC_false {A B : St → Prop} {S1 S2 : St} : TestVC false A B S1 S2 = B S2 := by simp [TestVC]

def callOf : Op → Option (FuncId × List Operand)
  | .call { callee := .value (.func f), args, .. } => some (f, args.toList)
  | _ => none

/-- A call of a function value. -/
def callV (S : St) : Op → Option (FuncId × List Operand × List AV)
  | .call { callee := .value (.tmp t), args := args, argTypes := _ } => match S t with
    | .val (.func (.func f) ⟨[]⟩ ⟨[]⟩) => some (f, args.toList, [])
    | .fn f cs => some (f, args.toList, cs)
    | _ => none
  | _ => none
def vcOp (P : Program) (cf : Cfg) (N : Nat × List Nat) (o : Oper) (K : St → Prop) (S : St) : Prop :=
  match callOf o.op with
  | some (f, xs) => if cf.mu.contains f then MVC P N f xs o.dst K S else match rsvArgs S xs with
    | some as => CallVC P cf N f as o.dst K S
    | none => False
  | none => match callV S o.op with
    | some (f, xs, cs) => match rsvArgs S xs, rsvL S cs with
      | some as, some bs => CallVC P cf N f (as ++ bs) o.dst K S
      | _, _ => False
    | none => match rangeOf P S o.op, o.dst with
      | some c, some d => RangeVC N c d K S
      | _, _ => match nextOf S o.op, o.dst with
        | some (t, rem), some d => NextVC N t rem d K S
        | _, _ => match stepO P cf N S o.op o.dst with
          | some (p, _, U) => p ∧ K (app U S)
          | none => False

def gslot (ops : Array Oper) (j : Nat) : Option Nat := (ops[j]?).bind (·.dst)

def skipU (o : Oper) : List Upd := match o.dst with
  | some d => [.w d (.tup [])]
  | none => []
def skipK (o : Oper) (K : St → Prop) (S : St) : Prop := K (app (skipU o) S)

def vcOps (P : Program) (cf : Cfg) (N : Nat × List Nat) (ops : Array Oper) : List Oper → (St → Prop) → St → Prop
  | [], K, S => K S
  | o :: l, K, S => match o.guard with
    | none => vcOp P cf N o (vcOps P cf N ops l K) S
    | some (j, b) => match gslot ops j with
      | some g => match S g with
        | .val (.bool c) => g < N.1 ∧ TestVC (c == b) (vcOp P cf N o (vcOps P cf N ops l K)) (skipK o (vcOps P cf N ops l K)) (upd g (.val (.bool b)) S) (upd g (.val (.bool !b)) S)
        | .tup [] => skipK o (vcOps P cf N ops l K) S
        | _ => False
      | none => False

section
variable {P : Program} {N : Nat × List Nat} {G : Nat → Prop} {w0 : World × (Nat → Value)} {w w' : World} {S : St} {a : Act} {F : Nat → Prop} {oss : Nat → List Nat} {X : List Nat}

theorem withD_some {d : Nat} {r : R} {p : Prop} {rd : List Nat} {U : List Upd} (h : withD N d r = some (p, rd, U)) : ∃ q, r = some (q, rd, U) ∧ p = (OkD N d ∧ q) := by
  unfold withD at h
  split at h
  · simp only [Option.some.injEq, Prod.mk.injEq] at h; obtain ⟨rfl, rfl, rfl⟩ := h; exact ⟨_, rfl, rfl⟩
  · simp at h
theorem mvR_some {cf : Cfg} {d : Nat} {x : Operand} {p : Prop} {rd : List Nat} {U : List Upd} (h : mvR cf S d x = some (p, rd, U)) : mvS cf S d x = some (rd, U) := by
  unfold mvR at h
  split at h
  · simp only [Option.some.injEq, Prod.mk.injEq] at h; obtain ⟨_, rfl, rfl⟩ := h; assumption
  · simp at h
theorem valR_some {d : Nat} {rd rd' : List Nat} {r : Option (Prop × Value)} {p : Prop} {U : List Upd} (h : valR d rd r = some (p, rd', U)) : ∃ v, r = some (p, v) ∧ U = [.w d (.val v)] := by
  unfold valR at h
  split at h
  · simp only [Option.some.injEq, Prod.mk.injEq] at h; obtain ⟨rfl, rfl, rfl⟩ := h; exact ⟨_, rfl, rfl⟩
  · simp at h

theorem putVal (h : Core P N G w0 S a w F oss []) {d : Nat} (hd : OkD N d) {v : Value} (hv : v.oneCell' = true) : StRel P N G w0 (app [.w d (.val v)] S) (a.put (some d) v) w :=
  h.put0 hd (.cell _ _ _ (.val v hv))

theorem binI_one {op : BinOp} {k : IntKind} {x y : Int} {p : Prop} {v : Value} (h : binI op k x y = some (p, v)) : v.oneCell' = true := by
  cases op <;> simp only [binI] at h <;> (try split at h) <;> simp only [Option.some.injEq, Prod.mk.injEq, reduceCtorEq] at h <;> (obtain ⟨_, rfl⟩ := h; rfl)
theorem unI_one {op : UnOp} {u v : Value} {p : Prop} (h : unI op u = some (p, v)) : v.oneCell' = true := by
  unfold unI at h
  split at h <;> (try split at h) <;> simp only [Option.some.injEq, Prod.mk.injEq, reduceCtorEq] at h <;> (obtain ⟨_, rfl⟩ := h; rfl)
theorem cnI_one {t : TypeId} {u v : Value} {p : Prop} (h : cnI P t u = some (p, v)) : v.oneCell' = true := by
  unfold cnI at h
  split at h <;> (try split at h) <;> simp only [Option.some.injEq, Prod.mk.injEq, reduceCtorEq] at h <;> (obtain ⟨_, rfl⟩ := h; rfl)

theorem cap1_rep (h : Core P N G w0 S a w F oss X) {x : Operand} {c : AV} (hc : cap1 S x = some c) : RepT P w F (tmo a) oss c (a.eval x) [] := by
  have plain : ∀ (c : AV), aop S x = c → hasOwn c = false → RepT P w F (tmo a) oss c (a.eval x) [] := by
    intro c e hn
    obtain ⟨os, ho, _⟩ := h.op x
    rw [e] at ho
    have := RepT.noOwn ho hn
    subst this; exact ho
  unfold cap1 at hc
  split at hc
  · simp at hc
  · injection hc with hc; subst hc
    exact .bor _ [] _ rfl
  · split at hc
    · simp at hc
    · rename_i hn
      injection hc with hc; subst hc
      exact plain _ rfl (by simpa using hn)
theorem caps_rep (h : Core P N G w0 S a w F oss X) : ∀ {xs : List Operand} {cs : List AV}, caps S xs = some cs → RepTL P w F (tmo a) oss cs (xs.map a.eval) [] ∧ cs.length = xs.length
  | [], cs, hc => by simp [caps] at hc; subst hc; exact ⟨.nil _, rfl⟩
  | x :: xs, cs, hc => by
    rw [caps] at hc
    split at hc
    · rename_i c ds h1 h2
      injection hc with hc; subst hc
      obtain ⟨k1, k2⟩ := caps_rep h h2
      exact ⟨.cons _ _ [] _ _ [] (cap1_rep h h1) k1, by simp [k2]⟩
    · simp at hc
theorem mf_sound (h : Core P N G w0 S a w F oss []) {d : Nat} {f : FuncId} {xs : Array Operand} (hd : OkD N d) {p : Prop} {rd : List Nat} {U : List Upd} (hm : mfS S d f xs.toList = some (p, rd, U)) :
    StRel P N G w0 (app U S) (a.put (some d) (.func (.func f) #[] (xs.map a.eval))) w := by
  unfold mfS at hm
  split at hm
  · rename_i cs hc
    simp only [Option.some.injEq, Prod.mk.injEq] at hm; obtain ⟨rfl, rfl, rfl⟩ := hm
    obtain ⟨k1, k2⟩ := caps_rep h hc
    have := RepT.fn (P := P) f cs (xs.toList.map a.eval) [] (by simp [k2]) k1
    have e : (xs.toList.map a.eval).toArray = xs.map a.eval := by apply Array.ext'; simp
    rw [e] at this
    exact h.put0 hd this
  · simp at hm

theorem stepO_sound (h : Core P N G w0 S a w F oss []) {cf : Cfg} {o : Oper} {p : Prop} {rd : List Nat} {U : List Upd} {K : Act → World → Prop} {Q : Exit → Act → World → Prop}
    (hm : stepO P cf N S o.op o.dst = some (p, rd, U)) (hp : p) (hk : ∀ a' w', StRel P N G w0 (app U S) a' w' → K a' w') : o.wp P a w K Q := by
  obtain ⟨dst, op, ty, pos, after, guard⟩ := o
  simp only at hm
  unfold stepO at hm
  split at hm
  · obtain ⟨q, h1, rfl⟩ := withD_some hm
    exact wp_value (v := a.eval _) rfl (hk _ _ (mvS_sound h hp.1 (mvR_some h1)))
  · obtain ⟨q, h1, rfl⟩ := withD_some hm
    exact wp_value (v := a.eval _) rfl (hk _ _ (mvS_sound h hp.1 (mvR_some h1)))
  · rename_i c x y d
    split at hm
    · rename_i hc
      obtain ⟨q, h1, rfl⟩ := withD_some hm
      refine wp_value (v := a.eval x) ?_ (hk _ _ (mvS_sound h hp.1 (mvR_some h1)))
      simp [execOp, h.int hc, asBool]
    · rename_i hc
      obtain ⟨q, h1, rfl⟩ := withD_some hm
      refine wp_value (v := a.eval y) ?_ (hk _ _ (mvS_sound h hp.1 (mvR_some h1)))
      simp [execOp, h.int hc, asBool]
    · simp at hm
  · rename_i bo t x y t' d
    split at hm
    · rename_i k m k' n hx hy
      split at hm
      · rename_i hkk
        subst hkk
        obtain ⟨q, h1, rfl⟩ := withD_some hm
        obtain ⟨v, h2, rfl⟩ := valR_some h1
        refine wp_value (v := v) ?_ (hk _ _ (putVal h hp.1 (binI_one h2)))
        have := binI_sound (P := P) (w := w) h2 hp.2 t x y
        simp only [execOp, h.int hx, h.int hy, Sem.run_bind] at this ⊢
        rw [this]; rfl
      · simp at hm
    · simp at hm
  · rename_i uo t x d
    split at hm
    · rename_i v hx
      obtain ⟨q, h1, rfl⟩ := withD_some hm
      obtain ⟨u, h2, rfl⟩ := valR_some h1
      refine wp_value (v := u) ?_ (hk _ _ (putVal h hp.1 (unI_one h2)))
      simp only [execOp, h.int hx, Sem.run_bind, unI_sound h2 hp.2]; rfl
    · simp at hm
  · rename_i s t x d
    split at hm
    · rename_i v hT hx
      obtain ⟨q, h1, rfl⟩ := withD_some hm
      obtain ⟨u, h2, rfl⟩ := valR_some h1
      refine wp_value (v := u) ?_ (hk _ _ (putVal h hp.1 (cnI_one h2)))
      have hs : ∃ d, P.underlying s = some d := by obtain ⟨d, hd, _⟩ := kindT_one hT; exact ⟨d, hd⟩
      simp only [execOp, h.int hx, Sem.run_bind, cnI_sound hs h2 hp.2]; rfl
    · simp at hm
  · rename_i T x d
    obtain ⟨q, h1, rfl⟩ := withD_some hm
    unfold ldR at h1
    split at h1
    · rename_i hT
      split at h1
      · rename_i rd' U' h2
        simp only [Option.some.injEq, Prod.mk.injEq] at h1; obtain ⟨rfl, rfl, rfl⟩ := h1
        obtain ⟨v, r1, r2⟩ := ld1_sound h hT hp.1 h2
        refine wp_value (v := v) ?_ (hk _ _ r2)
        simp only [execOp, Sem.run_bind, r1]; rfl
      · simp at h1
    · rename_i m hT
      obtain ⟨v, r1, r2⟩ := ldA_sound h hT hp.1 h1 hp.2
      refine wp_value (v := v) ?_ (hk _ _ r2)
      simp only [execOp, Sem.run_bind, r1]; rfl
    · simp at h1
  · rename_i T x y
    unfold stR at hm
    split at hm
    · rename_i hT
      obtain ⟨w', r1, r2⟩ := st1_sound h hT hm hp
      refine wp_nothing ?_ (hk _ _ r2)
      simp only [execOp, Sem.run_bind, r1]; rfl
    · rename_i m hT
      obtain ⟨w', r1, r2⟩ := stA_sound h hT hm hp
      refine wp_nothing ?_ (hk _ _ r2)
      simp only [execOp, Sem.run_bind, r1]; rfl
    · simp at hm
  · rename_i f xs d
    obtain ⟨q, h1, rfl⟩ := withD_some hm
    refine wp_value (v := .func (.func f) #[] (xs.map a.eval)) ?_ (hk _ _ (mf_sound h hp.1 h1))
    simp [execOp, Instr.makeFunc]
  · rename_i T d
    obtain ⟨q, h1, rfl⟩ := withD_some hm
    obtain ⟨v, w', r1, r2⟩ := al_sound h hp.1 h1
    refine wp_value (v := v) ?_ (hk _ _ r2)
    simp only [execOp, Sem.run_bind, r1]; rfl
  · rename_i T x d
    obtain ⟨q, h1, rfl⟩ := withD_some hm
    obtain ⟨v, w', r1, r2⟩ := bx_sound h hp.1 h1 hp.2
    refine wp_value (v := v) ?_ (hk _ _ r2)
    simp only [execOp, Sem.run_bind, r1]; rfl
  · rename_i T x i d
    obtain ⟨q, h1, rfl⟩ := withD_some hm
    obtain ⟨v, r1, r2⟩ := fa_sound h hp.1 h1 hp.2
    refine wp_value (v := v) ?_ (hk _ _ r2)
    simp only [execOp, Sem.run_bind, r1]; rfl
  · rename_i T x i d
    obtain ⟨q, h1, rfl⟩ := withD_some hm
    obtain ⟨v, r1, r2⟩ := ixR_sound h hp.1 h1 hp.2
    refine wp_value (v := v) ?_ (hk _ _ r2)
    simp only [execOp, Sem.run_bind, r1]; rfl
  · rename_i T x i d
    obtain ⟨q, h1, rfl⟩ := withD_some hm
    obtain ⟨v, r1, r2⟩ := iv_sound h hp.1 h1 hp.2
    refine wp_value (v := v) ?_ (hk _ _ r2)
    simp only [execOp, Sem.run_bind, r1]; rfl
  · rename_i T x i d
    obtain ⟨q, h1, rfl⟩ := withD_some hm
    obtain ⟨v, r1, r2⟩ := fd_sound h hp.1 h1 hp.2
    refine wp_value (v := v) ?_ (hk _ _ r2)
    simp only [execOp, Sem.run_bind, r1]; rfl
  · rename_i T x lo hi d
    obtain ⟨q, h1, rfl⟩ := withD_some hm
    obtain ⟨v, r1, r2⟩ := sl_sound h hp.1 h1 hp.2
    refine wp_value (v := v) ?_ (hk _ _ r2)
    simp only [execOp, Sem.run_bind, Option.map_none, r1]; rfl
  · rename_i T parts d
    obtain ⟨q, h1, rfl⟩ := withD_some hm
    obtain ⟨v, r1, r2⟩ := bd_sound h hp.1 h1 hp.2
    refine wp_value (v := v) ?_ (hk _ _ r2)
    simp only [execOp, Sem.run_bind, r1]; rfl
  · rename_i T r d
    obtain ⟨q, h1, rfl⟩ := withD_some hm
    obtain ⟨v, w', r1, r2⟩ := mm_sound h (T := T) hp.1 h1
    refine wp_value (v := v) ?_ (hk _ _ r2)
    simp only [execOp, Sem.run_bind, r1]; rfl
  · rename_i T x i ok d
    obtain ⟨q, h1, rfl⟩ := withD_some hm
    obtain ⟨v, r1, r2⟩ := lk_sound h hp.1 h1
    refine wp_value (v := v) ?_ (hk _ _ r2)
    simp only [execOp, Sem.run_bind, r1]; rfl
  · rename_i T x i y
    obtain ⟨w', r1, r2⟩ := mu_sound h hm
    refine wp_nothing ?_ (hk _ _ r2)
    simp only [execOp, Sem.run_bind, r1]; rfl
  · rename_i T x i y
    obtain ⟨w', r1, r2⟩ := mu_sound h hm
    refine wp_nothing ?_ (hk _ _ r2)
    simp only [execOp, Sem.run_bind, r1]; rfl
  · rename_i x d
    obtain ⟨q, h1, rfl⟩ := withD_some hm
    obtain ⟨v, r1, r2⟩ := en_sound h hp.1 h1
    refine wp_value (v := v) ?_ (hk _ _ r2)
    simp only [execOp, Sem.run_bind, r1]; rfl
  · rename_i t i d
    obtain ⟨q, h1, rfl⟩ := withD_some hm
    obtain ⟨v, r1, r2⟩ := ex_sound h hp.1 h1 hp.2
    refine wp_value (v := v) ?_ (hk _ _ r2)
    simp only [execOp, Sem.run_bind, r1]; rfl
  · rename_i T len parts d
    obtain ⟨q, h1, rfl⟩ := withD_some hm
    obtain ⟨v, w', r1, r2⟩ := bl_sound h hp.1 h1 hp.2
    refine wp_value (v := v) ?_ (hk _ _ r2)
    simp only [execOp, Sem.run_bind, r1]; rfl
  · rename_i T l c d
    obtain ⟨q, h1, rfl⟩ := withD_some hm
    obtain ⟨v, w', r1, r2⟩ := mk_sound h hp.1 h1 hp.2
    refine wp_value (v := v) ?_ (hk _ _ r2)
    simp only [execOp, Sem.run_bind, r1]; rfl
  · rename_i x y T T' d
    split at hm
    · rename_i e
      subst e
      obtain ⟨q, h1, rfl⟩ := withD_some hm
      obtain ⟨v, w', r1, r2⟩ := ap_sound h (ty := ty) hp.1 h1 hp.2
      refine wp_value (v := v) ?_ (hk _ _ r2)
      simp only [execOp, resolve, invoke, builtin, Sem.run_bind, Sem.run_pure, Result.andThen_ok, List.map_toArray, List.map_cons, List.map_nil, r1]
    · simp at hm
  · rename_i x T d
    obtain ⟨q, h1, rfl⟩ := withD_some hm
    obtain ⟨v, r1, r2⟩ := ln_sound h (ty := ty) hp.1 h1
    refine wp_value (v := v) ?_ (hk _ _ r2)
    simp only [execOp, resolve, invoke, builtin, Sem.run_bind, Sem.run_pure, Result.andThen_ok, List.map_toArray, List.map_cons, List.map_nil, r1]
  · rename_i x y T T' d
    obtain ⟨q, h1, rfl⟩ := withD_some hm
    obtain ⟨v, w', r1, r2⟩ := cp_sound h (T' := T') (ty := ty) hp.1 h1 hp.2
    refine wp_value (v := v) ?_ (hk _ _ r2)
    simp only [execOp, resolve, invoke, builtin, Sem.run_bind, Sem.run_pure, Result.andThen_ok, List.map_toArray, List.map_cons, List.map_nil, r1]
  · simp at hm

theorem callOf_some {op : Op} {f : FuncId} {xs : List Operand} (h : callOf op = some (f, xs)) : ∃ args tys, op = .call { callee := .value (.func f), args := args, argTypes := tys } ∧ args.toList = xs := by
  unfold callOf at h
  split at h
  · simp only [Option.some.injEq, Prod.mk.injEq] at h; obtain ⟨rfl, rfl⟩ := h; exact ⟨_, _, rfl, rfl⟩
  · simp at h

theorem run_callFunc {f : FuncId} (h : Enters P f) (args : Array Value) : (callFunc f args).run P w = .ok (.enter f args) w := by
  obtain ⟨fn, h1, h2, h3⟩ := h
  have h2' : fn.name ≠ "runtime.NumGoroutine" := by simpa using h2
  have h3' : fn.body ≠ none := by cases hb : fn.body <;> simp_all
  simp [callFunc, program, Sem.run, h1, h2', h3']

mutual
theorem RepT.frz {F' : Nat → Prop} {tm : Nat → Value} (hF : ∀ b, F b → F' b) {c : AV} {v : Value} {os : List Nat} (h : RepT P w F tm oss c v os) (ho : ∀ b ∈ os, F' b) : RepT P w F' tm oss (Abs.frz c) v [] := by
  cases h with
  | any v => exact .any v
  | cell c v os h => exact .cell _ _ _ (h.frz hF ho)
  | agg cs vs os hl h => exact .agg _ vs [] (by rw [frzL_eq]; simpa using hl) (RepTL.frz hF h ho)
  | tup cs vs os hl h => exact .tup _ vs [] (by rw [frzL_eq]; simpa using hl) (RepTL.frz hF h ho)
  | fn f cs vs os hl h => exact .fn f _ vs [] (by rw [frzL_eq]; simpa using hl) (RepTL.frz hF h ho)
  | bor s p v h => exact .bor s p v h
  | ptr s p off u b h hb => exact .ptr s p off u b h hb
  | slp s p off n cap u b h hb hn => exact .slp s p off n cap u b h hb hn
theorem RepTL.frz {F' : Nat → Prop} {tm : Nat → Value} (hF : ∀ b, F b → F' b) {cs : List AV} {vs : List Value} {os : List Nat} (h : RepTL P w F tm oss cs vs os) (ho : ∀ b ∈ os, F' b) : RepTL P w F' tm oss (frzL cs) vs [] := by
  cases h with
  | nil vs => exact .nil vs
  | cons c v os cs vs os' h t => exact .cons _ v [] _ vs [] (RepT.frz hF h (fun x hx => ho x (by simp [hx]))) (RepTL.frz hF t (fun x hx => ho x (by simp [hx])))
end

theorem freshF (h : Core P N G w0 S a w F oss []) {r : AV} {v : Value} {os : List Nat} (hb : Below w.heap.size w w') (hn : os.Nodup) (ho : ∀ b ∈ os, w.heap.size ≤ b ∧ b < w'.heap.size) :
    Core P N G w0 S a w' (fun b => F b ∨ (w.heap.size ≤ b ∧ b < w'.heap.size ∧ b ∉ os)) oss os :=
  h.world hb.os hb.tape hb.output hb.size (fun b hlt _ => hb.block b hlt) (fun _ h => .inl h) (fun b hb => hb.imp id (fun h => ⟨.inr h.1, h.2.1⟩))
    (fun b hb' => ⟨.inr (ho b hb').1, (ho b hb').2, fun hf => by
      rcases hf with hf | hf
      · have := h.fw b hf; have := (ho b hb').1; omega
      · exact hf.2.2 hb'⟩) hn

theorem call_run (h : Core P N G w0 S a w F oss []) {cf : Cfg} {o : Oper} {f : FuncId} {as : List AV} {vs : List Value} (hl : as.length = vs.length)
    (hrep : ∀ tm oss', RepTL P w (fun b => b < w.heap.size) tm oss' as vs []) (hrun : (execOp a.eval o).run P w = .ok (.enter f vs.toArray) w)
    {r : AV} (hr : ACalls P f as r) {K : Act → World → Prop} {Q : Exit → Act → World → Prop}
    (hk : ∀ a' w', (∀ d, o.dst = some d → OkD N d) → (match o.dst with
      | some d => StRel P N G w0 (upd d (if cf.fz.contains d then frz r else r) S) a' w'
      | none => StRel P N G w0 S a' w') → K a' w') (hd : ∀ d, o.dst = some d → OkD N d) : o.wp P a w K Q := by
  simp only [Oper.wp, hrun, Oper.upon]
  refine (hr w _ hl hrep).mono ?_
  rintro e w' ⟨v, os, rfl, hb, hv, hn, ho⟩
  have hcore := freshF (r := r) (v := v) h hb hn ho
  refine hk _ _ hd ?_
  obtain ⟨dst, op, ty, pos, after, guard⟩ := o
  cases dst with
  | none => exact hcore.st
  | some d =>
    have hrr : RepT P w' (fun b => F b ∨ (w.heap.size ≤ b ∧ b < w'.heap.size ∧ b ∉ os)) (tmo a) oss r v os :=
      RepT.mono (F := fun b => w.heap.size ≤ b ∧ b < w'.heap.size ∧ b ∉ os) (tm := tmo a) (oss := oss) (fun _ h => .inr h) (fun _ _ _ h => h) (hv (tmo a) oss) (fun _ _ => rfl)
    show StRel P N G w0 (upd d (if cf.fz.contains d then frz r else r) S) (a.put (some d) v) w'
    split
    · have hc2 : Core P N G w0 S a w' (fun b => F b ∨ (w.heap.size ≤ b ∧ b < w'.heap.size)) oss [] :=
        h.world hb.os hb.tape hb.output hb.size (fun b hlt _ => hb.block b hlt) (fun _ h => .inl h) (fun b hb => hb.imp id (fun h => ⟨.inr h.1, h.2⟩)) (by simp) List.nodup_nil
      refine hc2.put0 (hd d rfl) (hrr.frz (fun b hb => hb.imp id (fun h => ⟨h.1, h.2.1⟩)) (fun b hb => .inr (ho b hb)))
    · exact hcore.putX (hd d rfl) hrr

theorem call_sound (h : Core P N G w0 S a w F oss []) {cf : Cfg} {o : Oper} {f : FuncId} {xs : List Operand} (hc : callOf o.op = some (f, xs)) {as : List AV} (ha : rsvArgs S xs = some as)
    {r : AV} (he : Enters P f) (hr : ACalls P f as r) {K : Act → World → Prop} {Q : Exit → Act → World → Prop}
    (hk : ∀ a' w', (∀ d, o.dst = some d → OkD N d) → (match o.dst with
      | some d => StRel P N G w0 (upd d (if cf.fz.contains d then frz r else r) S) a' w'
      | none => StRel P N G w0 S a' w') → K a' w') (hd : ∀ d, o.dst = some d → OkD N d) : o.wp P a w K Q := by
  obtain ⟨args, tys, hop, rfl⟩ := callOf_some hc
  obtain ⟨hl, hrep⟩ := h.args ha
  have hrun : (execOp a.eval o).run P w = .ok (.enter f (args.toList.map a.eval).toArray) w := by
    obtain ⟨dst, op, ty, pos, after, guard⟩ := o
    simp only at hop
    subst hop
    rw [execOp_call_go, run_callFunc he]
    congr 2
    apply Array.ext'
    simp
  exact call_run h (cf := cf) (by rw [hl]; simp) hrep hrun hr hk hd

theorem RepTL.app {F' : Nat → Prop} {tm : Nat → Value} {oss' : Nat → List Nat} : ∀ {cs ds : List AV} {vs us : List Value}, RepTL P w F' tm oss' cs vs [] → cs.length = vs.length → RepTL P w F' tm oss' ds us [] → RepTL P w F' tm oss' (cs ++ ds) (vs ++ us) []
  | [], ds, vs, us, h, hl, k => by
    have : vs = [] := by simpa using hl.symm
    subst this; simpa using k
  | c :: cs, ds, vs, us, h, hl, k => by
    generalize ho : ([] : List Nat) = o0 at h
    cases h with
    | cons _ v o1 _ vs o2 h t =>
      have e : o1 = [] ∧ o2 = [] := by simpa using ho.symm
      obtain ⟨rfl, rfl⟩ := e
      exact .cons _ _ [] _ _ [] h (RepTL.app t (by simpa using hl) k)
theorem callV_sound (h : Core P N G w0 S a w F oss []) {cf : Cfg} {o : Oper} {f : FuncId} {xs : List Operand} {cs : List AV} (hc : callV S o.op = some (f, xs, cs)) {as bs : List AV} (ha : rsvArgs S xs = some as) (hb : rsvL S cs = some bs)
    {r : AV} (he : Enters P f) (hr : ACalls P f (as ++ bs) r) {K : Act → World → Prop} {Q : Exit → Act → World → Prop}
    (hk : ∀ a' w', (∀ d, o.dst = some d → OkD N d) → (match o.dst with
      | some d => StRel P N G w0 (upd d (if cf.fz.contains d then frz r else r) S) a' w'
      | none => StRel P N G w0 S a' w') → K a' w') (hd : ∀ d, o.dst = some d → OkD N d) : o.wp P a w K Q := by
  obtain ⟨dst, op, ty, pos, after, guard⟩ := o
  simp only at hc
  unfold callV at hc
  split at hc
  · rename_i t args tys
    obtain ⟨hl, hrep⟩ := h.args ha
    split at hc
    · rename_i g hS
      simp only [Option.some.injEq, Prod.mk.injEq] at hc; obtain ⟨rfl, rfl, rfl⟩ := hc
      simp [rsvL] at hb; subst hb
      have hv : a.eval (.tmp t) = .func (.func g) #[] #[] := h.int (x := .tmp t) hS
      rw [List.append_nil] at hr
      refine call_run h (cf := cf) (vs := args.toList.map a.eval) (by rw [hl]; simp) hrep ?_ hr hk hd
      have : (execOp a.eval ⟨dst, .call { callee := .value (.tmp t), args := args, argTypes := tys }, ty, pos, after, guard⟩) = callFunc g (#[] ++ args.map a.eval ++ #[]) := by
        simp [execOp, resolve, hv, Deferred.ofValue, invoke]
      rw [this, run_callFunc he]
      congr 2
      apply Array.ext'
      simp
    · rename_i g cs' hS
      simp only [Option.some.injEq, Prod.mk.injEq] at hc; obtain ⟨rfl, rfl, rfl⟩ := hc
      have hg := h.get t
      rw [hS] at hg
      have hob : ∀ b ∈ oss t, b < w.heap.size := fun b hb => (h.own t b hb).2
      generalize hv : a.eval (.tmp t) = v at hg
      generalize oss t = ot at hg hob
      cases hg with
      | cell _ _ _ hc => cases hc
      | fn _ _ us os hl2 hL =>
        have hbs := h.rsvL hL hob hb
        have hbl : bs.length = cs'.length := RepTL.length_eq' (tm := tmo a) hb
        refine call_run h (cf := cf) (vs := args.toList.map a.eval ++ us) (by simp [hl, hbl, hl2]) (fun tm oss' => RepTL.app (hrep tm oss') (by rw [hl]; simp) (hbs tm oss')) ?_ hr hk hd
        have : (execOp a.eval ⟨dst, .call { callee := .value (.tmp t), args := args, argTypes := tys }, ty, pos, after, guard⟩) = callFunc g (#[] ++ args.map a.eval ++ us.toArray) := by
          simp [execOp, resolve, hv, Deferred.ofValue, invoke]
        rw [this, run_callFunc he]
        congr 2
        apply Array.ext'
        simp
    · simp at hc
  · simp at hc

theorem mcall_sound (h : Core P N G w0 S a w F oss []) {o : Oper} {f : FuncId} {xs : List Operand} (hc : callOf o.op = some (f, xs)) {K : St → Prop} (hv : MVC P N f xs o.dst K S)
    {K' : Act → World → Prop} {Q : Exit → Act → World → Prop} (hk : ∀ S' a' w', K S' → StRel P N G w0 S' a' w' → K' a' w') : o.wp P a w K' Q := by
  unfold MVC at hv
  split at hv
  · rename_i lf S1 h1
    split at hv
    · rename_i as h2
      obtain ⟨⟨hloc, hlt⟩, r, outs, ⟨he, hm⟩, hK⟩ := hv
      split at hK
      · rename_i lf' h3
        split at hK
        · rename_i S2 h4
          obtain ⟨us, oc, oss1, k1, k2⟩ := h.tkLm h1
          simp only [List.append_nil] at k1
          have hF0 : ∀ b, F b → b < w.heap.size ∧ b ∉ oc := fun b hb => ⟨k1.fw b hb, fun hx => (k1.xo b hx).1 hb⟩
          obtain ⟨m1, m2⟩ := h.margs hF0 k2 h2
          obtain ⟨args, tys, hop, rfl⟩ := callOf_some hc
          have hrun : (execOp a.eval o).run P w = .ok (.enter f (args.toList.map a.eval).toArray) w := by
            obtain ⟨dst, op, ty, pos, after, guard⟩ := o
            simp only at hop
            subst hop
            rw [execOp_call_go, run_callFunc he]
            congr 2
            apply Array.ext'
            simp
          simp only [Oper.wp, hrun, Oper.upon]
          refine (hm w _ oc (by rw [m2]; simp) k1.xn (fun b hb => (k1.xo b hb).2) m1).mono ?_
          rintro e w' ⟨v, orr, oo, rfl, hx, hr, ho, hol, hn, hb⟩
          -- the world went on
          have hw' : Core P N G w0 S1 a w' F oss1 (oo ++ orr) :=
            k1.world hx.os hx.tape hx.output hx.size (fun b hlt hnx => hx.block b ⟨hlt, hnx⟩) (fun _ h => h) (fun _ h => .inl h)
              (fun b hb' => by
                have hb2 := hb b (by rcases List.mem_append.1 hb' with h | h; exact .inr h; exact .inl h)
                refine ⟨hb2.1, hb2.2, fun hf => ?_⟩
                rcases hb2.1 with h1 | h1
                · exact (k1.xo b h1).1 hf
                · have := k1.fw b hf; omega)
              (by
                have := List.nodup_append.1 hn
                exact List.nodup_append.2 ⟨this.2.1, this.1, fun x hx y hy e => this.2.2 y hy x hx e.symm⟩)
          -- the places are where they were
          have hT : ∀ l ∈ locArgs S args.toList, ∀ v, walkIn w (oss l.1) (tmo a l.1) l.2 v → ∃ Y, walkIn w' Y (tmo a l.1) l.2 v := by
            intro l hl v hv
            have hok := (List.all_eq_true.1 hloc) l hl
            obtain ⟨s, p⟩ := l
            unfold locOk at hok
            simp only at hok hv ⊢
            split at hok
            · exact ⟨[], hv⟩
            · rename_i i
              have hk : kids (S1 s) ≠ none := by intro e; simp [e] at hok
              have hrs := (k1.rep s).ofKids hk
              obtain ⟨b, cc, ee, fr, v', b1, b2, b3, b4, b5⟩ := hv
              have hbin : b ∈ oss1 s := by
                exact kids_base hrs hk b1
              have hsame : w'.heap[b]? = w.heap[b]? := hx.block b ⟨(k1.own s b hbin).2, fun hx => k1.xd s b hx hbin⟩
              exact ⟨[b], b, cc, ee, fr, v', b1, by simp, hsame.trans b3, b4, b5⟩
            · simp at hok
          obtain ⟨o', q1, q2, q3⟩ := h.mouts (w' := w') (F' := F) (tm' := tmo a) (oss' := oss) (ho F (tmo a) oss) hT h3
          have hn2 := List.nodup_append.1 hn
          have hw2 : Core P N G w0 S1 a w' F oss1 (o' ++ orr) := hw'.sub (fun b hb => by
            rcases List.mem_append.1 hb with hb | hb
            · simp [q2 b hb]
            · simp [hb]) (List.nodup_append.2 ⟨q3 hn2.2.1, hn2.1, fun x hx y hy e => hn2.2.2 y hy x (q2 x hx) e.symm⟩)
          obtain ⟨oss2, hw3⟩ := hw2.ptLs q1 (fun l hl => by simpa using (List.all_eq_true.1 hlt) l hl) h4
          obtain ⟨dst, op, ty, pos, after, guard⟩ := o
          cases dst with
          | none => exact hk S2 a w' hK hw3.drop.st
          | some d => exact hk _ _ _ hK.2 (hw3.putX hK.1 (hr F (tmo a) oss2))
        · exact hK.elim
      · exact hK.elim
    · exact hv.elim
  · exact hv.elim

theorem vcOp_sound (h : StRel P N G w0 S a w) {cf : Cfg} {o : Oper} {K : St → Prop} {K' : Act → World → Prop} {Q : Exit → Act → World → Prop}
    (hv : vcOp P cf N o K S) (hk : ∀ S' a' w', K S' → StRel P N G w0 S' a' w' → K' a' w') : o.wp P a w K' Q := by
  obtain ⟨F, oss, h⟩ := h
  unfold vcOp at hv
  split at hv
  · rename_i f xs hc
    split at hv
    · exact mcall_sound h hc hv hk
    split at hv
    · rename_i as ha
      obtain ⟨r, ⟨he, hr⟩, hK⟩ := hv
      split at hK
      · rename_i d hd
        obtain ⟨hN, hK⟩ := hK
        refine call_sound h hc ha he hr (cf := cf) (fun a' w' hd' hs => hk _ a' w' hK ?_) (fun d' hd' => by rw [hd] at hd'; injection hd' with hd'; exact hd' ▸ hN)
        rw [hd] at hs
        exact hs
      · rename_i hd
        refine call_sound h hc ha he hr (cf := cf) (fun a' w' hd' hs => hk _ a' w' hK ?_) (fun d' hd' => by rw [hd] at hd'; simp at hd')
        rw [hd] at hs
        exact hs
    · exact hv.elim
  · split at hv
    · rename_i f xs cs hc
      split at hv
      · rename_i as bs ha hb
        obtain ⟨r, ⟨he, hr⟩, hK⟩ := hv
        split at hK
        · rename_i d hd
          obtain ⟨hN, hK⟩ := hK
          refine callV_sound h hc ha hb he hr (cf := cf) (fun a' w' hd' hs => hk _ a' w' hK ?_) (fun d' hd' => by rw [hd] at hd'; injection hd' with hd'; exact hd' ▸ hN)
          rw [hd] at hs
          exact hs
        · rename_i hd
          refine callV_sound h hc ha hb he hr (cf := cf) (fun a' w' hd' hs => hk _ a' w' hK ?_) (fun d' hd' => by rw [hd] at hd'; simp at hd')
          rw [hd] at hs
          exact hs
      · exact hv.elim
    · split at hv
      · rename_i c d hr hd
        exact range_sound h hr hd hv hk
      · split at hv
        · rename_i t rem d hn hd
          exact next_sound h hn hd hv hk
        · split at hv
          · rename_i p rd U hs
            exact stepO_sound h hs hv.1 (fun a' w' hs => hk _ a' w' hv.2 hs)
          · exact hv.elim

theorem yielded_slot {ops : Array Oper} {j g : Nat} {c : Bool} (hg : gslot ops j = some g) (h : StRel P N G w0 S a w) (hN : g < N.1) (hS : S g = .val (.bool c)) : yielded ops a.tmps j = some c := by
  obtain ⟨F, oss, h⟩ := h
  have hv : a.eval (.tmp g) = .bool c := h.int (x := .tmp g) hS
  have hlt : g < a.tmps.size := by rw [h.sz]; exact hN
  have : a.tmps[g]? = some (.bool c) := by
    simp only [Act.eval, Array.getD, hlt, dif_pos] at hv
    rw [Array.getElem?_eq_getElem hlt]
    exact congrArg some hv
  unfold gslot at hg
  simp [yielded, hg, this]

theorem yielded_none {ops : Array Oper} {j g : Nat} (hg : gslot ops j = some g) (h : StRel P N G w0 S a w) (hS : S g = .tup []) : yielded ops a.tmps j = none := by
  obtain ⟨F, oss, h⟩ := h
  have hr := h.get g
  rw [hS] at hr
  unfold gslot at hg
  unfold yielded
  rw [hg]
  simp only [Option.bind_some]
  cases ht : a.tmps[g]? with
  | none => rfl
  | some v =>
    have hv : a.eval (.tmp g) = v := by
      obtain ⟨hlt, e⟩ := Array.getElem?_eq_some_iff.1 ht
      simp only [Act.eval, Array.getD, hlt, dif_pos]; exact e
    rw [hv] at hr
    generalize oss g = os at hr
    generalize hc : AV.tup [] = c at hr
    cases hr with
    | tup cs vs os hl h => rfl
    | cell c v os h => subst hc; cases h
    | _ => simp at hc

theorem skip_sound (h : StRel P N G w0 S a w) (o : Oper) (hd : ∀ d, o.dst = some d → OkD N d) : StRel P N G w0 (app (skipU o) S) (a.put o.dst undef) w := by
  obtain ⟨F, oss, h⟩ := h
  unfold skipU
  cases hd' : o.dst with
  | none => exact h.st
  | some d => exact h.put0 (hd d hd') (.tup [] [] [] rfl (.nil _))

theorem vcOps_sound {cf : Cfg} {ops : Array Oper} {Q : Exit → Act → World → Prop} (hops : ∀ o ∈ ops.toList, ∀ d, o.dst = some d → OkD N d) : ∀ {l : List Oper} {S : St} {a : Act} {w : World} {K : St → Prop}, (∀ o ∈ l, o ∈ ops.toList) →
    StRel P N G w0 S a w → vcOps P cf N ops l K S → (∀ S a w, K S → StRel P N G w0 S a w → Q .normal a w) → wpList P ops Q l a w
  | [], S, a, w, K, _, h, hv, hk => hk S a w hv h
  | o :: l, S, a, w, K, hin, h, hv, hk => by
    have hl : ∀ o ∈ l, o ∈ ops.toList := fun x hx => hin x (by simp [hx])
    unfold vcOps at hv
    split at hv
    · rename_i hg
      unfold wpList
      rw [if_pos (by simp [Region.wanted, hg])]
      exact .inl (vcOp_sound h hv (fun S' a' w' hK hs => vcOps_sound hops hl hs hK hk))
    · rename_i j b hg
      split at hv
      · rename_i g hgs
        split at hv
        · rename_i c hS
          obtain ⟨hN, hv⟩ := hv
          have hy := yielded_slot hgs h hN hS
          unfold wpList
          by_cases hcb : c = b
          · have hv := hv.1 (by simp [hcb])
            rw [if_pos (by simp [Region.wanted, hg, hy, hcb])]
            exact .inl (vcOp_sound (h.lit hN hS hcb) hv (fun S' a' w' hK hs => vcOps_sound hops hl hs hK hk))
          · have hv := hv.2 (by simpa using hcb)
            rw [if_neg (by simp [Region.wanted, hg, hy, hcb])]
            have hlit := h.lit hN hS (b := !b) (by cases c <;> cases b <;> simp_all)
            exact vcOps_sound hops hl (skip_sound hlit o (hops o (hin o (by simp)))) hv hk
        · rename_i hS
          have hy := yielded_none hgs h hS
          unfold wpList
          rw [if_neg (by simp [Region.wanted, hg, hy])]
          exact vcOps_sound hops hl (skip_sound h o (hops o (hin o (by simp)))) hv hk
        · exact hv.elim
      · exact hv.elim

end
end Go.Abs
