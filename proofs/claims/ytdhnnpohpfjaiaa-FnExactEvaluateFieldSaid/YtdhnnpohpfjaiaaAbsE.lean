/- The operations of the model on abstract frames. It holds over any program. -/
import Derived.Test.YtdhnnpohpfjaiaaAbsD
set_option linter.unusedVariables false
set_option linter.unusedSimpArgs false
namespace Go.Abs
open Go.RowKit (Below)

/-- The number fits its kind. -/
def inK (k : IntKind) (n : Int) : Prop := k.min ≤ n ∧ n ≤ k.max
theorem inK_i64 (n : Int) : inK .i64 n ↔ -9223372036854775808 ≤ n ∧ n ≤ 9223372036854775807 := by
  have e1 : IntKind.min .i64 = -9223372036854775808 := by decide
  have e2 : IntKind.max .i64 = 9223372036854775807 := by decide
  unfold inK; rw [e1, e2]
theorem wrap_in {k : IntKind} {n : Int} (h : inK k n) : k.wrap n = n := by
  obtain ⟨h1, h2⟩ := h
  cases k <;> simp [IntKind.min, IntKind.max, IntKind.wrap, IntKind.signed, IntKind.bits] at * <;> (try split) <;> omega

mutual
def hasOwn : AV → Bool
  | .own .. => true
  | .box .. => true
  | .mp .. => true
  | .it .. => true
  | .agg cs => hasOwnL cs
  | .tup cs => hasOwnL cs
  | .fn f cs => hasOwnL cs
  | _ => false
def hasOwnL : List AV → Bool
  | [] => false
  | c :: cs => hasOwn c || hasOwnL cs
end

section
variable {P : Program} {N : Nat × List Nat} {G : Nat → Prop} {w0 : World × (Nat → Value)} {w w' : World} {S : St} {a : Act} {F : Nat → Prop} {oss : Nat → List Nat} {X : List Nat}

mutual
theorem RepT.noOwn {tm : Nat → Value} {c : AV} {v : Value} {os : List Nat} (h : RepT P w F tm oss c v os) (hn : hasOwn c = false) : os = [] := by
  cases h with
  | any v => rfl
  | cell c v os h => cases h <;> simp [hasOwn] at hn <;> rfl
  | agg cs vs os hl h => exact RepTL.noOwn h (by simpa [hasOwn] using hn)
  | tup cs vs os hl h => exact RepTL.noOwn h (by simpa [hasOwn] using hn)
  | fn f cs vs os hl h => exact RepTL.noOwn h (by simpa [hasOwn] using hn)
  | bor => rfl
  | ptr => rfl
  | slp => rfl
theorem RepTL.noOwn {tm : Nat → Value} {cs : List AV} {vs : List Value} {os : List Nat} (h : RepTL P w F tm oss cs vs os) (hn : hasOwnL cs = false) : os = [] := by
  cases h with
  | nil vs => rfl
  | cons c v os cs vs os' h t =>
    simp [hasOwnL] at hn
    rw [RepT.noOwn h hn.1, RepTL.noOwn t hn.2]; rfl
end

/-- An operation that leaves a value. -/
theorem wp_value {o : Oper} {v : Value} {K : Act → World → Prop} {Q : Exit → Act → World → Prop} (h : (execOp a.eval o).run P w = .ok (.value v) w') (hk : K (a.put o.dst v) w') :
    o.wp P a w K Q := by simp only [Oper.wp, Oper.upon, h]; exact hk
theorem wp_nothing {o : Oper} {K : Act → World → Prop} {Q : Exit → Act → World → Prop} (h : (execOp a.eval o).run P w = .ok .skip w') (hk : K (a.put o.dst undef) w') :
    o.wp P a w K Q := by simp only [Oper.wp, Oper.upon, h]; exact hk

/-- A value of which nothing is ours is written into a slot. -/
theorem Core.put0 (h : Core P N G w0 S a w F oss []) {d : Nat} (hd : OkD N d) {c : AV} {v : Value} (hr : RepT P w F (tmo a) oss c v []) :
    StRel P N G w0 (upd d c S) (a.put (some d) v) w :=
  (h.put hd hr (by simp) List.nodup_nil (X' := []) (by simp) List.nodup_nil).st

/-- A thing beside is written into a slot. -/
theorem Core.putX (h : Core P N G w0 S a w F oss X) {d : Nat} (hd : OkD N d) {c : AV} {v : Value} (hr : RepT P w F (tmo a) oss c v X) :
    StRel P N G w0 (upd d c S) (a.put (some d) v) w :=
  (h.put hd hr (fun _ h => h) h.xn (X' := []) (by simp) List.nodup_nil).st

theorem Core.drop (h : Core P N G w0 S a w F oss X) : Core P N G w0 S a w F oss [] := { h with xo := by simp, xn := by simp, xd := by simp }

/-- Part of what stands beside. -/
theorem Core.sub (h : Core P N G w0 S a w F oss X) {X' : List Nat} (hs : ∀ b, b ∈ X' → b ∈ X) (hn : X'.Nodup) : Core P N G w0 S a w F oss X' :=
  { h with xo := fun b hb => h.xo b (hs b hb), xn := hn, xd := fun i b hx => h.xd i b (hs b hx) }

/-! ## move, assign, pick -/

/-- The value c out of slot t is written into slot d. -/
def mvT (cf : Cfg) (d t : Nat) (c : AV) : Option (List Nat × List Upd) :=
  if hasOwn c then
    if t < cf.nv then (if isOB c then some ([t], [.w d (.bor t [])]) else none) else if t = d then none else some (t :: roots c, [.w t .any, .w d (kl [t] c)])
  else some (t :: roots c, [.w d c])

def mvS (cf : Cfg) (S : St) (d : Nat) : Operand → Option (List Nat × List Upd)
  | .tmp t => match S t with
    | .any => none
    | c => mvT cf d t c
  | x => match aop S x with
    | .any => none
    | c => some ([], [.w d c])

theorem mvS_sound (h : Core P N G w0 S a w F oss []) {cf : Cfg} {d : Nat} (hd : OkD N d) {x : Operand} {rd : List Nat} {U : List Upd} (hm : mvS cf S d x = some (rd, U)) :
    StRel P N G w0 (app U S) (a.put (some d) (a.eval x)) w := by
  have const : ∀ c, RepT P w F (tmo a) oss c (a.eval x) [] → StRel P N G w0 (app [.w d c] S) (a.put (some d) (a.eval x)) w := fun c hc => h.put0 hd hc
  cases x with
  | tmp t =>
    have hm : mvT cf d t (S t) = some (rd, U) := by
      simp only [mvS] at hm
      split at hm
      · simp at hm
      · exact hm
    unfold mvT at hm
    split at hm
    · rename_i ho
      split at hm
      · split at hm
        · injection hm with hm; obtain ⟨rfl, rfl⟩ := Prod.mk.injEq .. ▸ hm
          exact h.put0 hd (.bor t [] _ rfl)
        · simp at hm
      · split at hm
        · simp at hm
        · injection hm with hm; obtain ⟨rfl, rfl⟩ := Prod.mk.injEq .. ▸ hm
          obtain ⟨k1, k2⟩ := h.take t
          exact Core.putX (by simpa using k1) hd k2
    · rename_i ho
      injection hm with hm; obtain ⟨rfl, rfl⟩ := Prod.mk.injEq .. ▸ hm
      have := h.get t
      rw [RepT.noOwn this (by simpa using ho)] at this
      exact h.put0 hd this
  | const v =>
    simp only [mvS] at hm
    split at hm
    · simp at hm
    · injection hm with hm; obtain ⟨rfl, rfl⟩ := Prod.mk.injEq .. ▸ hm
      exact const _ (cv_rep v _ _)
  | global g => simp [mvS, aop] at hm
  | func f =>
    simp only [mvS] at hm
    split at hm
    · simp at hm
    · injection hm with hm; obtain ⟨rfl, rfl⟩ := Prod.mk.injEq .. ▸ hm
      exact const _ (.cell _ _ _ (.val _ rfl))

/-! ## numbers -/

def andI (k : IntKind) (x y : Int) : Int := k.wrap (BitVec.ofInt k.bits x &&& BitVec.ofInt k.bits y).toNat
def shrI (k : IntKind) (x y : Int) : Int := x.fdiv (2 ^ min y.toNat k.bits)
def binI (op : BinOp) (k : IntKind) (x y : Int) : Option (Prop × Value) :=
  match op with
  | .add => if k.signed then some (inK k (x + y), .int k (x + y)) else some (True, .int k (k.wrap (x + y)))
  | .sub => if k.signed then some (inK k (x - y), .int k (x - y)) else some (True, .int k (k.wrap (x - y)))
  | .mul => if k.signed then some (inK k (x * y), .int k (x * y)) else some (True, .int k (k.wrap (x * y)))
  | .quo => some (y ≠ 0 ∧ inK k (x.tdiv y), .int k (x.tdiv y))
  | .rem => some (y ≠ 0, .int k (x.tmod y))
  | .eql => some (True, .bool (decide (x = y)))
  | .neq => some (True, .bool (!decide (x = y)))
  | .lss => some (True, .bool (decide (x < y)))
  | .leq => some (True, .bool (decide (x ≤ y)))
  | .gtr => some (True, .bool (decide (y < x)))
  | .geq => some (True, .bool (decide (y ≤ x)))
  | .and => some (True, .int k (andI k x y))
  | .shr => some (0 ≤ y, .int k (shrI k x y))
  | _ => none

theorem run_eqGuard_int (op : BinOp) (t : TypeId) (x y : Operand) (k k' : IntKind) (m n : Int) : (eqGuard op t x y (.int k m) (.int k' n)).run P w = .ok () w := by
  cases op <;> simp [eqGuard]

theorem binI_sound {op : BinOp} {k : IntKind} {x y : Int} {p : Prop} {v : Value} (hb : binI op k x y = some (p, v)) (hp : p) (t : TypeId) (xo yo : Operand) :
    (do eqGuard op t xo yo (.int k x) (.int k y); binOp op t (.int k x) (.int k y) : Sem Value).run P w = .ok v w := by
  have e : ∀ r : Sem Value, (do eqGuard op t xo yo (.int k x) (.int k y); r : Sem Value).run P w = r.run P w := by
    intro r
    rw [Sem.run_bind, run_eqGuard_int]; rfl
  rw [e]
  cases op <;> simp only [binI] at hb <;> first
    | (split at hb <;> (injection hb with hb; obtain ⟨rfl, rfl⟩ := Prod.mk.injEq .. ▸ hb) <;> simp [binOp, Op.intArith] <;> (try rw [wrap_in hp]))
    | (injection hb with hb; obtain ⟨rfl, rfl⟩ := Prod.mk.injEq .. ▸ hb; simp [binOp, Op.intDiv, Op.intCmp, hp]; done)
    | (injection hb with hb; obtain ⟨rfl, rfl⟩ := Prod.mk.injEq .. ▸ hb; simp [binOp, Op.intBits, andI]; done)
    | (injection hb with hb; obtain ⟨rfl, rfl⟩ := Prod.mk.injEq .. ▸ hb; simp [binOp, Op.shift, shrI, show ¬ y < 0 by omega]; done)
    | (injection hb with hb; obtain ⟨rfl, rfl⟩ := Prod.mk.injEq .. ▸ hb; simp [binOp, Op.intDiv, Op.intCmp, hp.1, wrap_in hp.2]; done)
    | (injection hb with hb; obtain ⟨rfl, rfl⟩ := Prod.mk.injEq .. ▸ hb; simp [binOp, Op.intDiv, Op.intCmp]; done)
    | (injection hb with hb; obtain ⟨rfl, rfl⟩ := Prod.mk.injEq .. ▸ hb; simp [binOp, Op.intDiv, Op.intCmp]; rfl)
    | (simp at hb)
end
end Go.Abs
