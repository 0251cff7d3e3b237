/- Reading an operand, and taking over what an operand holds. It holds over any program. -/
import Derived.Test.YtdhnnpohpfjaiaaAbsC
set_option linter.unusedVariables false
set_option linter.unusedSimpArgs false
namespace Go.Abs
open Go.RowKit (Below)

/-- nv: how many slots are variables; fz: the slots whose things are frozen where they are put into something; mu: the functions that write into what they are handed; tko: the slots into which a part of a slice of ours is taken over. -/
structure Cfg where
  nv : Nat
  fz : List Nat := []
  mu : List Nat := []
  tko : List Nat := []

inductive Upd where
  | w (d : Nat) (v : AV)
  | n (d : Nat) (v : AV)

def app : List Upd → St → St
  | [], S => S
  | .w d v :: U, S => app U (upd d v S)
  | .n d v :: U, S => app U (updn d v S)

theorem app_append (U V : List Upd) : ∀ S, app (U ++ V) S = app V (app U S) := by
  induction U with
  | nil => intro S; rfl
  | cons u U ih => intro S; cases u <;> exact ih _

/-- A constant. -/
def cv : Value → AV
  | .slice none 0 0 => .val (.slice none 0 0)
  | .int k n => .val (.int k n)
  | .bool b => .val (.bool b)
  | .map none => .val (.map none)
  | .string s => .val (.string s)
  | .nilFunc => .val .nilFunc
  | .nilIface => .val .nilIface
  | .func f x y => .val (.func f x y)
  | _ => .any

def aop (S : St) : Operand → AV
  | .tmp t => S t
  | .const v => cv v
  | .global _ => .any
  | .func f => .val (.func (.func f) #[] #[])

section
variable {P : Program} {N : Nat × List Nat} {G : Nat → Prop} {w0 : World × (Nat → Value)} {w : World} {S : St} {a : Act} {F : Nat → Prop} {oss : Nat → List Nat} {X : List Nat}

theorem cv_rep (v : Value) (tm : Nat → Value) (oss : Nat → List Nat) : RepT P w F tm oss (cv v) v [] := by
  unfold cv
  split <;> first | exact .any _ | exact .cell _ _ _ (.val _ rfl)

theorem Core.get (h : Core P N G w0 S a w F oss X) (t : Nat) : RepT P w F (tmo a) oss (S t) (a.eval (.tmp t)) (oss t) := h.rep t

theorem Core.int (h : Core P N G w0 S a w F oss X) {x : Operand} {v : Value} (hx : aop S x = .val v) : a.eval x = v := by
  cases x with
  | tmp t =>
    have := h.get t
    simp only [aop] at hx
    rw [hx] at this
    generalize hv : a.eval (.tmp t) = u at this
    generalize oss t = os at this
    cases this with
    | cell _ _ _ h => cases h with | val _ _ => rfl
  | const u =>
    simp only [aop, cv] at hx
    split at hx <;> first | (injection hx) | simp at hx
  | global g => simp [aop] at hx
  | func f => simp only [aop] at hx; injection hx

/-- Only what is ours or read alone: one thing (no struct of things). -/
def isOB : AV → Bool
  | .own .. => true
  | .box .. => true
  | .mp .. => true
  | .it .. => true
  | _ => false

theorem isOB_kids {c : AV} (h : isOB c = true) : kids c ≠ none := by cases c <;> simp [isOB, kids] at *

mutual
/-- What is read through a value: nothing is ours in it. -/
def rsv (S : St) : AV → Option AV
  | .bor s p => match kids (S s), getP (S s) p with
    | some _, some c => if isOB c then some (frz c) else none
    | _, _ => none
  | .val (.slice none 0 0) => some (.sl 0 [])
  | .val v => some (.val v)
  | .sl n cs => some (.sl n cs)
  | .own e n cs => some (frz (.own e n cs))
  | .box e cs => some (frz (.box e cs))
  | .fptr cs => some (.fptr cs)
  | .mp c => some (.fmp c)
  | .fmp c => some (.fmp c)
  | .slp s p o n => match kids (S s), getP (S s) p with
    | some _, some c => match kids c with
      | some cs => if cs.isEmpty then none else some (.sl n (frzL (cs.drop o)))
      | none => none
    | _, _ => none
  | .agg cs => match rsvL S cs with
    | some ds => some (.agg ds)
    | none => none
  | .fn f cs => match rsvL S cs with
    | some ds => some (.fn f ds)
    | none => none
  | _ => none
def rsvL (S : St) : List AV → Option (List AV)
  | [] => some []
  | c :: cs => match rsv S c, rsvL S cs with
    | some d, some ds => some (d :: ds)
    | _, _ => none
end
mutual
/-- The slots that a value borrows from. -/
def roots : AV → List Nat
  | .bor s _ => [s]
  | .ptr s _ _ => [s]
  | .slp s _ _ _ => [s]
  | .agg cs => rootsL cs
  | .tup cs => rootsL cs
  | .fn f cs => rootsL cs
  | _ => []
def rootsL : List AV → List Nat
  | [] => []
  | c :: cs => roots c ++ rootsL cs
end

theorem RepTL.length_eq' {tm : Nat → Value} {cs ds : List AV} (h : rsvL S cs = some ds) : ds.length = cs.length := by
  induction cs generalizing ds with
  | nil => simp [rsvL] at h; subst h; rfl
  | cons c cs ih =>
    rw [rsvL] at h
    split at h
    · rename_i d ds' h1 h2; injection h with h; subst h; simp [ih h2]
    · simp at h

/-- What is ours in the frame, at a path, frozen. -/
theorem Core.frzAt (h : Core P N G w0 S a w F oss X) {s : Nat} {p : List Nat} {c : AV} (hk : kids (S s) ≠ none) (hg : getP (S s) p = some c) {v : Value}
    (hv : walkIn w (oss s) (tmo a s) p v) : RepC P w (fun b => b < w.heap.size) (frz c) v [] := by
  obtain ⟨u, o1, ou, o2, k1, k2, k3, k4, k5, k6⟩ := h.inplace hk hg
  have := walkIn_fun hv k1
  subst this
  exact k2.frz h.fw (fun b hb => (k4 b hb).2.1)

mutual
theorem Core.rsv (h : Core P N G w0 S a w F oss X) {c d : AV} {v : Value} {os : List Nat} (hr : RepT P w F (tmo a) oss c v os) (ho : ∀ b ∈ os, b < w.heap.size)
    (hd : rsv S c = some d) : ∀ tm oss', RepT P w (fun b => b < w.heap.size) tm oss' d v [] := by
  intro tm oss'
  cases hr with
  | any v => simp [Abs.rsv] at hd
  | cell c v os hc =>
    cases hc with
    | any v h => simp [Abs.rsv] at hd
    | val v hv =>
      rw [Abs.rsv.eq_def] at hd
      split at hd <;> simp_all
      · subst hd; exact .cell _ _ _ (.sl0 none 0)
      · subst hd; exact .cell _ _ _ (.val _ hv)
    | sl0 b c => simp [Abs.rsv] at hd; subst hd; exact .cell _ _ _ (.sl0 b c)
    | sl b off n cap c e fr cs hF hb hl hn => simp [Abs.rsv] at hd; subst hd; exact .cell _ _ _ (RepC.mono (F := F) h.fw (.sl b off n cap c e fr cs hF hb hl hn) (fun _ _ => rfl))
    | own0 e => simp [Abs.rsv] at hd; subst hd; exact .cell _ _ _ (RepC.frz (F := F) h.fw (.own0 e) ho)
    | own b e n cap c cs os hb hn hc hl => simp [Abs.rsv] at hd; subst hd; exact .cell _ _ _ (RepC.frz (F := F) h.fw (.own b e n cap c cs os hb hn hc hl) ho)
    | box b e c cs os hb hl => simp [Abs.rsv] at hd; subst hd; exact .cell _ _ _ (RepC.frz (F := F) h.fw (.box b e c cs os hb hl) ho)
    | fptr b off c e fr cs hF hb hl => simp [Abs.rsv] at hd; subst hd; exact .cell _ _ _ (RepC.mono (F := F) h.fw (.fptr b off c e fr cs hF hb hl) (fun _ _ => rfl))
    | mp b es clock c hb hm => simp [Abs.rsv] at hd; subst hd; exact .cell _ _ _ (.fmp b es clock c (ho b (by simp)) hb hm)
    | fmp b es clock c hF hb hm => simp [Abs.rsv] at hd; subst hd; exact .cell _ _ _ (.fmp b es clock c (h.fw b hF) hb hm)
    | it => simp [Abs.rsv] at hd
  | agg cs vs os hl hr =>
    simp only [Abs.rsv] at hd
    split at hd
    · rename_i ds hds
      injection hd with hd; subst hd
      exact .agg ds vs [] (by rw [RepTL.length_eq' (tm := tm) hds, hl]) (Core.rsvL h hr ho hds tm oss')
    · simp at hd
  | tup cs vs os hl hr => simp [Abs.rsv] at hd
  | fn f cs vs os hl hr =>
    simp only [Abs.rsv] at hd
    split at hd
    · rename_i ds hds
      injection hd with hd; subst hd
      exact .fn f ds vs [] (by rw [RepTL.length_eq' (tm := tm) hds, hl]) (Core.rsvL h hr ho hds tm oss')
    · simp at hd
  | bor s p v hw =>
    simp only [Abs.rsv] at hd
    split at hd
    · rename_i x c hk hg
      split at hd
      · injection hd with hd; subst hd
        exact .cell _ _ _ (h.frzAt (by simp [hk]) hg hw)
      · simp at hd
    · simp at hd
  | ptr s p off u b hw hb => simp [Abs.rsv] at hd
  | slp s p off n cap u b hw hb hn0 =>
    simp only [Abs.rsv] at hd
    split at hd
    · rename_i x c hk hg
      split at hd
      · rename_i cs hkc
        split at hd
        · simp at hd
        · rename_i hne
          injection hd with hd; subst hd
          obtain ⟨u', o1, ou, o2, k1, k2, k3, k4, k5, k6⟩ := h.inplace (by simp [hk]) hg
          have := walkIn_fun hw k1; subst this
          have hlt : ∀ z ∈ ou, z < w.heap.size := fun z hz => (k4 z hz).2.1
          have dr : ∀ (cs : List AV) (o : Nat), (frzL cs).drop o = frzL (cs.drop o) := fun cs o => by rw [frzL_eq, frzL_eq, List.map_drop]
          cases k2 with
          | own b' e n' cap' cc cs' ol hb' hn hc hl =>
            simp [kids] at hkc; subst hkc
            simp [baseOf] at hb; subst hb
            have hf := (RepL.frz (F' := fun z => z < w.heap.size) (fun z hz => h.fw z hz) hl (fun z hz => hlt z (by simp [hz]))).drop off
            rw [dr] at hf
            exact .cell _ _ _ (.sl _ off n cap cc _ _ _ (hlt _ (by simp)) hb' hf hn0)
          | box b' e cc cs' ol hb' hl =>
            simp [kids] at hkc; subst hkc
            simp [baseOf] at hb; subst hb
            have hf := (RepL.frz (F' := fun z => z < w.heap.size) (fun z hz => h.fw z hz) hl (fun z hz => hlt z (by simp [hz]))).drop off
            rw [dr] at hf
            exact .cell _ _ _ (.sl _ off n cap cc _ _ _ (hlt _ (by simp)) hb' hf hn0)
          | own0 e => simp [baseOf] at hb
          | mp => simp [kids] at hkc; subst hkc; simp at hne
          | it => simp [kids] at hkc; subst hkc; simp at hne
          | _ => simp [kids] at hkc
      · simp at hd
    · simp at hd
theorem Core.rsvL (h : Core P N G w0 S a w F oss X) {cs ds : List AV} {vs : List Value} {os : List Nat} (hr : RepTL P w F (tmo a) oss cs vs os) (ho : ∀ b ∈ os, b < w.heap.size)
    (hd : rsvL S cs = some ds) : ∀ tm oss', RepTL P w (fun b => b < w.heap.size) tm oss' ds vs [] := by
  intro tm oss'
  cases hr with
  | nil vs => simp [Abs.rsvL] at hd; subst hd; exact .nil vs
  | cons c v os cs vs os' hc ht =>
    rw [Abs.rsvL] at hd
    split at hd
    · rename_i d ds' h1 h2
      injection hd with hd; subst hd
      exact .cons d v [] ds' vs [] (Core.rsv h hc (fun b hb => ho b (by simp [hb])) h1 tm oss') (Core.rsvL h ht (fun b hb => ho b (by simp [hb])) h2 tm oss')
    · simp at hd
end

theorem Core.op (h : Core P N G w0 S a w F oss X) (x : Operand) : ∃ os, RepT P w F (tmo a) oss (aop S x) (a.eval x) os ∧ ∀ b ∈ os, b < w.heap.size := by
  cases x with
  | tmp t => exact ⟨oss t, h.rep t, fun b hb => (h.own t b hb).2⟩
  | const v => exact ⟨[], cv_rep v _ _, by simp⟩
  | global g => exact ⟨[], .any _, by simp⟩
  | func f => exact ⟨[], .cell _ _ _ (.val _ rfl), by simp⟩

/-- The arguments of a call, as the callee sees them. -/
def rsvArgs (S : St) : List Operand → Option (List AV)
  | [] => some []
  | x :: xs => match rsv S (aop S x), rsvArgs S xs with
    | some d, some ds => some (d :: ds)
    | _, _ => none

theorem Core.args (h : Core P N G w0 S a w F oss X) : ∀ {xs : List Operand} {ds : List AV}, rsvArgs S xs = some ds →
    ds.length = xs.length ∧ ∀ tm oss', RepTL P w (fun b => b < w.heap.size) tm oss' ds (xs.map a.eval) []
  | [], ds, hd => by simp [rsvArgs] at hd; subst hd; exact ⟨rfl, fun _ _ => .nil _⟩
  | x :: xs, ds, hd => by
    rw [rsvArgs] at hd
    split at hd
    · rename_i d ds' h1 h2
      injection hd with hd; subst hd
      obtain ⟨l, r⟩ := Core.args h h2
      obtain ⟨os, ro, rb⟩ := h.op x
      exact ⟨by simp [l], fun tm oss' => .cons d _ [] ds' _ [] (h.rsv ro rb h1 tm oss') (r tm oss')⟩
    · simp at hd

/-- What a call of function f gives for these arguments: just r, in new memory; what was there stays. -/
def ACalls (P : Program) (f : FuncId) (args : List AV) (r : AV) : Prop :=
  ∀ (w : World) (vs : List Value), args.length = vs.length → (∀ tm oss, RepTL P w (fun b => b < w.heap.size) tm oss args vs []) →
    Calls P f vs.toArray w fun e w' => ∃ v os, e = .returned v ∧ Below w.heap.size w w' ∧
      (∀ tm oss, RepT P w' (fun b => w.heap.size ≤ b ∧ b < w'.heap.size ∧ b ∉ os) tm oss r v os) ∧ os.Nodup ∧ ∀ b ∈ os, w.heap.size ≤ b ∧ b < w'.heap.size

/-- A thing at path p of slot s is taken over: moved out, or frozen where it lies. -/
def tkP (fz : Bool) (s : Nat) (p : List Nat) (S : St) : Option (AV × List Upd) :=
  match kids (S s), getP (S s) p with
  | some _, some c => if isOB c then
      if fz then some (frz c, [.n s (putP (S s) p (frz c))])
      else if p.isEmpty then some (c, [.w s .any]) else some (c, [.n s (putP (S s) p .any)])
    else none
  | _, _ => none

theorem Core.tkP (h : Core P N G w0 S a w F oss X) {fz : Bool} {s : Nat} {p : List Nat} {c : AV} {U : List Upd} (hc : tkP fz s p S = some (c, U)) {v : Value}
    (hv : walkIn w (oss s) (tmo a s) p v) :
    ∃ F' oss' oc, Core P N G w0 (app U S) a w F' oss' (oc ++ X) ∧ RepC P w F' c v oc ∧ (∀ b, F b → F' b) := by
  simp only [Abs.tkP] at hc
  split at hc
  · rename_i x c' hk hg
    split at hc
    · rename_i hob
      split at hc
      · injection hc with hc; obtain ⟨rfl, rfl⟩ := Prod.mk.injEq .. ▸ hc
        obtain ⟨u, ou, F', oss', k1, k2, k3, k4, k5⟩ := h.frzP (by simp [hk]) hg
        have := walkIn_fun hv k1; subst this
        exact ⟨F', oss', [], k5, k2, k3⟩
      · split at hc
        · rename_i hp
          injection hc with hc; obtain ⟨rfl, rfl⟩ := Prod.mk.injEq .. ▸ hc
          have hp : p = [] := by simpa using hp
          subst hp
          simp [getP] at hg; subst hg
          obtain ⟨k1, k2⟩ := h.take s
          have hv : v = tmo a s := hv
          subst hv
          refine ⟨F, _, oss s, k1, ?_, fun _ h => h⟩
          have := k2.ofKids (by cases hS : S s <;> simp_all [isOB, kl, kids])
          have e : kl [s] (S s) = S s := by cases hS : S s <;> simp_all [isOB, kl]
          rwa [e] at this
        · injection hc with hc; obtain ⟨rfl, rfl⟩ := Prod.mk.injEq .. ▸ hc
          obtain ⟨u, ou, oss', k1, k2, k3⟩ := h.takeP (by simp [hk]) hg
          have := walkIn_fun hv k1; subst this
          exact ⟨F, oss', ou, k3, k2, fun _ h => h⟩
    · simp at hc
  · simp at hc

/-- What an operand holds is taken over: a thing of one cell. -/
def tk (cf : Cfg) (S : St) (x : Operand) : Option (AV × List Upd) :=
  match x, aop S x with
  | _, .val v => some (.val v, [])
  | _, .sl n cs => some (.sl n cs, [])
  | _, .fptr cs => some (.fptr cs, [])
  | _, .fmp c => some (.fmp c, [])
  | .tmp t, .own _ _ _ => tkP (cf.fz.contains t) t [] S
  | .tmp t, .box _ _ => tkP (cf.fz.contains t) t [] S
  | .tmp t, .mp _ => tkP (cf.fz.contains t) t [] S
  | .tmp t, .it _ _ => tkP false t [] S
  | .tmp t, .bor s p => tkP (cf.fz.contains t) s p S
  | _, _ => none

theorem Core.tk (h : Core P N G w0 S a w F oss X) {cf : Cfg} {x : Operand} {c : AV} {U : List Upd} (hc : tk cf S x = some (c, U)) :
    ∃ F' oss' oc, Core P N G w0 (app U S) a w F' oss' (oc ++ X) ∧ RepC P w F' c (a.eval x) oc ∧ (∀ b, F b → F' b) := by
  obtain ⟨os, ho, _⟩ := h.op x
  generalize hu : a.eval x = u at ho ⊢
  unfold Abs.tk at hc
  split at hc
  · rename_i v hv; injection hc with hc; obtain ⟨rfl, rfl⟩ := Prod.mk.injEq .. ▸ hc
    refine ⟨F, oss, [], h, ?_, fun _ h => h⟩
    rw [hv] at ho
    cases ho with
    | cell _ _ _ hc => cases hc with | val _ hv => exact .val _ hv
  · rename_i n cs hv; injection hc with hc; obtain ⟨rfl, rfl⟩ := Prod.mk.injEq .. ▸ hc
    refine ⟨F, oss, [], h, ?_, fun _ h => h⟩
    rw [hv] at ho
    cases ho with
    | cell _ _ _ hc => cases hc with
      | sl0 b c => exact .sl0 b c
      | sl b off n cap c e fr cs hF hb hl hn => exact .sl b off n cap c e fr cs hF hb hl hn
  · rename_i cs hv; injection hc with hc; obtain ⟨rfl, rfl⟩ := Prod.mk.injEq .. ▸ hc
    refine ⟨F, oss, [], h, ?_, fun _ h => h⟩
    rw [hv] at ho
    cases ho with
    | cell _ _ _ hc => cases hc with
      | fptr b off c e fr cs hF hb hl => exact .fptr b off c e fr cs hF hb hl
  · rename_i cs hv; injection hc with hc; obtain ⟨rfl, rfl⟩ := Prod.mk.injEq .. ▸ hc
    refine ⟨F, oss, [], h, ?_, fun _ h => h⟩
    rw [hv] at ho
    cases ho with
    | cell _ _ _ hc => cases hc with
      | fmp b es clock c hF hb hm => exact .fmp b es clock _ hF hb hm
  · rename_i t e n cs hv
    subst hu
    exact h.tkP hc (v := a.eval (.tmp t)) rfl
  · rename_i t e cs hv
    subst hu
    exact h.tkP hc (v := a.eval (.tmp t)) rfl
  · rename_i t c hv
    subst hu
    exact h.tkP hc (v := a.eval (.tmp t)) rfl
  · rename_i t l es hv
    subst hu
    exact h.tkP hc (v := a.eval (.tmp t)) rfl
  · rename_i t s p hv
    rw [hv] at ho
    cases ho with
    | cell _ _ _ hc => cases hc
    | bor s p v hw => exact h.tkP hc hw
  · simp at hc
end
end Go.Abs
