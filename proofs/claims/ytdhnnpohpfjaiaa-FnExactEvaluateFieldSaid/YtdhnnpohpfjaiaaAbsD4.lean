/- Regions that draw their order: the conditions, and that they suffice. It holds over any program. -/
import Derived.Test.YtdhnnpohpfjaiaaAbsD3
set_option linter.unusedVariables false
set_option linter.unusedSimpArgs false
namespace Go.Abs
open Go.RowKit (Below)

/-- An operation that was run (in the text's order): its number, the slots that its outcome hangs on, those that it writes. -/
structure Ent where
  i : Nat
  D : List Nat
  W : List Nat

def indB (e f : Ent) : Bool := e.W.all (fun x => !(f.D.contains x) && !(f.W.contains x)) && f.W.all (fun x => !(e.D.contains x))
/-- The operations that stand before each of the first n, by tied edges: as bits. -/
def masks (ops : Array Oper) : Nat → List Nat
  | 0 => []
  | n + 1 => masks ops n ++ [match ops[n]? with
    | some o => o.after.toList.foldl (fun s e => if Region.binds .any e then s ||| (2 ^ e.on ||| (masks ops n).getD e.on 0) else s) 0
    | none => 0]
def dirB (ops : Array Oper) (i j : Nat) : Bool := ((masks ops ops.size).getD j 0).testBit i
theorem masks_len (ops : Array Oper) : ∀ n, (masks ops n).length = n
  | 0 => rfl
  | n + 1 => by simp [masks, masks_len ops n]
theorem masks_get (ops : Array Oper) (j : Nat) : ∀ n, j < n → (masks ops n).getD j 0 = match ops[j]? with
    | some o => o.after.toList.foldl (fun s e => if Region.binds .any e then s ||| (2 ^ e.on ||| (masks ops j).getD e.on 0) else s) 0
    | none => 0
  | 0, h => by omega
  | n + 1, h => by
    rw [masks, List.getD_eq_getElem?_getD]
    by_cases e : j = n
    · subst e
      rw [List.getElem?_append_right (by rw [masks_len]; omega), masks_len]
      simp
    · rw [List.getElem?_append_left (by rw [masks_len]; omega), ← List.getD_eq_getElem?_getD]
      exact masks_get ops j n (by omega)
theorem fold_bit (m : List Nat) (i : Nat) : ∀ (l : List Edge) (s : Nat), (l.foldl (fun s e => if Region.binds .any e then s ||| (2 ^ e.on ||| m.getD e.on 0) else s) s).testBit i = true →
    s.testBit i = true ∨ ∃ e ∈ l, Region.binds .any e = true ∧ (e.on = i ∨ (m.getD e.on 0).testBit i = true)
  | [], s, h => .inl h
  | e :: l, s, h => by
    rw [List.foldl_cons] at h
    rcases fold_bit m i l _ h with h1 | ⟨e', h1, h2, h3⟩
    · split at h1
      · rename_i hb
        rw [Nat.testBit_or, Nat.testBit_or, Nat.testBit_two_pow] at h1
        simp only [Bool.or_eq_true, decide_eq_true_eq] at h1
        rcases h1 with h1 | h1 | h1
        · exact .inl h1
        · exact .inr ⟨e, by simp, hb, .inl h1⟩
        · exact .inr ⟨e, by simp, hb, .inr h1⟩
      · exact .inl h1
    · exact .inr ⟨e', by simp [h1], h2, h3⟩
theorem anc_closed {ops : Array Oper} {L : Nat → Prop} (hcl : ∀ j o, L j → ops[j]? = some o → ∀ e ∈ o.after.toList, Region.binds .any e = true → L e.on) :
    ∀ (j : Nat) (o : Oper), ops[j]? = some o → (∀ e ∈ o.after.toList, Region.binds .any e = true → L e.on) → ∀ n, j < n → ∀ i, ((masks ops n).getD j 0).testBit i = true → L i := by
  intro j
  induction j using Nat.strongRecOn with
  | ind j ih =>
    intro o ho hp n hn i hb
    rw [masks_get ops j n hn, ho] at hb
    rcases fold_bit _ i _ _ hb with h1 | ⟨e, h1, h2, h3⟩
    · simp at h1
    · rcases h3 with h3 | h3
      · subst h3; exact hp e h1 h2
      · rcases Nat.lt_or_ge e.on j with hlt | hge
        · have hL := hp e h1 h2
          cases ho' : ops[e.on]? with
          | none => rw [masks_get ops e.on j hlt, ho'] at h3; simp at h3
          | some o' => exact ih e.on hlt o' ho' (fun e' he' hb' => hcl e.on o' hL ho' e' he' hb') j hlt i h3
        · rw [List.getD_eq_getElem?_getD, List.getElem?_eq_none (by rw [masks_len]; exact hge)] at h3
          simp at h3
/-- The latest first: each is independent of, or tied behind, every earlier one. -/
def okR (ops : Array Oper) : List Ent → Bool
  | [] => true
  | e :: l => l.all (fun e' => dirB ops e'.i e.i || indB e' e) && okR ops l
def edgesOk (ops : Array Oper) : Bool := (List.range ops.size).all fun i => match ops[i]? with
  | some o => o.after.all fun e => !(Region.binds .any e) || decide (e.on < i)
  | none => true

def closedB (D : List Nat) (S : St) : Bool := D.all fun t => af (S t) && (roots (S t)).all fun s => D.contains s
def inB (a D : List Nat) : Bool := a.all fun s => D.contains s

/-- What an operation's outcome hangs on: a pick whose bool is known reads one of the two. -/
def opsD (S : St) (op : Op) : List Operand := match op with
  | .pick c x y => match aop S c with
    | .val (.bool true) => [c, x]
    | .val (.bool false) => [c, y]
    | _ => [c, x, y]
  | op => op.operands.toList
theorem opsD_or (S : St) (op : Op) : opsD S op = op.operands.toList ∨ ∃ c x y, op = .pick c x y := by
  unfold opsD; split
  · exact .inr ⟨_, _, _, rfl⟩
  · exact .inl rfl
def CallD (P : Program) (cf : Cfg) (N : Nat × List Nat) (f : FuncId) (args : List AV) (dst : Option Nat) (i : Nat) (D : List Nat) (C : List Ent → St → Prop) (tr : List Ent) (S : St) : Prop :=
  ∃ r, Con P f args r ∧ roots (if (dst.any cf.fz.contains) then frz r else r) = [] ∧ match dst with
    | some d => OkD N d ∧ C (⟨i, D, [d]⟩ :: tr) (upd d (if (dst.any cf.fz.contains) then frz r else r) S)
    | none => C (⟨i, D, []⟩ :: tr) S
theorem CallD.of {P : Program} {cf : Cfg} {N : Nat × List Nat} {f : FuncId} {args : List AV} {d i : Nat} {D : List Nat} {C : List Ent → St → Prop} {tr : List Ent} {S : St} {r : AV} (hc : Con P f args r)
    (hr : roots (if cf.fz.contains d then frz r else r) = []) (hd : OkD N d) (h : C (⟨i, D, [d]⟩ :: tr) (upd d (if cf.fz.contains d then frz r else r) S)) : CallD P cf N f args (some d) i D C tr S :=
  ⟨r, hc, by simpa using hr, hd, by simpa using h⟩

def runD (P : Program) (cf : Cfg) (N : Nat × List Nat) (i : Nat) (o : Oper) (G : List Nat) (C : List Ent → St → Prop) (tr : List Ent) (S : St) : Prop :=
  match callOf o.op with
  | some (f, xs) => if cf.mu.contains f then False else match rsvArgs S xs with
    | some as => closedB (G ++ (opsD S o.op).flatMap (rdO S)) S = true ∧ CallD P cf N f as o.dst i (G ++ (opsD S o.op).flatMap (rdO S)) C tr S
    | none => False
  | none => match stepO P cf N S o.op o.dst with
    | some (p, _, U) => (closedB (G ++ (opsD S o.op).flatMap (rdO S)) S && inB (rts U) (G ++ (opsD S o.op).flatMap (rdO S))) = true ∧ p ∧ C (⟨i, G ++ (opsD S o.op).flatMap (rdO S), wrs U⟩ :: tr) (app U S)
    | none => False
def skipD (i : Nat) (o : Oper) (G : List Nat) (C : List Ent → St → Prop) (tr : List Ent) (S : St) : Prop :=
  closedB G S = true ∧ C (⟨i, G, wrs (skipU o)⟩ :: tr) (app (skipU o) S)
def DTest (c : Bool) (A B : List Ent → St → Prop) (tr : List Ent) (S : St) : Prop := (c = true → A tr S) ∧ (c = false → B tr S)
def GuardD (N : Nat × List Nat) (g : Nat) (b : Bool) (A B : List Ent → St → Prop) (tr : List Ent) (S : St) : Prop :=
  match S g with
  | .val (.bool c) => g < N.1 ∧ DTest (c == b) A B tr S
  | .tup [] => B tr S
  | _ => False
def doneD (ops : Array Oper) (K : St → Prop) (tr : List Ent) (S : St) : Prop := okR ops tr = true ∧ K S

def vcD (P : Program) (cf : Cfg) (N : Nat × List Nat) (ops : Array Oper) : Nat → List Oper → (St → Prop) → List Ent → St → Prop
  | _, [], K, tr, S => doneD ops K tr S
  | i, o :: l, K, tr, S => match o.guard with
    | none => runD P cf N i o [] (vcD P cf N ops (i + 1) l K) tr S
    | some (j, b) => match gslot ops j with
      | some g => GuardD N g b (runD P cf N i o [g] (vcD P cf N ops (i + 1) l K)) (skipD i o [g] (vcD P cf N ops (i + 1) l K)) tr S
      | none => False

def DrawVC (P : Program) (cf : Cfg) (N : Nat × List Nat) (ops : Array Oper) (K : St → Prop) (S : St) : Prop :=
  edgesOk ops = true ∧ vcD P cf N ops 0 ops.toList K [] S

section
variable {P : Program} {N : Nat × List Nat} {G : Nat → Prop} {w0 : World × (Nat → Value)} {w w' : World} {S : St} {a : Act} {F : Nat → Prop} {oss : Nat → List Nat} {X : List Nat} {cf : Cfg} {ops : Array Oper}

/-- What an operation does. -/
def Ex (P : Program) (cf : Cfg) (N : Nat × List Nat) (o : Oper) (S : St) (U : List Upd) : Prop :=
  match callOf o.op with
  | some (f, xs) => ∃ as r, rsvArgs S xs = some as ∧ Con P f as r ∧ match o.dst with
    | some d => OkD N d ∧ U = [.w d (if cf.fz.contains d then frz r else r)]
    | none => U = []
  | none => ∃ p rd, stepO P cf N S o.op o.dst = some (p, rd, U) ∧ p

def Closed (D : List Nat) (S : St) : Prop := ∀ t, t ∈ D → af (S t) = true ∧ ∀ s ∈ roots (S t), s ∈ D

def GuardOk (ops : Array Oper) (N : Nat × List Nat) (o : Oper) (S : St) (D : List Nat) (b : Bool) : Prop :=
  match o.guard with
  | none => b = true
  | some (j, v) => (∃ g c, gslot ops j = some g ∧ g ∈ D ∧ g < N.1 ∧ S g = .val (.bool c) ∧ (c == v) = b) ∨ (b = false ∧ ∃ g, gslot ops j = some g ∧ g ∈ D ∧ S g = .tup [])

/-- The operation's number i at S: its updates U, its footprint D. -/
inductive Stp (P : Program) (cf : Cfg) (N : Nat × List Nat) (ops : Array Oper) (i : Nat) (D : List Nat) (U : List Upd) (S : St) : Prop
  | run (o : Oper) (ho : ops[i]? = some o) (hD : Closed D S) (hR : ∀ s, s ∈ rts U → s ∈ D) (hx : ∀ x ∈ opsD S o.op, ∀ t ∈ slotsOf x, t ∈ D) (hg : GuardOk ops N o S D true) (hE : Ex P cf N o S U)
  | skip (o : Oper) (ho : ops[i]? = some o) (hD : Closed D S) (hg : GuardOk ops N o S D false) (hU : U = skipU o)

theorem Closed.cov {D : List Nat} (h : Closed D S) {x : Operand} (hx : ∀ t ∈ slotsOf x, t ∈ D) : Cov D S x := by
  intro t ht
  rcases List.mem_append.1 ht with ht | ht
  · exact hx t ht
  · cases x with
    | tmp i => exact (h i (hx i (by simp [slotsOf]))).2 t ht
    | const v => simp only [aop] at ht; unfold cv at ht; split at ht <;> simp [roots] at ht
    | global g => simp [aop, roots] at ht
    | func f => simp [aop, roots] at ht

theorem opsD_loc {D : List Nat} {S S' : St} (hA : Agree D S S') {op : Op} (hx : ∀ x ∈ opsD S op, ∀ t ∈ slotsOf x, t ∈ D) : opsD S' op = opsD S op := by
  rcases opsD_or S op with h | ⟨c, x, y, rfl⟩
  · cases op with
    | pick c x y =>
      have hc : ∀ t ∈ slotsOf c, t ∈ D := hx c (by unfold opsD; simp only; split <;> simp)
      unfold opsD; simp only; rw [hA.aop hc]
    | _ => rfl
  · have hc : ∀ t ∈ slotsOf c, t ∈ D := hx c (by unfold opsD; simp only; split <;> simp)
    unfold opsD; simp only; rw [hA.aop hc]
theorem loc_stepD {D : List Nat} {S S' : St} (hA : Agree D S S') (hC : Closed D S) {op : Op} {dst : Option Nat} (hx : ∀ x ∈ opsD S op, ∀ t ∈ slotsOf x, t ∈ D) : stepO P cf N S' op dst = stepO P cf N S op dst := by
  rcases opsD_or S op with h | ⟨c, x, y, rfl⟩
  · rw [h] at hx
    exact loc_stepO hA (fun x hx' => hC.cov (hx x hx'))
  · have hc : ∀ t ∈ slotsOf c, t ∈ D := hx c (by unfold opsD; simp only; split <;> simp)
    cases dst with
    | none => rfl
    | some d =>
      unfold stepO
      simp only
      rw [hA.aop hc]
      unfold opsD at hx
      simp only at hx
      split
      · rename_i e
        rw [e] at hx
        simp only [mvR]; rw [loc_mvS hA (hC.cov (hx x (by simp)))]
      · rename_i e
        rw [e] at hx
        simp only [mvR]; rw [loc_mvS hA (hC.cov (hx y (by simp)))]
      · rfl
theorem Ex.loc {D : List Nat} {S S' : St} (hA : Agree D S S') (hC : Closed D S) {o : Oper} (hx : ∀ x ∈ opsD S o.op, ∀ t ∈ slotsOf x, t ∈ D) {U : List Upd} (h : Ex P cf N o S U) : Ex P cf N o S' U := by
  unfold Ex at h ⊢
  split at h
  · rename_i f xs hc
    obtain ⟨as, r, h1, h2, h3⟩ := h
    obtain ⟨args, tys, hop, rfl⟩ := callOf_some hc
    refine ⟨as, r, ?_, h2, h3⟩
    rw [loc_rsvArgs hA (fun x hx' => hC.cov (hx x (by rw [hop]; simp [opsD, Op.operands, Call.operands]; exact .inr (by simpa using hx'))))]
    exact h1
  · obtain ⟨p, rd, h1, h2⟩ := h
    exact ⟨p, rd, by rw [loc_stepD hA hC hx]; exact h1, h2⟩

theorem Closed.loc {D : List Nat} {S S' : St} (hA : Agree D S S') (hC : Closed D S) : Closed D S' := fun t ht => by rw [hA t ht]; exact hC t ht
theorem GuardOk.loc {D : List Nat} {S S' : St} (hA : Agree D S S') {o : Oper} {b : Bool} (h : GuardOk ops N o S D b) : GuardOk ops N o S' D b := by
  unfold GuardOk at h ⊢
  split at h
  · exact h
  · rcases h with ⟨g, c, h1, h2, h3, h4, h5⟩ | ⟨h0, g, h1, h2, h3⟩
    · exact .inl ⟨g, c, h1, h2, h3, by rw [hA g h2]; exact h4, h5⟩
    · exact .inr ⟨h0, g, h1, h2, by rw [hA g h2]; exact h3⟩
theorem Stp.loc {D : List Nat} {U : List Upd} {i : Nat} {S S' : St} (hA : Agree D S S') (h : Stp P cf N ops i D U S) : Stp P cf N ops i D U S' := by
  cases h with
  | run o ho hD hR hx hg hE => exact .run o ho (hD.loc hA) hR (by rw [opsD_loc hA hx]; exact hx) (hg.loc hA) (hE.loc hA hD hx)
  | skip o ho hD hg hU => exact .skip o ho (hD.loc hA) (hg.loc hA) hU
theorem Stp.closed {D : List Nat} {U : List Upd} {i : Nat} (h : Stp P cf N ops i D U S) : Closed D S := by cases h <;> assumption
theorem Stp.rin {D : List Nat} {U : List Upd} {i : Nat} (h : Stp P cf N ops i D U S) : ∀ s, s ∈ rts U → s ∈ D := by
  cases h with
  | run o ho hD hR hx hg hE => exact hR
  | skip o ho hD hg hU => subst hU; intro s hs; unfold skipU at hs; split at hs <;> simp [rts, roots, rootsL] at hs

structure EU where
  i : Nat
  D : List Nat
  U : List Upd

inductive Run (P : Program) (cf : Cfg) (N : Nat × List Nat) (ops : Array Oper) : List EU → St → St → Prop
  | nil (S : St) : Run P cf N ops [] S S
  | cons (e : EU) (l : List EU) (S S' : St) (h : Stp P cf N ops e.i e.D e.U S) (t : Run P cf N ops l (app e.U S) S') : Run P cf N ops (e :: l) S S'

def Ind (e f : EU) : Prop := Disj (wrs e.U) f.D ∧ Disj (wrs e.U) (wrs f.U) ∧ Disj (wrs f.U) e.D

theorem Run.swap {e f : EU} {l : List EU} {S S' : St} (h : Run P cf N ops (e :: f :: l) S S') (hi : Ind e f) : Run P cf N ops (f :: e :: l) S S' := by
  cases h with
  | cons _ _ _ _ he h =>
    cases h with
    | cons _ _ _ _ hf t =>
      obtain ⟨h1, h2, h3⟩ := hi
      have c1 := he.closed
      have c2 := hf.closed
      have a2 : Agree f.D (app e.U S) S := fun t ht => (app_af (fun hw => h1 t hw ht) (c2 t ht).1).symm
      have a1 : Agree e.D S (app f.U S) := fun t ht => app_noroot (fun hw => h3 t hw ht) (fun s hs hw => h3 s hw ((c1 t ht).2 s hs))
      refine .cons _ _ _ _ (hf.loc a2) (.cons _ _ _ _ (he.loc a1) ?_)
      rw [app_comm h2 (fun x hx hr => h1 x hx (hf.rin x hr)) (fun x hx hr => h3 x hx (he.rin x hr))]
      exact t

theorem Run.front {e : EU} : ∀ {l1 : List EU} {l2 : List EU} {S S' : St}, Run P cf N ops (l1 ++ e :: l2) S S' → (∀ f ∈ l1, Ind f e) → Run P cf N ops (e :: (l1 ++ l2)) S S'
  | [], l2, S, S', h, _ => h
  | f :: l1, l2, S, S', h, hi => by
    cases h with
    | cons _ _ _ _ hf t =>
      have := Run.front t (fun g hg => hi g (by simp [hg]))
      exact Run.swap (.cons _ _ _ _ hf this) (hi f (by simp))

theorem Stp.sound {D : List Nat} {U : List Upd} {i : Nat} (h : Stp P cf N ops i D U S) (hdst : ∀ o ∈ ops.toList, ∀ d, o.dst = some d → OkD N d) (hr : StRel P N G w0 S a w) {K : Act → World → Prop} {Q : Exit → Act → World → Prop}
    (hk : ∀ a' w', StRel P N G w0 (app U S) a' w' → K a' w') : wpOp P ops Q i K a w := by
  have gd : ∀ {o : Oper} {b : Bool}, GuardOk ops N o S D b → Region.wanted o (yielded ops a.tmps) = b := by
    intro o b hg
    unfold GuardOk at hg
    split at hg
    · rename_i e; rw [hg]; simp [Region.wanted, e]
    · rename_i j v e
      rcases hg with ⟨g, c, h1, h2, h3, h4, h5⟩ | ⟨h0, g, h1, h2, h3⟩
      · have := yielded_slot h1 hr h3 h4
        simp only [Region.wanted, e, this]
        rw [← h5]; cases c <;> cases v <;> rfl
      · have := yielded_none h1 hr h3
        simp only [Region.wanted, e, this]
        rw [h0]; rfl
  cases h with
  | run o ho hD hR hx hg hE =>
    unfold wpOp
    rw [ho]
    simp only
    rw [if_pos (gd hg)]
    refine .inl ?_
    unfold Ex at hE
    obtain ⟨F, oss, hc⟩ := hr
    split at hE
    · rename_i f xs hcall
      obtain ⟨as, r, h1, ⟨he, h2⟩, h3⟩ := hE
      refine call_sound hc hcall h1 he h2 (cf := cf) (fun a' w' hd' hs => hk a' w' ?_) (fun d hd => hdst o (by
        have := Array.mem_of_getElem? ho; simpa using this) d hd)
      split at h3
      · rename_i d hd; rw [hd] at hs; obtain ⟨_, rfl⟩ := h3; exact hs
      · rename_i hd; rw [hd] at hs; subst h3; exact hs
    · obtain ⟨p, rd, h1, h2⟩ := hE
      exact stepO_sound hc h1 h2 hk
  | skip o ho hD hg hU =>
    unfold wpOp
    rw [ho]
    simp only
    rw [if_neg (by rw [gd hg]; simp)]
    subst hU
    exact hk _ _ (skip_sound hr o (fun d hd => hdst o (by have := Array.mem_of_getElem? ho; simpa using this) d hd))

theorem ready_mem {ops : Array Oper} {listed : Array Bool} {i : Nat} : i ∈ Region.ready .any ops listed ↔ i < ops.size ∧ listed.getD i true = false ∧ ∃ o, ops[i]? = some o ∧ ∀ e ∈ o.after.toList, Region.binds .any e = true → listed.getD e.on false = true := by
  unfold Region.ready
  rw [List.mem_filter, List.mem_range]
  constructor
  · rintro ⟨h1, h2⟩
    rw [Bool.and_eq_true] at h2
    obtain ⟨h2, h3⟩ := h2
    refine ⟨h1, by simpa using h2, ops[i], by simp [h1], ?_⟩
    have : ops[i]? = some ops[i] := by simp [h1]
    rw [this] at h3
    simp only [Option.map_some, Option.getD_some] at h3
    intro e he hb
    have := (Array.all_eq_true'.1 h3) e (by simpa using he)
    simpa [hb] using this
  · rintro ⟨h1, h2, o, h3, h4⟩
    refine ⟨h1, ?_⟩
    rw [Bool.and_eq_true, h3]
    refine ⟨by simp [h2], ?_⟩
    simp only [Option.map_some, Option.getD_some]
    refine Array.all_eq_true'.2 (fun e he => ?_)
    cases hb : Region.binds .any e with
    | false => rfl
    | true => simpa using h4 e (by simpa using he) hb

theorem drawn_main (hdst : ∀ o ∈ ops.toList, ∀ d, o.dst = some d → OkD N d) (hedge : edgesOk ops = true) {K : St → Prop} {Q : Exit → Act → World → Prop} (hk : ∀ S a w, K S → StRel P N G w0 S a w → Q .normal a w) :
    ∀ (fuel : Nat) (listed : Array Bool) (es : List EU) (S S1 : St) (a : Act) (w : World), StRel P N G w0 S a w → Run P cf N ops es S S1 → K S1 →
      es.Pairwise (fun e f => dirB ops e.i f.i = true ∨ Ind e f) → (es.map (·.i)).Pairwise (· < ·) → (∀ i, i < ops.size → (listed.getD i true = false ↔ i ∈ es.map (·.i))) → (∀ e ∈ es, e.i < ops.size) → listed.size = ops.size → es.length ≤ fuel →
      (∀ j o, listed.getD j false = true → ops[j]? = some o → ∀ e ∈ o.after.toList, Region.binds .any e = true → listed.getD e.on false = true) →
      wpAny P .any ops Q fuel listed a w := by
  have first : ∀ (listed : Array Bool) (e : EU) (es : List EU), ((e :: es).map (·.i)).Pairwise (· < ·) → (∀ i, i < ops.size → (listed.getD i true = false ↔ i ∈ (e :: es).map (·.i))) → (∀ f ∈ e :: es, f.i < ops.size) → listed.size = ops.size →
      e.i ∈ Region.ready .any ops listed := by
    intro listed e es hs hl hlt hsz
    have hi := hlt e (by simp)
    refine ready_mem.2 ⟨hi, (hl e.i hi).2 (by simp), ops[e.i], by simp [hi], fun ed hed hb => ?_⟩
    have := (List.all_eq_true.1 hedge) e.i (by simpa using hi)
    have e1 : ops[e.i]? = some ops[e.i] := by simp [hi]
    simp only [e1] at this
    have := (Array.all_eq_true'.1 this) ed (by simpa using hed)
    rw [hb] at this
    have hon : ed.on < e.i := by simpa using this
    have hon2 : ed.on < ops.size := by omega
    have hnot : ¬ (listed.getD ed.on true = false) := fun hf => by
      have := (hl ed.on hon2).1 hf
      rw [List.map_cons, List.mem_cons] at this
      rcases this with h | h
      · omega
      · have : e.i < ed.on := (List.pairwise_cons.1 hs).1 ed.on h; omega
    have hin : ed.on < listed.size := by omega
    simp [Array.getD, hin] at hnot ⊢
    exact hnot
  intro fuel
  induction fuel with
  | zero =>
    intro listed es S S1 a w hr hrun hK hp hs hl hlt hsz hf hcl
    have : es = [] := List.eq_nil_of_length_eq_zero (by omega)
    subst this
    cases hrun
    refine ⟨?_, hk _ a w hK hr⟩
    refine List.eq_nil_iff_forall_not_mem.2 (fun i hi => ?_)
    obtain ⟨h1, h2, _⟩ := ready_mem.1 hi
    simpa using (hl i h1).1 h2
  | succ fuel ih =>
    intro listed es S S1 a w hr hrun hK hp hs hl hlt hsz hf hcl
    refine ⟨fun hnil => ?_, fun i hi => ?_⟩
    · cases es with
      | nil => cases hrun; exact hk _ a w hK hr
      | cons e es =>
        have := first listed e es hs hl hlt hsz
        rw [hnil] at this
        simp at this
    · obtain ⟨h1, h2, o, h3, h4⟩ := ready_mem.1 hi
      have hmem := (hl i h1).1 h2
      obtain ⟨e, he, hei⟩ := List.mem_map.1 hmem
      obtain ⟨l1, l2, rfl⟩ := List.append_of_mem he
      have hind : ∀ f ∈ l1, Ind f e := by
        intro f hfm
        rcases (List.pairwise_append.1 hp).2.2 f hfm e (by simp) with hd | hd
        · exfalso
          unfold dirB at hd
          rw [hei] at hd
          have hlst := anc_closed (L := fun k => listed.getD k false = true) hcl i o h3 h4 ops.size h1 f.i hd
          have hfi := hlt f (by simp [hfm])
          have := (hl f.i hfi).2 (by simp; exact .inl ⟨f, hfm, rfl⟩)
          have hin : f.i < listed.size := by omega
          simp [Array.getD, hin] at hlst this
          rw [hlst] at this
          simp at this
        · exact hd
      have hrun2 := hrun.front hind
      cases hrun2 with
      | cons _ _ _ _ hst ht =>
        have hw := hst.sound hdst hr (K := fun a' w' => wpAny P .any ops Q fuel (listed.setIfInBounds i true) a' w') (Q := Q) (fun a' w' hr' => by
          refine ih (listed.setIfInBounds i true) (l1 ++ l2) _ S1 a' w' hr' ht hK ?_ ?_ (fun j hj => ?_) (fun f hf' => hlt f (by
            rcases List.mem_append.1 hf' with h | h <;> simp [h])) (by simp [hsz]) (by simp at hf ⊢; omega) ?_
          · exact hp.sublist (by simp)
          · exact hs.sublist (List.Sublist.map _ (by simp))
          · have hnd : ∀ f ∈ l1 ++ l2, f.i ≠ i := by
              intro f hf' e1
              rw [List.map_append, List.map_cons, List.pairwise_append, List.pairwise_cons] at hs
              rcases List.mem_append.1 hf' with h | h
              · have := hs.2.2 f.i (List.mem_map.2 ⟨f, h, rfl⟩) e.i (by simp); omega
              · have := hs.2.1.1 f.i (List.mem_map.2 ⟨f, h, rfl⟩); omega
            have hjl : j < listed.size := by omega
            by_cases e1 : j = i
            · subst e1
              constructor
              · intro hx; simp [Array.getD, hjl] at hx
              · intro hx
                obtain ⟨f, hf', e2⟩ := List.mem_map.1 hx
                exact (hnd f hf' e2).elim
            · have hsame : (listed.setIfInBounds i true).getD j true = listed.getD j true := by
                simp [Array.getElem?_setIfInBounds_ne (Ne.symm e1)]
              rw [hsame, hl j hj]
              simp only [List.map_append, List.map_cons, List.mem_append, List.mem_cons]
              constructor
              · rintro (h | h | h)
                · exact .inl h
                · exact (e1 (h.trans hei)).elim
                · exact .inr h
              · rintro (h | h)
                · exact .inl h
                · exact .inr (.inr h)
          · have hup : ∀ k, listed.getD k false = true → (listed.setIfInBounds i true).getD k false = true := by
              intro k hk
              by_cases e1 : k = i
              · subst e1
                have : k < listed.size := by omega
                simp [Array.getD, this]
              · simp [Array.getElem?_setIfInBounds_ne (Ne.symm e1)] at hk ⊢
                exact hk
            intro j o' hj ho' e' he' hb'
            by_cases e1 : j = i
            · subst e1
              rw [h3] at ho'
              injection ho' with ho'; subst ho'
              exact hup _ (h4 e' he' hb')
            · refine hup _ (hcl j o' ?_ ho' e' he' hb')
              simp [Array.getElem?_setIfInBounds_ne (Ne.symm e1)] at hj ⊢
              exact hj)
        rw [hei] at hw
        exact hw

theorem closedB_spec {D : List Nat} (h : closedB D S = true) : Closed D S := by
  intro t ht
  have := (List.all_eq_true.1 h) t ht
  rw [Bool.and_eq_true] at this
  exact ⟨this.1, fun s hs => by simpa using (List.all_eq_true.1 this.2) s hs⟩

def toEnt (e : EU) : Ent := ⟨e.i, e.D, wrs e.U⟩

theorem vcD_run {K : St → Prop} : ∀ (l : List Oper) (i : Nat) (tr : List Ent) (S : St), (∀ j o, l[j]? = some o → ops[i + j]? = some o) → vcD P cf N ops i l K tr S →
    ∃ es S1, Run P cf N ops es S S1 ∧ K S1 ∧ es.map (·.i) = List.range' i l.length ∧ okR ops ((es.map toEnt).reverse ++ tr) = true
  | [], i, tr, S, hl, h => ⟨[], S, .nil S, h.2, rfl, by simpa using h.1⟩
  | o :: l, i, tr, S, hl, h => by
    have ho : ops[i]? = some o := by simpa using hl 0 o rfl
    have hl2 : ∀ j o', l[j]? = some o' → ops[i + 1 + j]? = some o' := fun j o' hj => by
      have := hl (j + 1) o' (by simpa using hj)
      rwa [Nat.add_comm j 1, ← Nat.add_assoc] at this
    have fin : ∀ {D : List Nat} {U : List Upd}, Stp P cf N ops i D U S → vcD P cf N ops (i + 1) l K (⟨i, D, wrs U⟩ :: tr) (app U S) →
        ∃ es S1, Run P cf N ops es S S1 ∧ K S1 ∧ es.map (·.i) = List.range' i (o :: l).length ∧ okR ops ((es.map toEnt).reverse ++ tr) = true := by
      intro D U hst hc
      obtain ⟨es, S1, k1, k2, k3, k4⟩ := vcD_run l (i + 1) _ _ hl2 hc
      refine ⟨⟨i, D, U⟩ :: es, S1, .cons _ _ _ _ hst k1, k2, ?_, ?_⟩
      · rw [List.map_cons, k3, List.length_cons, List.range'_succ]
      · simpa [toEnt] using k4
    have run : ∀ {Gs : List Nat}, (Closed (Gs ++ (opsD S o.op).flatMap (rdO S)) S → GuardOk ops N o S (Gs ++ (opsD S o.op).flatMap (rdO S)) true) → runD P cf N i o Gs (vcD P cf N ops (i + 1) l K) tr S →
        ∃ es S1, Run P cf N ops es S S1 ∧ K S1 ∧ es.map (·.i) = List.range' i (o :: l).length ∧ okR ops ((es.map toEnt).reverse ++ tr) = true := by
      intro Gs hg hr
      have hx : ∀ x ∈ opsD S o.op, ∀ t ∈ slotsOf x, t ∈ Gs ++ (opsD S o.op).flatMap (rdO S) := fun x hx t ht =>
        List.mem_append.2 (.inr (List.mem_flatMap.2 ⟨x, hx, List.mem_append.2 (.inl ht)⟩))
      unfold runD at hr
      split at hr
      · rename_i f xs hc
        split at hr
        · exact hr.elim
        split at hr
        · rename_i as ha
          obtain ⟨hcl, r, hcon, hroots, hC⟩ := hr
          have hcl := closedB_spec hcl
          split at hC
          · rename_i d hd
            rw [hd] at hroots
            simp only [hd, Option.any_some] at hroots hC
            refine fin (U := [.w d (if cf.fz.contains d then frz r else r)]) (.run o ho hcl ?_ hx (hg hcl) ?_) hC.2
            · intro s hs; simp only [rts, List.append_nil] at hs; rw [hroots] at hs; simp at hs
            · unfold Ex; rw [hc]; exact ⟨as, r, ha, hcon, by rw [hd]; exact ⟨hC.1, rfl⟩⟩
          · rename_i hd
            refine fin (U := []) (.run o ho hcl (by simp [rts]) hx (hg hcl) ?_) hC
            unfold Ex; rw [hc]; exact ⟨as, r, ha, hcon, by rw [hd]⟩
        · exact hr.elim
      · rename_i hc
        split at hr
        · rename_i p rd U hs
          obtain ⟨hb, hp, hC⟩ := hr
          rw [Bool.and_eq_true] at hb
          have hcl := closedB_spec hb.1
          refine fin (.run o ho hcl (fun s hs => by simpa using (List.all_eq_true.1 hb.2) s hs) hx (hg hcl) ?_) hC
          unfold Ex; rw [hc]; exact ⟨p, rd, hs, hp⟩
        · exact hr.elim
    unfold vcD at h
    split at h
    · rename_i hg
      exact run (fun _ => by unfold GuardOk; rw [hg]) h
    · rename_i j b hg
      split at h
      · rename_i g hgs
        unfold GuardD at h
        split at h
        · rename_i c hS
          obtain ⟨hN, h1, h2⟩ := h
          have gok : ∀ D v, g ∈ D → (c == b) = v → GuardOk ops N o S D v := fun D v hD hv => by unfold GuardOk; rw [hg]; exact .inl ⟨g, c, hgs, hD, hN, hS, hv⟩
          cases hcb : (c == b) with
          | true => exact run (fun _ => gok _ _ (by simp) hcb) (h1 hcb)
          | false =>
            obtain ⟨k1, k2⟩ := h2 hcb
            exact fin (.skip o ho (closedB_spec k1) (gok _ _ (by simp) hcb) rfl) k2
        · rename_i hS
          obtain ⟨k1, k2⟩ := h
          exact fin (.skip o ho (closedB_spec k1) (by unfold GuardOk; rw [hg]; exact .inr ⟨rfl, g, hgs, by simp, hS⟩) rfl) k2
        · exact h.elim
      · exact h.elim

theorem okR_pair : ∀ {l : List Ent}, okR ops l = true → l.Pairwise (fun f e => dirB ops e.i f.i = true ∨ indB e f = true)
  | [], _ => .nil
  | e :: l, h => by
    rw [okR, Bool.and_eq_true] at h
    refine .cons (fun f hf => ?_) (okR_pair h.2)
    have := (List.all_eq_true.1 h.1) f hf
    simpa using this

theorem indB_spec {e f : EU} (h : indB (toEnt e) (toEnt f) = true) : Ind e f := by
  simp only [indB, toEnt, Bool.and_eq_true, List.all_eq_true, Bool.not_eq_eq_eq_not, Bool.not_true, List.contains_eq_mem, decide_eq_false_iff_not] at h
  exact ⟨fun x hx => (h.1 x hx).1, fun x hx => (h.1 x hx).2, fun x hx => h.2 x hx⟩

theorem draw_sound (hm : P.follows .mixedOrders = true) (hdst : ∀ o ∈ ops.toList, ∀ d, o.dst = some d → OkD N d) {K : St → Prop} {Q : Exit → Act → World → Prop} (hr : StRel P N G w0 S a w) (h : DrawVC P cf N ops K S)
    (hk : ∀ S a w, K S → StRel P N G w0 S a w → Q .normal a w) {id : Nat} : (Code.region id ops true).wp P Q a w := by
  obtain ⟨h1, h2⟩ := h
  obtain ⟨es, S1, k1, k2, k3, k4⟩ := vcD_run ops.toList 0 [] S (fun j o hj => by simpa using hj) h2
  have hpair : es.Pairwise (fun e f => dirB ops e.i f.i = true ∨ Ind e f) := by
    have := okR_pair k4
    rw [List.append_nil, List.pairwise_reverse, List.pairwise_map] at this
    exact this.imp (fun h => h.imp (fun h => h) indB_spec)
  have hr' : StRel P N G w0 S a { w with drawn := w.drawn + 1 } := by
    obtain ⟨F, oss, hc⟩ := hr
    exact (hc.world (w' := { w with drawn := w.drawn + 1 }) (X' := []) rfl rfl rfl (Nat.le_refl _) (fun _ _ _ => rfl) (fun _ h => h) (fun _ h => .inl h) (by simp) List.nodup_nil).st
  refine wp_region_any hm (drawn_main hdst h1 hk ops.size _ es S S1 a _ hr' k1 k2 hpair ?_ (fun i hi => ?_) (fun e he => ?_) (by simp) ?_ ?_)
  · rw [k3]; exact List.pairwise_lt_range'
  · rw [k3, List.mem_range'_1]
    simp [hi]
  · have : e.i ∈ es.map (·.i) := List.mem_map.2 ⟨e, he, rfl⟩
    rw [k3, List.mem_range'_1] at this
    simpa using this.2
  · have : es.length = ops.toList.length := by rw [← List.length_map (f := (·.i)), k3, List.length_range']
    rw [this]; simp
  · intro j o hj
    exfalso
    rw [Array.getD_eq_getD_getElem?] at hj
    simp only [Array.getElem?_replicate] at hj; split at hj <;> simp at hj
end
end Go.Abs
