/- Texts of the own layer and contracts, part 3: AbsD5 AbsV AbsL AbsN AbsM AbsP AbsQ AbsW AbsW2. -/
import Derived.Below
import Derived.ChangeSame
import Derived.OpenShut
import Derived.ReadAgain
import Derived.ChangeBears
import Derived.Lib.SmallJoins
import Derived.Shelf.SlSortCmp.NoneTotal
import Derived.Test.YtphccfabekdmnaaGreatM2
set_option linter.unusedSectionVars false
set_option linter.unusedVariables false
set_option linter.unusedSimpArgs false
set_option maxHeartbeats 4000000
set_option maxRecDepth 100000
namespace Go.Abs
variable [DrawK]
open Go.RowKit (Below)
structure Exc where
 p : Nat
 c : Nat
 d : Nat
def excB (q : Exc) (i j : Nat) : Bool := (i == q.p && (j == q.c || j == q.d)) || (j == q.p && (i == q.c || i == q.d))
def okX (ops : Array Oper) (q : Nat → Nat → Bool) : List Ent → Bool
 | [] => true
 | e :: l => l.all (fun e' => dirB ops e'.i e.i || indB e' e || q e'.i e.i) && okX ops q l
def vcX (P : Program) (cf : Cfg) (N : Nat × List Nat) (ops : Array Oper) (q : Nat → Nat → Bool) : List Nat → (St → Prop) → List Ent → St → Prop
 | [], K, tr, S => okX ops q tr = true ∧ K S
 | i :: l, K, tr, S => match ops[i]? with
  | some o => match o.guard with
   | none => runD P cf N i o [] (vcX P cf N ops q l K) tr S
   | some (j, b) => match gslot ops j with
    | some g => GuardD N g b (runD P cf N i o [g] (vcX P cf N ops q l K)) (skipD i o [g] (vcX P cf N ops q l K)) tr S
    | none => False
  | none => False
def nrg : Nat → Nat → List Nat
 | _, 0 => []
 | i, n + 1 => i :: nrg (i + 1) n
def rmv (x : Nat) : List Nat → List Nat
 | [] => []
 | a :: l => if a = x then l else a :: rmv x l
def insA (x y : Nat) : List Nat → List Nat
 | [] => []
 | a :: l => if a = y then a :: x :: l else a :: insA x y l
def edgesV (ops : Array Oper) : Bool := edgesOk ops && noV ops
theorem edgesV_e {ops : Array Oper} (h : edgesV ops = true) : edgesOk ops = true := by rw [edgesV, Bool.and_eq_true] at h; exact h.1
theorem edgesV_v {ops : Array Oper} (h : edgesV ops = true) : noV ops = true := by rw [edgesV, Bool.and_eq_true] at h; exact h.2
def noCalls (ops : Array Oper) : Bool := ops.all fun o => (callOf o.op).isNone
def depB (ops : Array Oper) (i j : Nat) : Bool := match ops[i]? with
 | some o => o.after.any fun e => Region.binds .any e && e.on == j
 | none => false
def topoB (ops : Array Oper) : List Nat → Bool
 | [] => true
 | i :: l => (l.all fun j => !(depB ops i j)) && topoB ops l
def nbB (x y : Nat) : List Nat → Bool
 | [] => true
 | a :: l => !(a == x && l.contains y) && nbB x y l
def permB (l r : List Nat) : Bool := decide l.Nodup && decide (l.length = r.length) && r.all (fun x => l.contains x) && l.all (fun x => r.contains x)
def checkX (ops : Array Oper) (q : Exc) (l0 l1 l2 : List Nat) : Bool :=
 edgesV ops && noCalls ops && dirB ops q.c q.d && permB l0 (List.range ops.size) && permB l1 (List.range ops.size) && permB l2 (List.range ops.size) && topoB ops l0 && topoB ops l1 && topoB ops l2 &&
  nbB q.c q.p l0 && nbB q.d q.p l0 && nbB q.p q.c l1 && nbB q.d q.p l1 && nbB q.p q.c l2 && nbB q.p q.d l2
def DrawVC3 (P : Program) (cf : Cfg) (N : Nat × List Nat) (ops : Array Oper) (q : Exc) (n : Nat) (K : St → Prop) (S : St) : Prop :=
 checkX ops q (insA q.c q.p (rmv q.c (nrg 0 n))) (nrg 0 n) (insA q.p q.d (rmv q.p (nrg 0 n))) = true ∧
  vcX P cf N ops (excB q) (insA q.c q.p (rmv q.c (nrg 0 n))) K [] S ∧ vcX P cf N ops (excB q) (nrg 0 n) K [] S ∧ vcX P cf N ops (excB q) (insA q.p q.d (rmv q.p (nrg 0 n))) K [] S
def checkY (ops : Array Oper) (q : Exc) (l1 l2 : List Nat) : Bool :=
 edgesV ops && noCalls ops && decide (ops.size ≤ q.c) && permB l1 (List.range ops.size) && permB l2 (List.range ops.size) && topoB ops l1 && topoB ops l2 && nbB q.d q.p l1 && nbB q.p q.d l2
def DrawVC2 (P : Program) (cf : Cfg) (N : Nat × List Nat) (ops : Array Oper) (q : Exc) (n : Nat) (K : St → Prop) (S : St) : Prop :=
 checkY ops q (insA q.d q.p (rmv q.d (nrg 0 n))) (nrg 0 n) = true ∧ vcX P cf N ops (excB q) (insA q.d q.p (rmv q.d (nrg 0 n))) K [] S ∧ vcX P cf N ops (excB q) (nrg 0 n) K [] S
def alt (cf : Cfg) (id : Nat) : Option (Exc × Nat) := (cf.tko.find? fun t => decide (t / 100000000 = 10000 + id)).map fun t => (⟨t / 1000000 % 100, t / 10000 % 100, t / 100 % 100⟩, t % 100)
def fixC (cf : Cfg) (R : Nat → List Upd) (i : Nat) (o : Oper) (S S' : St) : Prop := match callOf o.op with
 | none => True
 | some (f, xs) => match o.dst with
  | none => False
  | some d => if (cf.mu.contains f || cf.mu.contains (1000000 + f)) = true then match locArgs S xs with
   | [(s, [])] => s ≠ d ∧ R i = [.n s .any, .n s (S' s), .w d (S' d)]
   | [(s, []), (t, [])] => (s ≠ t ∧ s ≠ d ∧ t ≠ d) ∧ R i = [.n s .any, .n t .any, .n s (S' s), .n t (S' t), .w d (S' d)]
   | [] => R i = [.w d (S' d)]
   | _ => False
   else R i = [.w d (S' d)]
def fixK (cf : Cfg) (R : Nat → List Upd) (i : Nat) (o : Oper) (S : St) (C : List Ent → St → Prop) (tr : List Ent) (S' : St) : Prop := fixC cf R i o S S' ∧ C tr S'
def vcY (P : Program) (cf : Cfg) (N : Nat × List Nat) (ops : Array Oper) (q : Nat → Nat → Bool) (R : Nat → List Upd) : List Nat → (St → Prop) → List Ent → St → Prop
 | [], K, tr, S => okX ops q tr = true ∧ K S
 | i :: l, K, tr, S => match ops[i]? with
  | some o => match o.guard with
   | none => runD P cf N i o [] (fixK cf R i o S (vcY P cf N ops q R l K)) tr S
   | some _ => False
  | none => False
def checkZ (ops : Array Oper) (q : Exc) (l0 l1 l2 : List Nat) : Bool :=
 edgesV ops && dirB ops q.c q.d && permB l0 (List.range ops.size) && permB l1 (List.range ops.size) && permB l2 (List.range ops.size) && topoB ops l0 && topoB ops l1 && topoB ops l2 &&
  nbB q.c q.p l0 && nbB q.d q.p l0 && nbB q.p q.c l1 && nbB q.d q.p l1 && nbB q.p q.c l2 && nbB q.p q.d l2
def DrawVC4 (P : Program) (cf : Cfg) (N : Nat × List Nat) (ops : Array Oper) (q : Exc) (n : Nat) (K : St → Prop) (S : St) : Prop :=
 ∃ R, checkZ ops q (insA q.d q.c (insA q.c q.p (rmv q.d (rmv q.c (nrg 0 n))))) (insA q.d q.p (rmv q.d (nrg 0 n))) (nrg 0 n) = true ∧
  vcY P cf N ops (excB q) R (insA q.d q.c (insA q.c q.p (rmv q.d (rmv q.c (nrg 0 n))))) K [] S ∧ vcY P cf N ops (excB q) R (insA q.d q.p (rmv q.d (nrg 0 n))) K [] S ∧ vcY P cf N ops (excB q) R (nrg 0 n) K [] S
def checkW (ops : Array Oper) (q : Exc) (l1 l2 : List Nat) : Bool :=
 edgesV ops && decide (ops.size ≤ q.c) && permB l1 (List.range ops.size) && permB l2 (List.range ops.size) && topoB ops l1 && topoB ops l2 && nbB q.d q.p l1 && nbB q.p q.d l2
def DrawVC5 (P : Program) (cf : Cfg) (N : Nat × List Nat) (ops : Array Oper) (q : Exc) (n : Nat) (K : St → Prop) (S : St) : Prop :=
 ∃ R, checkW ops q (nrg 0 n) (insA q.p q.d (rmv q.p (nrg 0 n))) = true ∧ vcY P cf N ops (excB q) R (nrg 0 n) K [] S ∧ vcY P cf N ops (excB q) R (insA q.p q.d (rmv q.p (nrg 0 n))) K [] S
def alt2 (cf : Cfg) (id : Nat) : Option (Exc × Nat) := (cf.tko.find? fun t => decide (t / 100000000 = 20000 + id)).map fun t => (⟨t / 1000000 % 100, t / 10000 % 100, t / 100 % 100⟩, t % 100)
def excL (X : List (Nat × Nat)) (i j : Nat) : Bool := X.any fun p => (i == p.1 && j == p.2) || (i == p.2 && j == p.1)
def befB (x y : Nat) : List Nat → Bool
 | [] => false
 | a :: l => if a = x then l.contains y else befB x y l
def turns : List (Nat × Nat) → List (List (Nat × Nat))
 | [] => [[]]
 | (x, y) :: X => (turns X).map (fun O => (x, y) :: O) ++ (turns X).map (fun O => (y, x) :: O)
def noneB (ops : Array Oper) (O : List (Nat × Nat)) : Bool := O.any fun p => dirB ops p.2 p.1 || O.any fun r => r.1 == p.2 && dirB ops r.2 p.1
def coverB (ops : Array Oper) (X : List (Nat × Nat)) (Ls : List (List Nat)) : Bool := (turns X).all fun O => noneB ops O || Ls.any fun l => O.all fun p => befB p.1 p.2 l
def checkL (ops : Array Oper) (X : List (Nat × Nat)) (Ls : List (List Nat)) : Bool :=
 edgesV ops && (X.all fun p => decide (p.1 < ops.size) && decide (p.2 < ops.size) && !(p.1 == p.2)) && (Ls.all fun l => permB l (List.range ops.size) && topoB ops l) && coverB ops X Ls
def AllY (P : Program) (cf : Cfg) (N : Nat × List Nat) (ops : Array Oper) (q : Nat → Nat → Bool) (R : Nat → List Upd) (K : St → Prop) (S : St) : List (List Nat) → Prop
 | [] => True
 | l :: Ls => vcY P cf N ops q R l K [] S ∧ AllY P cf N ops q R K S Ls
def DrawVC6 (P : Program) (cf : Cfg) (N : Nat × List Nat) (ops : Array Oper) (K : St → Prop) (S : St) : Prop :=
 ∃ X Ls R, checkL ops X Ls = true ∧ AllY P cf N ops (excL X) R K S Ls
def alt3 (cf : Cfg) (id : Nat) : Bool := cf.tko.any fun t => decide (t / 100000000 = 30000 + id)
def DrawSel (P : Program) (cf : Cfg) (N : Nat × List Nat) (ops : Array Oper) (id : Nat) (K : St → Prop) (S : St) : Prop := match alt cf id with
 | some (q, n) => if q.c = 99 then DrawVC2 P cf N ops q n K S else DrawVC3 P cf N ops q n K S
 | none => match alt2 cf id with
  | some (q, n) => if q.c = 99 then DrawVC5 P cf N ops q n K S else DrawVC4 P cf N ops q n K S
  | none => if alt3 cf id = true then DrawVC6 P cf N ops K S else DrawVC P cf N ops K S
section
variable {P : Program} {N : Nat × List Nat} {G : Nat → Prop} {w0 : W0} {w w' : World} {S : St} {a : Act} {F : Nat → Prop} {oss : Nat → List Nat} {X : List Nat} {cf : Cfg} {ops : Array Oper}
theorem vcX_run {q : Nat → Nat → Bool} {K : St → Prop} : ∀ (l : List Nat) (tr : List Ent) (S : St), vcX P cf N ops q l K tr S →
  ∃ es S1, Run P cf N ops es S S1 ∧ K S1 ∧ es.map (·.i) = l ∧ okX ops q ((es.map toEnt).reverse ++ tr) = true
 | [], tr, S, h => ⟨[], S, .nil S, h.2, rfl, by simpa using h.1⟩
 | i :: l, tr, S, h => by
  unfold vcX at h
  obtain ⟨o, ho⟩ : ∃ o, ops[i]? = some o := by
   cases ho : ops[i]? with
   | none => rw [ho] at h; exact h.elim
   | some o => exact ⟨o, rfl⟩
  rw [ho] at h
  simp only at h
  have fin : ∀ {D : List Nat} {U : List Upd}, Stp P cf N ops i D U S → vcX P cf N ops q l K (⟨i, D, wrs U⟩ :: tr) (app U S) →
    ∃ es S1, Run P cf N ops es S S1 ∧ K S1 ∧ es.map (·.i) = i :: l ∧ okX ops q ((es.map toEnt).reverse ++ tr) = true := by
   intro D U hst hc
   obtain ⟨es, S1, k1, k2, k3, k4⟩ := vcX_run l _ _ hc
   refine ⟨⟨i, D, U⟩ :: es, S1, .cons _ _ _ _ hst k1, k2, ?_, ?_⟩
   ·rw [List.map_cons, k3]
   ·simpa [toEnt] using k4
  have run : ∀ {Gs : List Nat}, (Closed (Gs ++ (opsD S o.op).flatMap (rdO S)) S → GuardOk ops N o S (Gs ++ (opsD S o.op).flatMap (rdO S)) true) → runD P cf N i o Gs (vcX P cf N ops q l K) tr S →
    ∃ es S1, Run P cf N ops es S S1 ∧ K S1 ∧ es.map (·.i) = i :: l ∧ okX ops q ((es.map toEnt).reverse ++ tr) = true := by
   intro Gs hg hr
   have hx : ∀ x ∈ opsD S o.op, ∀ t ∈ slotsOf x, t ∈ Gs ++ (opsD S o.op).flatMap (rdO S) := fun x hx t ht =>
    List.mem_append.2 (.inr (List.mem_flatMap.2 ⟨x, hx, List.mem_append.2 (.inl ht)⟩))
   unfold runD at hr
   split at hr
   ·rename_i f xs hc
    split at hr
    ·unfold MCallD at hr
     split at hr
     ·rename_i s hl
      split at hr
      ·rename_i c k hk
       split at hr
       ·rename_i asx ha
        obtain ⟨⟨hs, hcl⟩, r, outs, hcon, hr⟩ := hr
        have hcl := closedB_spec hcl
        split at hr
        ·rename_i c' hlf
         obtain ⟨⟨r1, r2⟩, hr⟩ := hr
         split at hr
         ·rename_i d hd
          refine fin (U := [.n s .any, .n s c', .w d r]) (.run o ho hcl ?_ hx (hg hcl) ?_) hr.2
          ·intro t ht; simp [rts, r1, r2, roots] at ht
          ·unfold Ex; rw [hc]; exact .inr (.inl ⟨s, c, k, asx, r, outs, c', hl, hs, hk, ha, hcon, hlf, by rw [hd]; exact ⟨hr.1, rfl⟩⟩)
         ·rename_i hd
          refine fin (U := [.n s .any, .n s c']) (.run o ho hcl ?_ hx (hg hcl) ?_) hr
          ·intro t ht; simp [rts, r1, roots] at ht
          ·unfold Ex; rw [hc]; exact .inr (.inl ⟨s, c, k, asx, r, outs, c', hl, hs, hk, ha, hcon, hlf, by rw [hd]⟩)
        ·exact hr.elim
       ·exact hr.elim
      ·exact hr.elim
     ·rename_i s t hl
      split at hr
      ·rename_i c k hk
       split at hr
       ·rename_i c2 k2 hk2
        split at hr
        ·rename_i asx ha
         obtain ⟨⟨hs, hcl⟩, r, outs, hcon, hr⟩ := hr
         have hcl := closedB_spec hcl
         split at hr
         ·rename_i c' c2' hlf
          obtain ⟨⟨r1, r3, r2⟩, hr⟩ := hr
          split at hr
          ·rename_i d hd
           refine fin (U := [.n s .any, .n t .any, .n s c', .n t c2', .w d r]) (.run o ho hcl ?_ hx (hg hcl) ?_) hr.2
           ·intro t ht; simp [rts, r1, r2, r3, roots] at ht
           ·unfold Ex; rw [hc]; exact .inr (.inr (.inl ⟨s, t, c, k, c2, k2, asx, r, outs, c', c2', d, hl, hs, hk, hk2, ha, hcon, hlf, hd, hr.1, rfl⟩))
          ·exact hr.elim
         ·exact hr.elim
        ·exact hr.elim
       ·exact hr.elim
      ·exact hr.elim
     ·rename_i hl
      split at hr
      ·rename_i asx ha
       obtain ⟨hcl, r, outs, hcon, hr⟩ := hr
       have hcl := closedB_spec hcl
       split at hr
       ·rename_i hlf
        obtain ⟨r2, hr⟩ := hr
        split at hr
        ·rename_i d hd
         refine fin (U := [.w d r]) (.run o ho hcl ?_ hx (hg hcl) ?_) hr.2
         ·intro t ht; simp [rts, r2, roots] at ht
         ·unfold Ex; rw [hc]; exact .inr (.inr (.inr ⟨asx, r, outs, d, hl, ha, hcon, hlf, hd, hr.1, rfl⟩))
        ·exact hr.elim
       ·exact hr.elim
      ·exact hr.elim
     ·exact hr.elim
    split at hr
    ·rename_i asx ha
     obtain ⟨hcl, r, hcon, hroots, hC⟩ := hr
     have hcl := closedB_spec hcl
     split at hC
     ·rename_i d hd
      rw [hd] at hroots
      simp only [hd, Option.any_some] at hroots hC
      refine fin (U := [.w d (if cf.fz.contains d then frz r else r)]) (.run o ho hcl ?_ hx (hg hcl) ?_) hC.2
      ·intro s hs; simp only [rts, List.append_nil] at hs; rw [hroots] at hs; simp at hs
      ·unfold Ex; rw [hc]; exact .inl ⟨asx, r, ha, hcon, by rw [hd]; exact ⟨hC.1, rfl⟩⟩
     ·rename_i hd
      refine fin (U := []) (.run o ho hcl (by simp [rts]) hx (hg hcl) ?_) hC
      unfold Ex; rw [hc]; exact .inl ⟨asx, r, ha, hcon, by rw [hd]⟩
    ·exact hr.elim
   ·rename_i hc
    split at hr
    ·rename_i p rd U hs
     obtain ⟨hb, hp, hC⟩ := hr
     rw [Bool.and_eq_true] at hb
     have hcl := closedB_spec hb.1
     refine fin (.run o ho hcl (fun s hs => by simpa using (List.all_eq_true.1 hb.2) s hs) hx (hg hcl) ?_) hC
     unfold Ex; rw [hc]; exact .inl ⟨p, rd, hs, hp⟩
    ·exact hr.elim
  split at h
  ·rename_i hg
   exact run (fun _ => by unfold GuardOk; rw [hg]) h
  ·rename_i j b hg
   split at h
   ·rename_i g hgs
    unfold GuardD at h
    split at h
    ·rename_i c hS
     obtain ⟨hN, h1, h2⟩ := h
     have gok : ∀ D v, g ∈ D → (c == b) = v → GuardOk ops N o S D v := fun D v hD hv => by unfold GuardOk; rw [hg]; exact .inl ⟨g, c, hgs, hD, hN, hS, hv⟩
     cases hcb : (c == b) with
     | true => exact run (fun _ => gok _ _ (by simp) hcb) (h1 hcb)
     | false =>
      obtain ⟨k1, k2⟩ := h2 hcb
      exact fin (.skip o ho (closedB_spec k1) (gok _ _ (by simp) hcb) rfl) k2
    ·rename_i hS
     obtain ⟨k1, k2⟩ := h
     exact fin (.skip o ho (closedB_spec k1) (by unfold GuardOk; rw [hg]; exact .inr ⟨rfl, g, hgs, by simp, hS⟩) rfl) k2
    ·exact h.elim
   ·exact h.elim
def fixU (ops : Array Oper) (R : Nat → List Upd) (e : EU) : Prop := ∀ o f xs, ops[e.i]? = some o → callOf o.op = some (f, xs) → e.U = R e.i
theorem fixU_none (hnc : noCalls ops = true) {R : Nat → List Upd} (e : EU) : fixU ops R e := by
 intro o f xs ho hc
 have hi : e.i < ops.size := (Array.getElem?_eq_some_iff.1 ho).1
 have := (Array.all_eq_true.1 hnc) e.i hi
 have k : ops[e.i] = o := by rw [Array.getElem?_eq_getElem hi] at ho; injection ho
 rw [k, hc] at this
 simp at this
theorem fixU_det {R : Nat → List Upd} {e f : EU} (h1 : fixU ops R e) (h2 : fixU ops R f) (hi : f.i = e.i) : ∀ o g xs, ops[e.i]? = some o → callOf o.op = some (g, xs) → e.U = f.U := fun o g xs ho hc => by
 rw [h1 o g xs ho hc, h2 o g xs (by rw [hi]; exact ho) hc, hi]
theorem vcY_run {q : Nat → Nat → Bool} {R : Nat → List Upd} {K : St → Prop} : ∀ (l : List Nat) (tr : List Ent) (S : St), vcY P cf N ops q R l K tr S →
  ∃ es S1, Run P cf N ops es S S1 ∧ K S1 ∧ es.map (·.i) = l ∧ okX ops q ((es.map toEnt).reverse ++ tr) = true ∧ ∀ e ∈ es, fixU ops R e
 | [], tr, S, h => ⟨[], S, .nil S, h.2, rfl, by simpa using h.1, by simp⟩
 | i :: l, tr, S, h => by
  unfold vcY at h
  obtain ⟨o, ho⟩ : ∃ o, ops[i]? = some o := by
   cases ho : ops[i]? with
   | none => rw [ho] at h; exact h.elim
   | some o => exact ⟨o, rfl⟩
  rw [ho] at h
  simp only at h
  have fin : ∀ {D : List Nat} {U : List Upd}, Stp P cf N ops i D U S → (∀ f xs, callOf o.op = some (f, xs) → U = R i) → vcY P cf N ops q R l K (⟨i, D, wrs U⟩ :: tr) (app U S) →
    ∃ es S1, Run P cf N ops es S S1 ∧ K S1 ∧ es.map (·.i) = i :: l ∧ okX ops q ((es.map toEnt).reverse ++ tr) = true ∧ ∀ e ∈ es, fixU ops R e := by
   intro D U hst hu hc
   obtain ⟨es, S1, k1, k2, k3, k4, k5⟩ := vcY_run l _ _ hc
   refine ⟨⟨i, D, U⟩ :: es, S1, .cons _ _ _ _ hst k1, k2, ?_, ?_, ?_⟩
   ·rw [List.map_cons, k3]
   ·simpa [toEnt] using k4
   ·intro e he
    rcases List.mem_cons.1 he with rfl | he
    ·intro o' f xs ho' hc'
     simp only at ho'
     rw [ho] at ho'; injection ho' with ho'; subst ho'
     exact hu f xs hc'
    ·exact k5 e he
  split at h
  ·rename_i hg0
   have hg : ∀ {D : List Nat}, GuardOk ops N o S D true := by intro D; unfold GuardOk; rw [hg0]
   have hr := h
   have hx : ∀ x ∈ opsD S o.op, ∀ t ∈ slotsOf x, t ∈ ([] : List Nat) ++ (opsD S o.op).flatMap (rdO S) := fun x hx t ht =>
    List.mem_append.2 (.inr (List.mem_flatMap.2 ⟨x, hx, List.mem_append.2 (.inl ht)⟩))
   unfold runD at hr
   split at hr
   ·rename_i f xs hc
    split at hr
    ·rename_i hmu
     unfold MCallD at hr
     split at hr
     ·rename_i s hl
      split at hr
      ·rename_i c k hk
       split at hr
       ·rename_i asx ha
        obtain ⟨⟨hs, hcl⟩, r, outs, hcon, hr⟩ := hr
        have hcl := closedB_spec hcl
        split at hr
        ·rename_i c' hlf
         obtain ⟨⟨r1, r2⟩, hr⟩ := hr
         split at hr
         ·rename_i d hd
          obtain ⟨hok, hfx, hr⟩ := hr
          unfold fixC at hfx
          rw [hc, hd] at hfx
          simp only at hfx
          rw [if_pos hmu, hl] at hfx
          simp only at hfx
          obtain ⟨g3, g4⟩ := hfx
          refine fin (U := [.n s .any, .n s c', .w d r]) (.run o ho hcl ?_ hx hg ?_) ?_ hr
          ·intro t ht; simp [rts, r1, r2, roots] at ht
          ·unfold Ex; rw [hc]; exact .inr (.inl ⟨s, c, k, asx, r, outs, c', hl, hs, hk, ha, hcon, hlf, by rw [hd]; exact ⟨hok, rfl⟩⟩)
          ·intro f' xs' hc'
           have q1 : ∀ W, kl W c' = c' := fun W => kl_noroot c' (by rw [r1]; simp)
           have q2 : ∀ W, kl W r = r := fun W => kl_noroot r (by rw [r2]; simp)
           rw [g4]
           simp [upd, updn, q1, q2, g3]
         ·rename_i hd
          obtain ⟨hfx, hr⟩ := hr
          unfold fixC at hfx
          rw [hc, hd] at hfx
          exact hfx.elim
        ·exact hr.elim
       ·exact hr.elim
      ·exact hr.elim
     ·rename_i s t hl
      split at hr
      ·rename_i c k hk
       split at hr
       ·rename_i c2 k2 hk2
        split at hr
        ·rename_i asx ha
         obtain ⟨⟨hs, hcl⟩, r, outs, hcon, hr⟩ := hr
         have hcl := closedB_spec hcl
         split at hr
         ·rename_i c' c2' hlf
          obtain ⟨⟨r1, r3, r2⟩, hr⟩ := hr
          split at hr
          ·rename_i d hd
           obtain ⟨hok, hfx, hr⟩ := hr
           unfold fixC at hfx
           rw [hc, hd] at hfx
           simp only at hfx
           rw [if_pos hmu, hl] at hfx
           simp only at hfx
           obtain ⟨⟨g1, g2, g3⟩, g4⟩ := hfx
           refine fin (U := [.n s .any, .n t .any, .n s c', .n t c2', .w d r]) (.run o ho hcl ?_ hx hg ?_) ?_ hr
           ·intro t ht; simp [rts, r1, r2, r3, roots] at ht
           ·unfold Ex; rw [hc]; exact .inr (.inr (.inl ⟨s, t, c, k, c2, k2, asx, r, outs, c', c2', d, hl, hs, hk, hk2, ha, hcon, hlf, hd, hok, rfl⟩))
           ·intro f' xs' hc'
            have q1 : ∀ W, kl W c' = c' := fun W => kl_noroot c' (by rw [r1]; simp)
            have q2 : ∀ W, kl W r = r := fun W => kl_noroot r (by rw [r2]; simp)
            have q3 : ∀ W, kl W c2' = c2' := fun W => kl_noroot c2' (by rw [r3]; simp)
            have q4 : ∀ e, kn e c' = c' := fun e => kn_noroot c' (by rw [r1]; simp)
            rw [g4]
            simp [upd, updn, q1, q2, q3, q4, g1, g2, g3]
          ·exact hr.elim
         ·exact hr.elim
        ·exact hr.elim
       ·exact hr.elim
      ·exact hr.elim
     ·rename_i hl
      split at hr
      ·rename_i asx ha
       obtain ⟨hcl, r, outs, hcon, hr⟩ := hr
       have hcl := closedB_spec hcl
       split at hr
       ·rename_i hlf
        obtain ⟨r2, hr⟩ := hr
        split at hr
        ·rename_i d hd
         obtain ⟨hok, hfx, hr⟩ := hr
         unfold fixC at hfx
         rw [hc, hd] at hfx
         simp only at hfx
         rw [if_pos hmu, hl] at hfx
         simp only at hfx
         refine fin (U := [.w d r]) (.run o ho hcl ?_ hx hg ?_) ?_ hr
         ·intro t ht; simp [rts, r2, roots] at ht
         ·unfold Ex; rw [hc]; exact .inr (.inr (.inr ⟨asx, r, outs, d, hl, ha, hcon, hlf, hd, hok, rfl⟩))
         ·intro f' xs' hc'
          have q2 : ∀ W, kl W r = r := fun W => kl_noroot r (by rw [r2]; simp)
          rw [hfx]
          simp [upd, q2]
        ·exact hr.elim
       ·exact hr.elim
      ·exact hr.elim
     ·exact hr.elim
    rename_i hmu
    split at hr
    ·rename_i asx ha
     obtain ⟨hcl, r, hcon, hroots, hC⟩ := hr
     have hcl := closedB_spec hcl
     split at hC
     ·rename_i d hd
      rw [hd] at hroots
      simp only [hd, Option.any_some] at hroots hC
      obtain ⟨hok, hfx, hC⟩ := hC
      unfold fixC at hfx
      rw [hc, hd] at hfx
      simp only at hfx
      refine fin (U := [.w d (if cf.fz.contains d then frz r else r)]) (.run o ho hcl ?_ hx hg ?_) ?_ hC
      ·intro s hs; simp only [rts, List.append_nil] at hs; rw [hroots] at hs; simp at hs
      ·unfold Ex; rw [hc]; exact .inl ⟨asx, r, ha, hcon, by rw [hd]; exact ⟨hok, rfl⟩⟩
      ·intro f' xs' hc'
       rw [if_neg hmu] at hfx
       rw [hfx]
       have q1 : ∀ W, kl W (if cf.fz.contains d then frz r else r) = (if cf.fz.contains d then frz r else r) := fun W => kl_noroot _ (by rw [hroots]; simp)
       simp only [upd, if_true, q1]
     ·rename_i hd
      obtain ⟨hfx, hC⟩ := hC
      unfold fixC at hfx
      rw [hc, hd] at hfx
      exact hfx.elim
    ·exact hr.elim
   ·rename_i hc
    split at hr
    ·rename_i p rd U hs
     obtain ⟨hb, hp, _, hC⟩ := hr
     rw [Bool.and_eq_true] at hb
     have hcl := closedB_spec hb.1
     refine fin (.run o ho hcl (fun s hs => by simpa using (List.all_eq_true.1 hb.2) s hs) hx hg ?_) ?_ hC
     ·unfold Ex; rw [hc]; exact .inl ⟨p, rd, hs, hp⟩
     ·intro f' xs' hc'; rw [hc] at hc'; simp at hc'
    ·exact hr.elim
  ·exact h.elim
theorem okX_pair {q : Nat → Nat → Bool} : ∀ {l : List Ent}, okX ops q l = true → l.Pairwise (fun f e => dirB ops e.i f.i = true ∨ indB e f = true ∨ q e.i f.i = true)
 | [], _ => .nil
 | e :: l, h => by
  rw [okX, Bool.and_eq_true] at h
  refine .cons (fun f hf => ?_) (okX_pair h.2)
  have := (List.all_eq_true.1 h.1) f hf
  simpa [or_assoc] using this
theorem Stp.det {D D' : List Nat} {U U' : List Upd} {i : Nat} (hv : edgesV ops = true) (h0 : ∀ o f xs, ops[i]? = some o → callOf o.op = some (f, xs) → U = U') (h : Stp P cf N ops i D U S) (h' : Stp P cf N ops i D' U' S) : U = U' := by
 have gd : ∀ {o : Oper}, GuardOk ops N o S D true → GuardOk ops N o S D' false → False := by
  intro o h1 h2
  unfold GuardOk at h1 h2
  split at h1
  ·rename_i e; rw [e] at h2; simp at h2
  ·rename_i j v e
   rw [e] at h2
   simp only at h2
   rcases h1 with ⟨g, c, k1, _, _, k4, k5⟩ | ⟨h0, _⟩
   ·rcases h2 with ⟨g', c', m1, _, _, m4, m5⟩ | ⟨_, g', m1, _, m3⟩
    ·rw [k1] at m1; injection m1 with m1; subst m1
     rw [k4] at m4; injection m4 with m4; injection m4 with m4; subst m4
     rw [k5] at m5; simp at m5
    ·rw [k1] at m1; injection m1 with m1; subst m1
     rw [k4] at m3; simp at m3
   ·simp at h0
 have gd' : ∀ {o : Oper}, GuardOk ops N o S D false → GuardOk ops N o S D' true → False := by
  intro o h1 h2
  unfold GuardOk at h1 h2
  split at h2
  ·rename_i e; rw [e] at h1; simp at h1
  ·rename_i j v e
   rw [e] at h1
   simp only at h1
   rcases h2 with ⟨g, c, k1, _, _, k4, k5⟩ | ⟨h0, _⟩
   ·rcases h1 with ⟨g', c', m1, _, _, m4, m5⟩ | ⟨_, g', m1, _, m3⟩
    ·rw [k1] at m1; injection m1 with m1; subst m1
     rw [k4] at m4; injection m4 with m4; injection m4 with m4; subst m4
     rw [k5] at m5; simp at m5
    ·rw [k1] at m1; injection m1 with m1; subst m1
     rw [k4] at m3; simp at m3
   ·simp at h0
 cases h with
 | run o ho hD hR hx hg hE => cases h' with
  | run o' ho' hD' hR' hx' hg' hE' =>
   rw [ho] at ho'; injection ho' with ho'; subst ho'
   by_cases hc : callOf o.op = none
   case neg =>
    obtain ⟨⟨f, xs⟩, hc⟩ := Option.ne_none_iff_exists'.1 hc
    exact h0 o f xs ho hc
   unfold Ex at hE hE'
   rw [hc] at hE hE'
   have nv : ∀ f xs, callW S o.op ≠ some (f, xs) := fun f xs hw => by
    have := (Array.all_eq_true'.1 (edgesV_v hv)) o (Array.mem_of_getElem? ho)
    rw [callW_isFV hw] at this
    simp at this
   rcases hE with ⟨q, rd, h1, _⟩ | ⟨_, _, _, _, hw, _⟩
   case inr => exact (nv _ _ hw).elim
   rcases hE' with ⟨q', rd', h2, _⟩ | ⟨_, _, _, _, hw, _⟩
   case inr => exact (nv _ _ hw).elim
   rw [h1] at h2
   simp only [Option.some.injEq, Prod.mk.injEq] at h2
   exact h2.2.2
  | skip o' ho' hD' hg' hU' =>
   rw [ho] at ho'; injection ho' with ho'; subst ho'
   exact (gd hg hg').elim
 | skip o ho hD hg hU => cases h' with
  | run o' ho' hD' hR' hx' hg' hE' =>
   rw [ho] at ho'; injection ho' with ho'; subst ho'
   exact (gd' hg hg').elim
  | skip o' ho' hD' hg' hU' =>
   rw [ho] at ho'; injection ho' with ho'; subst ho'
   rw [hU, hU']
theorem listed_step {listed : Array Bool} {M M' : List Nat} {i : Nat} (hsz : listed.size = ops.size) (hi : i < ops.size) (hni : i ∉ M') (hM : ∀ j, j ≠ i → (j ∈ M' ↔ j ∈ M)) (hl : ∀ j, j < ops.size → (listed.getD j true = false ↔ j ∈ M)) :
  ∀ j, j < ops.size → ((listed.setIfInBounds i true).getD j true = false ↔ j ∈ M') := by
 intro j hj
 have hjl : j < listed.size := by omega
 by_cases e1 : j = i
 ·subst e1
  constructor
  ·intro hx; simp [Array.getD, hjl] at hx
  ·intro hx; exact (hni hx).elim
 ·have hsame : (listed.setIfInBounds i true).getD j true = listed.getD j true := by
   simp [Array.getElem?_setIfInBounds_ne (Ne.symm e1)]
  rw [hsame, hl j hj, hM j e1]
theorem closed_step {listed : Array Bool} {i : Nat} {o : Oper} (hsz : listed.size = ops.size) (h1 : i < ops.size) (h3 : ops[i]? = some o) (h4 : ∀ e ∈ o.after.toList, Region.binds .any e = true → listed.getD e.on false = true)
  (hcl : ∀ j o, listed.getD j false = true → ops[j]? = some o → ∀ e ∈ o.after.toList, Region.binds .any e = true → listed.getD e.on false = true) :
  ∀ j o, (listed.setIfInBounds i true).getD j false = true → ops[j]? = some o → ∀ e ∈ o.after.toList, Region.binds .any e = true → (listed.setIfInBounds i true).getD e.on false = true := by
 have hup : ∀ k, listed.getD k false = true → (listed.setIfInBounds i true).getD k false = true := by
  intro k hk
  by_cases e1 : k = i
  ·subst e1
   have : k < listed.size := by omega
   simp [Array.getD, this]
  ·simp [Array.getElem?_setIfInBounds_ne (Ne.symm e1)] at hk ⊢
   exact hk
 intro j o' hj ho' e' he' hb'
 by_cases e1 : j = i
 ·subst e1
  rw [h3] at ho'
  injection ho' with ho'; subst ho'
  exact hup _ (h4 e' he' hb')
 ·refine hup _ (hcl j o' ?_ ho' e' he' hb')
  simp [Array.getElem?_setIfInBounds_ne (Ne.symm e1)] at hj ⊢
  exact hj
def TO (ops : Array Oper) (e f : EU) : Prop := depB ops e.i f.i = false
theorem drawn_firstT (hedge : edgesV ops = true) (listed : Array Bool) (e : EU) (es : List EU) (hs : (e :: es).Pairwise (TO ops)) (hl : ∀ i, i < ops.size → (listed.getD i true = false ↔ i ∈ (e :: es).map (·.i))) (hlt : ∀ f ∈ e :: es, f.i < ops.size) (hsz : listed.size = ops.size) :
  e.i ∈ Region.ready .any ops listed := by
 have hi := hlt e (by simp)
 refine ready_mem.2 ⟨hi, (hl e.i hi).2 (by simp), ops[e.i], by simp [hi], fun ed hed hb => ?_⟩
 have := (List.all_eq_true.1 (edgesV_e hedge)) e.i (by simpa using hi)
 have e1 : ops[e.i]? = some ops[e.i] := by simp [hi]
 simp only [e1] at this
 have := (Array.all_eq_true'.1 this) ed (by simpa using hed)
 rw [hb] at this
 have hon : ed.on < e.i := by simpa using this
 have hon2 : ed.on < ops.size := by omega
 have hnot : ¬ (listed.getD ed.on true = false) := fun hf => by
  have := (hl ed.on hon2).1 hf
  rw [List.map_cons, List.mem_cons] at this
  rcases this with h | h
  ·omega
  ·obtain ⟨f, hf1, hf2⟩ := List.mem_map.1 h
   have := (List.pairwise_cons.1 hs).1 f hf1
   unfold TO depB at this
   rw [e1] at this
   simp only at this
   have h5 : (ops[e.i].after.any fun e => Region.binds .any e && e.on == f.i) = true := Array.any_eq_true'.2 ⟨ed, by simpa using hed, by simp [hb, hf2]⟩
   rw [h5] at this; simp at this
 have hin : ed.on < listed.size := by omega
 simp [Array.getD, hin] at hnot ⊢
 exact hnot
theorem drawn_mainT (hdst : ∀ o ∈ ops.toList, ∀ d, o.dst = some d → OkD N d) (hedge : edgesV ops = true) {K : St → Prop} {Q : Exit → Act → World → Prop} (hk : ∀ S a w, K S → StRel P N G w0 S a w → Q .normal a w) :
  ∀ (fuel : Nat) (listed : Array Bool) (es : List EU) (S S1 : St) (a : Act) (w : World), StRel P N G w0 S a w → Run P cf N ops es S S1 → K S1 →
   es.Pairwise (fun e f => dirB ops e.i f.i = true ∨ Ind e f) → es.Pairwise (TO ops) ∧ (es.map (·.i)).Nodup → (∀ i, i < ops.size → (listed.getD i true = false ↔ i ∈ es.map (·.i))) → (∀ e ∈ es, e.i < ops.size) → listed.size = ops.size → es.length ≤ fuel →
   (∀ j o, listed.getD j false = true → ops[j]? = some o → ∀ e ∈ o.after.toList, Region.binds .any e = true → listed.getD e.on false = true) →
   wpAny P .any ops Q fuel listed a w := by
 intro fuel
 induction fuel with
 | zero =>
  intro listed es S S1 a w hr hrun hK hp hs hl hlt hsz hf hcl
  have : es = [] := List.eq_nil_of_length_eq_zero (by omega)
  subst this
  cases hrun
  refine ⟨?_, hk _ a w hK hr⟩
  refine List.eq_nil_iff_forall_not_mem.2 (fun i hi => ?_)
  obtain ⟨h1, h2, _⟩ := ready_mem.1 hi
  simpa using (hl i h1).1 h2
 | succ fuel ih =>
  intro listed es S S1 a w hr hrun hK hp hs hl hlt hsz hf hcl
  refine ⟨fun hnil => ?_, fun i hi => ?_⟩
  ·cases es with
   | nil => cases hrun; exact hk _ a w hK hr
   | cons e es =>
    have := drawn_firstT hedge listed e es hs.1 hl hlt hsz
    rw [hnil] at this
    simp at this
  ·obtain ⟨h1, h2, o, h3, h4⟩ := ready_mem.1 hi
   have hmem := (hl i h1).1 h2
   obtain ⟨e, he, hei⟩ := List.mem_map.1 hmem
   obtain ⟨l1, l2, rfl⟩ := List.append_of_mem he
   have hind : ∀ f ∈ l1, Ind f e := by
    intro f hfm
    rcases (List.pairwise_append.1 hp).2.2 f hfm e (by simp) with hd | hd
    ·exfalso
     unfold dirB at hd
     rw [hei] at hd
     have hlst := anc_closed (L := fun k => listed.getD k false = true) hcl i o h3 h4 ops.size h1 f.i hd
     have hfi := hlt f (by simp [hfm])
     have := (hl f.i hfi).2 (by simp; exact .inl ⟨f, hfm, rfl⟩)
     have hin : f.i < listed.size := by omega
     simp [Array.getD, hin] at hlst this
     rw [hlst] at this
     simp at this
    ·exact hd
   have hrun2 := hrun.front hind
   cases hrun2 with
   | cons _ _ _ _ hst ht =>
    have hw := hst.sound hdst hr (K := fun a' w' => wpAny P .any ops Q fuel (listed.setIfInBounds i true) a' w') (Q := Q) (fun a' w' hr' => by
     refine ih (listed.setIfInBounds i true) (l1 ++ l2) _ S1 a' w' hr' ht hK ?_ ?_ (fun j hj => ?_) (fun f hf' => hlt f (by
      rcases List.mem_append.1 hf' with h | h <;> simp [h])) (by simp [hsz]) (by simp at hf ⊢; omega) ?_
     ·exact hp.sublist (by simp)
     ·exact ⟨hs.1.sublist (by simp), hs.2.sublist (List.Sublist.map _ (by simp))⟩
     ·have hnd : ∀ f ∈ l1 ++ l2, f.i ≠ i := by
       intro f hf' e1
       have hs2 := hs.2
       rw [List.map_append, List.map_cons, List.nodup_append, List.nodup_cons] at hs2
       rcases List.mem_append.1 hf' with h | h
       ·exact hs2.2.2 f.i (List.mem_map.2 ⟨f, h, rfl⟩) e.i (by simp) (e1.trans hei.symm)
       ·exact hs2.2.1.1 (by rw [hei, ← e1]; exact List.mem_map.2 ⟨f, h, rfl⟩)
      have hjl : j < listed.size := by omega
      by_cases e1 : j = i
      ·subst e1
       constructor
       ·intro hx; simp [Array.getD, hjl] at hx
       ·intro hx
        obtain ⟨f, hf', e2⟩ := List.mem_map.1 hx
        exact (hnd f hf' e2).elim
      ·have hsame : (listed.setIfInBounds i true).getD j true = listed.getD j true := by
        simp [Array.getElem?_setIfInBounds_ne (Ne.symm e1)]
       rw [hsame, hl j hj]
       simp only [List.map_append, List.map_cons, List.mem_append, List.mem_cons]
       constructor
       ·rintro (h | h | h)
        ·exact .inl h
        ·exact (e1 (h.trans hei)).elim
        ·exact .inr h
       ·rintro (h | h)
        ·exact .inl h
        ·exact .inr (.inr h)
     ·have hup : ∀ k, listed.getD k false = true → (listed.setIfInBounds i true).getD k false = true := by
       intro k hk
       by_cases e1 : k = i
       ·subst e1
        have : k < listed.size := by omega
        simp [Array.getD, this]
       ·simp [Array.getElem?_setIfInBounds_ne (Ne.symm e1)] at hk ⊢
        exact hk
      intro j o' hj ho' e' he' hb'
      by_cases e1 : j = i
      ·subst e1
       rw [h3] at ho'
       injection ho' with ho'; subst ho'
       exact hup _ (h4 e' he' hb')
      ·refine hup _ (hcl j o' ?_ ho' e' he' hb')
       simp [Array.getElem?_setIfInBounds_ne (Ne.symm e1)] at hj ⊢
       exact hj)
    rw [hei] at hw
    exact hw
def PR (ops : Array Oper) (q : Exc) (e f : EU) : Prop := dirB ops e.i f.i = true ∨ Ind e f ∨ excB q e.i f.i = true
def NB (x y : Nat) (e f : EU) : Prop := ¬ (e.i = x ∧ f.i = y)
theorem PR.strict {q : Exc} {l : List EU} (h : l.Pairwise (PR ops q)) (hn : (∀ e ∈ l, e.i ≠ q.p) ∨ (∀ e ∈ l, e.i ≠ q.c) ∧ (∀ e ∈ l, e.i ≠ q.d)) : l.Pairwise (fun e f => dirB ops e.i f.i = true ∨ Ind e f) := by
 refine List.Pairwise.imp_of_mem (fun {e f} he hf hp => ?_) h
 rcases hp with h | h | h
 ·exact .inl h
 ·exact .inr h
 ·exfalso
  unfold excB at h
  simp at h
  rcases hn with hn | ⟨hc, hd⟩
  ·have h1 := hn e he
   have h2 := hn f hf
   omega
  ·have h1 := hc e he
   have h2 := hc f hf
   have h3 := hd e he
   have h4 := hd f hf
   omega
theorem run_pick {q : Exc} {listed : Array Bool} {M : List Nat} {es : List EU} {S1 : St} {i : Nat} (hr : Run P cf N ops es S S1) (hp : es.Pairwise (PR ops q)) (ht : es.Pairwise (TO ops)) (hnd : (es.map (·.i)).Nodup) (hm : ∀ j, j ∈ es.map (·.i) ↔ j ∈ M) (hi : i ∈ M)
  (nodir : ∀ f : EU, f.i ∈ M → dirB ops f.i i = true → False) (hex : ∀ l1 e l2, es = l1 ++ e :: l2 → e.i = i → ∀ f ∈ l1, excB q f.i i = false) :
  ∃ e es', e.i = i ∧ Run P cf N ops (e :: es') S S1 ∧ es'.Sublist es ∧ (es'.map (·.i)).Nodup ∧ (∀ j, j ∈ es'.map (·.i) ↔ j ∈ M ∧ j ≠ i) ∧ es.length = es'.length + 1 ∧ e ∈ es := by
 obtain ⟨e, he, hei⟩ := List.mem_map.1 ((hm i).2 hi)
 obtain ⟨l1, l2, rfl⟩ := List.append_of_mem he
 have hind : ∀ f ∈ l1, Ind f e := by
  intro f hfm
  rcases (List.pairwise_append.1 hp).2.2 f hfm e (by simp) with hd | hd | hd
  ·rw [hei] at hd; exact (nodir f ((hm f.i).1 (by simp; exact .inl ⟨f, hfm, rfl⟩)) hd).elim
  ·exact hd
  ·rw [hei, hex l1 e l2 rfl hei f hfm] at hd; simp at hd
 have hni : i ∉ (l1 ++ l2).map (·.i) := by
  rw [List.map_append, List.map_cons, hei, List.nodup_append, List.nodup_cons] at hnd
  intro hx
  rw [List.map_append] at hx
  rcases List.mem_append.1 hx with hx | hx
  ·exact hnd.2.2 i hx i (by simp) rfl
  ·exact hnd.2.1.1 hx
 refine ⟨e, l1 ++ l2, hei, hr.front hind, by simp, hnd.sublist (List.Sublist.map _ (by simp)), fun j => ?_, by simp; omega, by simp⟩
 constructor
 ·intro hj
  refine ⟨(hm j).1 ?_, fun ej => hni (ej ▸ hj)⟩
  rw [List.map_append] at hj ⊢
  rw [List.map_cons]
  rcases List.mem_append.1 hj with hj | hj <;> simp only [List.mem_append, List.mem_cons, hj, or_true, true_or]
 ·rintro ⟨hj, hne⟩
  have := (hm j).2 hj
  rw [List.map_append, List.map_cons, hei] at this
  rw [List.map_append]
  rcases List.mem_append.1 this with h | h
  ·exact List.mem_append.2 (.inl h)
  ·rcases List.mem_cons.1 h with h | h
   ·exact (hne h).elim
   ·exact List.mem_append.2 (.inr h)
theorem nodir_of {listed : Array Bool} {M : List Nat} {i : Nat} {o : Oper} (hsz : listed.size = ops.size) (h1 : i < ops.size) (h3 : ops[i]? = some o) (h4 : ∀ e ∈ o.after.toList, Region.binds .any e = true → listed.getD e.on false = true)
  (hcl : ∀ j o, listed.getD j false = true → ops[j]? = some o → ∀ e ∈ o.after.toList, Region.binds .any e = true → listed.getD e.on false = true)
  (hl : ∀ i, i < ops.size → (listed.getD i true = false ↔ i ∈ M)) (hlt : ∀ i ∈ M, i < ops.size) : ∀ f : Nat, f ∈ M → dirB ops f i = true → False := by
 intro f hfm hd
 unfold dirB at hd
 have hlst := anc_closed (L := fun k => listed.getD k false = true) hcl i o h3 h4 ops.size h1 f hd
 have hfi := hlt f hfm
 have := (hl f hfi).2 hfm
 have hin : f < listed.size := by omega
 simp [Array.getD, hin] at hlst this
 rw [hlst] at this
 simp at this
theorem excB_other {q : Exc} {k i : Nat} (hp : i ≠ q.p) (hc : i ≠ q.c) (hd : i ≠ q.d) : excB q k i = false := by
 unfold excB; simp; omega
theorem nb_split {x y : Nat} {l1 l2 : List EU} {e f : EU} (h : (l1 ++ e :: l2).Pairwise (NB x y)) (he : e.i = y) (hf : f ∈ l1) : f.i ≠ x := fun hx =>
 (List.pairwise_append.1 h).2.2 f hf e (by simp) ⟨hx, he⟩
theorem drawn2 (hdst : ∀ o ∈ ops.toList, ∀ d, o.dst = some d → OkD N d) (hedge : edgesV ops = true) {RU : Nat → List Upd} {q : Exc} {K : St → Prop} {Q : Exit → Act → World → Prop} (hk : ∀ S a w, K S → StRel P N G w0 S a w → Q .normal a w) :
  ∀ (fuel : Nat) (listed : Array Bool) (es1 es2 : List EU) (M : List Nat) (S S1 S2 : St) (a : Act) (w : World), StRel P N G w0 S a w → Run P cf N ops es1 S S1 → Run P cf N ops es2 S S2 → K S1 → K S2 →
   es1.Pairwise (PR ops q) → es2.Pairwise (PR ops q) → es1.Pairwise (TO ops) → es2.Pairwise (TO ops) → (es1.map (·.i)).Nodup → (es2.map (·.i)).Nodup → (∀ j, j ∈ es1.map (·.i) ↔ j ∈ M) → (∀ j, j ∈ es2.map (·.i) ↔ j ∈ M) →
   es1.Pairwise (NB q.d q.p) → es2.Pairwise (NB q.p q.d) → (∀ e ∈ es1, fixU ops RU e) → (∀ e ∈ es2, fixU ops RU e) → q.c ∉ M →
   (∀ i, i < ops.size → (listed.getD i true = false ↔ i ∈ M)) → (∀ i ∈ M, i < ops.size) → listed.size = ops.size → es1.length ≤ fuel → es2.length ≤ fuel →
   (∀ j o, listed.getD j false = true → ops[j]? = some o → ∀ e ∈ o.after.toList, Region.binds .any e = true → listed.getD e.on false = true) →
   wpAny P .any ops Q fuel listed a w := by
 intro fuel
 induction fuel with
 | zero =>
  intro listed es1 es2 M S S1 S2 a w hr r1 r2 k1 k2 p1 p2 t1 t2 d1 d2 m1 m2 b1 b2 x1 x2 hcM hl hlt hsz hf hf2 hcl
  have : es1 = [] := List.eq_nil_of_length_eq_zero (by omega)
  subst this
  cases r1
  refine ⟨?_, hk _ a w k1 hr⟩
  refine List.eq_nil_iff_forall_not_mem.2 (fun i hi => ?_)
  obtain ⟨h1, h2, _⟩ := ready_mem.1 hi
  have := (m1 i).2 ((hl i h1).1 h2)
  simp at this
 | succ fuel ih =>
  intro listed es1 es2 M S S1 S2 a w hr r1 r2 k1 k2 p1 p2 t1 t2 d1 d2 m1 m2 b1 b2 x1 x2 hcM hl hlt hsz hf hf2 hcl
  refine ⟨fun hnil => ?_, fun i hi => ?_⟩
  ·cases es1 with
   | nil => cases r1; exact hk _ a w k1 hr
   | cons e es =>
    have := drawn_firstT hedge listed e es t1 (fun i hi => by rw [hl i hi, m1]) (fun f hf => hlt f.i ((m1 f.i).1 (List.mem_map.2 ⟨f, hf, rfl⟩))) hsz
    rw [hnil] at this
    simp at this
  ·obtain ⟨h1, h2, o, h3, h4⟩ := ready_mem.1 hi
   have hmem := (hl i h1).1 h2
   have nodir := nodir_of hsz h1 h3 h4 hcl hl hlt
   have hcl' := closed_step hsz h1 h3 h4 hcl
   have hsz' : (listed.setIfInBounds i true).size = ops.size := by simp [hsz]
   have alone : ∀ (es : List EU) (S3 : St), Run P cf N ops es S S3 → K S3 → es.Pairwise (PR ops q) → es.Pairwise (TO ops) → (es.map (·.i)).Nodup → (∀ j, j ∈ es.map (·.i) ↔ j ∈ M) → es.length ≤ fuel + 1 →
     (∀ l1 e l2, es = l1 ++ e :: l2 → e.i = i → ∀ f ∈ l1, excB q f.i i = false) → (i = q.p ∨ i = q.d) → wpOp P ops Q i (fun a' w' => wpAny P .any ops Q fuel (listed.setIfInBounds i true) a' w') a w := by
    intro es S3 r3 k3 p3 t3 d3 m3 f3 hex hpd
    obtain ⟨e, es', hei, hrun, hsub, hnd', hm', hlen, hin⟩ := run_pick (listed := listed) r3 p3 t3 d3 m3 hmem (fun f => nodir f.i) hex
    cases hrun with
    | cons _ _ _ _ hst ht =>
     have hw := hst.sound hdst hr (K := fun a' w' => wpAny P .any ops Q fuel (listed.setIfInBounds i true) a' w') (Q := Q) (fun a' w' hr' => by
      refine drawn_mainT hdst hedge hk fuel (listed.setIfInBounds i true) es' _ S3 a' w' hr' ht k3 (PR.strict (p3.sublist hsub) ?_) ⟨t3.sublist hsub, hnd'⟩ ?_ ?_ hsz' (by omega) hcl'
      ·rcases hpd with h | h
       ·exact .inl (fun g hg hgi => ((hm' g.i).1 (List.mem_map.2 ⟨g, hg, rfl⟩)).2 (hgi.trans h.symm))
       ·refine .inr ⟨fun g hg hgi => hcM (hgi ▸ ((hm' g.i).1 (List.mem_map.2 ⟨g, hg, rfl⟩)).1), fun g hg hgi => ((hm' g.i).1 (List.mem_map.2 ⟨g, hg, rfl⟩)).2 (hgi.trans h.symm)⟩
      ·exact listed_step hsz h1 (fun hx => ((hm' i).1 hx).2 rfl) (fun j hj => by rw [hm']; exact ⟨fun h => h.1, fun h => ⟨h, hj⟩⟩) hl
      ·exact fun f hf' => hlt f.i ((hm' f.i).1 (List.mem_map.2 ⟨f, hf', rfl⟩)).1)
     rw [hei] at hw
     exact hw
   by_cases hip : i = q.p
   ·refine alone es1 S1 r1 k1 p1 t1 d1 m1 hf ?_ (.inl hip)
    rintro l1 e l2 rfl hei f hfm
    have n1 := nb_split b1 (hei.trans hip) hfm
    have n2 : f.i ≠ q.c := fun hc => hcM (hc ▸ (m1 f.i).1 (by simp; exact .inl ⟨f, hfm, rfl⟩))
    have n3 : f.i ≠ q.p := fun hp => by
     rw [List.map_append, List.map_cons, List.nodup_append] at d1
     exact d1.2.2 f.i (List.mem_map.2 ⟨f, hfm, rfl⟩) e.i (by simp) (by rw [hp, hei, hip])
    unfold excB; simp; omega
   ·by_cases hid : i = q.d
    ·refine alone es2 S2 r2 k2 p2 t2 d2 m2 hf2 ?_ (.inr hid)
     rintro l1 e l2 rfl hei f hfm
     have n1 := nb_split b2 (hei.trans hid) hfm
     unfold excB; simp; omega
    ·have hic : i ≠ q.c := fun h => hcM (h ▸ hmem)
     obtain ⟨e, es', hei, hrun, hsub, hnd', hm', hlen, hin⟩ := run_pick (listed := listed) r1 p1 t1 d1 m1 hmem (fun f => nodir f.i) (fun _ _ _ _ _ f _ => excB_other hip hic hid)
     obtain ⟨e2, es2', hei2, hrun2, hsub2, hnd2', hm2', hlen2, hin2⟩ := run_pick (listed := listed) r2 p2 t2 d2 m2 hmem (fun f => nodir f.i) (fun _ _ _ _ _ f _ => excB_other hip hic hid)
     cases hrun with
     | cons _ _ _ _ hst ht =>
      cases hrun2 with
      | cons _ _ _ _ hst2 ht2 =>
       have hU : e.U = e2.U := by
        have k := hst2
        rw [hei2, ← hei] at k
        exact hst.det hedge (fixU_det (x1 e hin) (x2 e2 hin2) (hei2.trans hei.symm)) k
       rw [← hU] at ht2
       have hw := hst.sound hdst hr (K := fun a' w' => wpAny P .any ops Q fuel (listed.setIfInBounds i true) a' w') (Q := Q) (fun a' w' hr' => by
        refine ih (listed.setIfInBounds i true) es' es2' (es'.map (·.i)) _ S1 S2 a' w' hr' ht ht2 k1 k2 (p1.sublist hsub) (p2.sublist hsub2) (t1.sublist hsub) (t2.sublist hsub2) hnd' hnd2' (fun _ => Iff.rfl) (fun j => by rw [hm', hm2']) (b1.sublist hsub) (b2.sublist hsub2) (fun e he => x1 e (hsub.subset he)) (fun e he => x2 e (hsub2.subset he))
         (fun hx => hcM ((hm' _).1 hx).1) ?_ (fun x hx => hlt x ((hm' x).1 hx).1) hsz' (by omega) (by omega) hcl'
        exact listed_step hsz h1 (fun hx => ((hm' i).1 hx).2 rfl) (fun j hj => by rw [hm']; exact ⟨fun h => h.1, fun h => ⟨h, hj⟩⟩) hl)
       rw [hei] at hw
       exact hw
theorem drawn3 (hdst : ∀ o ∈ ops.toList, ∀ d, o.dst = some d → OkD N d) (hedge : edgesV ops = true) {RU : Nat → List Upd} {q : Exc} (hcd : dirB ops q.c q.d = true) {K : St → Prop} {Q : Exit → Act → World → Prop} (hk : ∀ S a w, K S → StRel P N G w0 S a w → Q .normal a w) :
  ∀ (fuel : Nat) (listed : Array Bool) (es0 es1 es2 : List EU) (M : List Nat) (S S0 S1 S2 : St) (a : Act) (w : World), StRel P N G w0 S a w → Run P cf N ops es0 S S0 → Run P cf N ops es1 S S1 → Run P cf N ops es2 S S2 → K S0 → K S1 → K S2 →
   es0.Pairwise (PR ops q) → es1.Pairwise (PR ops q) → es2.Pairwise (PR ops q) → es0.Pairwise (TO ops) → es1.Pairwise (TO ops) → es2.Pairwise (TO ops) → (es0.map (·.i)).Nodup → (es1.map (·.i)).Nodup → (es2.map (·.i)).Nodup →
   (∀ j, j ∈ es0.map (·.i) ↔ j ∈ M) → (∀ j, j ∈ es1.map (·.i) ↔ j ∈ M) → (∀ j, j ∈ es2.map (·.i) ↔ j ∈ M) →
   es0.Pairwise (NB q.c q.p) → es0.Pairwise (NB q.d q.p) → es1.Pairwise (NB q.p q.c) → es1.Pairwise (NB q.d q.p) → es2.Pairwise (NB q.p q.c) → es2.Pairwise (NB q.p q.d) → (∀ e ∈ es0, fixU ops RU e) → (∀ e ∈ es1, fixU ops RU e) → (∀ e ∈ es2, fixU ops RU e) → q.c ∈ M →
   (∀ i, i < ops.size → (listed.getD i true = false ↔ i ∈ M)) → (∀ i ∈ M, i < ops.size) → listed.size = ops.size → es0.length ≤ fuel → es1.length ≤ fuel → es2.length ≤ fuel →
   (∀ j o, listed.getD j false = true → ops[j]? = some o → ∀ e ∈ o.after.toList, Region.binds .any e = true → listed.getD e.on false = true) →
   wpAny P .any ops Q fuel listed a w := by
 intro fuel
 induction fuel with
 | zero =>
  intro listed es0 es1 es2 M S S0 S1 S2 a w hr r0 r1 r2 k0 k1 k2 p0 p1 p2 t0 t1 t2 d0 d1 d2 m0 m1 m2 b0 b0' b1 b1' b2 b2' x0 x1 x2 hcM hl hlt hsz hf0 hf hf2 hcl
  have : es1 = [] := List.eq_nil_of_length_eq_zero (by omega)
  subst this
  have := (m1 _).2 hcM
  simp at this
 | succ fuel ih =>
  intro listed es0 es1 es2 M S S0 S1 S2 a w hr r0 r1 r2 k0 k1 k2 p0 p1 p2 t0 t1 t2 d0 d1 d2 m0 m1 m2 b0 b0' b1 b1' b2 b2' x0 x1 x2 hcM hl hlt hsz hf0 hf hf2 hcl
  refine ⟨fun hnil => ?_, fun i hi => ?_⟩
  ·cases es1 with
   | nil => cases r1; exact hk _ a w k1 hr
   | cons e es =>
    have := drawn_firstT hedge listed e es t1 (fun i hi => by rw [hl i hi, m1]) (fun f hf => hlt f.i ((m1 f.i).1 (List.mem_map.2 ⟨f, hf, rfl⟩))) hsz
    rw [hnil] at this
    simp at this
  ·obtain ⟨h1, h2, o, h3, h4⟩ := ready_mem.1 hi
   have hmem := (hl i h1).1 h2
   have nodir := nodir_of hsz h1 h3 h4 hcl hl hlt
   have hcl' := closed_step hsz h1 h3 h4 hcl
   have hsz' : (listed.setIfInBounds i true).size = ops.size := by simp [hsz]
   by_cases hip : i = q.p
   ·have hex : ∀ l1 e l2, es0 = l1 ++ e :: l2 → e.i = i → ∀ f ∈ l1, excB q f.i i = false := by
     rintro l1 e l2 rfl hei f hfm
     have n1 := nb_split b0 (hei.trans hip) hfm
     have n2 := nb_split b0' (hei.trans hip) hfm
     have n3 : f.i ≠ q.p := fun hp => by
      rw [List.map_append, List.map_cons, List.nodup_append] at d0
      exact d0.2.2 f.i (List.mem_map.2 ⟨f, hfm, rfl⟩) e.i (by simp) (by rw [hp, hei, hip])
     unfold excB; simp; omega
    obtain ⟨e, es', hei, hrun, hsub, hnd', hm', hlen, hin⟩ := run_pick (listed := listed) r0 p0 t0 d0 m0 hmem (fun f => nodir f.i) hex
    cases hrun with
    | cons _ _ _ _ hst ht =>
     have hw := hst.sound hdst hr (K := fun a' w' => wpAny P .any ops Q fuel (listed.setIfInBounds i true) a' w') (Q := Q) (fun a' w' hr' => by
      refine drawn_mainT hdst hedge hk fuel (listed.setIfInBounds i true) es' _ S0 a' w' hr' ht k0 (PR.strict (p0.sublist hsub) (.inl (fun g hg hgi => ((hm' g.i).1 (List.mem_map.2 ⟨g, hg, rfl⟩)).2 (hgi.trans hip.symm)))) ⟨t0.sublist hsub, hnd'⟩ ?_ ?_ hsz' (by omega) hcl'
      ·exact listed_step hsz h1 (fun hx => ((hm' i).1 hx).2 rfl) (fun j hj => by rw [hm']; exact ⟨fun h => h.1, fun h => ⟨h, hj⟩⟩) hl
      ·exact fun f hf' => hlt f.i ((hm' f.i).1 (List.mem_map.2 ⟨f, hf', rfl⟩)).1)
     rw [hei] at hw
     exact hw
   ·by_cases hid : i = q.d
    ·exact (nodir q.c hcM (by rw [hid]; exact hcd)).elim
    ·have hex : ∀ (es : List EU), es.Pairwise (NB q.p q.c) → ∀ l1 e l2, es = l1 ++ e :: l2 → e.i = i → ∀ f ∈ l1, excB q f.i i = false := by
      rintro es b l1 e l2 rfl hei f hfm
      by_cases hic : i = q.c
      ·have n1 := nb_split b (hei.trans hic) hfm
       unfold excB; simp; omega
      ·exact excB_other hip hic hid
     obtain ⟨e, es', hei, hrun, hsub, hnd', hm', hlen, hin⟩ := run_pick (listed := listed) r1 p1 t1 d1 m1 hmem (fun f => nodir f.i) (hex es1 b1)
     obtain ⟨e2, es2', hei2, hrun2, hsub2, hnd2', hm2', hlen2, hin2⟩ := run_pick (listed := listed) r2 p2 t2 d2 m2 hmem (fun f => nodir f.i) (hex es2 b2)
     cases hrun with
     | cons _ _ _ _ hst ht =>
      cases hrun2 with
      | cons _ _ _ _ hst2 ht2 =>
       have hU : e.U = e2.U := by
        have k := hst2
        rw [hei2, ← hei] at k
        exact hst.det hedge (fixU_det (x1 e hin) (x2 e2 hin2) (hei2.trans hei.symm)) k
       rw [← hU] at ht2
       have hls := listed_step (M' := es'.map (·.i)) hsz h1 (fun hx => ((hm' i).1 hx).2 rfl) (fun j hj => by rw [hm']; exact ⟨fun h => h.1, fun h => ⟨h, hj⟩⟩) hl
       by_cases hic : i = q.c
       ·have hw := hst.sound hdst hr (K := fun a' w' => wpAny P .any ops Q fuel (listed.setIfInBounds i true) a' w') (Q := Q) (fun a' w' hr' => by
         exact drawn2 hdst hedge (RU := RU) (q := q) hk fuel (listed.setIfInBounds i true) es' es2' (es'.map (·.i)) _ S1 S2 a' w' hr' ht ht2 k1 k2 (p1.sublist hsub) (p2.sublist hsub2) (t1.sublist hsub) (t2.sublist hsub2) hnd' hnd2' (fun _ => Iff.rfl) (fun j => by rw [hm', hm2']) (b1'.sublist hsub) (b2'.sublist hsub2) (fun e he => x1 e (hsub.subset he)) (fun e he => x2 e (hsub2.subset he))
          (fun hx => ((hm' _).1 hx).2 hic.symm) hls (fun x hx => hlt x ((hm' x).1 hx).1) hsz' (by omega) (by omega) hcl')
        rw [hei] at hw
        exact hw
       ·obtain ⟨e0, es0', hei0, hrun0, hsub0, hnd0', hm0', hlen0, hin0⟩ := run_pick (listed := listed) r0 p0 t0 d0 m0 hmem (fun f => nodir f.i) (fun _ _ _ _ _ f _ => excB_other hip hic hid)
        cases hrun0 with
        | cons _ _ _ _ hst0 ht0 =>
         have hU0 : e.U = e0.U := by
          have k := hst0
          rw [hei0, ← hei] at k
          exact hst.det hedge (fixU_det (x1 e hin) (x0 e0 hin0) (hei0.trans hei.symm)) k
         rw [← hU0] at ht0
         have hw := hst.sound hdst hr (K := fun a' w' => wpAny P .any ops Q fuel (listed.setIfInBounds i true) a' w') (Q := Q) (fun a' w' hr' => by
          exact ih (listed.setIfInBounds i true) es0' es' es2' (es'.map (·.i)) _ S0 S1 S2 a' w' hr' ht0 ht ht2 k0 k1 k2 (p0.sublist hsub0) (p1.sublist hsub) (p2.sublist hsub2) (t0.sublist hsub0) (t1.sublist hsub) (t2.sublist hsub2) hnd0' hnd' hnd2' (fun j => by rw [hm0', hm']) (fun _ => Iff.rfl) (fun j => by rw [hm', hm2'])
           (b0.sublist hsub0) (b0'.sublist hsub0) (b1.sublist hsub) (b1'.sublist hsub) (b2.sublist hsub2) (b2'.sublist hsub2) (fun e he => x0 e (hsub0.subset he)) (fun e he => x1 e (hsub.subset he)) (fun e he => x2 e (hsub2.subset he)) ((hm' _).2 ⟨hcM, Ne.symm hic⟩) hls (fun x hx => hlt x ((hm' x).1 hx).1) hsz' (by omega) (by omega) (by omega) hcl')
         rw [hei] at hw
         exact hw
theorem topoB_spec : ∀ {es : List EU}, topoB ops (es.map (·.i)) = true → es.Pairwise (TO ops)
 | [], _ => .nil
 | e :: es, h => by
  rw [List.map_cons, topoB, Bool.and_eq_true] at h
  refine .cons (fun f hf => ?_) (topoB_spec h.2)
  have := (List.all_eq_true.1 h.1) f.i (List.mem_map.2 ⟨f, hf, rfl⟩)
  unfold TO; simpa using this
theorem nbB_spec {x y : Nat} : ∀ {es : List EU}, nbB x y (es.map (·.i)) = true → es.Pairwise (NB x y)
 | [], _ => .nil
 | e :: es, h => by
  rw [List.map_cons, nbB, Bool.and_eq_true] at h
  refine .cons (fun f hf hh => ?_) (nbB_spec h.2)
  have := h.1
  simp at this
  rcases this with h1 | h1
  ·exact h1 hh.1
  ·exact h1 f hf hh.2
theorem permB_spec {l : List Nat} {n : Nat} (h : permB l (List.range n) = true) : l.Nodup ∧ l.length = n ∧ ∀ j, j ∈ l ↔ j < n := by
 unfold permB at h
 simp only [Bool.and_eq_true, decide_eq_true_eq, List.all_eq_true, List.contains_eq_mem, List.length_range, List.mem_range] at h
 exact ⟨h.1.1.1, h.1.1.2, fun j => ⟨fun hj => h.2 j hj, fun hj => h.1.2 j hj⟩⟩
theorem draw3_sound (hm : P.follows .mixedOrders = true) (hdst : ∀ o ∈ ops.toList, ∀ d, o.dst = some d → OkD N d) {q : Exc} {n : Nat} {K : St → Prop} {Q : Exit → Act → World → Prop} (hr : StRel P N G w0 S a w) (h : DrawVC3 P cf N ops q n K S)
  (hk : ∀ S a w, K S → StRel P N G w0 S a w → Q .normal a w) {id : Nat} : (Code.region id ops true).wp P Q a w := by
 obtain ⟨hch, h0, h1, h2⟩ := h
 unfold checkX at hch
 simp only [Bool.and_eq_true] at hch
 obtain ⟨⟨⟨⟨⟨⟨⟨⟨⟨⟨⟨⟨⟨⟨hedge, hnc⟩, hcd⟩, hq0⟩, hq1⟩, hq2⟩, ht0⟩, ht1⟩, ht2⟩, hb0⟩, hb0'⟩, hb1⟩, hb1'⟩, hb2⟩, hb2'⟩ := hch
 obtain ⟨es0, S0, a1, a2, a3, a4⟩ := vcX_run _ [] S h0
 obtain ⟨es1, S1, b1, b2, b3, b4⟩ := vcX_run _ [] S h1
 obtain ⟨es2, S2, c1, c2, c3, c4⟩ := vcX_run _ [] S h2
 rw [← a3] at hq0 ht0 hb0 hb0'
 rw [← b3] at hq1 ht1 hb1 hb1'
 rw [← c3] at hq2 ht2 hb2 hb2'
 obtain ⟨n0, l0, m0⟩ := permB_spec hq0
 obtain ⟨n1, l1, m1⟩ := permB_spec hq1
 obtain ⟨n2, l2, m2⟩ := permB_spec hq2
 have hr' : StRel P N G w0 S a { w with drawn := w.drawn + 1 } := by
  obtain ⟨F, oss, hc⟩ := hr
  exact (hc.world (w' := { w with drawn := w.drawn + 1 }) (X' := []) rfl rfl ⟨rfl, dr_succ _⟩ (Nat.le_refl _) (fun _ _ _ => rfl) (fun _ h => h) (fun _ h => .inl h) (by simp) List.nodup_nil).st
 have pair : ∀ es : List EU, okX ops (excB q) ((es.map toEnt).reverse ++ []) = true → es.Pairwise (PR ops q) := by
  intro es hes
  have := okX_pair hes
  rw [List.append_nil, List.pairwise_reverse, List.pairwise_map] at this
  exact this.imp (fun h => h.imp (fun h => h) (fun h => h.imp indB_spec (fun h => h)))
 have hcsz : q.c < ops.size := by
  rcases Nat.lt_or_ge q.c ops.size with h | h
  ·exact h
  ·exfalso
   unfold dirB at hcd
   have hdsz : q.d < ops.size := by
    rcases Nat.lt_or_ge q.d ops.size with h' | h'
    ·exact h'
    ·rw [List.getD_eq_getElem?_getD, List.getElem?_eq_none (by rw [masks_len]; exact h')] at hcd; simp at hcd
   have ho : ops[q.d]? = some ops[q.d] := by simp [hdsz]
   have hdeps : ∀ j o, j < ops.size → ops[j]? = some o → ∀ e ∈ o.after.toList, Region.binds .any e = true → e.on < ops.size := by
    intro j o hj ho e he hb
    have := (List.all_eq_true.1 (edgesV_e hedge)) j (by simpa using hj)
    simp only [ho] at this
    have := (Array.all_eq_true'.1 this) e (by simpa using he)
    rw [hb] at this
    have : e.on < j := by simpa using this
    omega
   have := anc_closed (ops := ops) (L := fun k => k < ops.size) (fun j o hj ho => hdeps j o hj ho) q.d _ ho (hdeps q.d _ hdsz ho) ops.size hdsz q.c hcd
   omega
 refine wp_region_any hm (drawn3 hdst hedge (RU := fun _ => []) (q := q) hcd hk ops.size _ es0 es1 es2 (List.range ops.size) S S0 S1 S2 a _ hr' a1 b1 c1 a2 b2 c2 (pair es0 a4) (pair es1 b4) (pair es2 c4) (topoB_spec ht0) (topoB_spec ht1) (topoB_spec ht2) n0 n1 n2
  (fun j => by rw [m0, List.mem_range]) (fun j => by rw [m1, List.mem_range]) (fun j => by rw [m2, List.mem_range]) (nbB_spec hb0) (nbB_spec hb0') (nbB_spec hb1) (nbB_spec hb1') (nbB_spec hb2) (nbB_spec hb2') (fun e _ => fixU_none hnc e) (fun e _ => fixU_none hnc e) (fun e _ => fixU_none hnc e) (by simpa using hcsz) (fun i hi => ?_) (fun i hi => by simpa using hi) (by simp) ?_ ?_ ?_ ?_)
 ·simp [hi]
 ·rw [← l0, List.length_map]; exact Nat.le_refl _
 ·rw [← l1, List.length_map]; exact Nat.le_refl _
 ·rw [← l2, List.length_map]; exact Nat.le_refl _
 ·intro j o hj
  exfalso
  rw [Array.getD_eq_getD_getElem?] at hj
  simp only [Array.getElem?_replicate] at hj; split at hj <;> simp at hj
theorem draw2_sound (hm : P.follows .mixedOrders = true) (hdst : ∀ o ∈ ops.toList, ∀ d, o.dst = some d → OkD N d) {q : Exc} {n : Nat} {K : St → Prop} {Q : Exit → Act → World → Prop} (hr : StRel P N G w0 S a w) (h : DrawVC2 P cf N ops q n K S)
  (hk : ∀ S a w, K S → StRel P N G w0 S a w → Q .normal a w) {id : Nat} : (Code.region id ops true).wp P Q a w := by
 obtain ⟨hch, h1, h2⟩ := h
 unfold checkY at hch
 simp only [Bool.and_eq_true, decide_eq_true_eq] at hch
 obtain ⟨⟨⟨⟨⟨⟨⟨⟨hedge, hnc⟩, hcs⟩, hq1⟩, hq2⟩, ht1⟩, ht2⟩, hb1⟩, hb2⟩ := hch
 obtain ⟨es1, S1, b1, b2, b3, b4⟩ := vcX_run _ [] S h1
 obtain ⟨es2, S2, c1, c2, c3, c4⟩ := vcX_run _ [] S h2
 rw [← b3] at hq1 ht1 hb1
 rw [← c3] at hq2 ht2 hb2
 obtain ⟨n1, l1, m1⟩ := permB_spec hq1
 obtain ⟨n2, l2, m2⟩ := permB_spec hq2
 have hr' : StRel P N G w0 S a { w with drawn := w.drawn + 1 } := by
  obtain ⟨F, oss, hc⟩ := hr
  exact (hc.world (w' := { w with drawn := w.drawn + 1 }) (X' := []) rfl rfl ⟨rfl, dr_succ _⟩ (Nat.le_refl _) (fun _ _ _ => rfl) (fun _ h => h) (fun _ h => .inl h) (by simp) List.nodup_nil).st
 have pair : ∀ es : List EU, okX ops (excB q) ((es.map toEnt).reverse ++ []) = true → es.Pairwise (PR ops q) := by
  intro es hes
  have := okX_pair hes
  rw [List.append_nil, List.pairwise_reverse, List.pairwise_map] at this
  exact this.imp (fun h => h.imp (fun h => h) (fun h => h.imp indB_spec (fun h => h)))
 refine wp_region_any hm (drawn2 hdst hedge (RU := fun _ => []) (q := q) hk ops.size _ es1 es2 (List.range ops.size) S S1 S2 a _ hr' b1 c1 b2 c2 (pair es1 b4) (pair es2 c4) (topoB_spec ht1) (topoB_spec ht2) n1 n2
  (fun j => by rw [m1, List.mem_range]) (fun j => by rw [m2, List.mem_range]) (nbB_spec hb1) (nbB_spec hb2) (fun e _ => fixU_none hnc e) (fun e _ => fixU_none hnc e) (by simp; omega) (fun i hi => ?_) (fun i hi => by simpa using hi) (by simp) ?_ ?_ ?_)
 ·simp [hi]
 ·rw [← l1, List.length_map]; exact Nat.le_refl _
 ·rw [← l2, List.length_map]; exact Nat.le_refl _
 ·intro j o hj
  exfalso
  rw [Array.getD_eq_getD_getElem?] at hj
  simp only [Array.getElem?_replicate] at hj; split at hj <;> simp at hj
theorem draw4_sound (hm : P.follows .mixedOrders = true) (hdst : ∀ o ∈ ops.toList, ∀ d, o.dst = some d → OkD N d) {q : Exc} {n : Nat} {K : St → Prop} {Q : Exit → Act → World → Prop} (hr : StRel P N G w0 S a w) (h : DrawVC4 P cf N ops q n K S)
  (hk : ∀ S a w, K S → StRel P N G w0 S a w → Q .normal a w) {id : Nat} : (Code.region id ops true).wp P Q a w := by
 obtain ⟨R, hch, h0, h1, h2⟩ := h
 unfold checkZ at hch
 simp only [Bool.and_eq_true] at hch
 obtain ⟨⟨⟨⟨⟨⟨⟨⟨⟨⟨⟨⟨⟨hedge, hcd⟩, hq0⟩, hq1⟩, hq2⟩, ht0⟩, ht1⟩, ht2⟩, hb0⟩, hb0'⟩, hb1⟩, hb1'⟩, hb2⟩, hb2'⟩ := hch
 obtain ⟨es0, S0, a1, a2, a3, a4, a5⟩ := vcY_run _ [] S h0
 obtain ⟨es1, S1, b1, b2, b3, b4, b5⟩ := vcY_run _ [] S h1
 obtain ⟨es2, S2, c1, c2, c3, c4, c5⟩ := vcY_run _ [] S h2
 rw [← a3] at hq0 ht0 hb0 hb0'
 rw [← b3] at hq1 ht1 hb1 hb1'
 rw [← c3] at hq2 ht2 hb2 hb2'
 obtain ⟨n0, l0, m0⟩ := permB_spec hq0
 obtain ⟨n1, l1, m1⟩ := permB_spec hq1
 obtain ⟨n2, l2, m2⟩ := permB_spec hq2
 have hr' : StRel P N G w0 S a { w with drawn := w.drawn + 1 } := by
  obtain ⟨F, oss, hc⟩ := hr
  exact (hc.world (w' := { w with drawn := w.drawn + 1 }) (X' := []) rfl rfl ⟨rfl, dr_succ _⟩ (Nat.le_refl _) (fun _ _ _ => rfl) (fun _ h => h) (fun _ h => .inl h) (by simp) List.nodup_nil).st
 have pair : ∀ es : List EU, okX ops (excB q) ((es.map toEnt).reverse ++ []) = true → es.Pairwise (PR ops q) := by
  intro es hes
  have := okX_pair hes
  rw [List.append_nil, List.pairwise_reverse, List.pairwise_map] at this
  exact this.imp (fun h => h.imp (fun h => h) (fun h => h.imp indB_spec (fun h => h)))
 have hcsz : q.c < ops.size := by
  rcases Nat.lt_or_ge q.c ops.size with h | h
  ·exact h
  ·exfalso
   unfold dirB at hcd
   have hdsz : q.d < ops.size := by
    rcases Nat.lt_or_ge q.d ops.size with h' | h'
    ·exact h'
    ·rw [List.getD_eq_getElem?_getD, List.getElem?_eq_none (by rw [masks_len]; exact h')] at hcd; simp at hcd
   have ho : ops[q.d]? = some ops[q.d] := by simp [hdsz]
   have hdeps : ∀ j o, j < ops.size → ops[j]? = some o → ∀ e ∈ o.after.toList, Region.binds .any e = true → e.on < ops.size := by
    intro j o hj ho e he hb
    have := (List.all_eq_true.1 (edgesV_e hedge)) j (by simpa using hj)
    simp only [ho] at this
    have := (Array.all_eq_true'.1 this) e (by simpa using he)
    rw [hb] at this
    have : e.on < j := by simpa using this
    omega
   have := anc_closed (ops := ops) (L := fun k => k < ops.size) (fun j o hj ho => hdeps j o hj ho) q.d _ ho (hdeps q.d _ hdsz ho) ops.size hdsz q.c hcd
   omega
 refine wp_region_any hm (drawn3 hdst hedge (RU := R) (q := q) hcd hk ops.size _ es0 es1 es2 (List.range ops.size) S S0 S1 S2 a _ hr' a1 b1 c1 a2 b2 c2 (pair es0 a4) (pair es1 b4) (pair es2 c4) (topoB_spec ht0) (topoB_spec ht1) (topoB_spec ht2) n0 n1 n2
  (fun j => by rw [m0, List.mem_range]) (fun j => by rw [m1, List.mem_range]) (fun j => by rw [m2, List.mem_range]) (nbB_spec hb0) (nbB_spec hb0') (nbB_spec hb1) (nbB_spec hb1') (nbB_spec hb2) (nbB_spec hb2') a5 b5 c5 (by simpa using hcsz) (fun i hi => ?_) (fun i hi => by simpa using hi) (by simp) ?_ ?_ ?_ ?_)
 ·simp [hi]
 ·rw [← l0, List.length_map]; exact Nat.le_refl _
 ·rw [← l1, List.length_map]; exact Nat.le_refl _
 ·rw [← l2, List.length_map]; exact Nat.le_refl _
 ·intro j o hj
  exfalso
  rw [Array.getD_eq_getD_getElem?] at hj
  simp only [Array.getElem?_replicate] at hj; split at hj <;> simp at hj
theorem draw5_sound (hm : P.follows .mixedOrders = true) (hdst : ∀ o ∈ ops.toList, ∀ d, o.dst = some d → OkD N d) {q : Exc} {n : Nat} {K : St → Prop} {Q : Exit → Act → World → Prop} (hr : StRel P N G w0 S a w) (h : DrawVC5 P cf N ops q n K S)
  (hk : ∀ S a w, K S → StRel P N G w0 S a w → Q .normal a w) {id : Nat} : (Code.region id ops true).wp P Q a w := by
 obtain ⟨R, hch, h1, h2⟩ := h
 unfold checkW at hch
 simp only [Bool.and_eq_true, decide_eq_true_eq] at hch
 obtain ⟨⟨⟨⟨⟨⟨⟨hedge, hcs⟩, hq1⟩, hq2⟩, ht1⟩, ht2⟩, hb1⟩, hb2⟩ := hch
 obtain ⟨es1, S1, b1, b2, b3, b4, b5⟩ := vcY_run _ [] S h1
 obtain ⟨es2, S2, c1, c2, c3, c4, c5⟩ := vcY_run _ [] S h2
 rw [← b3] at hq1 ht1 hb1
 rw [← c3] at hq2 ht2 hb2
 obtain ⟨n1, l1, m1⟩ := permB_spec hq1
 obtain ⟨n2, l2, m2⟩ := permB_spec hq2
 have hr' : StRel P N G w0 S a { w with drawn := w.drawn + 1 } := by
  obtain ⟨F, oss, hc⟩ := hr
  exact (hc.world (w' := { w with drawn := w.drawn + 1 }) (X' := []) rfl rfl ⟨rfl, dr_succ _⟩ (Nat.le_refl _) (fun _ _ _ => rfl) (fun _ h => h) (fun _ h => .inl h) (by simp) List.nodup_nil).st
 have pair : ∀ es : List EU, okX ops (excB q) ((es.map toEnt).reverse ++ []) = true → es.Pairwise (PR ops q) := by
  intro es hes
  have := okX_pair hes
  rw [List.append_nil, List.pairwise_reverse, List.pairwise_map] at this
  exact this.imp (fun h => h.imp (fun h => h) (fun h => h.imp indB_spec (fun h => h)))
 refine wp_region_any hm (drawn2 hdst hedge (RU := R) (q := q) hk ops.size _ es1 es2 (List.range ops.size) S S1 S2 a _ hr' b1 c1 b2 c2 (pair es1 b4) (pair es2 c4) (topoB_spec ht1) (topoB_spec ht2) n1 n2
  (fun j => by rw [m1, List.mem_range]) (fun j => by rw [m2, List.mem_range]) (nbB_spec hb1) (nbB_spec hb2) b5 c5 (by simp; omega) (fun i hi => ?_) (fun i hi => by simpa using hi) (by simp) ?_ ?_ ?_)
 ·simp [hi]
 ·rw [← l1, List.length_map]; exact Nat.le_refl _
 ·rw [← l2, List.length_map]; exact Nat.le_refl _
 ·intro j o hj
  exfalso
  rw [Array.getD_eq_getD_getElem?] at hj
  simp only [Array.getElem?_replicate] at hj; split at hj <;> simp at hj
def PL (ops : Array Oper) (X : List (Nat × Nat)) (e f : EU) : Prop := dirB ops e.i f.i = true ∨ Ind e f ∨ excL X e.i f.i = true
def RunOk (P : Program) (cf : Cfg) (N : Nat × List Nat) (ops : Array Oper) (X : List (Nat × Nat)) (RU : Nat → List Upd) (K : St → Prop) (M : List Nat) (S : St) (π : List Nat) : Prop :=
 ∃ es S1, Run P cf N ops es S S1 ∧ K S1 ∧ es.Pairwise (PL ops X) ∧ es.Pairwise (TO ops) ∧ (es.map (·.i)).Nodup ∧ (∀ j, j ∈ es.map (·.i) ↔ j ∈ M) ∧ (∀ e ∈ es, fixU ops RU e) ∧
  ∀ x y, excL X x y = true → [x, y].Sublist π → [x, y].Sublist (es.map (·.i))
def Top (ops : Array Oper) (M π : List Nat) : Prop := π.Nodup ∧ (∀ j, j ∈ π ↔ j ∈ M) ∧ π.Pairwise (fun i j => depB ops i j = false)
theorem excL_symm {X : List (Nat × Nat)} {x y : Nat} (h : excL X x y = true) : excL X y x = true := by
 unfold excL at h ⊢
 rw [List.any_eq_true] at h ⊢
 obtain ⟨p, hp, h⟩ := h
 refine ⟨p, hp, ?_⟩
 simp at h ⊢
 omega
theorem two_no {l : List Nat} {x y : Nat} (hn : l.Nodup) (h1 : [x, y].Sublist l) (h2 : [y, x].Sublist l) (hne : x ≠ y) : False := by
 induction l with
 | nil => cases h1
 | cons a l ih =>
  rw [List.nodup_cons] at hn
  cases h1 with
  | cons _ h1 =>
   cases h2 with
   | cons _ h2 => exact ih hn.2 h1 h2
   | cons_cons _ h2 => exact hn.1 (h1.subset (by simp))
  | cons_cons _ h1 =>
   cases h2 with
   | cons _ h2 => exact hn.1 (h2.subset (by simp))
   | cons_cons _ h2 => exact hne rfl
theorem pickL {X : List (Nat × Nat)} {RU : Nat → List Upd} {K : St → Prop} {M : List Nat} {π : List Nat} {i : Nat} (hi : i ∈ M) (nodir : ∀ f : EU, f.i ∈ M → dirB ops f.i i = true → False)
  (hne : ∀ x y, excL X x y = true → x ≠ y) (hpm : ∀ j, j ∈ π ↔ j ∈ M ∧ j ≠ i) (h : RunOk P cf N ops X RU K M S (i :: π)) :
  ∃ e es' S1, e.i = i ∧ fixU ops RU e ∧ Run P cf N ops (e :: es') S S1 ∧ K S1 ∧ es'.Pairwise (PL ops X) ∧ es'.Pairwise (TO ops) ∧ (es'.map (·.i)).Nodup ∧ (∀ j, j ∈ es'.map (·.i) ↔ j ∈ M ∧ j ≠ i) ∧ (∀ e ∈ es', fixU ops RU e) ∧
   ∀ x y, excL X x y = true → [x, y].Sublist π → [x, y].Sublist (es'.map (·.i)) := by
 obtain ⟨es, S1, hr, hK, hp, ht, hnd, hm, hx, ho⟩ := h
 obtain ⟨e, he, hei⟩ := List.mem_map.1 ((hm i).2 hi)
 obtain ⟨l1, l2, rfl⟩ := List.append_of_mem he
 have hsub : (l1 ++ l2).Sublist (l1 ++ e :: l2) := by simp
 have hni : i ∉ (l1 ++ l2).map (·.i) := by
  rw [List.map_append, List.map_cons, hei, List.nodup_append, List.nodup_cons] at hnd
  intro hx
  rw [List.map_append] at hx
  rcases List.mem_append.1 hx with hx | hx
  ·exact hnd.2.2 i hx i (by simp) rfl
  ·exact hnd.2.1.1 hx
 have hind : ∀ f ∈ l1, Ind f e := by
  intro f hfm
  have hfM : f.i ∈ M := (hm f.i).1 (by simp; exact .inl ⟨f, hfm, rfl⟩)
  have hfi : f.i ≠ i := fun hh => hni (by rw [← hh]; simp; exact .inl ⟨f, hfm, rfl⟩)
  rcases (List.pairwise_append.1 hp).2.2 f hfm e (by simp) with hd | hd | hd
  ·rw [hei] at hd; exact (nodir f hfM hd).elim
  ·exact hd
  ·exfalso
   rw [hei] at hd
   have h1 := ho i f.i (excL_symm hd) (.cons_cons _ (by simpa using (hpm f.i).2 ⟨hfM, hfi⟩))
   obtain ⟨m1, m2, rfl⟩ := List.append_of_mem hfm
   have h2 : [f.i, i].Sublist ((m1 ++ f :: m2 ++ e :: l2).map (·.i)) := by
    simp only [List.map_append, List.map_cons, List.append_assoc, List.cons_append]
    refine List.Sublist.trans ?_ (List.sublist_append_right _ _)
    refine .cons_cons _ (List.Sublist.trans ?_ (List.sublist_append_right _ _))
    rw [hei]; simp
   exact two_no hnd h1 h2 (fun e => hfi e.symm)
 refine ⟨e, l1 ++ l2, S1, hei, hx e (by simp), hr.front hind, hK, hp.sublist hsub, ht.sublist hsub, hnd.sublist (hsub.map _), fun j => ?_, fun g hg => hx g (hsub.subset hg), fun x y hxy hs => ?_⟩
 ·constructor
  ·intro hj
   exact ⟨(hm j).1 ((hsub.map _).subset hj), fun ej => hni (ej ▸ hj)⟩
  ·rintro ⟨hj, hne⟩
   have := (hm j).2 hj
   rw [List.map_append, List.map_cons, hei] at this
   rw [List.map_append]
   rcases List.mem_append.1 this with h | h
   ·exact List.mem_append.2 (.inl h)
   ·rcases List.mem_cons.1 h with h | h
    ·exact (hne h).elim
    ·exact List.mem_append.2 (.inr h)
 ·have h1 := ho x y hxy (.cons _ hs)
  have hxi : x ≠ i := ((hpm x).1 (hs.subset (by simp))).2
  have hyi : y ≠ i := ((hpm y).1 (hs.subset (by simp))).2
  have h2 := h1.filter (fun j => j != i)
  have e1 : [x, y].filter (fun j => j != i) = [x, y] := by simp [hxi, hyi]
  have e2 : ((l1 ++ e :: l2).map (·.i)).filter (fun j => j != i) = (l1 ++ l2).map (·.i) := by
   rw [List.map_append, List.map_cons, List.filter_append, List.filter_cons, hei]
   simp only [bne_self_eq_false, Bool.false_eq_true, if_false]
   rw [← List.filter_append, ← List.map_append, List.filter_eq_self]
   intro j hj
   have : j ≠ i := fun ej => hni (ej ▸ hj)
   simpa using this
  rw [e1, e2] at h2
  exact h2
theorem drawnL (hdst : ∀ o ∈ ops.toList, ∀ d, o.dst = some d → OkD N d) (hedge : edgesV ops = true) {RU : Nat → List Upd} {X : List (Nat × Nat)} (hne : ∀ x y, excL X x y = true → x ≠ y) {K : St → Prop} {Q : Exit → Act → World → Prop} (hk : ∀ S a w, K S → StRel P N G w0 S a w → Q .normal a w) :
  ∀ (fuel : Nat) (listed : Array Bool) (M : List Nat) (S : St) (a : Act) (w : World), StRel P N G w0 S a w → (∀ π, Top ops M π → RunOk P cf N ops X RU K M S π) → (∃ π, Top ops M π ∧ π.length ≤ fuel) →
   (∀ i, i < ops.size → (listed.getD i true = false ↔ i ∈ M)) → (∀ i ∈ M, i < ops.size) → listed.size = ops.size →
   (∀ j o, listed.getD j false = true → ops[j]? = some o → ∀ e ∈ o.after.toList, Region.binds .any e = true → listed.getD e.on false = true) →
   wpAny P .any ops Q fuel listed a w := by
 intro fuel
 induction fuel with
 | zero =>
  rintro listed M S a w hr hc ⟨π, hπ, hf⟩ hl hlt hsz hcl
  have : π = [] := List.eq_nil_of_length_eq_zero (by omega)
  subst this
  obtain ⟨es, S1, r, k, _, _, _, hm, _⟩ := hc [] hπ
  have hM : ∀ j, j ∉ M := fun j hj => by have := (hπ.2.1 j).2 hj; simp at this
  have : es = [] := by
   cases es with
   | nil => rfl
   | cons e es => exact (hM e.i ((hm e.i).1 (by simp))).elim
  subst this
  cases r
  refine ⟨?_, hk _ a w k hr⟩
  refine List.eq_nil_iff_forall_not_mem.2 (fun i hi => ?_)
  obtain ⟨h1, h2, _⟩ := ready_mem.1 hi
  exact hM i ((hl i h1).1 h2)
 | succ fuel ih =>
  rintro listed M S a w hr hc ⟨π, hπ, hf⟩ hl hlt hsz hcl
  refine ⟨fun hnil => ?_, fun i hi => ?_⟩
  ·obtain ⟨es, S1, r, k, _, t, _, hm, _⟩ := hc π hπ
   cases es with
   | nil => cases r; exact hk _ a w k hr
   | cons e es =>
    have := drawn_firstT hedge listed e es t (fun i hi => by rw [hl i hi, hm]) (fun f hf => hlt f.i ((hm f.i).1 (List.mem_map.2 ⟨f, hf, rfl⟩))) hsz
    rw [hnil] at this
    simp at this
  ·obtain ⟨h1, h2, o, h3, h4⟩ := ready_mem.1 hi
   have hmem := (hl i h1).1 h2
   have nodir := nodir_of hsz h1 h3 h4 hcl hl hlt
   have hcl' := closed_step hsz h1 h3 h4 hcl
   have hsz' : (listed.setIfInBounds i true).size = ops.size := by simp [hsz]
   have nodep : ∀ j, j ∈ M → depB ops i j = false := fun j hj => by
    cases hd : depB ops i j with
    | false => rfl
    | true =>
     unfold depB at hd
     rw [h3] at hd
     simp only [Array.any_eq_true'] at hd
     obtain ⟨e, he, hb⟩ := hd
     rw [Bool.and_eq_true, beq_iff_eq] at hb
     have g1 := h4 e (by simpa using he) hb.1
     have g2 := (hl j (hlt j hj)).2 hj
     rw [hb.2] at g1
     have hin : j < listed.size := by have := hlt j hj; omega
     simp [Array.getD, hin] at g1 g2
     rw [g1] at g2
     simp at g2
   have lift : ∀ ρ : List Nat, Top ops (M.filter (fun j => j != i)) ρ → Top ops M (i :: ρ) := fun ρ h => by
    have hm : ∀ j, j ∈ ρ ↔ j ∈ M ∧ j ≠ i := fun j => by rw [h.2.1 j, List.mem_filter]; simp
    refine ⟨List.nodup_cons.2 ⟨fun hx => ((hm i).1 hx).2 rfl, h.1⟩, fun j => ?_, .cons (fun j hj => nodep j ((hm j).1 hj).1) h.2.2⟩
    rw [List.mem_cons, hm]
    constructor
    ·rintro (rfl | h)
     ·exact hmem
     ·exact h.1
    ·intro hj
     by_cases e : j = i
     ·exact .inl e
     ·exact .inr ⟨hj, e⟩
   have mem' : ∀ {ρ : List Nat}, Top ops (M.filter (fun j => j != i)) ρ → ∀ j, j ∈ ρ ↔ j ∈ M ∧ j ≠ i := fun h j => by rw [h.2.1 j, List.mem_filter]; simp
   have hπ' : Top ops (M.filter (fun j => j != i)) (π.filter (fun j => j != i)) := ⟨hπ.1.filter _, fun j => by rw [List.mem_filter, List.mem_filter, hπ.2.1], hπ.2.2.filter _⟩
   obtain ⟨e, es', S1, hei, hfx, hrun, hK, hp', ht', hnd', hm', hx', ho'⟩ := pickL hmem (fun f => nodir f.i) hne (mem' hπ') (hc _ (lift _ hπ'))
   cases hrun with
   | cons _ _ _ _ hst hrest =>
    have hw := hst.sound hdst hr (K := fun a' w' => wpAny P .any ops Q fuel (listed.setIfInBounds i true) a' w') (Q := Q) (fun a' w' hr' => by
     refine ih (listed.setIfInBounds i true) (M.filter (fun j => j != i)) _ a' w' hr' (fun ρ hρ => ?_) ⟨_, hπ', ?_⟩ ?_ (fun j hj => hlt j (List.mem_filter.1 hj).1) hsz' hcl'
     ·obtain ⟨e2, es2', S2, hei2, hfx2, hrun2, hK2, hp2, ht2, hnd2, hm2, hx2, ho2⟩ := pickL hmem (fun f => nodir f.i) hne (mem' hρ) (hc _ (lift _ hρ))
      cases hrun2 with
      | cons _ _ _ _ hst2 hrest2 =>
       have hU : e.U = e2.U := by
        have k := hst2
        rw [hei2, ← hei] at k
        exact hst.det hedge (fixU_det hfx hfx2 (hei2.trans hei.symm)) k
       rw [← hU] at hrest2
       exact ⟨es2', S2, hrest2, hK2, hp2, ht2, hnd2, fun j => by rw [hm2, List.mem_filter]; simp, hx2, ho2⟩
     ·have : (π.filter (fun j => j != i)).length < π.length := List.length_filter_lt_length_iff_exists.2 ⟨i, (hπ.2.1 i).2 hmem, by simp⟩
      omega
     ·exact listed_step hsz h1 (fun hx => by simpa using (List.mem_filter.1 hx).2) (fun j hj => by rw [List.mem_filter]; simp [hj]) hl)
    rw [hei] at hw
    exact hw
theorem befB_spec {x y : Nat} : ∀ {l : List Nat}, befB x y l = true → [x, y].Sublist l
 | [], h => by simp [befB] at h
 | a :: l, h => by
  rw [befB] at h
  split at h
  ·rename_i e; subst e; exact .cons_cons _ (by simpa using h)
  ·exact .cons _ (befB_spec h)
theorem two_or {l : List Nat} {x y : Nat} (hx : x ∈ l) (hy : y ∈ l) (hne : x ≠ y) : [x, y].Sublist l ∨ [y, x].Sublist l := by
 induction l with
 | nil => simp at hx
 | cons a l ih =>
  rcases List.mem_cons.1 hx with ex | hx2
  ·rcases List.mem_cons.1 hy with ey | hy2
   ·exact (hne (ex.trans ey.symm)).elim
   ·subst ex; exact .inl (.cons_cons _ (List.singleton_sublist.2 hy2))
  ·rcases List.mem_cons.1 hy with ey | hy2
   ·subst ey; exact .inr (.cons_cons _ (List.singleton_sublist.2 hx2))
   ·exact (ih hx2 hy2).imp (.cons _) (.cons _)
theorem turn_of {π : List Nat} : ∀ {X : List (Nat × Nat)}, (∀ p ∈ X, p.1 ∈ π ∧ p.2 ∈ π ∧ p.1 ≠ p.2) → ∃ O ∈ turns X, (∀ p ∈ O, [p.1, p.2].Sublist π) ∧ ∀ p ∈ X, p ∈ O ∨ (p.2, p.1) ∈ O
 | [], _ => ⟨[], by simp [turns], by simp, by simp⟩
 | (x, y) :: X, h => by
  obtain ⟨O, h1, h2, h3⟩ := turn_of (X := X) (fun p hp => h p (by simp [hp]))
  obtain ⟨hx, hy, hne⟩ := h (x, y) (by simp)
  rcases two_or hx hy hne with hs | hs
  ·refine ⟨(x, y) :: O, by simp [turns, h1], fun p hp => ?_, fun p hp => ?_⟩
   ·rcases List.mem_cons.1 hp with rfl | hp
    ·exact hs
    ·exact h2 p hp
   ·rcases List.mem_cons.1 hp with rfl | hp
    ·exact .inl (by simp)
    ·exact (h3 p hp).imp (fun h => by simp [h]) (fun h => by simp [h])
  ·refine ⟨(y, x) :: O, by simp [turns, h1], fun p hp => ?_, fun p hp => ?_⟩
   ·rcases List.mem_cons.1 hp with rfl | hp
    ·exact hs
    ·exact h2 p hp
   ·rcases List.mem_cons.1 hp with rfl | hp
    ·exact .inr (by simp)
    ·exact (h3 p hp).imp (fun h => by simp [h]) (fun h => by simp [h])
theorem dir_bef (hedge : edgesV ops = true) {π : List Nat} (hπ : Top ops (List.range ops.size) π) {x y : Nat} (h : dirB ops x y = true) : [x, y].Sublist π := by
 have hy : y < ops.size := by
  rcases Nat.lt_or_ge y ops.size with h' | h'
  ·exact h'
  ·unfold dirB at h
   rw [List.getD_eq_getElem?_getD, List.getElem?_eq_none (by rw [masks_len]; exact h')] at h; simp at h
 have ho : ops[y]? = some ops[y] := by simp [hy]
 have dep : ∀ j o, ops[j]? = some o → ∀ e ∈ o.after.toList, Region.binds .any e = true → e.on < j ∧ depB ops j e.on = true := by
  intro j o ho e he hb
  have hj : j < ops.size := (Array.getElem?_eq_some_iff.1 ho).1
  have := (List.all_eq_true.1 (edgesV_e hedge)) j (by simpa using hj)
  simp only [ho] at this
  have := (Array.all_eq_true'.1 this) e (by simpa using he)
  rw [hb] at this
  refine ⟨by simpa using this, ?_⟩
  unfold depB
  rw [ho]
  simp only [Array.any_eq_true']
  exact ⟨e, by simpa using he, by simp [hb]⟩
 have bef : ∀ j o, j < ops.size → ops[j]? = some o → ∀ e ∈ o.after.toList, Region.binds .any e = true → [e.on, j].Sublist π := by
  intro j o hj ho e he hb
  obtain ⟨d1, d2⟩ := dep j o ho e he hb
  rcases two_or ((hπ.2.1 e.on).2 (by simp; omega)) ((hπ.2.1 j).2 (by simpa using hj)) (by omega) with h | h
  ·exact h
  ·have := List.pairwise_iff_forall_sublist.1 hπ.2.2 h
   rw [d2] at this; simp at this
 have := anc_closed (ops := ops) (L := fun k => [k, y].Sublist π) (fun j o hj ho e he hb => by
  have hj1 := bef j o ((Array.getElem?_eq_some_iff.1 ho).1) ho e he hb
  obtain ⟨d1, d2⟩ := dep j o ho e he hb
  have hej : e.on ≠ y := fun ey => by
   rw [ey] at hj1
   exact two_no hπ.1 hj hj1 (fun e2 => by omega)
  rcases two_or (hj1.subset (by simp)) ((hπ.2.1 y).2 (by simpa using hy)) hej with h | h
  ·exact h
  ·exfalso
   have tr : ∀ {a b c : Nat}, [a, b].Sublist π → [b, c].Sublist π → a ≠ c → [a, c].Sublist π := fun {a b c} h1 h2 hac => by
    rcases two_or (h1.subset (by simp)) (h2.subset (by simp)) hac with h | h
    ·exact h
    ·exfalso
     obtain ⟨l1, l2, e1, e2, e3⟩ : ∃ l1 l2, π = l1 ++ b :: l2 ∧ a ∈ l1 ∧ c ∈ l2 := by
      obtain ⟨l1, l2, rfl⟩ := List.append_of_mem (h2.subset (show b ∈ [b, c] by simp))
      have nd := hπ.1
      rw [List.nodup_append, List.nodup_cons] at nd
      refine ⟨l1, l2, rfl, ?_, ?_⟩
      ·rcases List.mem_append.1 (h1.subset (show a ∈ [a, b] by simp)) with h | h
       ·exact h
       ·exfalso
        rcases List.mem_cons.1 h with rfl | h
        ·have := hπ.1.sublist h1; simp at this
        ·exact two_no hπ.1 h1 (List.Sublist.trans (.cons_cons _ (List.singleton_sublist.2 h)) (List.sublist_append_right _ _)) (fun e => nd.2.1.1 (by rw [← e]; exact h))
      ·rcases List.mem_append.1 (h2.subset (show c ∈ [b, c] by simp)) with h | h
       ·exfalso
        exact two_no hπ.1 h2 (by
         have : [c].Sublist l1 := by simpa using h
         exact List.Sublist.append this (by simp)) (fun e => by subst e; exact nd.2.2 b h b (by simp) rfl)
       ·rcases List.mem_cons.1 h with rfl | h
        ·have := hπ.1.sublist h2; simp at this
        ·exact h
     subst e1
     exact two_no hπ.1 h (List.Sublist.append (show [a].Sublist l1 by simpa using e2) (.cons _ (by simpa using e3))) (Ne.symm hac)
   exact two_no hπ.1 hj (tr h hj1 (fun e2 => by
    rw [← e2] at hj
    have := hπ.1.sublist hj; simp at this)) (fun e2 => by
    rw [← e2] at h
    exact two_no hπ.1 hj1 h (by omega))) y _ ho (fun e he hb => bef y _ hy ho e he hb) ops.size hy x h
 exact this
theorem drawL_sound (hm : P.follows .mixedOrders = true) (hdst : ∀ o ∈ ops.toList, ∀ d, o.dst = some d → OkD N d) {K : St → Prop} {Q : Exit → Act → World → Prop} (hr : StRel P N G w0 S a w) (h : DrawVC6 P cf N ops K S)
  (hk : ∀ S a w, K S → StRel P N G w0 S a w → Q .normal a w) {id : Nat} : (Code.region id ops true).wp P Q a w := by
 obtain ⟨X, Ls, R, hch, hY⟩ := h
 unfold checkL at hch
 simp only [Bool.and_eq_true] at hch
 obtain ⟨⟨⟨hedge, hX⟩, hL⟩, hcv⟩ := hch
 have hX2 : ∀ p ∈ X, p.1 < ops.size ∧ p.2 < ops.size ∧ p.1 ≠ p.2 := fun p hp => by
  have := List.all_eq_true.1 hX p hp
  simp at this
  exact ⟨this.1.1, this.1.2, this.2⟩
 have hne : ∀ x y, excL X x y = true → x ≠ y := fun x y h => by
  unfold excL at h
  rw [List.any_eq_true] at h
  obtain ⟨p, hp, h⟩ := h
  have := (hX2 p hp).2.2
  simp at h
  omega
 have runs : ∀ (Ls : List (List Nat)), AllY P cf N ops (excL X) R K S Ls → ∀ l ∈ Ls, vcY P cf N ops (excL X) R l K [] S := by
  intro Ls
  induction Ls with
  | nil => intro _ l hl; simp at hl
  | cons l0 Ls ih =>
   intro h l hl
   rcases List.mem_cons.1 hl with rfl | hl
   ·exact h.1
   ·exact ih h.2 l hl
 have hr' : StRel P N G w0 S a { w with drawn := w.drawn + 1 } := by
  obtain ⟨F, oss, hc⟩ := hr
  exact (hc.world (w' := { w with drawn := w.drawn + 1 }) (X' := []) rfl rfl ⟨rfl, dr_succ _⟩ (Nat.le_refl _) (fun _ _ _ => rfl) (fun _ h => h) (fun _ h => .inl h) (by simp) List.nodup_nil).st
 have top0 : ∀ l ∈ Ls, Top ops (List.range ops.size) l ∧ l.length = ops.size := fun l hl => by
  have := List.all_eq_true.1 hL l hl
  rw [Bool.and_eq_true] at this
  obtain ⟨n1, l1, m1⟩ := permB_spec this.1
  refine ⟨⟨n1, fun j => by rw [m1, List.mem_range], ?_⟩, l1⟩
  have tp := this.2
  clear n1 l1 m1 hl
  clear this
  induction l with
  | nil => exact .nil
  | cons i l ih =>
   rw [topoB, Bool.and_eq_true] at tp
   refine .cons (fun j hj => ?_) (ih tp.2)
   have := List.all_eq_true.1 tp.1 j hj
   simpa using this
 have cov : ∀ π, Top ops (List.range ops.size) π → ∃ l ∈ Ls, ∀ x y, excL X x y = true → [x, y].Sublist π → [x, y].Sublist l := fun π hπ => by
  obtain ⟨O, h1, h2, h3⟩ := turn_of (π := π) (X := X) (fun p hp => ⟨(hπ.2.1 _).2 (by simpa using (hX2 p hp).1), (hπ.2.1 _).2 (by simpa using (hX2 p hp).2.1), (hX2 p hp).2.2⟩)
  have hO := List.all_eq_true.1 hcv O h1
  rw [Bool.or_eq_true] at hO
  have hnot : noneB ops O ≠ true := fun hn => by
   unfold noneB at hn
   rw [List.any_eq_true] at hn
   obtain ⟨p, hp, hn⟩ := hn
   rw [Bool.or_eq_true] at hn
   have hp2 := h2 p hp
   have pne : p.1 ≠ p.2 := fun e => by have := hπ.1.sublist hp2; simp [e] at this
   rcases hn with hn | hn
   ·exact two_no hπ.1 hp2 (dir_bef hedge hπ hn) pne
   ·rw [List.any_eq_true] at hn
    obtain ⟨r, hrr, hn⟩ := hn
    rw [Bool.and_eq_true, beq_iff_eq] at hn
    have hr2 := h2 r hrr
    rw [hn.1] at hr2
    have hd := dir_bef hedge hπ hn.2
    obtain ⟨l1, l2, rfl⟩ := List.append_of_mem (hr2.subset (show p.2 ∈ [p.2, r.2] by simp))
    have nd := hπ.1
    rw [List.nodup_append, List.nodup_cons] at nd
    have a1 : p.1 ∈ l1 := by
     rcases List.mem_append.1 (hp2.subset (show p.1 ∈ [p.1, p.2] by simp)) with h | h
     ·exact h
     ·exfalso
      rcases List.mem_cons.1 h with h | h
      ·exact pne h
      ·exact two_no hπ.1 hp2 (List.Sublist.trans (.cons_cons _ (by simpa using h)) (List.sublist_append_right _ _)) pne
    have a2 : r.2 ∈ l2 := by
     have rne : p.2 ≠ r.2 := fun e => by have := hπ.1.sublist hr2; simp [e] at this
     rcases List.mem_append.1 (hr2.subset (show r.2 ∈ [p.2, r.2] by simp)) with h | h
     ·exact (two_no hπ.1 hr2 (List.Sublist.append (show [r.2].Sublist l1 by simpa using h) (by simp)) rne).elim
     ·rcases List.mem_cons.1 h with h | h
      ·exact (rne h.symm).elim
      ·exact h
    exact two_no hπ.1 hd (List.Sublist.append (show [p.1].Sublist l1 by simpa using a1) (.cons _ (by simpa using a2))) (fun e => nd.2.2 p.1 a1 r.2 (by simp [a2]) e.symm)
  rcases hO with hO | hO
  ·exact (hnot hO).elim
  ·rw [List.any_eq_true] at hO
   obtain ⟨l, hl, hO⟩ := hO
   refine ⟨l, hl, fun x y hxy hs => ?_⟩
   unfold excL at hxy
   rw [List.any_eq_true] at hxy
   obtain ⟨p, hp, hxy⟩ := hxy
   have hO' : ∀ q ∈ O, [q.1, q.2].Sublist l := fun q hq => befB_spec (List.all_eq_true.1 hO q hq)
   have done : (x, y) ∈ O ∨ (y, x) ∈ O := by
    obtain ⟨p1, p2⟩ := p
    have h4 := h3 _ hp
    simp at hxy
    rcases hxy with ⟨rfl, rfl⟩ | ⟨rfl, rfl⟩
    ·exact h4
    ·exact h4.symm
   rcases done with h | h
   ·exact hO' _ h
   ·exfalso
    have hn : x ≠ y := fun e => by subst e; have := hπ.1.sublist hs; simp at this
    exact two_no hπ.1 hs (h2 _ h) hn
 have hne2 : ∃ π, Top ops (List.range ops.size) π := by
  refine ⟨List.range ops.size, List.nodup_range, fun _ => Iff.rfl, ?_⟩
  rw [List.pairwise_iff_forall_sublist]
  intro i j hs
  cases hd : depB ops i j with
  | false => rfl
  | true =>
   exfalso
   have hlt : i < j := by
    have := List.pairwise_iff_forall_sublist.1 (List.pairwise_lt_range (n := ops.size)) hs
    exact this
   unfold depB at hd
   cases ho : ops[i]? with
   | none => rw [ho] at hd; simp at hd
   | some o =>
    rw [ho] at hd
    simp only [Array.any_eq_true'] at hd
    obtain ⟨e, he, hb⟩ := hd
    rw [Bool.and_eq_true, beq_iff_eq] at hb
    have hi : i < ops.size := (Array.getElem?_eq_some_iff.1 ho).1
    have := (List.all_eq_true.1 (edgesV_e hedge)) i (by simpa using hi)
    simp only [ho] at this
    have := (Array.all_eq_true'.1 this) e he
    rw [hb.1] at this
    have : e.on < i := by simpa using this
    omega
 obtain ⟨π0, hπ0⟩ := hne2
 obtain ⟨l0, hl0, _⟩ := cov π0 hπ0
 refine wp_region_any hm (drawnL (cf := cf) hdst hedge (RU := R) (X := X) hne hk ops.size _ (List.range ops.size) S a _ hr' (fun π hπ => ?_) ⟨l0, (top0 l0 hl0).1, by rw [(top0 l0 hl0).2]; exact Nat.le_refl _⟩ (fun i hi => ?_) (fun i hi => by simpa using hi) (by simp) ?_)
 ·obtain ⟨l, hl, hlo⟩ := cov π hπ
  obtain ⟨es, S1, b1, b2, b3, b4, b5⟩ := vcY_run _ [] S (runs Ls hY l hl)
  have tl := (top0 l hl).1
  have tb := List.all_eq_true.1 hL l hl
  rw [Bool.and_eq_true] at tb
  refine ⟨es, S1, b1, b2, ?_, topoB_spec (by rw [b3]; exact tb.2), by rw [b3]; exact tl.1, by rw [b3]; exact tl.2.1, b5, by rw [b3]; exact hlo⟩
  have := okX_pair b4
  rw [List.append_nil, List.pairwise_reverse, List.pairwise_map] at this
  exact this.imp (fun h => h.imp (fun h => h) (fun h => h.imp indB_spec (fun h => h)))
 ·simp [hi]
 ·intro j o hj
  exfalso
  rw [Array.getD_eq_getD_getElem?] at hj
  simp only [Array.getElem?_replicate] at hj; split at hj <;> simp at hj
theorem drawSel_sound (hm : P.follows .mixedOrders = true) (hdst : ∀ o ∈ ops.toList, ∀ d, o.dst = some d → OkD N d) {id : Nat} {K : St → Prop} {Q : Exit → Act → World → Prop} (hr : StRel P N G w0 S a w) (h : DrawSel P cf N ops id K S)
  (hk : ∀ S a w, K S → StRel P N G w0 S a w → Q .normal a w) : (Code.region id ops true).wp P Q a w := by
 unfold DrawSel at h
 split at h
 ·split at h
  ·exact draw2_sound hm hdst hr h hk
  ·exact draw3_sound hm hdst hr h hk
 ·split at h
  ·split at h
   ·exact draw5_sound hm hdst hr h hk
   ·exact draw4_sound hm hdst hr h hk
  ·split at h
   ·exact drawL_sound hm hdst hr h hk
   ·exact draw_sound hm hdst hr h hk
end
end Go.Abs


namespace Go.Abs
variable [DrawK]
open Go.RowKit (Below)
def thenQ (K : St → Prop) (Q : Exit → St → Prop) : Exit → St → Prop
 | .normal, S => K S
 | e, S => Q e S
def blockQ (id : Nat) (Q : Exit → St → Prop) : Exit → St → Prop
 | .exit id', S => if id' = id then Q .normal S else Q (.exit id') S
 | e, S => Q e S
def Weak (S S' : St) : Prop := ∀ (P : Program) (N : Nat × List Nat) (G : Nat → Prop) (w0 : W0) (a : Act) (w : World), StRel P N G w0 S a w → StRel P N G w0 S' a w
def loopQ (I : Nat → St → Prop) (n : Nat) (Q : Exit → St → Prop) : Exit → St → Prop
 | .normal, S => ∃ m, m < n ∧ ∃ S', Weak S S' ∧ I m S'
 | e, S => Q e S
def LoopVC (body : (Exit → St → Prop) → St → Prop) (Q : Exit → St → Prop) (S : St) : Prop :=
 ∃ I : Nat → St → Prop, (∃ n S', Weak S S' ∧ I n S') ∧ ∀ n S, I n S → body (loopQ I n Q) S
def vc (P : Program) (cf : Cfg) (N : Nat × List Nat) : Code → (Exit → St → Prop) → St → Prop
 | .skip, Q, S => Q .normal S
 | .region id ops draw, Q, S => if draw then DrawSel P cf N ops id (Q .normal) S else vcOps P cf N ops ops.toList (Q .normal) S
 | .seq x y, Q, S => vc P cf N x (thenQ (vc P cf N y Q) Q) S
 | .cond c x y, Q, S => match aop S c with
  | .val (.bool t) => TestVC t (vc P cf N x Q) (vc P cf N y Q) S S
  | _ => False
 | .block id b, Q, S => vc P cf N b (blockQ id Q) S
 | .loop b, Q, S => LoopVC (vc P cf N b) Q S
 | .exit id, Q, S => Q (.exit id) S
 | .ret, Q, S => Q .ret S
 | _, _, _ => False
section
variable {P : Program} {N : Nat × List Nat} {G : Nat → Prop} {w0 : W0} {w w' : World} {S : St} {a : Act} {F : Nat → Prop} {oss : Nat → List Nat} {X : List Nat}
theorem least {p : Nat → Prop} (h : ∃ n, p n) : ∃ n, p n ∧ ∀ m, p m → n ≤ m := by
 obtain ⟨n, hn⟩ := h
 induction n using Nat.strongRecOn with
 | ind n ih =>
  by_cases hx : ∃ m, m < n ∧ p m
  ·obtain ⟨m, hm, hp⟩ := hx; exact ih m hm hp
  ·exact ⟨n, hn, fun m hp => Nat.le_of_not_lt fun hlt => hx ⟨m, hlt, hp⟩⟩
def dstsOk (N : Nat × List Nat) : Code → Bool
 | .region _ ops _ => ops.toList.all fun o => match o.dst with
  | some d => decide (OkD N d)
  | none => true
 | .seq x y => dstsOk N x && dstsOk N y
 | .cond _ x y => dstsOk N x && dstsOk N y
 | .block _ b => dstsOk N b
 | .loop b => dstsOk N b
 | _ => true
theorem vc_sound {cf : Cfg} (hm : P.follows .mixedOrders = true) : ∀ {c : Code} {S : St} {a : Act} {w : World} {Q : Exit → St → Prop} {Q' : Exit → Act → World → Prop}, dstsOk N c = true → StRel P N G w0 S a w →
  vc P cf N c Q S → (∀ e S a w, Q e S → StRel P N G w0 S a w → Q' e a w) → c.wp P Q' a w := by
 intro c
 induction c with
 | skip => intro S a w Q Q' _ h hv hk; exact wp_skip (hk _ _ _ _ hv h)
 | region id ops draw =>
  intro S a w Q Q' hd h hv hk
  simp only [vc] at hv
  split at hv
  ·rename_i hdr
   subst hdr
   exact drawSel_sound hm (fun o ho d hd' => by
    have := (List.all_eq_true.1 hd) o ho
    simpa [hd'] using this) h hv (fun S a w hS hr => hk _ S a w hS hr)
  ·rename_i hdr
   have : draw = false := by simpa using hdr
   subst this
   refine wp_region_list (vcOps_sound (fun o ho d hd' => ?_) (fun _ h => h) h hv (fun S a w hS hr => hk _ S a w hS hr))
   have := (List.all_eq_true.1 hd) o ho
   simpa [hd'] using this
 | seq x y ihx ihy =>
  intro S a w Q Q' hd h hv hk
  simp only [dstsOk, Bool.and_eq_true] at hd
  refine wp_seq (ihx hd.1 h hv (fun e S a w hq hr => ?_))
  cases e with
  | normal => exact ihy hd.2 hr hq hk
  | _ => exact hk _ S a w hq hr
 | cond c x y ihx ihy =>
  intro S a w Q Q' hd h hv hk
  simp only [dstsOk, Bool.and_eq_true] at hd
  simp only [vc] at hv
  split at hv
  ·rename_i t hc
   obtain ⟨F, oss, hcore⟩ := h
   refine wp_cond_split (hcore.int hc) (fun ht => ihx hd.1 hcore.st (hv.1 ht) hk) (fun ht => ihy hd.2 hcore.st (hv.2 ht) hk)
  ·exact hv.elim
 | block id b ih =>
  intro S a w Q Q' hd h hv hk
  refine wp_block (ih hd h hv (fun e S a w hq hr => ?_))
  cases e with
  | exit id' =>
   simp only [Exit.inBlock, blockQ] at hq ⊢
   split at hq
   ·rename_i e; rw [if_pos e]; exact hk _ S a w hq hr
   ·rename_i e; rw [if_neg e]; exact hk _ S a w hq hr
  | _ => exact hk _ S a w hq hr
 | loop b ih =>
  intro S a w Q Q' hd h hv hk
  obtain ⟨I, ⟨n, S', hw, hI⟩, hstep⟩ := hv
  have h' := hw P N G w0 a w h
  let p : Act → World → Nat → Prop := fun a w n => ∃ S, I n S ∧ StRel P N G w0 S a w
  let μ : Act → World → Nat := fun a w => Classical.epsilon fun n => p a w n ∧ ∀ m, p a w m → n ≤ m
  have hμ : ∀ a w, (∃ n, p a w n) → p a w (μ a w) ∧ ∀ m, p a w m → μ a w ≤ m := fun a w hn => Classical.epsilon_spec (least hn)
  refine wp_loop (fun a w => ∃ n, p a w n) μ ⟨n, S', hI, h'⟩ ?_
  intro a w hn
  obtain ⟨⟨S1, hI1, hr1⟩, _⟩ := hμ a w hn
  refine ih hd hr1 (hstep _ _ hI1) (fun e S a' w' hq hr => ?_)
  cases e with
  | normal =>
   obtain ⟨m, hm, S2, hweak, hI2⟩ := hq
   have hp : p a' w' m := ⟨S2, hI2, hweak P N G w0 a' w' hr⟩
   exact ⟨⟨m, hp⟩, Nat.lt_of_le_of_lt ((hμ a' w' ⟨m, hp⟩).2 m hp) hm⟩
  | _ => exact hk _ S a' w' hq hr
 | exit id => intro S a w Q Q' _ h hv hk; exact wp_exit (hk _ _ _ _ hv h)
 | ret => intro S a w Q Q' _ h hv hk; exact wp_ret (hk _ _ _ _ hv h)
 | _ => intro S a w Q Q' _ h hv hk; exact hv.elim
def initS (args : List AV) : St := fun i => match args[i]? with
 | some c => c
 | none => .any
def retAV (P : Program) : St → List ResultVar → Option (List AV)
 | _, [] => some []
 | S, .tmp t :: rs => match S t with
  | .agg cs => if hasOwnL cs then if (rootsL cs).isEmpty then match retAV P (upd t .any S) rs with
     | some ds => some (.agg cs :: ds)
     | none => none
    else none
   else match tkLs S (cs.flatMap locB) with
    | some (lf, S1) => match fillB cs lf with
     | some (es, []) => match retAV P S1 rs with
      | some ds => some (.agg es :: ds)
      | none => none
     | _ => none
    | none => none
  | _ => match tk { nv := 0 } S (.tmp t) with
   | some (c, U) => match retAV P (app U S) rs with
    | some ds => some (c :: ds)
    | none => none
   | none => none
 | S, .cell t ty :: rs => match S t, kindT P ty with
  | .box _ cs, some (some m) => if cs.length = m then match retAV P (upd t .any S) rs with
    | some ds => some (.agg cs :: ds)
    | none => none
   else none
  | _, _ => none
mutual
def freshOK : AV → Bool
 | .any => true
 | .val _ => true
 | .own _ _ cs => freshL cs
 | .box _ cs => freshL cs
 | .mp _ => true
 | .agg cs => freshL cs
 | .tup cs => freshL cs
 | .fn f cs => freshL cs
 | .sl n cs => n == 0 && cs.isEmpty
 | _ => false
def freshL : List AV → Bool
 | [] => true
 | c :: cs => freshOK c && freshL cs
end
mutual
theorem RepC.fresh {F' : Nat → Prop} {c : AV} {v : Value} {os : List Nat} (h : RepC P w F c v os) (hf : freshOK c = true) : RepC P w F' c v os := by
 cases h with
 | any v h => exact .any v h
 | val v h => exact .val v h
 | sl0 b c => exact .sl0 b c
 | sl b off n cap c e fr cs hF hb hl hn =>
  simp [freshOK] at hf
  obtain ⟨rfl, rfl⟩ := hf
  exact .sl0 _ _
 | own0 e => exact .own0 e
 | own b e n cap c cs os hb hn hc hl => exact .own b e n cap c cs os hb hn hc (RepL.fresh hl (by simpa [freshOK] using hf))
 | box b e c cs os hb hl => exact .box b e c cs os hb (RepL.fresh hl (by simpa [freshOK] using hf))
 | fptr => simp [freshOK] at hf
 | mp b es clock c hb hm => exact .mp b es clock c hb hm
 | fmp => simp [freshOK] at hf
 | it => simp [freshOK] at hf
theorem RepL.fresh {F' : Nat → Prop} {cs : List AV} {vs : List Value} {os : List Nat} (h : RepL P w F cs vs os) (hf : freshL cs = true) : RepL P w F' cs vs os := by
 cases h with
 | nil vs => exact .nil vs
 | cons c v os cs vs os' h t =>
  simp [freshL] at hf
  exact .cons c v os cs vs os' (RepC.fresh h hf.1) (RepL.fresh t hf.2)
end
def retOf (cs : List AV) : AV := match cs with
 | [c] => c
 | cs => .tup cs
def retQ (P : Program) (rs : List ResultVar) (r : AV) : Exit → St → Prop
 | .normal, S => ∃ cs, retAV P S rs = some cs ∧ retOf cs = r
 | .ret, S => ∃ cs, retAV P S rs = some cs ∧ retOf cs = r
 | _, _ => False
end
end Go.Abs


namespace Go.Abs
variable [DrawK]
open Go.RowKit (Below)
section
variable {P : Program} {N : Nat × List Nat} {G : Nat → Prop} {w0 : W0} {w w' : World} {S : St} {a : Act} {F : Nat → Prop} {oss : Nat → List Nat} {X : List Nat}
def resOne (tm : Nat → Value) : ResultVar → Sem Value
 | .tmp t => pure (tm t)
 | .cell a t => do loadVar t (← asAddr (tm a))
mutual
theorem RepT.fresh {F' : Nat → Prop} {tm : Nat → Value} {c : AV} {v : Value} {os : List Nat} (h : RepT P w F tm oss c v os) (hf : freshOK c = true) : RepT P w F' tm oss c v os := by
 cases h with
 | any v => exact .any v
 | cell c v os h => exact .cell _ _ _ (h.fresh hf)
 | agg cs vs os hl h => exact .agg cs vs os hl (RepTL.fresh h (by simpa [freshOK] using hf))
 | tup cs vs os hl h => exact .tup cs vs os hl (RepTL.fresh h (by simpa [freshOK] using hf))
 | fn f cs vs os hl h => exact .fn f cs vs os hl (RepTL.fresh h (by simpa [freshOK] using hf))
 | bor s p v h => simp [freshOK] at hf
 | ptr s p off u b h hb => simp [freshOK] at hf
 | slp s p off n cap u b h hb hn => simp [freshOK] at hf
theorem RepTL.fresh {F' : Nat → Prop} {tm : Nat → Value} {cs : List AV} {vs : List Value} {os : List Nat} (h : RepTL P w F tm oss cs vs os) (hf : freshL cs = true) : RepTL P w F' tm oss cs vs os := by
 cases h with
 | nil vs => exact .nil vs
 | cons c v os cs vs os' h t =>
  simp [freshL] at hf
  exact .cons c v os cs vs os' (RepT.fresh h hf.1) (RepTL.fresh t hf.2)
end
mutual
theorem RepT.bare {F' : Nat → Prop} {tm tm' : Nat → Value} {oss' : Nat → List Nat} {c : AV} {v : Value} {os : List Nat} (h : RepT P w F tm oss c v os) (hf : freshOK c = true) : RepT P w F' tm' oss' c v os := by
 cases h with
 | any v => exact .any v
 | cell c v os h => exact .cell _ _ _ (h.fresh hf)
 | agg cs vs os hl h => exact .agg cs vs os hl (RepTL.bare h (by simpa [freshOK] using hf))
 | tup cs vs os hl h => exact .tup cs vs os hl (RepTL.bare h (by simpa [freshOK] using hf))
 | fn f cs vs os hl h => exact .fn f cs vs os hl (RepTL.bare h (by simpa [freshOK] using hf))
 | bor s p v h => simp [freshOK] at hf
 | ptr s p off u b h hb => simp [freshOK] at hf
 | slp s p off n cap u b h hb hn => simp [freshOK] at hf
theorem RepTL.bare {F' : Nat → Prop} {tm tm' : Nat → Value} {oss' : Nat → List Nat} {cs : List AV} {vs : List Value} {os : List Nat} (h : RepTL P w F tm oss cs vs os) (hf : freshL cs = true) : RepTL P w F' tm' oss' cs vs os := by
 cases h with
 | nil vs => exact .nil vs
 | cons c v os cs vs os' h t =>
  simp [freshL] at hf
  exact .cons c v os cs vs os' (RepT.bare h hf.1) (RepTL.bare t hf.2)
end
inductive UL (P : Program) (w : World) (F : Nat → Prop) : List AV → List Value → List Nat → Prop
 | nil : UL P w F [] [] []
 | cons (c : AV) (v : Value) (os : List Nat) (cs : List AV) (vs : List Value) (os' : List Nat) (h : ∀ tm oss, RepT P w F tm oss c v os) (t : UL P w F cs vs os') : UL P w F (c :: cs) (v :: vs) (os ++ os')
theorem UL.all {cs : List AV} {vs : List Value} {os : List Nat} (h : UL P w F cs vs os) (tm : Nat → Value) (oss : Nat → List Nat) : RepTL P w F tm oss cs vs os := by
 induction h with
 | nil => exact .nil _
 | cons c v os cs vs os' h t ih => exact .cons _ _ _ _ _ _ (h tm oss) ih
theorem UL.split {cs : List AV} {vs : List Value} {os : List Nat} (k : Nat) (h : UL P w F cs vs os) : ∃ o1 o2, os = o1 ++ o2 ∧ UL P w F (cs.take k) (vs.take k) o1 ∧ UL P w F (cs.drop k) (vs.drop k) o2 := by
 induction h generalizing k with
 | nil => exact ⟨[], [], rfl, by simpa using UL.nil, by simpa using UL.nil⟩
 | cons c v os cs vs os' h t ih =>
  cases k with
  | zero => exact ⟨[], _, rfl, by simpa using UL.nil, by simpa using UL.cons _ _ _ _ _ _ h t⟩
  | succ k =>
   obtain ⟨o1, o2, rfl, h1, h2⟩ := ih k
   exact ⟨os ++ o1, o2, by simp, by simpa using UL.cons _ _ _ _ _ _ h h1, by simpa using h2⟩
theorem UL.parts {cs : List AV} {vs : List Value} {os : List Nat} (h : UL P w F cs vs os) :
  ∃ f : Nat → List Nat, (∀ (i : Nat) (c : AV), cs[i]? = some c → ∃ v, vs[i]? = some v ∧ ∀ tm oss, RepT P w F tm oss c v (f i)) ∧ (∀ i b, b ∈ f i → b ∈ os) ∧
   (os.Nodup → (∀ i, (f i).Nodup) ∧ ∀ i j b, b ∈ f i → b ∈ f j → i = j) := by
 induction h with
 | nil => exact ⟨fun _ => [], by simp, by simp, fun _ => ⟨fun _ => List.nodup_nil, by simp⟩⟩
 | cons c v o1 cs vs o2 h t ih =>
  obtain ⟨f, f1, f3, f4⟩ := ih
  refine ⟨fun i => match i with | 0 => o1 | i + 1 => f i, fun i d hi => ?_, fun i b hb => ?_, fun hn => ⟨fun i => ?_, fun i j b hi hj => ?_⟩⟩
  ·cases i with
   | zero => simp at hi; subst hi; exact ⟨v, rfl, h⟩
   | succ i => simp at hi; simpa using f1 i d hi
  ·cases i with
   | zero => simp at hb; simp [hb]
   | succ i => simp at hb; simp [f3 i b hb]
  ·have n := List.nodup_append.1 hn
   cases i with
   | zero => exact n.1
   | succ i => exact (f4 n.2.1).1 i
  ·have n := List.nodup_append.1 hn
   cases i with
   | zero => cases j with
    | zero => rfl
    | succ j => exact (n.2.2 b hi b (f3 j b hj) rfl).elim
   | succ i => cases j with
    | zero => exact (n.2.2 b hj b (f3 i b hi) rfl).elim
    | succ j => rw [(f4 n.2.1).2 i j b hi hj]
theorem Core.ret : ∀ {rs : List ResultVar} {S : St} {F : Nat → Prop} {oss : Nat → List Nat} {X : List Nat} (_ : Core P N G w0 S a w F oss X) {cs : List AV}, retAV P S rs = some cs →
  ∃ F' oss' oc vs S', (rs.mapM (resOne (tmo a))).run P w = .ok vs w ∧ Core P N G w0 S' a w F' oss' (oc ++ X) ∧ UL P w F' cs vs oc ∧ cs.length = vs.length ∧ vs.length = rs.length ∧ (∀ b, F b → F' b)
 | [], S, F, oss, X, h, cs, hc => by
  simp [retAV] at hc; subst hc
  exact ⟨F, oss, [], [], S, rfl, h, .nil, rfl, rfl, fun _ h => h⟩
 | .tmp t :: rs, S, F, oss, X, h, cs, hc => by
  rw [retAV] at hc
  have fin : ∀ {S1 : St} {F1 : Nat → Prop} {oss1 : Nat → List Nat} {c : AV} {o1 : List Nat} {ds : List AV}, Core P N G w0 S1 a w F1 oss1 (o1 ++ X) → (∀ tm oss'', RepT P w F1 tm oss'' c (tmo a t) o1) →
    (∀ b, F b → F1 b) → retAV P S1 rs = some ds →
    ∃ F' oss' oc vs S', ((ResultVar.tmp t :: rs).mapM (resOne (tmo a))).run P w = .ok vs w ∧ Core P N G w0 S' a w F' oss' (oc ++ X) ∧ UL P w F' (c :: ds) vs oc ∧ (c :: ds).length = vs.length ∧ vs.length = (ResultVar.tmp t :: rs).length ∧ (∀ b, F b → F' b) := by
   intro S1 F1 oss1 c o1 ds k1 k2 k3 h2
   obtain ⟨F2, oss2, oc2, vs, S', m1, m2, m3, m4, m5, m6⟩ := Core.ret k1 h2
   refine ⟨F2, oss2, o1 ++ oc2, tmo a t :: vs, S', ?_, ?_, ?_, by simp [m4], by simp [m5], fun b hb => m6 b (k3 b hb)⟩
   ·simp [List.mapM_cons, resOne, m1]
   ·refine m2.sub (fun b hb => ?_) ?_
    ·simp only [List.mem_append] at hb ⊢
     rcases hb with (hb | hb) | hb
     ·exact .inr (.inl hb)
     ·exact .inl hb
     ·exact .inr (.inr hb)
    ·have := m2.xn
     simp only [List.nodup_append, List.mem_append] at this ⊢
     obtain ⟨n1, ⟨n2, n3, n4⟩, n5⟩ := this
     refine ⟨⟨n2, n1, fun x hx y hy e => n5 y hy x (.inl hx) e.symm⟩, n3, fun x hx y hy => ?_⟩
     rcases hx with hx | hx
     ·exact n4 x hx y hy
     ·exact n5 x hx y (.inr hy)
   ·exact .cons _ _ _ _ _ _ (fun tm oss'' => RepT.mono (tm := tm) (oss := oss'') m6 (fun _ _ _ h => h) (k2 tm oss'') (fun _ _ => rfl)) m3
  split at hc
  ·rename_i cs' hS
   have hr := h.rep t
   rw [hS] at hr
   split at hc
   ·split at hc
    ·rename_i hroots
     split at hc
     ·rename_i ds h2
      injection hc with hc; subst hc
      obtain ⟨k1, k2⟩ := h.take t
      exact fin k1 (fun tm oss'' => roots_nil_rep hr (by simpa [roots] using hroots)) (fun _ h => h) h2
     ·simp at hc
    ·simp at hc
   ·split at hc
    ·rename_i lf S1 h1
     split at hc
     ·rename_i es h3
      split at hc
      ·rename_i ds h2
       injection hc with hc; subst hc
       obtain ⟨us, oc, oss1, k1, k2⟩ := h.tkLs h1
       generalize hu : tmo a t = u at hr
       generalize oss t = ot at hr
       cases hr with
       | cell _ _ _ hc => cases hc
       | agg _ vs os hl hL =>
        have h3' : fillB cs' (lf ++ []) = some (es, []) := by simpa using h3
        obtain ⟨m1, m2⟩ := fillB_rep (F0 := F) (fun _ h => h) hL k2 h3'
        refine fin k1 (fun tm oss'' => ?_) (fun _ h => h) h2
        rw [hu]
        exact .agg es vs oc (m2.trans hl) (m1 tm oss'')
      ·simp at hc
     ·simp at hc
    ·simp at hc
  ·split at hc
   ·rename_i c U h1
    split at hc
    ·rename_i ds h2
     injection hc with hc; subst hc
     obtain ⟨F1, oss1, oc1, k1, k2, k3⟩ := h.tk h1
     exact fin k1 (fun tm oss'' => .cell _ _ _ k2) k3 h2
    ·simp at hc
   ·simp at hc
 | .cell t ty :: rs, S, F, oss, X, h, cs, hc => by
  rw [retAV] at hc
  split at hc
  ·rename_i e bs m hS hT
   split at hc
   ·rename_i hlen
    split at hc
    ·rename_i ds h2
     injection hc with hc; subst hc
     obtain ⟨k1, k2⟩ := h.take t
     have k3 := k2.ofKids (by simp [hS, kl, kids])
     rw [hS, kl] at k3
     generalize hu : tmo a t = u at k3
     generalize ho : oss t = ot at k3 k1
     cases k3 with
     | box b _ c _ ol hb hl =>
      have k4 := k1.sub (X' := ol ++ X) (fun z hz => by simp only [List.mem_append, List.mem_cons] at hz ⊢; rcases hz with hz | hz <;> simp [hz]) (List.nodup_cons.1 k1.xn).2
      obtain ⟨F2, oss2, oc2, vs, S', m1, m2, m3, m4, m5, m6⟩ := Core.ret k4 h2
      have hll := hl.length_le
      have hrun : (loadVar ty ⟨b, 0, none⟩).run P w = .ok (.agg (c.toList.take bs.length).toArray) w :=
       run_loadAgg hT (by rw [List.length_take, ← hlen]; omega) (fun j v hj => by
        rw [cell_of hb, Nat.zero_add]
        simp only [List.getElem?_take] at hj
        split at hj
        ·simpa using hj
        ·simp at hj)
      refine ⟨F2, oss2, ol ++ oc2, .agg (c.toList.take bs.length).toArray :: vs, S', ?_, ?_, ?_, by simp [m4], by simp [m5], m6⟩
      ·simp [List.mapM_cons, resOne, m1, hu, asAddr, hrun]
      ·refine m2.sub (fun z hz => ?_) ?_
       ·simp only [List.mem_append] at hz ⊢
        rcases hz with (hz | hz) | hz
        ·exact .inr (.inl hz)
        ·exact .inl hz
        ·exact .inr (.inr hz)
       ·have := m2.xn
        simp only [List.nodup_append, List.mem_append] at this ⊢
        obtain ⟨n1, ⟨n2, n3, n4⟩, n5⟩ := this
        refine ⟨⟨n2, n1, fun x hx y hy e => n5 y hy x (.inl hx) e.symm⟩, n3, fun x hx y hy => ?_⟩
        rcases hx with hx | hx
        ·exact n4 x hx y hy
        ·exact n5 x hx y (.inr hy)
      ·refine .cons _ _ _ _ _ _ (fun tm oss'' => .agg _ _ _ (by rw [List.length_take]; omega) ?_) m3
       exact ((hl.mono (F' := F2) m6 (fun _ _ => rfl)).take).toT
    ·simp at hc
   ·simp at hc
  ·simp at hc
theorem results_run (fn : Func) (tmps : Array Value) {vs : List Value} (h : (fn.results.toList.mapM (resOne (fun i => tmps.getD i undef))).run P w = .ok vs w) :
  (results fn tmps).run P w = .ok (if h : vs.length = 1 then vs[0] else .tuple vs.toArray) w := by
 have e : (fn.results.mapM (resOne (fun i => tmps.getD i undef))).run P w = .ok vs.toArray w := by
  have : fn.results = fn.results.toList.toArray := by simp
  rw [this, List.mapM_toArray, Sem.run_map, h]; rfl
 have e2 : (results fn tmps) = (fn.results.mapM (resOne (fun i => tmps.getD i undef)) >>= fun vs => pure (if h : vs.size = 1 then vs[0] else .tuple vs)) := by
  unfold results
  congr 1
 rw [e2, Sem.run_bind, e]
 simp
theorem RepTL.init {tm : Nat → Value} : ∀ {cs : List AV} {vs : List Value} {os : List Nat}, RepTL P w F tm oss cs vs os → os = [] → ∀ (i : Nat) (c : AV), cs[i]? = some c → ∃ v, vs[i]? = some v ∧ RepT P w F tm oss c v []
 | [], vs, os, h, ho, i, c, hi => by simp at hi
 | d :: cs, vs, os, h, ho, i, c, hi => by
  cases h with
  | cons d v o1 cs vs o2 h t =>
   obtain ⟨rfl, rfl⟩ := List.append_eq_nil_iff.1 ho
   cases i with
   | zero => simp at hi; subst hi; exact ⟨v, rfl, h⟩
   | succ i => simp at hi; simpa using RepTL.init t rfl i c hi
theorem ret_sound (h : StRel P N (fun b => b < w0.1.heap.size) w0 S a w) {fn : Func} {r : AV} (hf : freshOK r = true) {cs : List AV} (hc : retAV P S fn.results.toList = some cs) (hr : retOf cs = r) :
  ∃ v, (results fn a.tmps).run P w = .ok v w ∧ ∃ v' os, Ending.returned v = .returned v' ∧ Ext (fun b => b < w0.1.heap.size) w0.1 w ∧
   (∀ tm oss, RepT P w (fun b => w0.1.heap.size ≤ b ∧ b < w.heap.size ∧ b ∉ os) tm oss r v' os) ∧ os.Nodup ∧ ∀ b ∈ os, w0.1.heap.size ≤ b ∧ b < w.heap.size := by
 obtain ⟨F, oss, h⟩ := h
 obtain ⟨F', oss', oc, vs, S', k1, k2, k3, k4, k5, k6⟩ := h.ret hc
 simp only [List.append_nil] at k2
 have hown : ∀ b ∈ oc, w0.1.heap.size ≤ b ∧ b < w.heap.size := fun b hb => ⟨by
  rcases Nat.lt_or_ge b w0.1.heap.size with hlt | hge
  ·exact (k2.xG b hb hlt).elim
  ·exact hge, (k2.xo b hb).2⟩
 refine ⟨_, results_run fn a.tmps k1, _, oc, rfl, k2.ext, fun tm oss'' => ?_, k2.xn, hown⟩
 subst hr
 unfold retOf at hf ⊢
 split
 ·rename_i c
  have hl : vs.length = 1 := by simpa using k4.symm
  obtain ⟨v, rfl⟩ : ∃ v, vs = [v] := List.length_eq_one_iff.1 hl
  simp only [List.length_cons, List.length_nil, Nat.zero_add, dite_true, List.getElem_cons_zero]
  have := k3.all tm oss''
  generalize ho : oc = oc' at this
  cases this with
  | cons _ _ o1 _ _ o2 h1 h2 =>
   cases h2
   simp only [List.append_nil] at ho
   subst ho
   simp at *
   exact RepT.fresh h1 hf
 ·rename_i hne
  have hl : vs.length ≠ 1 := by
   intro e
   rw [← k4] at e
   obtain ⟨c, rfl⟩ := List.length_eq_one_iff.1 e
   exact hne c rfl
  rw [dif_neg hl]
  split at hf
  ·rename_i c; exact (hne c rfl).elim
  ·exact RepT.fresh (.tup _ _ _ k4 (k3.all tm oss'')) hf
theorem acalls_of_vc (hm : P.follows .mixedOrders = true) {f : FuncId} {fn : Func} {c : Code} (cf : Cfg) {args : List AV} {r : AV} (hfn : P.funcs[f]? = some fn) (hb : fn.body = some c)
  (hn : args.length ≤ fn.ntmps) (hd : dstsOk (fn.ntmps, []) c = true) (hf : freshOK r = true)
  (h : vc P cf (fn.ntmps, []) c (retQ P fn.results.toList r) (initS args)) : ACalls P f args r := by
 intro w vs hl hrep
 refine calls_of_wp hfn hb ?_
 have hst : StRel P (fn.ntmps, []) (fun b => b < w.heap.size) ⟨w, fun _ => undef, fun b => b < w.heap.size⟩ (initS args) { tmps := vs.toArray ++ Array.replicate (fn.ntmps - vs.toArray.size) undef, defers := [] } w := by
  refine ⟨fun b => b < w.heap.size, fun _ => [], { sz := ?_, kp := by simp, df := rfl, ext := Ext.refl _ _, fB := fun _ h => h, fN := fun _ h => .inl h, gw := fun _ h => h, oG := by simp, xG := by simp, fw := fun _ h => h, rep := fun i => ?_, own := by simp, nd := fun _ => List.nodup_nil, dj := by simp, xo := by simp, xn := List.nodup_nil, xd := by simp }⟩
  ·simp; omega
  ·unfold initS
   split
   ·rename_i c hi
    obtain ⟨v, h1, h2⟩ := (hrep (tmo { tmps := vs.toArray ++ Array.replicate (fn.ntmps - vs.toArray.size) undef, defers := [] }) (fun _ => [])).init rfl i c hi
    have hlt : i < vs.length := (List.getElem?_eq_some_iff.1 h1).1
    have : tmo { tmps := vs.toArray ++ Array.replicate (fn.ntmps - vs.toArray.size) undef, defers := [] } i = v := by
     have h3 : (vs.toArray ++ Array.replicate (fn.ntmps - vs.toArray.size) undef)[i]? = some v := by
      rw [Array.getElem?_append_left (by simpa using hlt)]; simpa using h1
     simp only [List.size_toArray] at h3
     simp [tmo, h3]
    rw [this]; exact h2
   ·exact .any _
 refine vc_sound hm hd hst h (fun e S a w' hq hr => ?_)
 cases e with
 | normal =>
  obtain ⟨cs, h1, h2⟩ := hq
  exact ⟨(by obtain ⟨_, _, h⟩ := hr; exact h.df), ret_sound (w0 := ⟨w, fun _ => undef, fun b => b < w.heap.size⟩) hr hf h1 h2⟩
 | ret =>
  obtain ⟨cs, h1, h2⟩ := hq
  exact ⟨(by obtain ⟨_, _, h⟩ := hr; exact h.df), ret_sound (w0 := ⟨w, fun _ => undef, fun b => b < w.heap.size⟩) hr hf h1 h2⟩
 | _ => exact hq.elim
theorem con_of_vc (hm : P.follows .mixedOrders = true) {f : FuncId} {fn : Func} {c : Code} (cf : Cfg) {args : List AV} {r : AV} (hfn : P.funcs[f]? = some fn) (hname : (fn.name == "runtime.NumGoroutine") = false) (hb : fn.body = some c)
  (hn : args.length ≤ fn.ntmps) (hd : dstsOk (fn.ntmps, []) c = true) (hf : freshOK r = true)
  (h : vc P cf (fn.ntmps, []) c (retQ P fn.results.toList r) (initS args)) : Con P f args r :=
 ⟨⟨fn, hfn, hname, by simp [hb]⟩, acalls_of_vc hm cf hfn hb hn hd hf h⟩
theorem RepTL.parts {tm : Nat → Value} : ∀ {cs : List AV} {vs : List Value} {os : List Nat}, RepTL P w F tm oss cs vs os →
  ∃ f : Nat → List Nat, (∀ (i : Nat) (c : AV), cs[i]? = some c → ∃ v, vs[i]? = some v ∧ RepT P w F tm oss c v (f i)) ∧ (∀ i, cs.length ≤ i → f i = []) ∧ (∀ i b, b ∈ f i → b ∈ os) ∧
   (os.Nodup → (∀ i, (f i).Nodup) ∧ ∀ i j b, b ∈ f i → b ∈ f j → i = j)
 | [], vs, os, h => ⟨fun _ => [], by simp, by simp, by simp, fun _ => ⟨fun _ => List.nodup_nil, by simp⟩⟩
 | c :: cs, vs, os, h => by
  cases h with
  | cons _ v o1 _ vs o2 h t =>
   obtain ⟨f, f1, f2, f3, f4⟩ := RepTL.parts t
   refine ⟨fun i => match i with | 0 => o1 | i + 1 => f i, fun i d hi => ?_, fun i hi => ?_, fun i b hb => ?_, fun hn => ⟨fun i => ?_, fun i j b hi hj => ?_⟩⟩
   ·cases i with
    | zero => simp at hi; subst hi; exact ⟨v, rfl, h⟩
    | succ i => simp at hi; simpa using f1 i d hi
   ·cases i with
    | zero => simp at hi
    | succ i => exact f2 i (by simpa using hi)
   ·cases i with
    | zero => simp only at hb; simp [hb]
    | succ i => simp only at hb; simp [f3 i b hb]
   ·have hn := List.nodup_append.1 hn
    cases i with
    | zero => exact hn.1
    | succ i => exact (f4 hn.2.1).1 i
   ·have hn := List.nodup_append.1 hn
    cases i with
    | zero => cases j with
     | zero => rfl
     | succ j => exact (hn.2.2 b hi b (f3 j b hj) rfl).elim
    | succ i => cases j with
     | zero => exact (hn.2.2 b hj b (f3 i b hi) rfl).elim
     | succ j => rw [(f4 hn.2.1).2 i j b hi hj]
def outsOf (kp : List Nat) (cs : List AV) (n : Nat) : List AV := (List.range n).map fun i => match kp.idxOf? i with
 | some j => cs.getD j .any
 | none => .any
def retM (P : Program) (rs : List ResultVar) (kp : List Nat) (n : Nat) (r : AV) (outs : List AV) : Exit → St → Prop
 | .normal, S => ∃ cs, retAV P S (rs ++ kp.map .tmp) = some cs ∧ retOf (cs.take rs.length) = r ∧ outsOf kp (cs.drop rs.length) n = outs ∧ freshL cs = true
 | .ret, S => ∃ cs, retAV P S (rs ++ kp.map .tmp) = some cs ∧ retOf (cs.take rs.length) = r ∧ outsOf kp (cs.drop rs.length) n = outs ∧ freshL cs = true
 | _, _ => False
theorem RepTL.split {tm : Nat → Value} : ∀ {cs : List AV} {vs : List Value} {os : List Nat} (k : Nat), RepTL P w F tm oss cs vs os → cs.length = vs.length →
  ∃ o1 o2, os = o1 ++ o2 ∧ RepTL P w F tm oss (cs.take k) (vs.take k) o1 ∧ RepTL P w F tm oss (cs.drop k) (vs.drop k) o2
 | cs, vs, os, 0, h, hl => ⟨[], os, rfl, .nil _, by simpa using h⟩
 | [], vs, os, k + 1, h, hl => by cases h; exact ⟨[], [], rfl, by simp; exact .nil _, by simp; exact .nil _⟩
 | c :: cs, vs, os, k + 1, h, hl => by
  cases h with
  | cons _ v o1 _ vs o2 h t =>
   obtain ⟨p1, p2, rfl, h1, h2⟩ := RepTL.split k t (by simpa using hl)
   exact ⟨o1 ++ p1, p2, by simp, by simpa using RepTL.cons _ _ _ _ _ _ h h1, by simpa using h2⟩
theorem mapM_tmps (tm : Nat → Value) : ∀ kp : List Nat, ((kp.map ResultVar.tmp).mapM (resOne tm)).run P w = .ok (kp.map tm) w
 | [] => rfl
 | k :: kp => by
  rw [List.map_cons, List.map_cons, List.mapM_cons, Sem.run_bind]
  have := mapM_tmps tm kp
  simp only [resOne, Sem.run_pure, Result.andThen_ok, Sem.run_bind, this]
theorem RepTL.getD {tm : Nat → Value} : ∀ {cs : List AV} {vs : List Value} {os : List Nat}, RepTL P w F tm oss cs vs os → ∀ j, j < cs.length → ∃ v o, vs[j]? = some v ∧ RepT P w F tm oss (cs.getD j .any) v o ∧ ∀ b ∈ o, b ∈ os
 | [], vs, os, h, j, hj => by simp at hj
 | c :: cs, vs, os, h, j, hj => by
  cases h with
  | cons _ v o1 _ vs o2 h t =>
   cases j with
   | zero => exact ⟨v, o1, rfl, h, fun b hb => by simp [hb]⟩
   | succ j =>
    obtain ⟨u, o, e1, e2, e3⟩ := RepTL.getD t j (by simpa using hj)
    exact ⟨u, o, by simpa using e1, by simpa using e2, fun b hb => by simp [e3 b hb]⟩
theorem idx_spec {kp : List Nat} {i j : Nat} (h : kp.idxOf? i = some j) : j < kp.length ∧ kp[j]? = some i := by
 have := List.idxOf?_eq_some_iff.1 h
 obtain ⟨h1, h2, _⟩ := this
 exact ⟨h1, by rw [List.getElem?_eq_getElem h1]; exact congrArg some (by simpa using h2)⟩
theorem freshL_getD : ∀ {cs : List AV} (j : Nat), freshL cs = true → freshOK (cs.getD j .any) = true
 | [], j, _ => by simp [freshOK]
 | c :: cs, 0, h => by simp [freshL] at h; simpa using h.1
 | c :: cs, j + 1, h => by simp [freshL] at h; simpa using freshL_getD j h.2
theorem outs_rep {F' : Nat → Prop} {tm : Nat → Value} {kp : List Nat} (hkp : kp.Nodup) {cs : List AV} (hf : freshL cs = true) (hlen : cs.length = kp.length) {o : List Nat} {vals : Nat → Value}
  (h : RepTL P w F' tm oss cs (kp.map vals) o) (n : Nat) (ho : o.Nodup) : ∃ oo, (∀ F tm oss, RepTL P w F tm oss (outsOf kp cs n) ((List.range n).map vals) oo) ∧ (∀ b, b ∈ oo → b ∈ o) ∧ oo.Nodup := by
 obtain ⟨f, f1, f2, f3, f4⟩ := h.parts
 obtain ⟨n1, n2⟩ := f4 ho
 let g : Nat → List Nat := fun i => match kp.idxOf? i with
  | some j => f j
  | none => []
 have hg : ∀ i b, b ∈ g i → b ∈ o := fun i b hb => by
  simp only [g] at hb
  split at hb
  ·exact f3 _ b hb
  ·simp at hb
 have main : ∀ m, m ≤ n → ∃ oo, (∀ F tm oss, RepTL P w F tm oss (((List.range' (n - m) m)).map fun i => match kp.idxOf? i with | some j => cs.getD j .any | none => .any) ((List.range' (n - m) m).map vals) oo) ∧
   (∀ b, b ∈ oo → ∃ i, n - m ≤ i ∧ b ∈ g i) ∧ oo.Nodup := by
  intro m
  induction m with
  | zero => intro _; exact ⟨[], fun _ _ _ => .nil _, by simp, List.nodup_nil⟩
  | succ m ih =>
   intro hm
   obtain ⟨oo, k1, k2, k3⟩ := ih (by omega)
   have e : List.range' (n - (m + 1)) (m + 1) = (n - (m + 1)) :: List.range' (n - m) m := by
    rw [List.range'_succ]; congr 1; congr 1; omega
   rw [e]
   refine ⟨g (n - (m + 1)) ++ oo, fun F tm oss => ?_, fun b hb => ?_, ?_⟩
   ·refine .cons _ _ _ _ _ _ ?_ (k1 F tm oss)
    simp only [g]
    split
    ·rename_i j hj
     have hjl := idx_spec hj
     have hjc : cs[j]? = some (cs.getD j .any) := by
      have hl : j < cs.length := by omega
      simp [List.getD, List.getElem?_eq_getElem hl]
     obtain ⟨v, e1, e2⟩ := f1 j _ hjc
     have hv : v = vals (n - (m + 1)) := by
      rw [List.getElem?_map, hjl.2] at e1
      simpa using e1.symm
     subst hv
     exact e2.bare (freshL_getD j hf)
    ·exact .any _
   ·rcases List.mem_append.1 hb with hb | hb
    ·exact ⟨_, Nat.le_refl _, hb⟩
    ·obtain ⟨i, h1, h2⟩ := k2 b hb
     exact ⟨i, by omega, h2⟩
   ·refine List.nodup_append.2 ⟨?_, k3, fun x hx y hy e => ?_⟩
    ·simp only [g]; split; exact n1 _; exact List.nodup_nil
    ·subst e
     obtain ⟨i, h1, h2⟩ := k2 x hy
     simp only [g] at hx h2
     split at hx
     ·rename_i j hj
      split at h2
      ·rename_i j' hj'
       have := n2 j j' x hx h2
       subst this
       have e1 := (idx_spec hj).2
       rw [(idx_spec hj').2] at e1
       injection e1 with e1
       omega
      ·simp at h2
     ·simp at hx
 obtain ⟨oo, k1, k2, k3⟩ := main n (Nat.le_refl _)
 refine ⟨oo, fun F tm oss => ?_, fun b hb => ?_, k3⟩
 ·have := k1 F tm oss
  rw [Nat.sub_self, ← List.range_eq_range'] at this
  exact this
 ·obtain ⟨i, _, h2⟩ := k2 b hb
  exact hg i b h2
theorem ret_soundM {N : Nat × List Nat} (h : StRel P N G w0 S a w) {os : List Nat} (hG : ∀ b, b < w0.1.heap.size → b ∉ os → G b) {fn : Func} {rts kp : List Nat} (hrs : fn.results.toList = rts.map .tmp) (hkp : kp.Nodup)
  (hkN : ∀ i ∈ kp, i ∈ N.2) {n : Nat} {cs : List AV} (hc : retAV P S (fn.results.toList ++ kp.map .tmp) = some cs) (hf : freshL cs = true) {vs : List Value} (hv : ∀ i ∈ kp, vs[i]? = some (w0.2 i)) (hvl : vs.length = n) :
  ∃ v, (results fn a.tmps).run P w = .ok v w ∧ ∃ v' orr oo, Ending.returned v = .returned v' ∧ Ext G w0.1 w ∧
   (∀ F tm oss, RepT P w F tm oss (retOf (cs.take rts.length)) v' orr) ∧ (∀ F tm oss, RepTL P w F tm oss (outsOf kp (cs.drop rts.length) n) vs oo) ∧ (outsOf kp (cs.drop rts.length) n).length = vs.length ∧ (orr ++ oo).Nodup ∧
   ∀ b, b ∈ orr ∨ b ∈ oo → (b ∈ os ∨ w0.1.heap.size ≤ b) ∧ b < w.heap.size := by
 obtain ⟨F, oss, h⟩ := h
 obtain ⟨F', oss', oc, vals, S', k1, k2, k3, k4, k5, k6⟩ := h.ret hc
 simp only [List.append_nil] at k2
 rw [hrs, ← List.map_append, mapM_tmps] at k1
 injection k1 with k1
 subst k1
 have hown : ∀ b ∈ oc, (b ∈ os ∨ w0.1.heap.size ≤ b) ∧ b < w.heap.size := fun b hb => ⟨by
  rcases Nat.lt_or_ge b w0.1.heap.size with hlt | hge
  ·by_cases hx : b ∈ os
   ·exact .inl hx
   ·exact (k2.xG b hb (hG b hlt hx)).elim
  ·exact .inr hge, (k2.xo b hb).2⟩
 have h1 : (fn.results.toList.mapM (resOne (fun i => a.tmps.getD i undef))).run P w = .ok (rts.map (tmo a)) w := by
  rw [hrs]; exact mapM_tmps _ _
 have hclen : cs.length = rts.length + kp.length := by rw [k4]; simp
 obtain ⟨o1, o2, rfl, s1, s2⟩ := (k3.all (tmo a) oss').split rts.length k4
 have hx := k2.xn
 have hx2 := List.nodup_append.1 hx
 have freshT : ∀ (l : List AV) (k : Nat), freshL l = true → freshL (l.take k) = true ∧ freshL (l.drop k) = true := by
  intro l
  induction l with
  | nil => intro k _; simp [freshL]
  | cons c l ih =>
   intro k hl
   simp [freshL] at hl
   cases k with
   | zero => simp [freshL, hl]
   | succ k => simpa [freshL, hl.1] using ih k hl.2
 have hf1 := (freshT cs rts.length hf).1
 have hf2 := (freshT cs rts.length hf).2
 have e1 : ((rts ++ kp).map (tmo a)).take rts.length = rts.map (tmo a) := by
  rw [List.map_append, List.take_left' (by simp)]
 have e2 : ((rts ++ kp).map (tmo a)).drop rts.length = kp.map (tmo a) := by
  rw [List.map_append, List.drop_left' (by simp)]
 rw [e1] at s1
 rw [e2] at s2
 have hkv : kp.map (tmo a) = kp.map w0.2 := List.map_congr_left (fun i hi => k2.kp i (hkN i hi))
 rw [hkv] at s2
 let vl : Nat → Value := fun i => vs.getD i undef
 have hvl2 : kp.map w0.2 = kp.map vl := List.map_congr_left (fun i hi => by simp [vl, List.getD, hv i hi])
 rw [hvl2] at s2
 have hrange : (List.range n).map vl = vs := by
  subst hvl
  apply List.ext_getElem?
  intro i
  rw [List.getElem?_map]
  by_cases hi : i < vs.length
  ·simp [hi, vl, List.getD]
  ·simp [hi]
 obtain ⟨oo, q1, q2, q3⟩ := outs_rep hkp hf2 (by rw [List.length_drop, hclen]; omega) s2 n hx2.2.1
 rw [hrange] at q1
 have hrl : (cs.take rts.length).length = rts.length := by rw [List.length_take]; omega
 refine ⟨_, results_run fn a.tmps h1, _, o1, oo, rfl, k2.ext, fun F tm oss => ?_, q1, by simp [outsOf, hvl], List.nodup_append.2 ⟨hx2.1, q3, fun x hx y hy => hx2.2.2 x hx y (q2 y hy)⟩,
  fun b hb => hown b (by rcases hb with hb | hb; exact List.mem_append.2 (.inl hb); exact List.mem_append.2 (.inr (q2 b hb)))⟩
 unfold retOf
 split
 ·rename_i c hcs
  rw [hcs] at s1 hrl hf1
  obtain ⟨t, rfl⟩ := List.length_eq_one_iff.1 hrl.symm
  simp only [List.map_cons, List.map_nil, List.length_cons, List.length_nil, Nat.zero_add, dite_true, List.getElem_cons_zero] at s1 ⊢
  generalize ho : o1 = o1' at s1
  cases s1 with
  | cons _ _ p1 _ _ p2 g1 g2 =>
   cases g2
   simp only [List.append_nil] at ho
   subst ho
   simp [freshL] at hf1
   rw [List.append_nil]
   exact g1.bare hf1
 ·rename_i hne
  have hl : (rts.map (tmo a)).length ≠ 1 := by
   intro e
   rw [List.length_map, ← hrl] at e
   obtain ⟨c, hc'⟩ := List.length_eq_one_iff.1 e
   exact hne c hc'
  rw [dif_neg hl]
  exact (RepT.tup _ _ _ (by rw [hrl]; simp) s1).bare (by simpa [freshOK] using hf1)
theorem mcon_of_vc (hm : P.follows .mixedOrders = true) {f : FuncId} {fn : Func} {c : Code} (cf : Cfg) {args : List AV} {r : AV} {outs : List AV} (rts kp : List Nat) (hfn : P.funcs[f]? = some fn) (hname : (fn.name == "runtime.NumGoroutine") = false) (hb : fn.body = some c)
  (hrs : fn.results.toList = rts.map .tmp) (hkp : kp.Nodup) (hkl : ∀ i ∈ kp, i < args.length) (hn : args.length ≤ fn.ntmps) (hd : dstsOk (fn.ntmps, kp) c = true)
  (h : vc P cf (fn.ntmps, kp) c (retM P fn.results.toList kp args.length r outs) (initS args)) : MCon P f args r outs := by
 refine ⟨⟨fn, hfn, hname, by simp [hb]⟩, ?_⟩
 intro w vs os hl hos hosl hrep
 refine calls_of_wp hfn hb ?_
 have hgetv : ∀ i v, vs[i]? = some v → tmo { tmps := vs.toArray ++ Array.replicate (fn.ntmps - vs.toArray.size) undef, defers := [] } i = v := by
  intro i v hi
  have hlt : i < vs.length := (List.getElem?_eq_some_iff.1 hi).1
  have h3 : (vs.toArray ++ Array.replicate (fn.ntmps - vs.toArray.size) undef)[i]? = some v := by
   rw [Array.getElem?_append_left (by simpa using hlt)]; simpa using hi
  simp only [List.size_toArray] at h3
  simp [tmo, h3]
 obtain ⟨f, f1, f2, f3, f4⟩ := (hrep (tmo { tmps := vs.toArray ++ Array.replicate (fn.ntmps - vs.toArray.size) undef, defers := [] }) (fun _ => [])).parts
 obtain ⟨n1, n2⟩ := f4 hos
 have hst : StRel P (fn.ntmps, kp) (fun b => b < w.heap.size ∧ b ∉ os) ⟨w, fun i => vs.getD i undef, fun b => b < w.heap.size ∧ b ∉ os⟩ (initS args) { tmps := vs.toArray ++ Array.replicate (fn.ntmps - vs.toArray.size) undef, defers := [] } w := by
  refine ⟨fun b => b < w.heap.size ∧ b ∉ os, f, { sz := ?_, kp := fun i hi => ?_, df := rfl, ext := Ext.refl _ _, fB := fun _ h => h, fN := fun _ h => .inl h, gw := fun _ h => h.1, oG := fun i b hb h => h.2 (f3 i b hb), xG := by simp, fw := fun _ h => h.1, rep := fun i => ?_, own := fun i b hb => ⟨fun h => h.2 (f3 i b hb), hosl b (f3 i b hb)⟩, nd := n1, dj := n2, xo := by simp, xn := List.nodup_nil, xd := by simp }⟩
  ·simp; omega
  ·have hlt : i < vs.length := by rw [← hl]; exact hkl i hi
   rw [hgetv i vs[i] (List.getElem?_eq_getElem hlt)]
   simp [List.getD, hlt]
  ·unfold initS
   split
   ·rename_i c hi
    obtain ⟨v, h1, h2⟩ := f1 i c hi
    rw [hgetv i v h1]
    exact RepT.mono (fun _ h => h) (fun s p u k => walkIn_mono (by simp) (fun _ _ => rfl) k) h2 (fun _ _ => rfl)
   ·rename_i hi
    rw [f2 i (by simpa using hi)]
    exact .any _
 refine vc_sound hm hd hst h (fun e S a w' hq hr => ?_)
 have fin : (∃ cs, retAV P S (fn.results.toList ++ kp.map .tmp) = some cs ∧ retOf (cs.take fn.results.toList.length) = r ∧ outsOf kp (cs.drop fn.results.toList.length) args.length = outs ∧ freshL cs = true) →
   ∃ v, (results fn a.tmps).run P w' = .ok v w' ∧ (∃ v' orr oo, Ending.returned v = .returned v' ∧ Ext (fun b => b < w.heap.size ∧ b ∉ os) w w' ∧
   (∀ F tm oss, RepT P w' F tm oss r v' orr) ∧ (∀ F tm oss, RepTL P w' F tm oss outs vs oo) ∧ outs.length = vs.length ∧ (orr ++ oo).Nodup ∧
   ∀ b, b ∈ orr ∨ b ∈ oo → (b ∈ os ∨ w.heap.size ≤ b) ∧ b < w'.heap.size) := by
  rintro ⟨cs, h1, rfl, rfl, hfr⟩
  have hrl : fn.results.toList.length = rts.length := by rw [hrs]; simp
  rw [hrl]
  exact ret_soundM (w0 := ⟨w, fun i => vs.getD i undef, fun b => b < w.heap.size ∧ b ∉ os⟩) hr (fun b h1 h2 => ⟨h1, h2⟩) hrs hkp (fun i hi => hi) h1 hfr
   (fun i hi => by have hlt : i < vs.length := by rw [← hl]; exact hkl i hi
                   simp [List.getD, hlt]) hl.symm
 have hdf : a.defers = [] := by obtain ⟨_, _, h⟩ := hr; exact h.df
 cases e with
 | normal => exact ⟨hdf, fin hq⟩
 | ret => exact ⟨hdf, fin hq⟩
 | _ => exact hq.elim
def retG (P : Program) (rs : List ResultVar) (kp : List Nat) (n : Nat) (r : AV) (outs : List AV) : Exit → St → Prop
 | .normal, S => ∃ cs, retAV P S (rs ++ kp.map .tmp) = some cs ∧ retOf (cs.take rs.length) = r ∧ outsOf kp (cs.drop rs.length) n = outs
 | .ret, S => ∃ cs, retAV P S (rs ++ kp.map .tmp) = some cs ∧ retOf (cs.take rs.length) = r ∧ outsOf kp (cs.drop rs.length) n = outs
 | _, _ => False
theorem outs_repG {kp : List Nat} {cs : List AV} (hlen : cs.length = kp.length) {o : List Nat} {vals : Nat → Value}
  (h : UL P w F cs (kp.map vals) o) (n : Nat) (ho : o.Nodup) : ∃ oo, (∀ tm oss, RepTL P w F tm oss (outsOf kp cs n) ((List.range n).map vals) oo) ∧ (∀ b, b ∈ oo → b ∈ o) ∧ oo.Nodup := by
 obtain ⟨f, f1, f3, f4⟩ := h.parts
 obtain ⟨n1, n2⟩ := f4 ho
 let g : Nat → List Nat := fun i => match kp.idxOf? i with
  | some j => f j
  | none => []
 have hg : ∀ i b, b ∈ g i → b ∈ o := fun i b hb => by
  simp only [g] at hb
  split at hb
  ·exact f3 _ b hb
  ·simp at hb
 have main : ∀ m, m ≤ n → ∃ oo, (∀ tm oss, RepTL P w F tm oss (((List.range' (n - m) m)).map fun i => match kp.idxOf? i with | some j => cs.getD j .any | none => .any) ((List.range' (n - m) m).map vals) oo) ∧
   (∀ b, b ∈ oo → ∃ i, n - m ≤ i ∧ b ∈ g i) ∧ oo.Nodup := by
  intro m
  induction m with
  | zero => intro _; exact ⟨[], fun _ _ => .nil _, by simp, List.nodup_nil⟩
  | succ m ih =>
   intro hm
   obtain ⟨oo, k1, k2, k3⟩ := ih (by omega)
   have e : List.range' (n - (m + 1)) (m + 1) = (n - (m + 1)) :: List.range' (n - m) m := by
    rw [List.range'_succ]; congr 1; congr 1; omega
   rw [e]
   refine ⟨g (n - (m + 1)) ++ oo, fun tm oss => ?_, fun b hb => ?_, ?_⟩
   ·refine .cons _ _ _ _ _ _ ?_ (k1 tm oss)
    simp only [g]
    split
    ·rename_i j hj
     have hjl := idx_spec hj
     have hjc : cs[j]? = some (cs.getD j .any) := by
      have hl : j < cs.length := by omega
      simp [List.getD, List.getElem?_eq_getElem hl]
     obtain ⟨v, e1, e2⟩ := f1 j _ hjc
     have hv : v = vals (n - (m + 1)) := by
      rw [List.getElem?_map, hjl.2] at e1
      simpa using e1.symm
     subst hv
     exact e2 tm oss
    ·exact .any _
   ·rcases List.mem_append.1 hb with hb | hb
    ·exact ⟨_, Nat.le_refl _, hb⟩
    ·obtain ⟨i, h1, h2⟩ := k2 b hb
     exact ⟨i, by omega, h2⟩
   ·refine List.nodup_append.2 ⟨?_, k3, fun x hx y hy e => ?_⟩
    ·simp only [g]; split; exact n1 _; exact List.nodup_nil
    ·subst e
     obtain ⟨i, h1, h2⟩ := k2 x hy
     simp only [g] at hx h2
     split at hx
     ·rename_i j hj
      split at h2
      ·rename_i j' hj'
       have := n2 j j' x hx h2
       subst this
       have e1 := (idx_spec hj).2
       rw [(idx_spec hj').2] at e1
       injection e1 with e1
       omega
      ·simp at h2
     ·simp at hx
 obtain ⟨oo, k1, k2, k3⟩ := main n (Nat.le_refl _)
 refine ⟨oo, fun tm oss => ?_, fun b hb => ?_, k3⟩
 ·have := k1 tm oss
  rw [Nat.sub_self, ← List.range_eq_range'] at this
  exact this
 ·obtain ⟨i, _, h2⟩ := k2 b hb
  exact hg i b h2
theorem ret_soundG {N : Nat × List Nat} (h : StRel P N G w0 S a w) {os : List Nat} (hG : ∀ b, b < w0.1.heap.size → b ∉ os → G b) {fn : Func} {rts kp : List Nat} (hrs : fn.results.toList = rts.map .tmp)
  (hkN : ∀ i ∈ kp, i ∈ N.2) {n : Nat} {cs : List AV} (hc : retAV P S (fn.results.toList ++ kp.map .tmp) = some cs) {vs : List Value} (hv : ∀ i ∈ kp, vs[i]? = some (w0.2 i)) (hvl : vs.length = n) :
  ∃ v, (results fn a.tmps).run P w = .ok v w ∧ ∃ (v' : Value) (orr oo : List Nat) (F' : Nat → Prop), Ending.returned v = .returned v' ∧ Ext G w0.1 w ∧ (∀ b, w0.3 b → F' b) ∧
   (∀ b, F' b → w0.3 b ∨ ((b ∈ os ∨ w0.1.heap.size ≤ b) ∧ b < w.heap.size)) ∧
   (∀ tm oss, RepT P w F' tm oss (retOf (cs.take rts.length)) v' orr) ∧ (∀ tm oss, RepTL P w F' tm oss (outsOf kp (cs.drop rts.length) n) vs oo) ∧ (outsOf kp (cs.drop rts.length) n).length = vs.length ∧ (orr ++ oo).Nodup ∧
   ∀ b, b ∈ orr ∨ b ∈ oo → (b ∈ os ∨ w0.1.heap.size ≤ b) ∧ b < w.heap.size ∧ ¬ F' b := by
 obtain ⟨F, oss, h⟩ := h
 obtain ⟨F', oss', oc, vals, S', k1, k2, k3, k4, k5, k6⟩ := h.ret hc
 simp only [List.append_nil] at k2
 rw [hrs, ← List.map_append, mapM_tmps] at k1
 injection k1 with k1
 subst k1
 have hnG : ∀ b, ¬ G b → b ∈ os ∨ w0.1.heap.size ≤ b := fun b hb => by
  rcases Nat.lt_or_ge b w0.1.heap.size with hlt | hge
  ·by_cases hx : b ∈ os
   ·exact .inl hx
   ·exact (hb (hG b hlt hx)).elim
  ·exact .inr hge
 have hown : ∀ b ∈ oc, (b ∈ os ∨ w0.1.heap.size ≤ b) ∧ b < w.heap.size ∧ ¬ F' b := fun b hb => ⟨hnG b (k2.xG b hb), (k2.xo b hb).2, (k2.xo b hb).1⟩
 have h1 : (fn.results.toList.mapM (resOne (fun i => a.tmps.getD i undef))).run P w = .ok (rts.map (tmo a)) w := by
  rw [hrs]; exact mapM_tmps _ _
 have hclen : cs.length = rts.length + kp.length := by rw [k4]; simp
 obtain ⟨o1, o2, rfl, s1, s2⟩ := k3.split rts.length
 have hx := k2.xn
 have hx2 := List.nodup_append.1 hx
 have e1 : ((rts ++ kp).map (tmo a)).take rts.length = rts.map (tmo a) := by
  rw [List.map_append, List.take_left' (by simp)]
 have e2 : ((rts ++ kp).map (tmo a)).drop rts.length = kp.map (tmo a) := by
  rw [List.map_append, List.drop_left' (by simp)]
 rw [e1] at s1
 rw [e2] at s2
 have hkv : kp.map (tmo a) = kp.map w0.2 := List.map_congr_left (fun i hi => k2.kp i (hkN i hi))
 rw [hkv] at s2
 let vl : Nat → Value := fun i => vs.getD i undef
 have hvl2 : kp.map w0.2 = kp.map vl := List.map_congr_left (fun i hi => by simp [vl, List.getD, hv i hi])
 rw [hvl2] at s2
 have hrange : (List.range n).map vl = vs := by
  subst hvl
  apply List.ext_getElem?
  intro i
  rw [List.getElem?_map]
  by_cases hi : i < vs.length
  ·simp [hi, vl, List.getD]
  ·simp [hi]
 obtain ⟨oo, q1, q2, q3⟩ := outs_repG (by rw [List.length_drop, hclen]; omega) s2 n hx2.2.1
 rw [hrange] at q1
 have hrl : (cs.take rts.length).length = rts.length := by rw [List.length_take]; omega
 refine ⟨_, results_run fn a.tmps h1, _, o1, oo, F', rfl, k2.ext, k2.fB, fun b hb => ?_, fun tm oss => ?_, q1, by simp [outsOf, hvl], List.nodup_append.2 ⟨hx2.1, q3, fun x hx y hy => hx2.2.2 x hx y (q2 y hy)⟩,
  fun b hb => hown b (by rcases hb with hb | hb; exact List.mem_append.2 (.inl hb); exact List.mem_append.2 (.inr (q2 b hb)))⟩
 ·rcases k2.fN b hb with h | h
  ·exact .inl h
  ·exact .inr ⟨hnG b h, k2.fw b hb⟩
 have s1 := s1.all tm oss
 unfold retOf
 split
 ·rename_i c hcs
  rw [hcs] at s1 hrl
  obtain ⟨t, rfl⟩ := List.length_eq_one_iff.1 hrl.symm
  simp only [List.map_cons, List.map_nil, List.length_cons, List.length_nil, Nat.zero_add, dite_true, List.getElem_cons_zero] at s1 ⊢
  generalize ho : o1 = o1' at s1
  cases s1 with
  | cons _ _ p1 _ _ p2 g1 g2 =>
   cases g2
   simp only [List.append_nil] at ho
   subst ho
   rw [List.append_nil]
   exact g1
 ·rename_i hne
  have hl : (rts.map (tmo a)).length ≠ 1 := by
   intro e
   rw [List.length_map, ← hrl] at e
   obtain ⟨c, hc'⟩ := List.length_eq_one_iff.1 e
   exact hne c hc'
  rw [dif_neg hl]
  exact .tup _ _ _ (by rw [hrl]; simp) s1
theorem gcon_of_vc (hm : P.follows .mixedOrders = true) {f : FuncId} {fn : Func} {c : Code} (cf : Cfg) {args : List AV} {r : AV} {outs : List AV} (rts kp : List Nat) (hfn : P.funcs[f]? = some fn) (hname : (fn.name == "runtime.NumGoroutine") = false) (hb : fn.body = some c)
  (hrs : fn.results.toList = rts.map .tmp) (hkl : ∀ i ∈ kp, i < args.length) (hn : args.length ≤ fn.ntmps) (hd : dstsOk (fn.ntmps, kp) c = true)
  (h : vc P cf (fn.ntmps, kp) c (retG P fn.results.toList kp args.length r outs) (initS args)) : GCon P f args r outs := by
 refine ⟨⟨fn, hfn, hname, by simp [hb]⟩, ?_⟩
 intro w vs os F0 hl hos hosl hF0 hrep
 refine calls_of_wp hfn hb ?_
 have hgetv : ∀ i v, vs[i]? = some v → tmo { tmps := vs.toArray ++ Array.replicate (fn.ntmps - vs.toArray.size) undef, defers := [] } i = v := by
  intro i v hi
  have hlt : i < vs.length := (List.getElem?_eq_some_iff.1 hi).1
  have h3 : (vs.toArray ++ Array.replicate (fn.ntmps - vs.toArray.size) undef)[i]? = some v := by
   rw [Array.getElem?_append_left (by simpa using hlt)]; simpa using hi
  simp only [List.size_toArray] at h3
  simp [tmo, h3]
 obtain ⟨f, f1, f2, f3, f4⟩ := (hrep (tmo { tmps := vs.toArray ++ Array.replicate (fn.ntmps - vs.toArray.size) undef, defers := [] }) (fun _ => [])).parts
 obtain ⟨n1, n2⟩ := f4 hos
 have hst : StRel P (fn.ntmps, kp) (fun b => b < w.heap.size ∧ b ∉ os) ⟨w, fun i => vs.getD i undef, F0⟩ (initS args) { tmps := vs.toArray ++ Array.replicate (fn.ntmps - vs.toArray.size) undef, defers := [] } w := by
  refine ⟨F0, f, { sz := ?_, kp := fun i hi => ?_, df := rfl, ext := Ext.refl _ _, fB := fun _ h => h, fN := fun _ h => .inl h, gw := fun _ h => h.1, oG := fun i b hb h => h.2 (f3 i b hb), xG := by simp, fw := hF0, rep := fun i => ?_, own := fun i b hb => ⟨(hosl b (f3 i b hb)).2, (hosl b (f3 i b hb)).1⟩, nd := n1, dj := n2, xo := by simp, xn := List.nodup_nil, xd := by simp }⟩
  ·simp; omega
  ·have hlt : i < vs.length := by rw [← hl]; exact hkl i hi
   rw [hgetv i vs[i] (List.getElem?_eq_getElem hlt)]
   simp [List.getD, hlt]
  ·unfold initS
   split
   ·rename_i c hi
    obtain ⟨v, h1, h2⟩ := f1 i c hi
    rw [hgetv i v h1]
    exact RepT.mono (fun _ h => h) (fun s p u k => walkIn_mono (by simp) (fun _ _ => rfl) k) h2 (fun _ _ => rfl)
   ·rename_i hi
    rw [f2 i (by simpa using hi)]
    exact .any _
 refine vc_sound hm hd hst h (fun e S a w' hq hr => ?_)
 have fin : (∃ cs, retAV P S (fn.results.toList ++ kp.map .tmp) = some cs ∧ retOf (cs.take fn.results.toList.length) = r ∧ outsOf kp (cs.drop fn.results.toList.length) args.length = outs) →
   ∃ v, (results fn a.tmps).run P w' = .ok v w' ∧ (∃ (v' : Value) (orr oo : List Nat) (F' : Nat → Prop), Ending.returned v = .returned v' ∧ Ext (fun b => b < w.heap.size ∧ b ∉ os) w w' ∧ (∀ b, F0 b → F' b) ∧
   (∀ b, F' b → F0 b ∨ ((b ∈ os ∨ w.heap.size ≤ b) ∧ b < w'.heap.size)) ∧
   (∀ tm oss, RepT P w' F' tm oss r v' orr) ∧ (∀ tm oss, RepTL P w' F' tm oss outs vs oo) ∧ outs.length = vs.length ∧ (orr ++ oo).Nodup ∧
   ∀ b, b ∈ orr ∨ b ∈ oo → (b ∈ os ∨ w.heap.size ≤ b) ∧ b < w'.heap.size ∧ ¬ F' b) := by
  rintro ⟨cs, h1, rfl, rfl⟩
  have hrl : fn.results.toList.length = rts.length := by rw [hrs]; simp
  rw [hrl]
  exact ret_soundG (w0 := ⟨w, fun i => vs.getD i undef, F0⟩) hr (fun b h1 h2 => ⟨h1, h2⟩) hrs (fun i hi => hi) h1
   (fun i hi => by have hlt : i < vs.length := by rw [← hl]; exact hkl i hi
                   simp [List.getD, hlt]) hl.symm
 have hdf : a.defers = [] := by obtain ⟨_, _, h⟩ := hr; exact h.df
 cases e with
 | normal => exact ⟨hdf, fin hq⟩
 | ret => exact ⟨hdf, fin hq⟩
 | _ => exact hq.elim
def retR (P : Program) (rs : List ResultVar) (kp : List Nat) (n : Nat) (R : AV → List AV → Prop) : Exit → St → Prop
 | .normal, S => ∃ cs, retAV P S (rs ++ kp.map .tmp) = some cs ∧ R (retOf (cs.take rs.length)) (outsOf kp (cs.drop rs.length) n)
 | .ret, S => ∃ cs, retAV P S (rs ++ kp.map .tmp) = some cs ∧ R (retOf (cs.take rs.length)) (outsOf kp (cs.drop rs.length) n)
 | _, _ => False
end
end Go.Abs


namespace Go.Abs
variable [DrawK]
open Go.RowKit (Below)
def reset (W : List Nat) (T : List (Nat × AV)) (S : St) : St := fun i => match T.lookup i with
 | some v => v
 | none => if W.contains i then .any else kl W (S i)
def Off (W : List Nat) (S0 S : St) : Prop := ∀ i, i ∉ W → kl W (S i) = kl W (S0 i)
def Trk (S : St) : List (Nat × AV) → Prop
 | [] => True
 | (d, v) :: T => S d = v ∧ Trk S T
def Nb (W : List Nat) : List (Nat × AV) → Prop
 | [] => True
 | (_, v) :: T => kl W v = v ∧ Nb W T
mutual
theorem kl_comp {W V : List Nat} (h : ∀ x ∈ V, x ∈ W) : ∀ c : AV, kl W (kl V c) = kl W c
 | .bor s p => by
  by_cases hv : s ∈ V
  ·have := h s hv; simp [kl, hv, this]
  ·simp [kl, hv]
 | .ptr s p o => by
  by_cases hv : s ∈ V
  ·have := h s hv; simp [kl, hv, this]
  ·simp [kl, hv]
 | .slp s p o n => by
  by_cases hv : s ∈ V
  ·have := h s hv; simp [kl, hv, this]
  ·simp [kl, hv]
 | .agg cs => by simp [kl, klL_comp h cs]
 | .tup cs => by simp [kl, klL_comp h cs]
 | .fn f cs => by simp [kl, klL_comp h cs]
 | .any => rfl
 | .val v => rfl
 | .sl n cs => rfl
 | .own e n cs => rfl
 | .box e cs => rfl
 | .fptr cs => rfl
 | .mp c => rfl
 | .fmp c => rfl
 | .it l es => rfl
theorem klL_comp {W V : List Nat} (h : ∀ x ∈ V, x ∈ W) : ∀ cs : List AV, klL W (klL V cs) = klL W cs
 | [] => rfl
 | c :: cs => by simp [klL, kl_comp h c, klL_comp h cs]
end
mutual
theorem kl_kn {W : List Nat} {d : Nat} (h : d ∈ W) : ∀ c : AV, kl W (kn d c) = kl W c
 | .bor s p => by
  by_cases hv : s = d
  ·subst hv; cases p <;> simp [kl, kn, h]
  ·simp [kl, kn, hv]
 | .ptr s p o => by
  by_cases hv : s = d
  ·subst hv; cases p <;> simp [kl, kn, h]
  ·simp [kl, kn, hv]
 | .slp s p o n => by
  by_cases hv : s = d
  ·subst hv; cases p <;> simp [kl, kn, h]
  ·simp [kl, kn, hv]
 | .agg cs => by simp [kl, kn, klL_knL h cs]
 | .tup cs => by simp [kl, kn, klL_knL h cs]
 | .fn f cs => by simp [kl, kn, klL_knL h cs]
 | .any => rfl
 | .val v => rfl
 | .sl n cs => rfl
 | .own e n cs => rfl
 | .box e cs => rfl
 | .fptr cs => rfl
 | .mp c => rfl
 | .fmp c => rfl
 | .it l es => rfl
theorem klL_knL {W : List Nat} {d : Nat} (h : d ∈ W) : ∀ cs : List AV, klL W (knL d cs) = klL W cs
 | [] => rfl
 | c :: cs => by simp [klL, knL, kl_kn h c, klL_knL h cs]
end
mutual
theorem kl_kn1 {W : List Nat} {d : Nat} {q : List (List Nat)} (h : d ∈ W) : ∀ c : AV, kl W (kn1 d q c) = kl W c
 | .bor s p => by
  by_cases hv : s = d
  ·subst hv
   by_cases hp : kpB q p = true <;> simp [kl, kn1, h, hp]
  ·simp [kl, kn1, hv]
 | .ptr s p o => by
  by_cases hv : s = d
  ·subst hv
   by_cases hp : kpB q p = true <;> simp [kl, kn1, h, hp]
  ·simp [kl, kn1, hv]
 | .slp s p o n => by
  by_cases hv : s = d
  ·subst hv
   by_cases hp : kpB q p = true <;> simp [kl, kn1, h, hp]
  ·simp [kl, kn1, hv]
 | .agg cs => by simp [kl, kn1, klL_kn1L h cs]
 | .tup cs => by simp [kl, kn1, klL_kn1L h cs]
 | .fn f cs => by simp [kl, kn1, klL_kn1L h cs]
 | .any => rfl
 | .val v => rfl
 | .sl n cs => rfl
 | .own e n cs => rfl
 | .box e cs => rfl
 | .fptr cs => rfl
 | .mp c => rfl
 | .fmp c => rfl
 | .it l es => rfl
theorem klL_kn1L {W : List Nat} {d : Nat} {q : List (List Nat)} (h : d ∈ W) : ∀ cs : List AV, klL W (kn1L d q cs) = klL W cs
 | [] => rfl
 | c :: cs => by simp [klL, kn1L, kl_kn1 h c, klL_kn1L h cs]
end
theorem Off.refl (W : List Nat) (S : St) : Off W S S := fun _ _ => rfl
theorem Off.upd {W : List Nat} {S0 S : St} {d : Nat} {v : AV} (hd : d ∈ W) (h : Off W S0 S) : Off W S0 (upd d v S) := fun i hi => by
 have hne : i ≠ d := fun e => hi (e ▸ hd)
 show kl W (kl [d] (if i = d then v else S i)) = _
 rw [if_neg hne, kl_comp (by simpa using hd)]
 exact h i hi
theorem Off.updn {W : List Nat} {S0 S : St} {d : Nat} {v : AV} (hd : d ∈ W) (h : Off W S0 S) : Off W S0 (updn d v S) := fun i hi => by
 have hne : i ≠ d := fun e => hi (e ▸ hd)
 show kl W (if i = d then v else kn d (S i)) = _
 rw [if_neg hne, kl_kn hd]
 exact h i hi
theorem Off.updn1 {W : List Nat} {S0 S : St} {d : Nat} {v : AV} {q : List (List Nat)} (hd : d ∈ W) (h : Off W S0 S) : Off W S0 (updn1 d v q S) := fun i hi => by
 have hne : i ≠ d := fun e => hi (e ▸ hd)
 show kl W (if i = d then v else kn1 d q (S i)) = _
 rw [if_neg hne, kl_kn1 hd]
 exact h i hi
theorem Off.reset {W V : List Nat} {T : List (Nat × AV)} {S0 S : St} (hV : ∀ x ∈ V, x ∈ W) (hT : ∀ p ∈ T, p.1 ∈ W) (h : Off W S0 S) : Off W S0 (reset V T S) := fun i hi => by
 unfold Abs.reset
 split
 ·rename_i v hl
  have : ∃ p ∈ T, p.1 = i := by
   clear h hV
   induction T with
   | nil => simp at hl
   | cons p T ih =>
    obtain ⟨d, u⟩ := p
    rw [List.lookup_cons] at hl
    split at hl
    ·rename_i e; exact ⟨(d, u), by simp, by simpa using Eq.symm (by simpa using e)⟩
    ·obtain ⟨q, h1, h2⟩ := ih (fun p hp => hT p (by simp [hp])) hl
     exact ⟨q, by simp [h1], h2⟩
  obtain ⟨p, hp, e⟩ := this
  exact (hi (e ▸ hT p hp)).elim
 ·rename_i hl
  split
  ·rename_i hc
   exact (hi (hV i (by simpa using hc))).elim
  ·rw [kl_comp hV]; exact h i hi
section
variable {P : Program} {N : Nat × List Nat} {G : Nat → Prop} {w0 : W0} {w w' : World} {S : St} {a : Act} {F : Nat → Prop} {oss : Nat → List Nat} {X : List Nat}
theorem Trk.lookup {S : St} : ∀ {T : List (Nat × AV)}, Trk S T → ∀ {i v}, T.lookup i = some v → S i = v
 | [], _, i, v, h => by simp at h
 | (d, u) :: T, ht, i, v, h => by
  rw [List.lookup_cons] at h
  split at h
  ·rename_i e
   have e : i = d := by simpa using e
   injection h with h
   rw [e, ← h]; exact ht.1
  ·exact Trk.lookup ht.2 h
theorem Nb.lookup {W : List Nat} : ∀ {T : List (Nat × AV)}, Nb W T → ∀ {i v}, T.lookup i = some v → kl W v = v
 | [], _, i, v, h => by simp at h
 | (d, u) :: T, ht, i, v, h => by
  rw [List.lookup_cons] at h
  split at h
  ·injection h with h
   rw [← h]; exact ht.1
  ·exact Nb.lookup ht.2 h
theorem weak_of {W : List Nat} {T : List (Nat × AV)} {S0 S : St} (h1 : Off W S0 S) (h2 : Trk S T) (h3 : Nb W T) : Weak S (reset W T S0) := by
 intro P N G w0 a w h
 obtain ⟨F, oss, h⟩ := h
 let oss' : Nat → List Nat := fun i => if (T.lookup i).isNone && W.contains i then [] else oss i
 have hsub : ∀ i b, b ∈ oss' i → b ∈ oss i := fun i b hb => by
  simp only [oss'] at hb; split at hb
  ·simp at hb
  ·exact hb
 have hk : ∀ s p u, ¬ s ∈ W → walkIn w (oss s) (tmo a s) p u → walkIn w (oss' s) (tmo a s) p u := by
  intro s p u hs k
  have : oss' s = oss s := by simp only [oss']; rw [if_neg (by simp [hs])]
  rw [this]; exact k
 refine ⟨F, oss', { sz := h.sz, kp := h.kp, df := h.df, ext := h.ext, fB := h.fB, fN := h.fN, gw := h.gw, oG := fun i b hb => h.oG i b (hsub i b hb), xG := by simp, fw := h.fw, rep := fun i => ?_, own := fun i b hb => h.own i b (hsub i b hb), nd := fun i => ?_, dj := fun i j b hi hj => h.dj i j b (hsub i b hi) (hsub j b hj), xo := by simp, xn := List.nodup_nil, xd := by simp }⟩
 ·show RepT P w F (tmo a) oss' (match T.lookup i with | some v => v | none => if W.contains i then .any else kl W (S0 i)) (tmo a i) (oss' i)
  split
  ·rename_i v hl
   have e : oss' i = oss i := by simp only [oss']; rw [if_neg (by simp [hl])]
   rw [e]
   have := h.rep i
   rw [h2.lookup hl] at this
   have k := RepT.kl W (fun _ h => h) hk this (fun _ _ => rfl)
   rwa [h3.lookup hl] at k
  ·rename_i hl
   split
   ·rename_i hc
    have e : oss' i = [] := by simp only [oss']; rw [if_pos (by simp [hl]; simpa using hc)]
    rw [e]; exact .any _
   ·rename_i hc
    have e : oss' i = oss i := by simp only [oss']; rw [if_neg (by simp; intro _; simpa using hc)]
    rw [e, ← h1 i (by simpa using hc)]
    exact RepT.kl W (fun _ h => h) hk (h.rep i) (fun _ _ => rfl)
 ·simp only [oss']; split
  ·exact List.nodup_nil
  ·exact h.nd i
def loopI {α : Type} (W : List Nat) (T : α → List (Nat × AV)) (inv : α → Prop) (μ : α → Nat) (x : α) (S0 : St) (Q : Exit → St → Prop) : Exit → St → Prop
 | .normal, S => ∃ y, inv y ∧ μ y < μ x ∧ Off W S0 S ∧ Trk S (T y) ∧ Nb W (T y)
 | e, S => Q e S
@[go_sem] theorem loopI_normal {α : Type} (W : List Nat) (T : α → List (Nat × AV)) (inv : α → Prop) (μ : α → Nat) (x : α) (S0 : St) (Q : Exit → St → Prop) (S : St) :
  loopI W T inv μ x S0 Q .normal S = ∃ y, inv y ∧ μ y < μ x ∧ Off W S0 S ∧ Trk S (T y) ∧ Nb W (T y) := rfl
@[go_sem] theorem loopI_ret {α : Type} (W : List Nat) (T : α → List (Nat × AV)) (inv : α → Prop) (μ : α → Nat) (x : α) (S0 : St) (Q : Exit → St → Prop) (S : St) :
  loopI W T inv μ x S0 Q .ret S = Q .ret S := rfl
@[go_sem] theorem loopI_exit {α : Type} (W : List Nat) (T : α → List (Nat × AV)) (inv : α → Prop) (μ : α → Nat) (x : α) (S0 : St) (Q : Exit → St → Prop) (S : St) (id : Nat) :
  loopI W T inv μ x S0 Q (.exit id) S = Q (.exit id) S := rfl
theorem vc_mono {cf : Cfg} : ∀ {c : Code} {Q Q' : Exit → St → Prop} {S : St}, (∀ e S, Q e S → Q' e S) → vc P cf N c Q S → vc P cf N c Q' S := by
 have ops : ∀ (os : Array Oper) (l : List Oper) (K K' : St → Prop) (S : St), (∀ S, K S → K' S) → vcOps P cf N os l K S → vcOps P cf N os l K' S := by
  have op : ∀ (o : Oper) (K K' : St → Prop) (S : St), (∀ S, K S → K' S) → vcOp P cf N o K S → vcOp P cf N o K' S := by
   intro o K K' S hK h
   unfold vcOp at h ⊢
   split at h
   ·split at h
    ·rename_i hmu
     rw [if_pos hmu]
     unfold MVC at h ⊢
     split at h
     ·split at h
      ·obtain ⟨h1, r, outs, hc, h2⟩ := h
       refine ⟨h1, r, outs, hc, ?_⟩
       split at h2
       ·split at h2
        ·split at h2
         ·exact ⟨h2.1, hK _ h2.2⟩
         ·exact hK _ h2
        ·exact h2
       ·exact h2
      ·exact h
     ·exact h
    ·rename_i hmu
     rw [if_neg hmu]
     split at h
     ·rename_i hgu
      rw [if_pos hgu]
      unfold GVC at h ⊢
      split at h
      ·split at h
       ·obtain ⟨h1, r, outs, hc, h2⟩ := h
        refine ⟨h1, r, outs, hc, ?_⟩
        split at h2
        ·split at h2
         ·split at h2
          ·exact ⟨h2.1, hK _ h2.2⟩
          ·exact hK _ h2
         ·exact h2
        ·exact h2
       ·exact h
      ·exact h
     rename_i hgu
     rw [if_neg hgu]
     split at h
     ·rename_i hru
      rw [if_pos hru]
      unfold RVC at h ⊢
      split at h
      ·split at h
       ·obtain ⟨h1, R, hc, h2⟩ := h
        refine ⟨h1, R, hc, fun r outs hR => ?_⟩
        replace h2 := h2 r outs hR
        split at h2
        ·split at h2
         ·split at h2
          ·exact ⟨h2.1, hK _ h2.2⟩
          ·exact hK _ h2
         ·exact h2
        ·exact h2
       ·exact h
      ·exact h
     rename_i hru
     rw [if_neg hru]
     split at h
     ·obtain ⟨r, hc, h2⟩ := h
      refine ⟨r, hc, ?_⟩
      split at h2
      ·exact ⟨h2.1, hK _ h2.2⟩
      ·exact hK _ h2
     ·exact h
   ·split at h
    ·split at h
     ·obtain ⟨r, hc, h2⟩ := h
      refine ⟨r, hc, ?_⟩
      split at h2
      ·exact ⟨h2.1, hK _ h2.2⟩
      ·exact hK _ h2
     ·exact h
    ·split at h
     ·exact ⟨h.1, fun es he => hK _ (h.2 es he)⟩
     ·split at h
      ·exact ⟨h.1, fun e => hK _ (h.2.1 e), fun l1 k x l2 e => hK _ (h.2.2 l1 k x l2 e)⟩
      ·split at h
       ·exact ⟨h.1, fun b hb => hK _ (h.2 b hb)⟩
       ·split at h
        ·exact ⟨h.1, hK _ h.2⟩
        ·exact h
  intro os l
  induction l with
  | nil => intro K K' S hK h; exact hK S h
  | cons o l ih =>
   intro K K' S hK h
   unfold vcOps at h ⊢
   split at h
   ·exact op o _ _ S (fun S h => ih K K' S hK h) h
   ·split at h
    ·split at h
     ·refine ⟨h.1, fun hc => op o _ _ _ (fun S h => ih K K' S hK h) (h.2.1 hc), fun hc => ?_⟩
      exact ih K K' _ hK (h.2.2 hc)
     ·exact ih K K' _ hK h
     ·exact h
    ·exact h
 have drawH : ∀ (os : Array Oper) {Q Q' : Exit → St → Prop} (_ : ∀ e S, Q e S → Q' e S) (l : List Oper) (i : Nat) (tr : List Ent) (S : St), vcD P cf N os i l (Q .normal) tr S → vcD P cf N os i l (Q' .normal) tr S := by
  intro os Q Q' hQ l
  induction l with
  | nil => intro i tr S h; exact ⟨h.1, hQ _ _ h.2⟩
  | cons o l ih =>
   have run : ∀ (i : Nat) (G : List Nat) (tr : List Ent) (S : St), runD P cf N i o G (vcD P cf N os (i + 1) l (Q .normal)) tr S → runD P cf N i o G (vcD P cf N os (i + 1) l (Q' .normal)) tr S := by
    intro i G tr S h
    unfold runD at h ⊢
    split at h
    ·split at h
     ·rename_i hmu
      rw [if_pos hmu]
      unfold MCallD at h ⊢
      split at h
      ·split at h
       ·split at h
        ·obtain ⟨h1, r, outs, h2, h3⟩ := h
         refine ⟨h1, r, outs, h2, ?_⟩
         split at h3
         ·refine ⟨h3.1, ?_⟩
          replace h3 := h3.2
          split at h3
          ·exact ⟨h3.1, ih _ _ _ h3.2⟩
          ·exact ih _ _ _ h3
         ·exact h3
        ·exact h
       ·exact h
      ·split at h
       ·split at h
        ·split at h
         ·obtain ⟨h1, r, outs, h2, h3⟩ := h
          refine ⟨h1, r, outs, h2, ?_⟩
          split at h3
          ·refine ⟨h3.1, ?_⟩
           replace h3 := h3.2
           split at h3
           ·exact ⟨h3.1, ih _ _ _ h3.2⟩
           ·exact h3
          ·exact h3
         ·exact h
        ·exact h
       ·exact h
      ·split at h
       ·obtain ⟨h1, r, outs, h2, h3⟩ := h
        refine ⟨h1, r, outs, h2, ?_⟩
        split at h3
        ·refine ⟨h3.1, ?_⟩
         replace h3 := h3.2
         split at h3
         ·exact ⟨h3.1, ih _ _ _ h3.2⟩
         ·exact h3
        ·exact h3
       ·exact h
      ·exact h
     ·rename_i hmu
      rw [if_neg hmu]
      split at h
      ·obtain ⟨h1, r, h2, h3, h4⟩ := h
       refine ⟨h1, r, h2, h3, ?_⟩
       split at h4
       ·exact ⟨h4.1, ih _ _ _ h4.2⟩
       ·exact ih _ _ _ h4
      ·exact h
    ·split at h
     ·exact ⟨h.1, h.2.1, ih _ _ _ h.2.2⟩
     ·exact h
   have run1 : ∀ (i : Nat) (G : List Nat) (tr : List Ent) (S : St), runV P cf N i o G (vcD P cf N os (i + 1) l (Q .normal)) tr S → runV P cf N i o G (vcD P cf N os (i + 1) l (Q' .normal)) tr S := by
    intro i G tr S h
    unfold runV at h ⊢
    split at h
    ·split at h
     ·obtain ⟨h1, r, h2, h3, h4⟩ := h
      refine ⟨h1, r, h2, h3, ?_⟩
      split at h4
      ·exact ⟨h4.1, ih _ _ _ h4.2⟩
      ·exact ih _ _ _ h4
     ·exact h
    ·exact run _ _ _ _ h
   intro i tr S h
   unfold vcD at h ⊢
   split at h
   ·exact run1 _ _ _ _ h
   ·split at h
    ·unfold GuardD at h ⊢
     split at h
     ·exact ⟨h.1, fun hc => run1 _ _ _ _ (h.2.1 hc), fun hc => ⟨(h.2.2 hc).1, ih _ _ _ (h.2.2 hc).2⟩⟩
     ·exact ⟨h.1, ih _ _ _ h.2⟩
     ·exact h
    ·exact h
 have drawX : ∀ (os : Array Oper) (p0 : Nat → Nat → Bool) {Q Q' : Exit → St → Prop} (_ : ∀ e S, Q e S → Q' e S) (l : List Nat) (tr : List Ent) (S : St), vcX P cf N os p0 l (Q .normal) tr S → vcX P cf N os p0 l (Q' .normal) tr S := by
  intro os p0 Q Q' hQ l
  induction l with
  | nil => intro tr S h; exact ⟨h.1, hQ _ _ h.2⟩
  | cons i0 l ih =>
   have run : ∀ (o : Oper) (i : Nat) (G : List Nat) (tr : List Ent) (S : St), runD P cf N i o G (vcX P cf N os p0 l (Q .normal)) tr S → runD P cf N i o G (vcX P cf N os p0 l (Q' .normal)) tr S := by
    intro o i G tr S h
    unfold runD at h ⊢
    split at h
    ·split at h
     ·rename_i hmu
      rw [if_pos hmu]
      unfold MCallD at h ⊢
      split at h
      ·split at h
       ·split at h
        ·obtain ⟨h1, r, outs, h2, h3⟩ := h
         refine ⟨h1, r, outs, h2, ?_⟩
         split at h3
         ·refine ⟨h3.1, ?_⟩
          replace h3 := h3.2
          split at h3
          ·exact ⟨h3.1, ih _ _ h3.2⟩
          ·exact ih _ _ h3
         ·exact h3
        ·exact h
       ·exact h
      ·split at h
       ·split at h
        ·split at h
         ·obtain ⟨h1, r, outs, h2, h3⟩ := h
          refine ⟨h1, r, outs, h2, ?_⟩
          split at h3
          ·refine ⟨h3.1, ?_⟩
           replace h3 := h3.2
           split at h3
           ·exact ⟨h3.1, ih _ _ h3.2⟩
           ·exact h3
          ·exact h3
         ·exact h
        ·exact h
       ·exact h
      ·split at h
       ·obtain ⟨h1, r, outs, h2, h3⟩ := h
        refine ⟨h1, r, outs, h2, ?_⟩
        split at h3
        ·refine ⟨h3.1, ?_⟩
         replace h3 := h3.2
         split at h3
         ·exact ⟨h3.1, ih _ _ h3.2⟩
         ·exact h3
        ·exact h3
       ·exact h
      ·exact h
     ·rename_i hmu
      rw [if_neg hmu]
      split at h
      ·obtain ⟨h1, r, h2, h3, h4⟩ := h
       refine ⟨h1, r, h2, h3, ?_⟩
       split at h4
       ·exact ⟨h4.1, ih _ _ h4.2⟩
       ·exact ih _ _ h4
      ·exact h
    ·split at h
     ·exact ⟨h.1, h.2.1, ih _ _ h.2.2⟩
     ·exact h
   intro tr S h
   unfold vcX at h ⊢
   cases ho : os[i0]? with
   | none => rw [ho] at h; exact h.elim
   | some o =>
   rw [ho] at h
   simp only at h ⊢
   split at h
   ·exact run _ _ _ _ _ h
   ·split at h
    ·unfold GuardD at h ⊢
     split at h
     ·exact ⟨h.1, fun hc => run _ _ _ _ _ (h.2.1 hc), fun hc => ⟨(h.2.2 hc).1, ih _ _ (h.2.2 hc).2⟩⟩
     ·exact ⟨h.1, ih _ _ h.2⟩
     ·exact h
    ·exact h
 have drawY : ∀ (os : Array Oper) (p0 : Nat → Nat → Bool) (R : Nat → List Upd) {Q Q' : Exit → St → Prop} (_ : ∀ e S, Q e S → Q' e S) (l : List Nat) (tr : List Ent) (S : St), vcY P cf N os p0 R l (Q .normal) tr S → vcY P cf N os p0 R l (Q' .normal) tr S := by
  intro os p0 R Q Q' hQ l
  induction l with
  | nil => intro tr S h; exact ⟨h.1, hQ _ _ h.2⟩
  | cons i0 l ih =>
   have run : ∀ (S0 : St) (o : Oper) (i : Nat) (G : List Nat) (tr : List Ent) (S : St), runD P cf N i o G (fixK cf R i o S0 (vcY P cf N os p0 R l (Q .normal))) tr S → runD P cf N i o G (fixK cf R i o S0 (vcY P cf N os p0 R l (Q' .normal))) tr S := by
    intro S0 o i G tr S h
    unfold runD at h ⊢
    split at h
    ·split at h
     ·rename_i hmu
      rw [if_pos hmu]
      unfold MCallD at h ⊢
      split at h
      ·split at h
       ·split at h
        ·obtain ⟨h1, r, outs, h2, h3⟩ := h
         refine ⟨h1, r, outs, h2, ?_⟩
         split at h3
         ·refine ⟨h3.1, ?_⟩
          replace h3 := h3.2
          split at h3
          ·exact ⟨h3.1, h3.2.1, ih _ _ h3.2.2⟩
          ·exact ⟨h3.1, ih _ _ h3.2⟩
         ·exact h3
        ·exact h
       ·exact h
      ·split at h
       ·split at h
        ·split at h
         ·obtain ⟨h1, r, outs, h2, h3⟩ := h
          refine ⟨h1, r, outs, h2, ?_⟩
          split at h3
          ·refine ⟨h3.1, ?_⟩
           replace h3 := h3.2
           split at h3
           ·exact ⟨h3.1, h3.2.1, ih _ _ h3.2.2⟩
           ·exact h3
          ·exact h3
         ·exact h
        ·exact h
       ·exact h
      ·split at h
       ·obtain ⟨h1, r, outs, h2, h3⟩ := h
        refine ⟨h1, r, outs, h2, ?_⟩
        split at h3
        ·refine ⟨h3.1, ?_⟩
         replace h3 := h3.2
         split at h3
         ·exact ⟨h3.1, h3.2.1, ih _ _ h3.2.2⟩
         ·exact h3
        ·exact h3
       ·exact h
      ·exact h
     ·rename_i hmu
      rw [if_neg hmu]
      split at h
      ·obtain ⟨h1, r, h2, h3, h4⟩ := h
       refine ⟨h1, r, h2, h3, ?_⟩
       split at h4
       ·exact ⟨h4.1, h4.2.1, ih _ _ h4.2.2⟩
       ·exact ⟨h4.1, ih _ _ h4.2⟩
      ·exact h
    ·split at h
     ·exact ⟨h.1, h.2.1, h.2.2.1, ih _ _ h.2.2.2⟩
     ·exact h
   intro tr S h
   unfold vcY at h ⊢
   cases ho : os[i0]? with
   | none => rw [ho] at h; exact h.elim
   | some o =>
   rw [ho] at h
   simp only at h ⊢
   split at h
   ·exact run _ _ _ _ _ _ h
   ·exact h
 intro c
 induction c with
 | skip => intro Q Q' S hQ h; exact hQ _ _ h
 | region id os draw =>
  intro Q Q' S hQ h
  simp only [vc] at h ⊢
  split at h
  ·rename_i hd; rw [if_pos hd]
   unfold DrawSel at h ⊢
   split at h
   ·rename_i p0 n0 hp
    split at h
    ·rename_i h9; simp only [if_pos h9]; exact ⟨h.1, drawX os _ hQ _ _ _ h.2.1, drawX os _ hQ _ _ _ h.2.2⟩
    ·rename_i h9; simp only [if_neg h9]; exact ⟨h.1, drawX os _ hQ _ _ _ h.2.1, drawX os _ hQ _ _ _ h.2.2.1, drawX os _ hQ _ _ _ h.2.2.2⟩
   ·split at h
    ·split at h
     ·rename_i h9; simp only [if_pos h9]; obtain ⟨R, h0, h1, h2⟩ := h; exact ⟨R, h0, drawY os _ R hQ _ _ _ h1, drawY os _ R hQ _ _ _ h2⟩
     ·rename_i h9; simp only [if_neg h9]; obtain ⟨R, h0, h1, h2, h3⟩ := h; exact ⟨R, h0, drawY os _ R hQ _ _ _ h1, drawY os _ R hQ _ _ _ h2, drawY os _ R hQ _ _ _ h3⟩
    ·split at h
     ·rename_i h3
      simp only [if_pos h3]
      obtain ⟨X, Ls, R, h0, hY⟩ := h
      refine ⟨X, Ls, R, h0, ?_⟩
      clear h0
      induction Ls with
      | nil => trivial
      | cons l Ls ihL => exact ⟨drawY os _ R hQ _ _ _ hY.1, ihL hY.2⟩
     ·rename_i h3; simp only [if_neg h3]; exact ⟨h.1, drawH os hQ _ _ _ _ h.2⟩
  ·rename_i hd; rw [if_neg hd]; exact ops _ _ _ _ _ (fun S h => hQ _ _ h) h
 | seq x y ihx ihy =>
  intro Q Q' S hQ h
  refine ihx (fun e S h => ?_) h
  cases e <;> first | exact ihy hQ h | exact hQ _ _ h
 | cond c x y ihx ihy =>
  intro Q Q' S hQ h
  simp only [vc] at h ⊢
  split at h
  ·exact ⟨fun ht => ihx hQ (h.1 ht), fun ht => ihy hQ (h.2 ht)⟩
  ·exact h
 | block id b ih =>
  intro Q Q' S hQ h
  refine ih (fun e S h => ?_) h
  cases e <;> first | exact hQ _ _ h | skip
  simp only [blockQ] at h ⊢
  split at h
  ·rename_i e; rw [if_pos e]; exact hQ _ _ h
  ·rename_i e; rw [if_neg e]; exact hQ _ _ h
 | loop b ih =>
  intro Q Q' S hQ h
  obtain ⟨I, h1, h2⟩ := h
  refine ⟨I, h1, fun n S hI => ih (fun e S h => ?_) (h2 n S hI)⟩
  cases e <;> first | exact h | exact hQ _ _ h
 | exit id => intro Q Q' S hQ h; exact hQ _ _ h
 | ret => intro Q Q' S hQ h; exact hQ _ _ h
 | _ => intro Q Q' S hQ h; exact h.elim
theorem loop_inv {cf : Cfg} {b : Code} {Q : Exit → St → Prop} {S0 : St} {α : Type} (W : List Nat) (T : α → List (Nat × AV)) (inv : α → Prop) (μ : α → Nat) (x0 : α)
  (h0 : inv x0) (h1 : Trk S0 (T x0)) (h2 : Nb W (T x0)) (h : ∀ x, inv x → vc P cf N b (loopI W T inv μ x S0 Q) (reset W (T x) S0)) : LoopVC (vc P cf N b) Q S0 := by
 refine ⟨fun n S => ∃ x, inv x ∧ n = μ x ∧ S = reset W (T x) S0, ⟨μ x0, _, weak_of (Off.refl W S0) h1 h2, x0, h0, rfl, rfl⟩, ?_⟩
 rintro n S ⟨x, hx, rfl, rfl⟩
 refine vc_mono (fun e S hq => ?_) (h x hx)
 cases e with
 | normal =>
  obtain ⟨y, y1, y2, y3, y4, y5⟩ := hq
  exact ⟨μ y, y2, _, weak_of y3 y4 y5, y, y1, rfl, rfl⟩
 | _ => exact hq
end
@[go_sem] theorem reset_app (W : List Nat) (T : List (Nat × AV)) (S : St) (i : Nat) : reset W T S i = (match T.lookup i with
 | some v => v
 | none => if W.contains i then .any else kl W (S i)) := rfl
@[go_sem] theorem Trk_nil (S : St) : Trk S [] = True := rfl
@[go_sem] theorem Trk_cons (S : St) (d : Nat) (v : AV) (T : List (Nat × AV)) : Trk S ((d, v) :: T) = (S d = v ∧ Trk S T) := rfl
@[go_sem] theorem Nb_nil (W : List Nat) : Nb W [] = True := rfl
@[go_sem] theorem Nb_cons (W : List Nat) (d : Nat) (v : AV) (T : List (Nat × AV)) : Nb W ((d, v) :: T) = (kl W v = v ∧ Nb W T) := rfl
theorem Off_upd (W : List Nat) (S0 S : St) (d : Nat) (v : AV) (hd : d ∈ W) : Off W S0 (upd d v S) ↔ Off W S0 S := by
 constructor
 ·intro h i hi
  have hne : i ≠ d := fun e => hi (e ▸ hd)
  have := h i hi
  rw [show upd d v S i = kl [d] (if i = d then v else S i) from rfl, if_neg hne, kl_comp (by simpa using hd)] at this
  exact this
 ·exact Off.upd hd
theorem Off_updn (W : List Nat) (S0 S : St) (d : Nat) (v : AV) (hd : d ∈ W) : Off W S0 (updn d v S) ↔ Off W S0 S := by
 constructor
 ·intro h i hi
  have hne : i ≠ d := fun e => hi (e ▸ hd)
  have := h i hi
  rw [show updn d v S i = (if i = d then v else kn d (S i)) from rfl, if_neg hne, kl_kn hd] at this
  exact this
 ·exact Off.updn hd
theorem Off_updn1 (W : List Nat) (S0 S : St) (d : Nat) (v : AV) (q : List (List Nat)) (hd : d ∈ W) : Off W S0 (updn1 d v q S) ↔ Off W S0 S := by
 constructor
 ·intro h i hi
  have hne : i ≠ d := fun e => hi (e ▸ hd)
  have := h i hi
  rw [show updn1 d v q S i = (if i = d then v else kn1 d q (S i)) from rfl, if_neg hne, kl_kn1 hd] at this
  exact this
 ·exact Off.updn1 hd
attribute [go_sem] Off_upd Off_updn Off_updn1
theorem Off_reset (W : List Nat) (T : List (Nat × AV)) (S0 : St) (hT : ∀ p ∈ T, p.1 ∈ W) : Off W S0 (reset W T S0) := Off.reset (fun _ h => h) hT (Off.refl W S0)
end Go.Abs


namespace Go.Abs
variable [DrawK]
@[go_sem] theorem upd_app (d : Nat) (v : AV) (S : St) (i : Nat) : upd d v S i = kl [d] (if i = d then v else S i) := rfl
@[go_sem] theorem updn_app (d : Nat) (v : AV) (S : St) (i : Nat) : updn d v S i = if i = d then v else kn d (S i) := rfl
@[go_sem] theorem kl_any (W : List Nat) : kl W .any = .any := rfl
@[go_sem] theorem kl_val (W : List Nat) (v : Value) : kl W (.val v) = .val v := rfl
@[go_sem] theorem kl_sl (W : List Nat) (n : Nat) (cs : List AV) : kl W (.sl n cs) = .sl n cs := rfl
@[go_sem] theorem kl_own (W : List Nat) (e n : Nat) (cs : List AV) : kl W (.own e n cs) = .own e n cs := rfl
@[go_sem] theorem kl_box (W : List Nat) (e : Nat) (cs : List AV) : kl W (.box e cs) = .box e cs := rfl
@[go_sem] theorem kl_fptr (W : List Nat) (cs : List AV) : kl W (.fptr cs) = .fptr cs := rfl
@[go_sem] theorem kl_agg (W : List Nat) (cs : List AV) : kl W (.agg cs) = .agg (klL W cs) := by rw [kl]
@[go_sem] theorem kl_tup (W : List Nat) (cs : List AV) : kl W (.tup cs) = .tup (klL W cs) := by rw [kl]
@[go_sem] theorem kl_fn (W : List Nat) (f : FuncId) (cs : List AV) : kl W (.fn f cs) = .fn f (klL W cs) := by rw [kl]
@[go_sem] theorem klL_nil' (W : List Nat) : klL W [] = [] := rfl
@[go_sem] theorem klL_cons (W : List Nat) (c : AV) (cs : List AV) : klL W (c :: cs) = kl W c :: klL W cs := by rw [klL]
@[go_sem] theorem kl_bor (d s : Nat) (p : List Nat) : kl [d] (.bor s p) = if s = d then .any else .bor s p := by
 rw [kl]; by_cases h : s = d <;> simp [h]
@[go_sem] theorem kl_ptr (d s : Nat) (p : List Nat) (o : Nat) : kl [d] (.ptr s p o) = if s = d then .any else .ptr s p o := by
 rw [kl]; by_cases h : s = d <;> simp [h]
@[go_sem] theorem kn_any (d : Nat) : kn d .any = .any := rfl
@[go_sem] theorem kn_val (d : Nat) (v : Value) : kn d (.val v) = .val v := rfl
@[go_sem] theorem kn_sl (d : Nat) (n : Nat) (cs : List AV) : kn d (.sl n cs) = .sl n cs := rfl
@[go_sem] theorem kn_own (d : Nat) (e n : Nat) (cs : List AV) : kn d (.own e n cs) = .own e n cs := rfl
@[go_sem] theorem kn_box (d : Nat) (e : Nat) (cs : List AV) : kn d (.box e cs) = .box e cs := rfl
@[go_sem] theorem kn_fptr (d : Nat) (cs : List AV) : kn d (.fptr cs) = .fptr cs := rfl
@[go_sem] theorem kn_agg (d : Nat) (cs : List AV) : kn d (.agg cs) = .agg (knL d cs) := by rw [kn]
@[go_sem] theorem kn_tup (d : Nat) (cs : List AV) : kn d (.tup cs) = .tup (knL d cs) := by rw [kn]
@[go_sem] theorem kn_fn (d : Nat) (f : FuncId) (cs : List AV) : kn d (.fn f cs) = .fn f (knL d cs) := by rw [kn]
@[go_sem] theorem knL_nil' (d : Nat) : knL d [] = [] := rfl
@[go_sem] theorem knL_cons (d : Nat) (c : AV) (cs : List AV) : knL d (c :: cs) = kn d c :: knL d cs := by rw [knL]
@[go_sem] theorem kn_bor0 (d s : Nat) : kn d (.bor s []) = .bor s [] := by rw [kn]; simp
@[go_sem] theorem kn_bor1 (d s i : Nat) (p : List Nat) : kn d (.bor s (i :: p)) = if s = d then .any else .bor s (i :: p) := by
 rw [kn]; by_cases h : s = d <;> simp [h]
@[go_sem] theorem kn_ptr0 (d s o : Nat) : kn d (.ptr s [] o) = .ptr s [] o := by rw [kn]; simp
@[go_sem] theorem kn_ptr1 (d s i : Nat) (p : List Nat) (o : Nat) : kn d (.ptr s (i :: p) o) = if s = d then .any else .ptr s (i :: p) o := by
 rw [kn]; by_cases h : s = d <;> simp [h]
@[go_sem] theorem kn1_any (d : Nat) (q : List (List Nat)) : kn1 d q .any = .any := rfl
@[go_sem] theorem kn1_val (d : Nat) (q : List (List Nat)) (v : Value) : kn1 d q (.val v) = .val v := rfl
@[go_sem] theorem kn1_sl (d : Nat) (q : List (List Nat)) (n : Nat) (cs : List AV) : kn1 d q (.sl n cs) = .sl n cs := rfl
@[go_sem] theorem kn1_own (d : Nat) (q : List (List Nat)) (e n : Nat) (cs : List AV) : kn1 d q (.own e n cs) = .own e n cs := rfl
@[go_sem] theorem kn1_box (d : Nat) (q : List (List Nat)) (e : Nat) (cs : List AV) : kn1 d q (.box e cs) = .box e cs := rfl
@[go_sem] theorem kn1_fptr (d : Nat) (q : List (List Nat)) (cs : List AV) : kn1 d q (.fptr cs) = .fptr cs := rfl
@[go_sem] theorem kn1_agg (d : Nat) (q : List (List Nat)) (cs : List AV) : kn1 d q (.agg cs) = .agg (kn1L d q cs) := by rw [kn1]
@[go_sem] theorem kn1_tup (d : Nat) (q : List (List Nat)) (cs : List AV) : kn1 d q (.tup cs) = .tup (kn1L d q cs) := by rw [kn1]
@[go_sem] theorem kn1_fn (d : Nat) (q : List (List Nat)) (f : FuncId) (cs : List AV) : kn1 d q (.fn f cs) = .fn f (kn1L d q cs) := by rw [kn1]
@[go_sem] theorem kn1L_nil' (d : Nat) (q : List (List Nat)) : kn1L d q [] = [] := rfl
@[go_sem] theorem kn1L_cons (d : Nat) (q : List (List Nat)) (c : AV) (cs : List AV) : kn1L d q (c :: cs) = kn1 d q c :: kn1L d q cs := by rw [kn1L]
@[go_sem] theorem kn1_bor (d s : Nat) (p : List Nat) : kn1 d [] (.bor s p) = if s = d ∧ 2 ≤ p.length then .any else .bor s p := by rw [kn1]; simp [kpB]
@[go_sem] theorem kn1_bor_q (d s : Nat) (q0 : List Nat) (q : List (List Nat)) (p : List Nat) : kn1 d (q0 :: q) (.bor s p) = if s = d ∧ ¬ (p = [] ∨ p ∈ q0 :: q) then .any else .bor s p := by rw [kn1]; simp [kpB]
@[go_sem] theorem kn1_ptr (d s : Nat) (p : List Nat) (o : Nat) : kn1 d [] (.ptr s p o) = if s = d ∧ 2 ≤ p.length then .any else .ptr s p o := by rw [kn1]; simp [kpB]
@[go_sem] theorem kn1_ptr_q (d s : Nat) (q0 : List Nat) (q : List (List Nat)) (p : List Nat) (o : Nat) : kn1 d (q0 :: q) (.ptr s p o) = if s = d ∧ ¬ (p = [] ∨ p ∈ q0 :: q) then .any else .ptr s p o := by rw [kn1]; simp [kpB]
@[go_sem] theorem updn1_app (d : Nat) (v : AV) (q : List (List Nat)) (S : St) (i : Nat) : updn1 d v q S i = if i = d then v else kn1 d q (S i) := rfl
@[go_sem] theorem kl_mp (W : List Nat) (c : Key → Option Int) : kl W (.mp c) = .mp c := rfl
@[go_sem] theorem kl_fmp (W : List Nat) (c : Key → Option Int) : kl W (.fmp c) = .fmp c := rfl
@[go_sem] theorem kl_it (W : List Nat) (l : Option (Key × Int)) (es : List (Key × Int)) : kl W (.it l es) = .it l es := rfl
@[go_sem] theorem kl_slp (d s : Nat) (p : List Nat) (o n : Nat) : kl [d] (.slp s p o n) = if s = d then .any else .slp s p o n := by
 rw [kl]; by_cases h : s = d <;> simp [h]
@[go_sem] theorem kn_mp (d : Nat) (c : Key → Option Int) : kn d (.mp c) = .mp c := rfl
@[go_sem] theorem kn_fmp (d : Nat) (c : Key → Option Int) : kn d (.fmp c) = .fmp c := rfl
@[go_sem] theorem kn_it (d : Nat) (l : Option (Key × Int)) (es : List (Key × Int)) : kn d (.it l es) = .it l es := rfl
@[go_sem] theorem kn_slp0 (d s o n : Nat) : kn d (.slp s [] o n) = .slp s [] o n := by rw [kn]; simp
@[go_sem] theorem kn_slp1 (d s i : Nat) (p : List Nat) (o n : Nat) : kn d (.slp s (i :: p) o n) = if s = d then .any else .slp s (i :: p) o n := by
 rw [kn]; by_cases h : s = d <;> simp [h]
@[go_sem] theorem kn1_mp (d : Nat) (q : List (List Nat)) (c : Key → Option Int) : kn1 d q (.mp c) = .mp c := rfl
@[go_sem] theorem kn1_fmp (d : Nat) (q : List (List Nat)) (c : Key → Option Int) : kn1 d q (.fmp c) = .fmp c := rfl
@[go_sem] theorem kn1_it (d : Nat) (q : List (List Nat)) (l : Option (Key × Int)) (es : List (Key × Int)) : kn1 d q (.it l es) = .it l es := rfl
@[go_sem] theorem kn1_slp (d s : Nat) (p : List Nat) (o n : Nat) : kn1 d [] (.slp s p o n) = if s = d ∧ 2 ≤ p.length then .any else .slp s p o n := by rw [kn1]; simp [kpB]
@[go_sem] theorem kn1_slp_q (d s : Nat) (q0 : List Nat) (q : List (List Nat)) (p : List Nat) (o n : Nat) : kn1 d (q0 :: q) (.slp s p o n) = if s = d ∧ ¬ (p = [] ∨ p ∈ q0 :: q) then .any else .slp s p o n := by rw [kn1]; simp [kpB]
@[go_sem] theorem kl_keyAV (W : List Nat) (k : Key) : kl W (keyAV k) = keyAV k := rfl
@[go_sem] theorem kn_keyAV (d : Nat) (k : Key) : kn d (keyAV k) = keyAV k := rfl
@[go_sem] theorem kn1_keyAV (d : Nat) (q : List (List Nat)) (k : Key) : kn1 d q (keyAV k) = keyAV k := rfl
@[go_sem] theorem cv_nilmap : cv (.map none) = .val (.map none) := rfl
@[go_sem] theorem hasOwn_keyAV (k : Key) : hasOwn (keyAV k) = false := rfl
@[go_sem] theorem keyA_keyAV (k : Key) : keyA (keyAV k) = some k := rfl
@[go_sem] theorem frz_keyAV (k : Key) : frz (keyAV k) = keyAV k := rfl
@[go_sem] theorem initS_app (args : List AV) (i : Nat) : initS args i = (match args[i]? with | some c => c | none => .any) := rfl
@[go_sem] theorem aop_tmp (S : St) (t : Nat) : aop S (.tmp t) = S t := rfl
@[go_sem] theorem aop_const (S : St) (v : Value) : aop S (.const v) = cv v := rfl
@[go_sem] theorem aop_func (S : St) (f : FuncId) : aop S (.func f) = .val (.func (.func f) #[] #[]) := rfl
@[go_sem] theorem cv_nilptr : cv (.pointer none) = .val (.pointer none) := rfl
@[go_sem] theorem cv_nil : cv (.slice none 0 0) = .val (.slice none 0 0) := rfl
@[go_sem] theorem cv_int (k : IntKind) (n : Int) : cv (.int k n) = .val (.int k n) := rfl
@[go_sem] theorem cv_bool (b : Bool) : cv (.bool b) = .val (.bool b) := rfl
@[go_sem] theorem cv_string (s : ByteArray) : cv (.string s) = .val (.string s) := rfl
@[go_sem] theorem lookup_nil' (i : Nat) : List.lookup i ([] : List (Nat × AV)) = none := rfl
@[go_sem] theorem lookup_cons' (i d : Nat) (v : AV) (T : List (Nat × AV)) : List.lookup i ((d, v) :: T) = if i = d then some v else List.lookup i T := by
 rw [List.lookup_cons]
 by_cases h : i = d
 ·simp [h]
 ·have : (i == d) = false := by simpa using h
  simp [h, this]
attribute [go_sem] keepC intB contB ncS binB binS alt alt2 alt3 nrg rmv insA rangeOf nextOf nilOf NilVC mxS binW ixR ixA ivS fdS ptS bnd bndSl prS poS foS slS plc srcC cpS bdS plTs putAll b0S b1S blS mmS mapA keyA lkS mplc muS enS RangeVC NextVC tkLm callV callW cap1 caps mfS bxS faS alS stAS ldAS takeA tkU ldCs ldC cellB cellsB valsB setMany app TestVC_true TestVC_false callOf stepO withD mvR mvS mvT valR ldR stR hasOwn hasOwnL isOB roots rootsL binI unI cnI ld1S ld1A adr ctn kids setKids getP putP ldC IntKind.signed slotsOf ixS mkS isV st1S apS els isSome2 tk tkP tks bsS idxOk lnS exS rsvArgs rsv rsvL frz frzL gslot skipU retAV retOf inK_i64
section
variable (P : Program) (cf : Cfg) (N : Nat × List Nat) (ops : Array Oper) (K : St → Prop) (Q : Exit → St → Prop) (S : St)
@[go_sem] theorem vcOps_nil : vcOps P cf N ops [] K S = K S := rfl
@[go_sem] theorem vcOps_plain (dst : Option Tmp) (op : Op) (ty : TypeId) (pos : String) (after : Array Edge) (l : List Oper) :
  vcOps P cf N ops (⟨dst, op, ty, pos, after, none⟩ :: l) K S = vcOp P cf N ⟨dst, op, ty, pos, after, none⟩ (vcOps P cf N ops l K) S := rfl
def GuardVC (g : Nat) (b : Bool) (A B : St → Prop) (S : St) : Prop :=
 match S g with
 | .val (.bool c) => g < N.1 ∧ TestVC (c == b) A B (upd g (.val (.bool b)) S) (upd g (.val (.bool !b)) S)
 | .tup [] => B S
 | _ => False
@[go_sem] theorem vcOps_guard (dst : Option Tmp) (op : Op) (ty : TypeId) (pos : String) (after : Array Edge) (j : Nat) (b : Bool) (l : List Oper) :
  vcOps P cf N ops (⟨dst, op, ty, pos, after, some (j, b)⟩ :: l) K S = (match gslot ops j with
   | some g => GuardVC N g b (vcOp P cf N ⟨dst, op, ty, pos, after, some (j, b)⟩ (vcOps P cf N ops l K)) (skipK ⟨dst, op, ty, pos, after, some (j, b)⟩ (vcOps P cf N ops l K)) S
   | none => False) := rfl
@[go_sem] theorem GuardVC_app (g : Nat) (b : Bool) (A B : St → Prop) : GuardVC N g b A B S = (match S g with
 | .val (.bool c) => g < N.1 ∧ TestVC (c == b) A B (upd g (.val (.bool b)) S) (upd g (.val (.bool !b)) S)
 | .tup [] => B S
 | _ => False) := rfl
@[go_sem] theorem vcOp_app (o : Oper) : vcOp P cf N o K S = (match callOf o.op with
 | some (f, xs) => if cf.mu.contains f then MVC P N f xs o.dst K S else if cf.mu.contains (1000000 + f) then GVC P cf N f xs o.dst K S else if cf.mu.contains (2000000 + f) then RVC P cf N f xs o.dst K S else match rsvArgs S xs with
  | some asx => CallVC P cf N f asx o.dst K S
  | none => False
 | none => match callV S o.op with
  | some (f, xs, cs) => match rsvArgs S xs, rsvL S cs with
   | some asx, some bs => CallVC P cf N f (asx ++ bs) o.dst K S
   | _, _ => False
  | none => match rangeOf P S o.op, o.dst with
   | some c, some d => RangeVC N c d K S
   | _, _ => match nextOf S o.op, o.dst with
    | some (t, rem), some d => NextVC N t rem d K S
    | _, _ => match nilOf P S o.op, o.dst with
     | some n, some d => NilVC N n d K S
     | _, _ => match stepO P cf N S o.op o.dst with
      | some (p, _, U) => p ∧ K (app U S)
      | none => False) := rfl
@[go_sem] theorem skipK_app (o : Oper) : skipK o K S = K (app (skipU o) S) := rfl
@[go_sem] theorem vc_skip : vc P cf N .skip Q S = Q .normal S := rfl
@[go_sem] theorem vc_region (id : Nat) : vc P cf N (.region id ops false) Q S = vcOps P cf N ops ops.toList (Q .normal) S := rfl
@[go_sem] theorem vc_draw (id : Nat) : vc P cf N (.region id ops true) Q S = DrawSel P cf N ops id (Q .normal) S := rfl
@[go_sem] theorem vcD_nil (i : Nat) (tr : List Ent) : vcD P cf N ops i [] K tr S = doneD ops K tr S := rfl
@[go_sem] theorem vcD_plain (i : Nat) (tr : List Ent) (dst : Option Tmp) (op : Op) (ty : TypeId) (pos : String) (after : Array Edge) (l : List Oper) :
  vcD P cf N ops i (⟨dst, op, ty, pos, after, none⟩ :: l) K tr S = runV P cf N i ⟨dst, op, ty, pos, after, none⟩ [] (vcD P cf N ops (i + 1) l K) tr S := rfl
@[go_sem] theorem vcD_guard (i : Nat) (tr : List Ent) (dst : Option Tmp) (op : Op) (ty : TypeId) (pos : String) (after : Array Edge) (j : Nat) (b : Bool) (l : List Oper) :
  vcD P cf N ops i (⟨dst, op, ty, pos, after, some (j, b)⟩ :: l) K tr S = (match gslot ops j with
   | some g => GuardD N g b (runV P cf N i ⟨dst, op, ty, pos, after, some (j, b)⟩ [g] (vcD P cf N ops (i + 1) l K)) (skipD i ⟨dst, op, ty, pos, after, some (j, b)⟩ [g] (vcD P cf N ops (i + 1) l K)) tr S
   | none => False) := rfl
@[go_sem] theorem runV_app (i : Nat) (o : Oper) (G : List Nat) (C : List Ent → St → Prop) (tr : List Ent) : runV P cf N i o G C tr S = (match callW S o.op with
 | some (f, xs) => match rsvArgs S xs with
  | some asx => closedB (G ++ (opsD S o.op).flatMap (rdO S)) S = true ∧ CallD P cf N f asx o.dst i (G ++ (opsD S o.op).flatMap (rdO S)) C tr S
  | none => False
 | none => runD P cf N i o G C tr S) := rfl
@[go_sem] theorem runD_app (i : Nat) (o : Oper) (G : List Nat) (C : List Ent → St → Prop) (tr : List Ent) : runD P cf N i o G C tr S = (match callOf o.op with
 | some (f, xs) => if (cf.mu.contains f || cf.mu.contains (1000000 + f)) = true then MCallD P N f xs o.dst i (G ++ (opsD S o.op).flatMap (rdO S)) C tr S else match rsvArgs S xs with
  | some asx => closedB (G ++ (opsD S o.op).flatMap (rdO S)) S = true ∧ CallD P cf N f asx o.dst i (G ++ (opsD S o.op).flatMap (rdO S)) C tr S
  | none => False
 | none => match stepO P cf N S o.op o.dst with
  | some (p, _, U) => (closedB (G ++ (opsD S o.op).flatMap (rdO S)) S && inB (rts U) (G ++ (opsD S o.op).flatMap (rdO S))) = true ∧ p ∧ C (⟨i, G ++ (opsD S o.op).flatMap (rdO S), wrs U⟩ :: tr) (app U S)
  | none => False) := rfl
@[go_sem] theorem skipD_app (i : Nat) (o : Oper) (G : List Nat) (C : List Ent → St → Prop) (tr : List Ent) : skipD i o G C tr S = (closedB G S = true ∧ C (⟨i, G, wrs (skipU o)⟩ :: tr) (app (skipU o) S)) := rfl
@[go_sem] theorem GuardD_app (g : Nat) (b : Bool) (A B : List Ent → St → Prop) (tr : List Ent) : GuardD N g b A B tr S = (match S g with
 | .val (.bool c) => g < N.1 ∧ DTest (c == b) A B tr S
 | .tup [] => B tr S
 | _ => False) := rfl
@[go_sem] theorem DTest_true (A B : List Ent → St → Prop) (tr : List Ent) : DTest true A B tr S = A tr S := by simp [DTest]
@[go_sem] theorem DTest_false (A B : List Ent → St → Prop) (tr : List Ent) : DTest false A B tr S = B tr S := by simp [DTest]
@[go_sem] theorem vcX_nil (q : Nat → Nat → Bool) (tr : List Ent) : vcX P cf N ops q [] K tr S = (okX ops q tr = true ∧ K S) := rfl
@[go_sem] theorem vcX_cons (q : Nat → Nat → Bool) (i : Nat) (tr : List Ent) (l : List Nat) : vcX P cf N ops q (i :: l) K tr S = (match ops[i]? with
 | some o => match o.guard with
  | none => runD P cf N i o [] (vcX P cf N ops q l K) tr S
  | some (j, b) => match gslot ops j with
   | some g => GuardD N g b (runD P cf N i o [g] (vcX P cf N ops q l K)) (skipD i o [g] (vcX P cf N ops q l K)) tr S
   | none => False
 | none => False) := rfl
@[go_sem] theorem DrawVC3_app (q : Exc) (n : Nat) : DrawVC3 P cf N ops q n K S = (checkX ops q (insA q.c q.p (rmv q.c (nrg 0 n))) (nrg 0 n) (insA q.p q.d (rmv q.p (nrg 0 n))) = true ∧
  vcX P cf N ops (excB q) (insA q.c q.p (rmv q.c (nrg 0 n))) K [] S ∧ vcX P cf N ops (excB q) (nrg 0 n) K [] S ∧ vcX P cf N ops (excB q) (insA q.p q.d (rmv q.p (nrg 0 n))) K [] S) := rfl
@[go_sem] theorem DrawSel_app (id : Nat) : DrawSel P cf N ops id K S = (match alt cf id with
 | some (q, n) => if q.c = 99 then DrawVC2 P cf N ops q n K S else DrawVC3 P cf N ops q n K S
 | none => match alt2 cf id with
  | some (q, n) => if q.c = 99 then DrawVC5 P cf N ops q n K S else DrawVC4 P cf N ops q n K S
  | none => if alt3 cf id = true then DrawVC6 P cf N ops K S else DrawVC P cf N ops K S) := rfl
@[go_sem] theorem AllY_nil (q : Nat → Nat → Bool) (R : Nat → List Upd) : AllY P cf N ops q R K S [] = True := rfl
@[go_sem] theorem AllY_cons (q : Nat → Nat → Bool) (R : Nat → List Upd) (l : List Nat) (Ls : List (List Nat)) : AllY P cf N ops q R K S (l :: Ls) = (vcY P cf N ops q R l K [] S ∧ AllY P cf N ops q R K S Ls) := rfl
@[go_sem] theorem vcY_nil (q : Nat → Nat → Bool) (R : Nat → List Upd) (tr : List Ent) : vcY P cf N ops q R [] K tr S = (okX ops q tr = true ∧ K S) := rfl
@[go_sem] theorem vcY_cons (q : Nat → Nat → Bool) (R : Nat → List Upd) (i : Nat) (tr : List Ent) (l : List Nat) : vcY P cf N ops q R (i :: l) K tr S = (match ops[i]? with
 | some o => match o.guard with
  | none => runD P cf N i o [] (fixK cf R i o S (vcY P cf N ops q R l K)) tr S
  | some _ => False
 | none => False) := rfl
@[go_sem] theorem fixK_app (R : Nat → List Upd) (i : Nat) (o : Oper) (S S' : St) (C : List Ent → St → Prop) (tr : List Ent) : fixK cf R i o S C tr S' = (fixC cf R i o S S' ∧ C tr S') := rfl
@[go_sem] theorem fixC_app (R : Nat → List Upd) (i : Nat) (o : Oper) (S S' : St) : fixC cf R i o S S' = (match callOf o.op with
 | none => True
 | some (f, xs) => match o.dst with
  | none => False
  | some d => if (cf.mu.contains f || cf.mu.contains (1000000 + f)) = true then match locArgs S xs with
   | [(s, [])] => s ≠ d ∧ R i = [.n s .any, .n s (S' s), .w d (S' d)]
   | [(s, []), (t, [])] => (s ≠ t ∧ s ≠ d ∧ t ≠ d) ∧ R i = [.n s .any, .n t .any, .n s (S' s), .n t (S' t), .w d (S' d)]
   | [] => R i = [.w d (S' d)]
   | _ => False
   else R i = [.w d (S' d)]) := rfl
@[go_sem] theorem DrawVC2_app (q : Exc) (n : Nat) : DrawVC2 P cf N ops q n K S = (checkY ops q (insA q.d q.p (rmv q.d (nrg 0 n))) (nrg 0 n) = true ∧
  vcX P cf N ops (excB q) (insA q.d q.p (rmv q.d (nrg 0 n))) K [] S ∧ vcX P cf N ops (excB q) (nrg 0 n) K [] S) := rfl
@[go_sem] theorem DrawVC_app : DrawVC P cf N ops K S = (edgesOk ops = true ∧ vcD P cf N ops 0 ops.toList K [] S) := rfl
@[go_sem] theorem vc_seq (x y : Code) : vc P cf N (.seq x y) Q S = vc P cf N x (thenQ (vc P cf N y Q) Q) S := rfl
@[go_sem] theorem vc_cond (c : Operand) (x y : Code) : vc P cf N (.cond c x y) Q S = (match aop S c with
  | .val (.bool t) => TestVC t (vc P cf N x Q) (vc P cf N y Q) S S
  | _ => False) := rfl
@[go_sem] theorem vc_block (id : Nat) (b : Code) : vc P cf N (.block id b) Q S = vc P cf N b (blockQ id Q) S := rfl
@[go_sem] theorem vc_loop (b : Code) : vc P cf N (.loop b) Q S = LoopVC (vc P cf N b) Q S := rfl
@[go_sem] theorem vc_exit (id : Nat) : vc P cf N (.exit id) Q S = Q (.exit id) S := rfl
@[go_sem] theorem vc_ret : vc P cf N .ret Q S = Q .ret S := rfl
@[go_sem] theorem thenQ_normal : thenQ K Q .normal S = K S := rfl
@[go_sem] theorem thenQ_ret : thenQ K Q .ret S = Q .ret S := rfl
@[go_sem] theorem thenQ_exit (id : Nat) : thenQ K Q (.exit id) S = Q (.exit id) S := rfl
@[go_sem] theorem blockQ_normal (id : Nat) : blockQ id Q .normal S = Q .normal S := rfl
@[go_sem] theorem blockQ_ret (id : Nat) : blockQ id Q .ret S = Q .ret S := rfl
@[go_sem] theorem blockQ_exit (id id' : Nat) : blockQ id Q (.exit id') S = if id' = id then Q .normal S else Q (.exit id') S := rfl
@[go_sem] theorem loopQ_ret (I : Nat → St → Prop) (n : Nat) : loopQ I n Q .ret S = Q .ret S := rfl
@[go_sem] theorem loopQ_exit (I : Nat → St → Prop) (n id : Nat) : loopQ I n Q (.exit id) S = Q (.exit id) S := rfl
@[go_sem] theorem retQ_ret (rs : List ResultVar) (r : AV) : retQ P rs r .ret S = ∃ cs, retAV P S rs = some cs ∧ retOf cs = r := rfl
@[go_sem] theorem retQ_normal (rs : List ResultVar) (r : AV) : retQ P rs r .normal S = ∃ cs, retAV P S rs = some cs ∧ retOf cs = r := rfl
@[go_sem] theorem retM_ret (rs : List ResultVar) (kp : List Nat) (n : Nat) (r : AV) (outs : List AV) : retM P rs kp n r outs .ret S = ∃ cs, retAV P S (rs ++ kp.map .tmp) = some cs ∧ retOf (cs.take rs.length) = r ∧ outsOf kp (cs.drop rs.length) n = outs ∧ freshL cs = true := rfl
@[go_sem] theorem retR_ret (rs : List ResultVar) (kp : List Nat) (n : Nat) (R : AV → List AV → Prop) : retR P rs kp n R .ret S = ∃ cs, retAV P S (rs ++ kp.map .tmp) = some cs ∧ R (retOf (cs.take rs.length)) (outsOf kp (cs.drop rs.length) n) := rfl
@[go_sem] theorem retR_normal (rs : List ResultVar) (kp : List Nat) (n : Nat) (R : AV → List AV → Prop) : retR P rs kp n R .normal S = ∃ cs, retAV P S (rs ++ kp.map .tmp) = some cs ∧ R (retOf (cs.take rs.length)) (outsOf kp (cs.drop rs.length) n) := rfl
end
attribute [go_sem] opsD closedB inB wrs rts rdO af afL Op.operands Call.operands OkD MVC GVC RVC MCallD locs locB locArgs fillA fillB fillArgs leafA anyB leafB leafArgs tkLs ptLs locOk outsOf freshOK freshL
end Go.Abs


namespace Go.Abs
variable [DrawK]
open Go.RowKit Go.WideShapes Go.ChangeShapes
theorem RepT.val_eq {P : Program} {w : World} {F : Nat → Prop} {tm : Nat → Value} {oss : Nat → List Nat} {u v : Value} {os : List Nat} (h : RepT P w F tm oss (.val u) v os) : v = u := by
 generalize hc : AV.val u = c at h
 cases h with
 | cell c v os h => subst hc; cases h; rfl
 | _ => simp at hc
theorem Con.calls {P : Program} {f : FuncId} {args : List AV} (h : Con P f args (.bool true)) {vs : List Value} (hl : args.length = vs.length) {w : World}
  (ha : ∀ tm oss, RepTL P w (fun b => b < w.heap.size) tm oss args vs []) :
  Calls P f vs.toArray w fun e w' => e = .returned (.bool true) ∧ Below w.heap.size w w' :=
 (h.2 w vs hl ha).mono fun e w' ⟨v, os, he, hb, hr, _⟩ => ⟨by rw [he, (hr (fun _ => undef) (fun _ => [])).val_eq], hb.below⟩
theorem RepT.nil_own {P : Program} {w : World} {F : Nat → Prop} {tm : Nat → Value} {oss : Nat → List Nat} {v : Value} {os : List Nat} (e : TypeId) (h : RepT P w F tm oss (.val (.slice none 0 0)) v os) : RepT P w F tm oss (.own e 0 []) v os := by
 generalize hc : AV.val (.slice none 0 0) = c at h
 cases h with
 | cell c v os h => subst hc; cases h; exact .cell _ _ _ (.own0 e)
 | _ => simp at hc
def retE (P : Program) (rs : List ResultVar) (r : AV) : Exit → St → Prop
 | .normal, S => ∃ cs, retAV P S rs = some cs ∧ (retOf cs = r ∨ (retOf cs = .val (.slice none 0 0) ∧ ∃ e, r = .own e 0 []))
 | .ret, S => ∃ cs, retAV P S rs = some cs ∧ (retOf cs = r ∨ (retOf cs = .val (.slice none 0 0) ∧ ∃ e, r = .own e 0 []))
 | _, _ => False
@[go_sem] theorem retE_ret (P : Program) (rs : List ResultVar) (r : AV) (S : St) : retE P rs r .ret S = ∃ cs, retAV P S rs = some cs ∧ (retOf cs = r ∨ (retOf cs = .val (.slice none 0 0) ∧ ∃ e, r = .own e 0 [])) := rfl
@[go_sem] theorem retE_normal (P : Program) (rs : List ResultVar) (r : AV) (S : St) : retE P rs r .normal S = ∃ cs, retAV P S rs = some cs ∧ (retOf cs = r ∨ (retOf cs = .val (.slice none 0 0) ∧ ∃ e, r = .own e 0 [])) := rfl
@[go_sem] theorem retG_ret (P : Program) (rs : List ResultVar) (kp : List Nat) (n : Nat) (r : AV) (outs : List AV) (S : St) : retG P rs kp n r outs .ret S = ∃ cs, retAV P S (rs ++ kp.map .tmp) = some cs ∧ retOf (cs.take rs.length) = r ∧ outsOf kp (cs.drop rs.length) n = outs := rfl
@[go_sem] theorem retG_normal (P : Program) (rs : List ResultVar) (kp : List Nat) (n : Nat) (r : AV) (outs : List AV) (S : St) : retG P rs kp n r outs .normal S = ∃ cs, retAV P S (rs ++ kp.map .tmp) = some cs ∧ retOf (cs.take rs.length) = r ∧ outsOf kp (cs.drop rs.length) n = outs := rfl
@[go_sem] theorem retM_normal (P : Program) (rs : List ResultVar) (kp : List Nat) (n : Nat) (r : AV) (outs : List AV) (S : St) : retM P rs kp n r outs .normal S = ∃ cs, retAV P S (rs ++ kp.map .tmp) = some cs ∧ retOf (cs.take rs.length) = r ∧ outsOf kp (cs.drop rs.length) n = outs ∧ freshL cs = true := rfl
theorem acalls_of_vcN {P : Program} (hm : P.follows .mixedOrders = true) {f : FuncId} {fn : Func} {c : Code} (cf : Cfg) {args : List AV} {r : AV} (hfn : P.funcs[f]? = some fn) (hb : fn.body = some c)
  (hn : args.length ≤ fn.ntmps) (hd : dstsOk (fn.ntmps, []) c = true) (hf : freshOK r = true)
  (h : vc P cf (fn.ntmps, []) c (retE P fn.results.toList r) (initS args)) : ACalls P f args r := by
 intro w vs hl hrep
 refine calls_of_wp hfn hb ?_
 have hst : StRel P (fn.ntmps, []) (fun b => b < w.heap.size) ⟨w, fun _ => undef, fun b => b < w.heap.size⟩ (initS args) { tmps := vs.toArray ++ Array.replicate (fn.ntmps - vs.toArray.size) undef, defers := [] } w := by
  refine ⟨fun b => b < w.heap.size, fun _ => [], { sz := ?_, kp := by simp, df := rfl, ext := Ext.refl _ _, fB := fun _ h => h, fN := fun _ h => .inl h, gw := fun _ h => h, oG := by simp, xG := by simp, fw := fun _ h => h, rep := fun i => ?_, own := by simp, nd := fun _ => List.nodup_nil, dj := by simp, xo := by simp, xn := List.nodup_nil, xd := by simp }⟩
  ·simp; omega
  ·unfold initS
   split
   ·rename_i c hi
    obtain ⟨v, h1, h2⟩ := (hrep (tmo { tmps := vs.toArray ++ Array.replicate (fn.ntmps - vs.toArray.size) undef, defers := [] }) (fun _ => [])).init rfl i c hi
    have hlt : i < vs.length := (List.getElem?_eq_some_iff.1 h1).1
    have : tmo { tmps := vs.toArray ++ Array.replicate (fn.ntmps - vs.toArray.size) undef, defers := [] } i = v := by
     have h3 : (vs.toArray ++ Array.replicate (fn.ntmps - vs.toArray.size) undef)[i]? = some v := by
      rw [Array.getElem?_append_left (by simpa using hlt)]; simpa using h1
     simp only [List.size_toArray] at h3
     simp [tmo, h3]
    rw [this]; exact h2
   ·exact .any _
 refine vc_sound hm hd hst h (fun e S a w' hq hr => ?_)
 have fin : (∃ cs, retAV P S fn.results.toList = some cs ∧ (retOf cs = r ∨ (retOf cs = .val (.slice none 0 0) ∧ ∃ e, r = .own e 0 []))) →
   ∃ v, (results fn a.tmps).run P w' = .ok v w' ∧ ∃ v' os, Ending.returned v = .returned v' ∧ Ext (fun b => b < w.heap.size) w w' ∧
    (∀ tm oss, RepT P w' (fun b => w.heap.size ≤ b ∧ b < w'.heap.size ∧ b ∉ os) tm oss r v' os) ∧ os.Nodup ∧ ∀ b ∈ os, w.heap.size ≤ b ∧ b < w'.heap.size := by
  rintro ⟨cs, h1, h2 | ⟨h2, e, rfl⟩⟩
  ·exact ret_sound (w0 := ⟨w, fun _ => undef, fun b => b < w.heap.size⟩) hr hf h1 h2
  ·obtain ⟨v, k1, v', os, k2, k3, k4, k5, k6⟩ := ret_sound (w0 := ⟨w, fun _ => undef, fun b => b < w.heap.size⟩) (r := .val (.slice none 0 0)) hr rfl h1 h2
   exact ⟨v, k1, v', os, k2, k3, fun tm oss => (k4 tm oss).nil_own e, k5, k6⟩
 have hdf : a.defers = [] := by obtain ⟨_, _, h⟩ := hr; exact h.df
 cases e with
 | normal => exact ⟨hdf, fin hq⟩
 | ret => exact ⟨hdf, fin hq⟩
 | _ => exact hq.elim
theorem con_of_vcN {P : Program} (hm : P.follows .mixedOrders = true) {f : FuncId} {fn : Func} {c : Code} (cf : Cfg) {args : List AV} {r : AV} (hfn : P.funcs[f]? = some fn) (hname : (fn.name == "runtime.NumGoroutine") = false) (hb : fn.body = some c)
  (hn : args.length ≤ fn.ntmps) (hd : dstsOk (fn.ntmps, []) c = true) (hf : freshOK r = true)
  (h : vc P cf (fn.ntmps, []) c (retE P fn.results.toList r) (initS args)) : Con P f args r :=
 ⟨⟨fn, hfn, hname, by simp [hb]⟩, acalls_of_vcN hm cf hfn hb hn hd hf h⟩
inductive WkL : List AV → List AV → Prop
 | nil : WkL [] []
 | same (c : AV) (cs ds : List AV) (h : WkL cs ds) : WkL (c :: cs) (c :: ds)
 | own (e : TypeId) (cs ds : List AV) (h : WkL cs ds) : WkL (.val (.slice none 0 0) :: cs) (.own e 0 [] :: ds)
theorem WkL.len {cs ds : List AV} (h : WkL cs ds) : cs.length = ds.length := by
 induction h with
 | nil => rfl
 | same => simpa
 | own => simpa
theorem WkL.rep {P : Program} {w : World} {F : Nat → Prop} {tm : Nat → Value} {oss : Nat → List Nat} {cs ds : List AV} (h : WkL cs ds) : ∀ {vs : List Value} {os : List Nat}, RepTL P w F tm oss cs vs os → RepTL P w F tm oss ds vs os := by
 induction h with
 | nil => intro vs os h; exact h
 | same c cs ds h ih =>
  intro vs os k
  cases k with
  | cons _ v o1 _ vs o2 k1 k2 => exact .cons _ _ _ _ _ _ k1 (ih k2)
 | own e cs ds h ih =>
  intro vs os k
  cases k with
  | cons _ v o1 _ vs o2 k1 k2 => exact .cons _ _ _ _ _ _ (k1.nil_own e) (ih k2)
theorem Con.wk {P : Program} {f : FuncId} {args cs ds : List AV} (h : Con P f args (.tup cs)) (hw : WkL cs ds) : Con P f args (.tup ds) := by
 refine ⟨h.1, fun w vs hl ha => (h.2 w vs hl ha).mono ?_⟩
 rintro e w' ⟨v, os, he, hb, hr, hn, ho⟩
 refine ⟨v, os, he, hb, fun tm oss => ?_, hn, ho⟩
 have := hr tm oss
 generalize hc : AV.tup cs = c at this
 cases this with
 | cell c v os h => subst hc; cases h
 | tup cs' vs os hl h =>
  injection hc with hc; subst hc
  exact .tup _ _ _ (by rw [← hl, hw.len]) (hw.rep h)
 | _ => simp at hc
theorem Con.n1 {P : Program} {f : FuncId} {args : List AV} {x : AV} (e : TypeId) (h : Con P f args (.tup [.val (.slice none 0 0), x])) : Con P f args (.tup [.own e 0 [], x]) :=
 h.wk (.own e _ _ (.same _ _ _ .nil))
theorem Con.n2 {P : Program} {f : FuncId} {args : List AV} {x : AV} (e e' : TypeId) (h : Con P f args (.tup [.val (.slice none 0 0), .val (.slice none 0 0), x])) : Con P f args (.tup [.own e 0 [], .own e' 0 [], x]) :=
 h.wk (.own e _ _ (.own e' _ _ (.same _ _ _ .nil)))
theorem Con.gfz {P : Program} {f : FuncId} {args cs ds : List AV} {e : TypeId} {n : Nat} (h : Con P f args (.own e n cs)) (ha : hasOwnL args = false) (hd : frzL cs = ds) : GCon P f args (.own e n ds) (args.map fun _ => .any) := by
 subst hd
 refine ⟨h.1, fun w vs os F0 hl hn ho hF hr => ?_⟩
 obtain rfl := (hr (fun _ => undef) (fun _ => [])).noOwn ha
 refine (h.2 w vs hl (fun tm oss => by
  have := RepTL.kl (w' := w) (F' := fun b => b < w.heap.size) (tm' := tm) (oss' := oss) [] (fun b hb => hF b hb) (fun _ _ _ _ h => h) (hr tm oss) (fun _ _ => rfl)
  rwa [klL_nil] at this)).mono ?_
 rintro x w' ⟨v, os, he, hb, hr', hnd, hos⟩
 have outs : ∀ (F' : Nat → Prop) (vs : List Value) (args : List AV), args.length = vs.length → ∀ tm oss, RepTL P w' F' tm oss (args.map fun _ => AV.any) vs [] := by
  intro F' vs
  induction vs with
  | nil => intro args hl tm oss; rw [List.length_eq_zero_iff.1 hl]; exact .nil _
  | cons v vs ih => intro args hl tm oss; cases args with
   | nil => simp at hl
   | cons c args => exact .cons _ _ [] _ _ [] (.any _) (ih args (by simpa using hl) tm oss)
 have hx : Ext (fun b => b < w.heap.size ∧ b ∉ ([] : List Nat)) w w' := ⟨hb.os, hb.tape, hb.output, hb.size, fun k hk => hb.block k hk.1, hb.drawn⟩
 have h1 := hr' (fun _ => undef) (fun _ => [])
 generalize hc : AV.own e n cs = c at h1
 generalize hoo : os = oo at h1
 cases h1 with
 | cell c v os h1 =>
  subst hc
  cases h1 with
  | own0 e => exact ⟨_, [], [], F0, he, hx, fun _ h => h, fun _ h => .inl h, fun tm oss => .cell _ _ _ (.own0 e), outs _ _ _ hl, by simpa using hl, by simp, by simp⟩
  | own b e n cap c cs ok hb1 hn1 hc1 hl1 =>
   subst hoo
   have hb0 := hos b (by simp)
   have hnd2 := List.nodup_cons.1 hnd
   refine ⟨_, [b], [], fun x => F0 x ∨ (w.heap.size ≤ x ∧ x < w'.heap.size ∧ x ≠ b), he, hx, fun _ h => .inl h, fun x hx => ?_, fun tm oss => .cell _ _ _ (.own b e n cap c _ [] hb1 hn1 hc1 ?_), outs _ _ _ hl, by simpa using hl, by simp, fun x hx => ?_⟩
   ·rcases hx with hx | hx
    ·exact .inl hx
    ·exact .inr ⟨.inr hx.1, hx.2.1⟩
   ·refine RepL.frz (fun x hx => ?_) hl1 (fun x hx => ?_)
    ·exact .inr ⟨hx.1, hx.2.1, fun e => hx.2.2 (by simp [e])⟩
    ·have := hos x (by simp [hx])
     exact .inr ⟨this.1, this.2, fun e => hnd2.1 (e ▸ hx)⟩
   ·simp at hx
    subst hx
    refine ⟨.inr hb0.1, hb0.2, fun hf => ?_⟩
    rcases hf with hf | hf
    ·have := hF x hf; omega
    ·exact hf.2.2 rfl
 | _ => simp at hc
section
variable {H : Type} {enc : TypeId × Value → H} {P : Program}
theorem post_of_below {f : Func} {s : ChangeSpec} {apart fresh handsOn again : Bool} {W W' : World} {args : Array Value} {v : Value} {ds gs : List (DataW H)} {before pa pv : List MemPlace}
  (hW : DataW.Whole enc P f.params.toList s.vars apart W args.toList ds gs before)
  (hres : ∀ (b : Nat) (sp : Nat → Bool) (hd : Bool), DataW.TrodAll enc P W' b sp hd f.resultTypes.toList (v.resultList f.resultTypes.size) (s.fn H (ds ++ gs)).results [])
  (hargs : ∀ sp : Nat → Bool, (∀ p ∈ before, sp p.block = true) → DataW.TrodAll enc P W' 0 sp true f.params.toList args.toList (s.fn H (ds ++ gs)).args pa)
  (hvars : ∀ sp : Nat → Bool, (∀ p ∈ before, sp p.block = true) → DataW.TrodVars enc P W' sp s.vars (s.fn H (ds ++ gs)).vars pv)
  (hps : before = pa ++ pv) (hb : Below W.heap.size W W')
  (hok : ∀ (j : Nat) (t : TypeId) (r : Value), f.resultTypes[j]? = some t → (v.resultList f.resultTypes.size)[j]? = some r → Value.okWide P W' .any 0 t r) :
  s.post enc P f apart fresh handsOn again W args v W' := by
 have hlt : ∀ p ∈ before, p.block < W.heap.size := fun p hp => hW.lt p hp
 have hold : ∀ p ∈ before, (fun b => decide (b < W.heap.size)) p.block = true := fun p hp => by simpa using hlt p hp
 refine ⟨ds, gs, before, [], pa, pv, hW, hres _ _ _, hargs _ hold, hvars _ hold, World.keptBut_mono (fun p hp => ⟨hp, ?_⟩) (hb.frame (· ∈ before)), fun _ => ?_⟩
 ·rw [hps, List.mem_append] at hp
  exact Or.inr hp
 ·obtain ⟨_, _, _, _, _, hz, hn⟩ := hW
  refine ⟨hok, _, _, ([] ++ pa) ++ pv, ⟨[] ++ pa, pv, trodAll_append (hargs _ (fun _ _ => rfl)) (hres _ _ _), hvars _ (fun _ _ => rfl), rfl, ?_, ?_⟩, ?_⟩
  ·intro b off hp
   have hin : MemPlace.cell b off ∈ before := by rw [hps]; simpa using hp
   rw [hb.frozen (hlt _ hin)]
   exact hz b off hin
  ·intro ha
   have := hn ha
   rw [hps] at this
   simpa using this
  ·intro p hp _
   rw [hps]
   simpa using hp
end
end Go.Abs


namespace Go.Abs
variable [DrawK]
open Go.RowKit Go.WideShapes Go.ChangeShapes Go.Deep
section
variable {H : Type} {enc : TypeId × Value → H} {P : Program} {w : World} {sp : Nat → Bool} {held : Bool} {base : Nat}
theorem rows_rep {F : Nat → Prop} {c : Array Value} {e0 : TypeId} {fr : Nat × Nat} {b off s : Nat} (hb : w.heap[b]? = some (.cells c e0 fr)) {α : Type} {f : α → List AV} (hf : ∀ a, (f a).length = s) :
  ∀ (asx : List α) (i0 : Nat), (∀ (i : Nat) a, asx[i]? = some a → ∃ vs, vs.length = s ∧ (∀ j, j < s → c[off + (i0 + i) * s + j]? = vs[j]?) ∧ RepL P w F (f a) vs []) → RepL P w F (asx.flatMap f) (c.toList.drop (off + i0 * s)) []
 | [], i0, _ => .nil _
 | a :: asx, i0, h => by
  obtain ⟨vs, h1, h2, h3⟩ := h 0 a rfl
  have ih := rows_rep hb hf asx (i0 + 1) (fun i a hi => by
   have := h (i + 1) a (by simpa using hi)
   rw [show i0 + (i + 1) = i0 + 1 + i by omega] at this
   exact this)
  rw [List.flatMap_cons]
  refine RepL.of_get (fun j cc hj => ?_)
  by_cases hjs : j < s
  ·rw [List.getElem?_append_left (by rw [hf]; exact hjs)] at hj
   obtain ⟨v, hv, hr⟩ := h3.get0 hj
   refine ⟨v, ?_, hr⟩
   rw [List.getElem?_drop, Array.getElem?_toList, ← hv, ← h2 j hjs]
   simp
  ·rw [List.getElem?_append_right (by rw [hf]; omega), hf] at hj
   obtain ⟨v, hv, hr⟩ := ih.get0 hj
   refine ⟨v, ?_, hr⟩
   rw [List.getElem?_drop] at hv ⊢
   rw [← hv]
   congr 1
   rw [Nat.add_mul]; omega
theorem open_sl {t e : TypeId} (ht : P.underlying t = some (.slice e)) {s : Nat} (hs : P.cellsOf e = s) (hpos : 0 < s) {α : Type} {f : α → List AV} (hf : ∀ a, (f a).length = s) {Good : α → Prop}
  (hel : ∀ n cs y, DataW.trod enc P w base sp held n e cs = some y → ∃ a, Good a ∧ RepL P w (fun b => b < w.heap.size) (f a) cs [])
  {n : Nat} {cs : List Value} {x : DataW H × List MemPlace} (h : DataW.trod enc P w base sp held n t cs = some x) :
  ∃ asx : List α, (∀ a ∈ asx, Good a) ∧ asx.length ≤ 9223372036854775807 ∧ RepL P w (fun b => b < w.heap.size) [.sl asx.length (asx.flatMap f)] cs [] ∧ cs.length = 1 := by
 rcases DataW.trod_slice ht h with ⟨rfl, _⟩ | ⟨a, len, cap, elems, rest, m, _, rfl, _, hb, hl, hm, hlen, hel2, _, _⟩
 ·exact ⟨[], by simp, by simp, .cons _ _ [] _ _ [] (.sl0 none 0) (.nil _), rfl⟩
 ·have hmax : maxLen ≤ 9223372036854775807 := by decide
  have each : ∀ i, i < len → ∃ (vs : List Value) (q : α), w.cells? base (a.add (i * s)) s = some vs ∧ Good q ∧ RepL P w (fun b => b < w.heap.size) (f q) vs [] := by
   intro i hi
   have h1 := hel2 i hi
   rw [hs] at h1
   have h2 : elems[i]? = some (elems[i]'(by omega)) := List.getElem?_eq_getElem _
   rw [h2, Option.bind_eq_some_iff] at h1
   obtain ⟨vs, h3, h4⟩ := h1
   obtain ⟨q, h5, h6⟩ := hel _ _ _ h4
   exact ⟨vs, q, h3, h5, h6⟩
  have mk : ∀ k, k ≤ len → ∃ asx : List α, asx.length = k ∧ (∀ a ∈ asx, Good a) ∧ ∀ i q, asx[i]? = some q → ∃ vs, w.cells? base (a.add (i * s)) s = some vs ∧ RepL P w (fun b => b < w.heap.size) (f q) vs [] := by
   intro k
   induction k with
   | zero => intro _; exact ⟨[], rfl, by simp, by simp⟩
   | succ k ih =>
    intro hk
    obtain ⟨asx, k1, k2, k3⟩ := ih (by omega)
    obtain ⟨vs, q, h1, h2, h3⟩ := each k (by omega)
    refine ⟨asx ++ [q], by simp [k1], ?_, ?_⟩
    ·intro z hz
     rcases List.mem_append.1 hz with hz | hz
     ·exact k2 z hz
     ·simp at hz; subst hz; exact h2
    ·intro i z hz
     by_cases hi : i < asx.length
     ·rw [List.getElem?_append_left hi] at hz; exact k3 i z hz
     ·rw [List.getElem?_append_right (by omega)] at hz
      have hi0 : i - asx.length = 0 := by
       have := (List.getElem?_eq_some_iff.1 hz).1
       simp at this; omega
      rw [hi0] at hz
      simp at hz; subst hz
      have : i = k := by omega
      subst this
      exact ⟨vs, h1, h3⟩
  obtain ⟨asx, k1, k2, k3⟩ := mk len (Nat.le_refl _)
  refine ⟨asx, k2, by omega, ?_, rfl⟩
  rw [k1]
  by_cases h0 : len = 0
  ·subst h0
   have : asx = [] := List.eq_nil_of_length_eq_zero k1
   subst this
   exact .cons _ _ [] _ _ [] (.sl0 _ _) (.nil _)
  ·
   obtain ⟨vs, q, h1, _, _⟩ := each 0 (by omega)
   obtain ⟨g1, g2, g3⟩ := World.cells?_some h1
   have c0 := g3 0 hpos
   have hv0 : ∃ v, vs[0]? = some v := ⟨vs[0]'(by omega), List.getElem?_eq_getElem _⟩
   obtain ⟨v0, hv0⟩ := hv0
   rw [hv0] at c0
   have ea : (a.add (0 * s)).add 0 = a := by simp [Addr.add]
   rw [ea] at c0
   obtain ⟨b, off, spot⟩ := a
   unfold World.cell? at c0
   simp only at c0
   cases hbk : w.heap[b]? with
   | none => simp [hbk] at c0
   | some o =>
    cases o with
    | cells c et fr =>
     simp only [hbk] at c0
     cases spot with
     | some z => simp at c0
     | none =>
      refine .cons _ _ [] _ _ [] (.sl b off len cap c et fr _ ?_ hbk ?_ hl) (.nil _)
      ·rcases Nat.lt_or_ge b w.heap.size with hlt | hge
       ·exact hlt
       ·simp [Array.getElem?_eq_none hge] at hbk
      ·have := rows_rep (P := P) (F := fun b => b < w.heap.size) (off := off) hbk hf asx 0 (fun i q hi => by
        obtain ⟨vs, m1, m2⟩ := k3 i q hi
        obtain ⟨p1, p2, p3⟩ := World.cells?_some m1
        refine ⟨vs, p2, fun j hj => ?_, m2⟩
        rw [← p3 j hj]
        rw [Nat.zero_add]
        have e1 : ((⟨b, off, none⟩ : Addr).add (i * s)).add j = ⟨b, off + i * s + j, none⟩ := by
         unfold Addr.add; split <;> split <;> simp_all <;> omega
        rw [e1, cell_of hbk])
       simpa using this
    | _ => simp [hbk] at c0
theorem open_i {t : TypeId} {k : IntKind} (ht : P.underlying t = some (.int k)) {F : Nat → Prop} {n : Nat} {cs : List Value} {y : DataW H × List MemPlace} (h : DataW.trod enc P w base sp held n t cs = some y) :
  ∃ z : Int, (Lit.int k z).wf = true ∧ RepL P w F [.val (.int k z)] cs [] ∧ cs.length = 1 := by
 obtain ⟨z, rfl, _, hw⟩ := DataW.trod_int ht h
 exact ⟨z, hw, .cons _ _ [] _ _ [] (.val _ rfl) (.nil _), rfl⟩
theorem RepL.one {F : Nat → Prop} {a : AV} {v : Value} (h : RepL P w F [a] [v] []) : RepC P w F a v [] := by
 obtain ⟨v', h1, h2⟩ := h.get0 (i := 0) rfl
 simp at h1; subst h1; exact h2
theorem trodAll_carry {w' : World} : ∀ {ts : List TypeId} {vs : List Value} {ds : List (DataW H)} {ps : List MemPlace}, DataW.TrodAll enc P w base sp held ts vs ds ps → (∀ p ∈ ps, w.sameAt w' p) → DataW.TrodAll enc P w' base sp held ts vs ds ps
 | [], [], [], _, h, _ => h
 | _ :: _, _ :: _, _ :: _, _, ⟨p, q, ⟨n, h1⟩, h2, e⟩, hs => ⟨p, q, ⟨n, DataW.trod_carry n _ _ _ h1 (fun x hx => hs x (by rw [e]; exact List.mem_append_left _ hx))⟩, trodAll_carry h2 (fun x hx => hs x (by rw [e]; exact List.mem_append_right _ hx)), e⟩
theorem args_again {W W' : World} {ts : List TypeId} (K : Kids P (· < P.types.size)) (hz : ∀ t e, t < P.types.size → P.underlying t = some (.slice e) → 0 < P.cellsOf e) (hts : ts.all (fun t => decide (t < P.types.size)) = true) (hb : Below W.heap.size W W')
  {vs : List Value} {ds : List (DataW H)} {ps : List MemPlace} (h : DataW.TrodAll enc P W 0 (fun _ => true) true ts vs ds ps) (hlt : ∀ p ∈ ps, p.block < W.heap.size) {s : Nat → Bool} (hs : ∀ p ∈ ps, s p.block = true) :
  DataW.TrodAll enc P W' 0 s true ts vs ds ps :=
 (trodAll_carry h (fun p hp => hb.same (hlt p hp))).respare K hz (fun t ht => of_decide_eq_true (List.all_eq_true.1 hts t ht)) hs
end
end Go.Abs


namespace Go.Abs
variable [DrawK]
open Go.RowKit (Below)
open Go.Proofs Go.Sort Go.Shelf Go.RowKit Go.Lib
section
variable {P : Program} {w w' : World} {F F' : Nat → Prop}
theorem RepL.els {β : Type} (A : β → List AV) (k : Nat) : ∀ {xs : List β} {vs : List Value} {os : List Nat}, (∀ x ∈ xs, (A x).length = k) → RepL P w F (xs.flatMap A) vs os → os.Nodup →
  ∃ f : Nat → List Nat, (∀ (i : Nat) (hi : i < xs.length), RepL P w F (A xs[i]) ((vs.drop (i * k)).take k) (f i)) ∧ (∀ i b, b ∈ f i → b ∈ os) ∧ (∀ i, (f i).Nodup) ∧ ∀ i j b, b ∈ f i → b ∈ f j → i = j := by
 intro xs
 induction xs with
 | nil => intro vs os _ _ _; exact ⟨fun _ => [], by simp, by simp, by simp, by simp⟩
 | cons x xs ih =>
  intro vs os hk h hn
  obtain ⟨o1, o2, rfl, h1, h2⟩ := h.part k
  have hx := hk x (by simp)
  rw [List.flatMap_cons, List.take_left' hx] at h1
  rw [List.flatMap_cons, List.drop_left' hx] at h2
  have n := List.nodup_append.1 hn
  obtain ⟨f, f1, f2, f3, f4⟩ := ih (fun y hy => hk y (by simp [hy])) h2 n.2.1
  refine ⟨fun i => match i with | 0 => o1 | i + 1 => f i, fun i hi => ?_, fun i b hb => ?_, fun i => ?_, fun i j b hi hj => ?_⟩
  ·cases i with
   | zero => simpa using h1
   | succ i =>
    have := f1 i (by simpa using hi)
    rw [List.drop_drop] at this
    have e : (i + 1) * k = k + i * k := by rw [Nat.add_mul, Nat.one_mul, Nat.add_comm]
    rw [e]
    exact this
  ·cases i with
   | zero => simp at hb; simp [hb]
   | succ i => simp at hb; simp [f2 i b hb]
  ·cases i with
   | zero => exact n.1
   | succ i => exact f3 i
  ·cases i with
   | zero => cases j with
    | zero => rfl
    | succ j => exact (n.2.2 b hi b (f2 j b hj) rfl).elim
   | succ i => cases j with
    | zero => exact (n.2.2 b hj b (f2 i b hi) rfl).elim
    | succ j => rw [f4 i j b hi hj]
theorem RepL.join {β : Type} (A : β → List AV) (k : Nat) {xs : List β} {vs : List Value} {f : Nat → List Nat} (hk : ∀ x ∈ xs, (A x).length = k) (hl : xs.length * k ≤ vs.length)
  (h : ∀ (i : Nat) (hi : i < xs.length), RepL P w F (A xs[i]) ((vs.drop (i * k)).take k) (f i)) (hn : ∀ i, (f i).Nodup) (hd : ∀ i j b, b ∈ f i → b ∈ f j → i = j) :
  ∀ s : List (Fin xs.length), s.Nodup → RepL P w F ((s.map fun i => xs[i]).flatMap A) (s.flatMap fun i => (vs.drop (i.1 * k)).take k) (s.flatMap fun i => f i.1) ∧ (s.flatMap fun i => f i.1).Nodup
 | [], _ => ⟨.nil _, List.nodup_nil⟩
 | i :: s, hs => by
  have n := List.nodup_cons.1 hs
  obtain ⟨h1, h2⟩ := RepL.join A k hk hl h hn hd s n.2
  have hi := i.2
  refine ⟨?_, ?_⟩
  ·rw [List.map_cons, List.flatMap_cons, List.flatMap_cons, List.flatMap_cons]
   refine RepL.append (h i.1 hi) ?_ h1
   have e : i.1 * k + k ≤ xs.length * k := by
    have := Nat.mul_le_mul_right k (show i.1 + 1 ≤ xs.length from hi)
    rw [Nat.add_mul, Nat.one_mul] at this
    exact this
   refine (hk _ (List.getElem_mem hi)).trans ?_
   rw [List.length_take, List.length_drop]
   omega
  ·rw [List.flatMap_cons]
   refine List.nodup_append.2 ⟨hn _, h2, fun x hx y hy e => ?_⟩
   subst e
   obtain ⟨j, hj, hy⟩ := List.mem_flatMap.1 hy
   have := hd _ _ x hx hy
   exact n.1 (by rw [Fin.ext this]; exact hj)
theorem RepC.own_inv {e : TypeId} {n : Nat} {cs : List AV} {v : Value} {os : List Nat} (h : RepC P w F (.own e n cs) v os) :
  (n = 0 ∧ cs = [] ∧ v = .slice none 0 0 ∧ os = []) ∨ ∃ (b cap : Nat) (c : Array Value) (os' : List Nat), os = b :: os' ∧ v = .slice (some ⟨b, 0, none⟩) n cap ∧ w.heap[b]? = some (.cells c e (0, 0)) ∧ n ≤ cap ∧ cap * P.cellsOf e ≤ c.size ∧ RepL P w F cs c.toList os' := by
 cases h with
 | own0 _ => exact .inl ⟨rfl, rfl, rfl, rfl⟩
 | own b _ _ cap c _ os hb hn hc hl => exact .inr ⟨b, cap, c, os, rfl, rfl, hb, hn, hc, hl⟩
theorem Ext.grown (hD1 : dK = 1) (h : Ext (fun b => b < w.heap.size) w w') : ∃ q os', w' = grow (w.drewN q) os' := by
 refine ⟨w'.drawn - w.drawn, w'.heap.extract w.heap.size w'.heap.size, ?_⟩
 have h1 := h.os; have h2 := h.tape; have h3 := h.output; have h4 := h.size; have h5 := h.block; have h6 := h.drawn
 rw [hD1, Nat.mul_one, Nat.mul_one] at h6
 obtain ⟨hp, t, d, o, u⟩ := w
 obtain ⟨hp', t', d', o', u'⟩ := w'
 simp only at *
 subst h1 h2 h3
 have e1 : hp' = hp ++ hp'.extract hp.size hp'.size := by
  apply Array.ext_getElem?
  intro i
  rw [Array.getElem?_append]
  split
  ·rename_i hi; exact h5 i hi
  ·rename_i hi
   rw [Array.getElem?_extract]
   have e : hp.size + (i - hp.size) = i := by omega
   rw [e]
   split
   ·rfl
   ·rename_i hn
    rw [Array.getElem?_eq_none]
    omega
 have e2 : d' = d + (d' - d) := by omega
 unfold grow World.drewN
 simp only
 rw [← e1, ← e2]
end
theorem freshL_mem : ∀ {cs : List AV}, freshL cs = true ↔ ∀ c ∈ cs, freshOK c = true
 | [] => by simp [freshL]
 | c :: cs => by simp [freshL, freshL_mem (cs := cs)]
theorem flatMap_len {β : Type} (f : β → List Value) (k : Nat) (hk : ∀ x, (f x).length = k) : ∀ xs : List β, (xs.flatMap f).length = xs.length * k
 | [] => by simp
 | x :: xs => by rw [List.flatMap_cons, List.length_append, flatMap_len f k hk xs, hk, List.length_cons, Nat.add_mul, Nat.one_mul, Nat.add_comm]
theorem flatMap_get {β : Type} [Inhabited β] (f : β → List Value) (k : Nat) (hk : ∀ x, (f x).length = k) : ∀ (xs : List β) (j : Nat), j < xs.length * k → (xs.flatMap f)[j]? = some ((f xs[j / k]!)[j % k]!)
 | [], j, h => by simp at h
 | x :: xs, j, h => by
  have k0 : 0 < k := by rcases Nat.eq_zero_or_pos k with e | e; · subst e; simp at h
                        ·exact e
  rw [List.flatMap_cons]
  by_cases hj : j < k
  ·rw [List.getElem?_append_left (by rw [hk]; exact hj), Nat.div_eq_of_lt hj, Nat.mod_eq_of_lt hj]
   have hj' : j < (f x).length := by rw [hk]; exact hj
   simp [hj']
  ·rw [List.getElem?_append_right (by rw [hk]; omega), hk]
   have e1 : j = (j - k) + k := by omega
   have hl : j - k < xs.length * k := by
    rw [List.length_cons, Nat.add_mul, Nat.one_mul] at h; omega
   rw [flatMap_get f k hk xs (j - k) hl]
   have e2 : j / k = (j - k) / k + 1 := by rw [← Nat.add_div_right _ k0, ← e1]
   have e3 : j % k = (j - k) % k := by conv => lhs; rw [e1]; rw [Nat.add_mod_right]
   rw [e2, e3]
   simp
section
variable {P : Program} {ρ : Ren}
theorem sortW_heap {α : Type} [Inhabited α] (enc : α → List Value) (k : Nat) (w : World) (b off m : Nat) (dk : Array α) (os : Array Obj) {z : Nat} (hz : z < w.heap.size) (hne : z ≠ b) :
  (sortWorldK enc k w b off m dk os).heap[z]? = w.heap[z]? := by
 unfold sortWorldK
 rw [heap_grow_old _ _ (by rw [size_putRowK]; exact hz)]
 simp [putRowK, putRow, mapBlock, Sort.ahead, Array.getElem?_modify, Ne.symm hne]
theorem sortW_blk {α : Type} [Inhabited α] (enc : α → List Value) (k : Nat) (w : World) (b off m : Nat) (dk : Array α) (os : Array Obj) {c : Array Value} {e : TypeId} {fr : Nat × Nat} (hb : w.heap[b]? = some (.cells c e fr)) :
  (sortWorldK enc k w b off m dk os).heap[b]? = some (.cells (putCells id off (flatK enc k dk) c) e fr) := by
 have hz : b < w.heap.size := (Array.getElem?_eq_some_iff.1 hb).1
 unfold sortWorldK
 rw [heap_grow_old _ _ (by rw [size_putRowK]; exact hz)]
 simp [putRowK, putRow, mapBlock, Sort.ahead, Array.getElem?_modify, hb, onCells]
theorem Ext.sorted {α : Type} [Inhabited α] (enc : α → List Value) (k : Nat) (w : World) (b m : Nat) (dk : Array α) (os : Array Obj) {G : Nat → Prop} (hG : ∀ z, G z → z < w.heap.size ∧ z ≠ b) : Ext G w (sortWorldK enc k w b 0 m dk os) where
 os := rfl
 tape := rfl
 output := rfl
 size := by unfold sortWorldK; rw [size_grow, size_putRowK]; exact Nat.le_add_right _ _
 block := fun z hz => sortW_heap enc k w b 0 m dk os (hG z hz).1 (hG z hz).2
 drawn := Nat.mul_le_mul_right _ (Nat.le_add_right _ _)
theorem holdsK_cells {n : Nat} (hn : 0 < n) (k : Nat) (w : World) (b : Nat) {c : Array Value} {e : TypeId} (hb : w.heap[b]? = some (.cells c e (0, 0))) (hs : n * k ≤ c.size) (d : Array (Fin n)) [Inhabited (Fin n)] (hd : d.size = n) (hv : ∀ i : Nat, i < n → (d[i]!).1 = i) :
  HoldsK (fun i : Fin n => (c.toList.drop (i.1 * k)).take k) k w b 0 d := by
 intro j hj
 rw [size_flatK, hd] at hj
 have k0 : 0 < k := by rcases Nat.eq_zero_or_pos k with e | e; · subst e; simp at hj
                       ·exact e
 have hq : j / k < n := Nat.div_lt_of_lt_mul (by rw [Nat.mul_comm]; exact hj)
 have hm := Nat.mod_lt j k0
 have he : j / k * k + j % k = j := by rw [Nat.mul_comm]; exact Nat.div_add_mod j k
 have hjc : j < c.size := by omega
 refine ⟨?_, by simp [World.frozen?, hb]⟩
 rw [get_flatK _ _ _ _ (by rw [hd]; exact hj)]
 simp only [World.cell?, hb, Nat.zero_add, hv _ hq, id]
 simp [hm, he, hjc]
theorem sort_mcon (L : SlLaysF0.n6 P ρ) (k : Nat) (aE : ∀ w, (isAgg (ρ.t 24)).run P w = .ok true w) (zE : ∀ w, (Go.sizeOf (ρ.t 24)).run P w = .ok k w) (hen : Enters P (ρ.f 6)) {β : Type} (A : β → List AV) (cf : β → β → Int)
  (hO : SWO (ltOf cf)) (g : FuncId) (e : TypeId) (hce : P.cellsOf e = k) (xs : List β) (hk : ∀ x ∈ xs, (A x).length = k) (hfr : freshL (xs.flatMap A) = true)
  (hc : ∀ x ∈ xs, ∀ y ∈ xs, @Con ⟨1⟩ P g [.agg (frzL (A x)), .agg (frzL (A y))] (.int (cf x y))) (hsz : xs.length < 4611686018427387904) :
  ∃ ys : List β, ys.Perm xs ∧ ys.Pairwise (fun x y => ¬ cf y x < 0) ∧ MCon P (ρ.f 6) [.own e xs.length (xs.flatMap A), .val (.func (.func g) #[] #[])] (.tup []) [.own e xs.length (ys.flatMap A), .any] := by
 have inv : ∀ {w : World} {vs : List Value} {os : List Nat} {F : Nat → Prop}, [AV.own e xs.length (xs.flatMap A), .val (.func (.func g) #[] #[])].length = vs.length →
   (∀ tm oss, RepTL P w F tm oss [AV.own e xs.length (xs.flatMap A), .val (.func (.func g) #[] #[])] vs os) →
   ∃ v, vs = [v, .func (.func g) #[] #[]] ∧ RepC P w F (.own e xs.length (xs.flatMap A)) v os := by
  intro w vs os F hl hrep
  have hr := hrep (fun _ => undef) (fun _ => [])
  obtain ⟨v1, v2, rfl⟩ : ∃ v1 v2, vs = [v1, v2] := by
   match vs, hl with
   | [a, b], _ => exact ⟨a, b, rfl⟩
  cases hr with
  | cons _ _ o1 _ _ o2 h1 h2 =>
   cases h2 with
   | cons _ _ o3 _ _ o4 h3 h4 =>
    cases h4
    have e3 : o3 = [] := h3.noOwn (by simp [hasOwn])
    subst e3
    rw [h3.val_eq]
    exact ⟨v1, rfl, by simpa using h1.ofKids (by simp [kids])⟩
 by_cases hx0 : xs = []
 ·subst hx0
  refine ⟨[], List.Perm.refl _, List.Pairwise.nil, hen, ?_⟩
  intro w vs os hl hos hosl hrep
  obtain ⟨v, rfl, hv⟩ := inv hl hrep
  have key : ∃ p cap, v = .slice p 0 cap := by
   rcases hv.own_inv with ⟨_, _, h, _⟩ | ⟨b, cap, c, os', _, h, _⟩
   ·exact ⟨none, 0, h⟩
   ·exact ⟨_, cap, h⟩
  obtain ⟨p, cap, rfl⟩ := key
  refine (AnyF.slices_SortFunc_none L p cap (.func (.func g) #[] #[]) w).mono ?_
  rintro e' w' ⟨rfl, rfl⟩
  refine ⟨_, [], os, rfl, Ext.refl _ _, fun F tm oss => .tup [] [] [] rfl (.nil _), fun F tm oss => ?_, rfl, by simpa using hos, fun b hb => ?_⟩
  ·have := RepTL.cons (tm := tm) (oss := oss) _ _ _ _ _ _ (RepT.cell _ _ _ (hv.fresh (F' := F) (by simp [freshOK, freshL]))) (RepTL.cons .any (.func (.func g) #[] #[]) [] [] [] [] (.any _) (.nil _))
   simpa using this
  ·simp at hb
   exact ⟨.inl hb, hosl b hb⟩
 ·have hn0 : 0 < xs.length := List.length_pos_iff.2 hx0
  let inst : Inhabited (Fin xs.length) := ⟨⟨0, hn0⟩⟩
  let d : Array (Fin xs.length) := Array.ofFn id
  have hd : d.size = xs.length := by simp [d]
  have hdv : ∀ i : Nat, i < xs.length → (d[i]!).1 = i := fun i hi => by
   rw [getElem!_pos d i (by rw [hd]; exact hi)]; simp [d]
  let cf' : Fin xs.length → Fin xs.length → Int := fun i j => cf xs[i] xs[j]
  have hO' : SWO (ltOf cf') := ⟨fun x => hO.irrefl _, fun x y z => hO.trans _ _ _, fun x y z => hO.ntrans _ _ _⟩
  have hsort := pdq_sorts (ltOf cf') hO' d 0 d.size (Lib.bitLen d.size) true true (Nat.zero_le _) (Nat.le_refl _) (Or.inl rfl)
  let d' := pdq (ltOf cf') d 0 d.size (Lib.bitLen d.size) true true
  have hp : d'.toList.Perm d.toList := by
   have := hsort.1.2.2
   have e1 : d'.size = d.size := hsort.1.1
   have e2 : d'.extract 0 d.size = d' := by rw [← e1]; exact Array.extract_size
   have e3 : d.extract 0 d.size = d := Array.extract_size
   change (d'.extract 0 d.size).toList.Perm _ at this
   rw [e2, e3] at this
   exact this
  have hd' : d'.size = xs.length := hsort.1.1.trans hd
  have hnd : d.toList.Nodup := by
   refine List.pairwise_iff_getElem.2 fun i j hi hj hij => ?_
   simp [d, Fin.ext_iff]
   omega
  refine ⟨d'.toList.map fun i => xs[i], ?_, ?_, hen, ?_⟩
  ·have e1 : d.toList.map (fun i => xs[i]) = xs := by
    simp only [d, Array.toList_ofFn]
    apply List.ext_getElem <;> simp
   have := hp.map (fun i : Fin xs.length => xs[i])
   rw [e1] at this
   exact this
  ·rw [List.pairwise_map]
   refine List.pairwise_iff_getElem.2 fun i j hi hj hij => ?_
   have := hsort.2 i j (Nat.zero_le _) hij (by simpa [hd, hd'] using hj)
   have a1 : d'[i]! = d'.toList[i] := by rw [getElem!_pos d' i (by simpa using hi)]; simp
   have a2 : d'[j]! = d'.toList[j] := by rw [getElem!_pos d' j (by simpa using hj)]; simp
   change ltOf cf' d'[j]! d'[i]! = false at this
   rw [a1, a2] at this
   simpa [ltOf, cf'] using this
  ·intro w vs os hl hos hosl hrep
   obtain ⟨v, rfl, hv⟩ := inv hl hrep
   rcases hv.own_inv with ⟨h0, _⟩ | ⟨b, cap, c, os', rfl, rfl, hb, hnc, hcs, hL⟩
   ·omega
   rw [hce] at hcs
   have hle : xs.length * k ≤ c.size := Nat.le_trans (Nat.mul_le_mul_right k hnc) hcs
   have hnod := List.nodup_cons.1 hos
   obtain ⟨f, f1, f2, f3, f4⟩ := RepL.els A k hk hL hnod.2
   have hbz : b < w.heap.size := hosl b (by simp)
   let enc : Fin xs.length → List Value := fun i => (c.toList.drop (i.1 * k)).take k
   have hek : ∀ x, (enc x).length = k := fun i => by
    have e1 : i.1 * k + k ≤ xs.length * k := by
     have := Nat.mul_le_mul_right k (show i.1 + 1 ≤ xs.length from i.2)
     rw [Nat.add_mul, Nat.one_mul] at this
     exact this
    simp only [enc, List.length_take, List.length_drop, Array.length_toList]
    omega
   have he1 : ∀ x, ∀ v ∈ enc x, v.oneCell' = true := fun i v hv => by
    have h1 := (f1 i.1 i.2).oneCell v
    rw [hk _ (List.getElem_mem i.2)] at h1
    refine h1 ?_
    rw [List.take_take, Nat.min_self]
    exact hv
   have hcmp : CmpLays P g #[] enc k cf' b 0 d.size w := by
    intro m os2 dk hdk x y
    let W := sortWorldK enc k w b 0 m dk os2
    have hW : ∀ z, z < w.heap.size ∧ z ≠ b → W.heap[z]? = w.heap[z]? := fun z hz => sortW_heap enc k w b 0 m dk os2 hz.1 hz.2
    have hWs : w.heap.size ≤ W.heap.size := (Ext.sorted enc k w b m dk os2 (G := fun z => z < w.heap.size ∧ z ≠ b) (fun _ h => h)).size
    have hx : ∀ i : Fin xs.length, RepL P W (fun z => z < W.heap.size) (frzL (A xs[i])) (enc i) [] := fun i => by
     have h1 := (f1 i.1 i.2).frz (F' := fun z => z < w.heap.size ∧ z ≠ b) (fun z hz => ⟨hz.1, fun e => hz.2 (by simp [e])⟩)
      (fun z hz => ⟨hosl z (by simp [f2 _ z hz]), fun e => hnod.1 (e ▸ f2 _ z hz)⟩)
     exact h1.mono (fun z hz => Nat.lt_of_lt_of_le hz.1 hWs) (fun z hz => by
      rcases hz with hz | hz
      ·exact hW z hz
      ·simp at hz)
    have hfl : ∀ i : Fin xs.length, (frzL (A xs[i])).length = (enc i).length := fun i => by
     rw [frzL_eq, List.length_map, hek]; exact hk _ (List.getElem_mem i.2)
    have hcc := (hc xs[x] (List.getElem_mem x.2) xs[y] (List.getElem_mem y.2)).2 W [.agg (enc x).toArray, .agg (enc y).toArray] rfl
     (fun tm oss => .cons _ _ [] _ _ [] (.agg _ _ [] (hfl x) (hx x).toT) (.cons _ _ [] _ _ [] (.agg _ _ [] (hfl y) (hx y).toT) (.nil _)))
    refine hcc.mono ?_
    rintro e' w' ⟨v, o, rfl, h1, h2, _⟩
    refine ⟨?_, @Ext.grown ⟨1⟩ _ _ rfl h1⟩
    rw [(h2 (fun _ => undef) (fun _ => [])).val_eq]
   have hH : HoldsK enc k w b 0 d := holdsK_cells hn0 k w b hb hle d hd hdv
   have key := AnyQ.slices_SortFunc_eq L k aE zE enc hek he1 cf' hO' g #[] b 0 cap d w (fun args w => run_callFunc (hc _ (List.getElem_mem hn0) _ (List.getElem_mem hn0)).1 args) hcmp hH hbz (by rw [hd]; exact hsz)
   rw [hd] at key
   refine key.mono ?_
   rintro e' w' ⟨rfl, m, os2, rfl⟩
   have hd2 : pdq (ltOf cf') d 0 xs.length (Lib.bitLen xs.length) true true = d' := by simp only [d', hd]
   rw [hd2]
   have hnd' : d'.toList.Nodup := hp.nodup_iff.2 hnd
   obtain ⟨j1, j2⟩ := RepL.join (P := P) (w := w) A k hk (by simpa using hle) f1 f3 f4 d'.toList hnd'
   have hEx := Ext.sorted enc k w b m d' os2 (G := fun z => z < w.heap.size ∧ z ∉ b :: os') (fun z hz => ⟨hz.1, fun e => hz.2 (by simp [e])⟩)
   have hsub : ∀ z, z ∈ d'.toList.flatMap (fun i => f i.1) → z ∈ os' := fun z hz => by
    obtain ⟨i, _, h⟩ := List.mem_flatMap.1 hz
    exact f2 _ z h
   refine ⟨_, [], b :: d'.toList.flatMap (fun i => f i.1), rfl, hEx, fun F tm oss => .tup [] [] [] rfl (.nil _), fun F tm oss => ?_, rfl, ?_, fun z hz => ?_⟩
   ·have hcells : (putCells id 0 (flatK enc k d') c).toList.take (xs.length * k) = d'.toList.flatMap enc := by
     apply List.ext_getElem?
     intro j
     by_cases hj : j < xs.length * k
     ·rw [flatMap_get enc k hek _ _ (by simpa [hd'] using hj)]
      have hjc : j < c.size := by omega
      rw [List.getElem?_take_of_lt hj]
      have g1 := get_flatK enc k d' j (by rw [hd']; exact hj)
      rw [getElem!_pos _ j (by rw [size_flatK, hd']; exact hj)] at g1
      have k0 : 0 < k := by rcases Nat.eq_zero_or_pos k with h | h; · subst h; simp at hj
                            ·exact h
      have hq : j / k < d'.size := by rw [hd']; exact Nat.div_lt_of_lt_mul (by rw [Nat.mul_comm]; exact hj)
      rw [getElem!_pos d' (j / k) hq] at g1
      simp [putCells, hjc, hd', hj, hq]
      simpa [Array.getElem?_eq_getElem hq] using g1
     ·rw [List.getElem?_eq_none (by simp; omega), List.getElem?_eq_none]
      rw [flatMap_len enc k hek, Array.length_toList, hd']
      omega
    have hL2 : RepL P (sortWorldK enc k w b 0 m d' os2) F ((d'.toList.map fun i => xs[i]).flatMap A) (putCells id 0 (flatK enc k d') c).toList (d'.toList.flatMap fun i => f i.1) := by
     refine RepL.of_take (k := xs.length * k) ?_
     rw [hcells]
     have j3 : freshL ((d'.toList.map fun i => xs[i]).flatMap A) = true := by
      refine freshL_mem.2 fun c hc => ?_
      obtain ⟨x, hx, h⟩ := List.mem_flatMap.1 hc
      obtain ⟨i, _, rfl⟩ := List.mem_map.1 hx
      exact freshL_mem.1 hfr c (List.mem_flatMap.2 ⟨_, List.getElem_mem i.2, h⟩)
     refine (RepL.mono (F := fun z => z < w.heap.size ∧ z ∉ b :: os') (fun _ h => h) j1 (fun z hz => ?_)).fresh j3
     rcases hz with hz | hz
     ·exact hEx.block z hz
     ·exact sortW_heap enc k w b 0 m d' os2 (hosl z (by simp [hsub z hz])) (fun e => hnod.1 (e ▸ hsub z hz))
    have hown : RepC P (sortWorldK enc k w b 0 m d' os2) F (.own e xs.length ((d'.toList.map fun i => xs[i]).flatMap A)) (.slice (some ⟨b, 0, none⟩) xs.length cap) (b :: d'.toList.flatMap fun i => f i.1) :=
     .own b e xs.length cap _ _ _ (sortW_blk enc k w b 0 m d' os2 hb) hnc (by rw [hce]; simpa [putCells] using hcs) hL2
    have := RepTL.cons (tm := tm) (oss := oss) _ _ _ _ _ _ (RepT.cell _ _ _ hown) (RepTL.cons .any (.func (.func g) #[] #[]) [] [] [] [] (.any _) (.nil _))
    simpa using this
   ·simp only [List.nil_append]
    exact List.nodup_cons.2 ⟨fun h => hnod.1 (hsub _ h), j2⟩
   ·simp only [List.not_mem_nil, false_or, List.mem_cons] at hz
    refine ⟨.inl ?_, ?_⟩
    ·rcases hz with rfl | hz
     ·simp
     ·simp [hsub z hz]
    ·refine Nat.lt_of_lt_of_le ?_ hEx.size
     rcases hz with rfl | hz
     ·exact hbz
     ·exact hosl z (by simp [hsub z hz])
end
end Go.Abs


namespace Go.Abs
variable [DrawK]
open Go.RowKit (Below)
open Go.Proofs Go.Sort Go.Shelf Go.RowKit Go.Lib
theorem sortW1 {α : Type} [Inhabited α] (enc : α → Value) (w : World) (blk off m : Nat) (dk : Array α) (os : Array Obj) : sortWorld enc w blk off m dk os = sortWorldK (fun x => [enc x]) 1 w blk off m dk os := by
 unfold sortWorld sortWorldK putRowK
 congr 1
 unfold putRow
 congr 1
 funext c
 unfold putCells
 refine Array.ext (by simp) fun i h1 h2 => ?_
 simp only [Array.getElem_mapIdx, size_flatK, Nat.mul_one, id]
 split
 ·rename_i h
  rw [get_flatK _ _ _ _ (by omega), Nat.div_one, Nat.mod_one]; rfl
 ·rfl
section
variable {P : Program} {ρ : Ren}
theorem sort_mcon1 (L : SlLaysF.n6 P ρ) (hen : Enters P (ρ.f 6)) {β : Type} (B : β → AV) (cf : β → β → Int)
  (hO : SWO (ltOf cf)) (g : FuncId) (e : TypeId) (hce : P.cellsOf e = 1) (xs : List β) (hfr : freshL (xs.flatMap fun x => [B x]) = true)
  (hc : ∀ x ∈ xs, ∀ y ∈ xs, @Con ⟨1⟩ P g [frz (B x), frz (B y)] (.int (cf x y))) (hsz : xs.length < 4611686018427387904) :
  ∃ ys : List β, ys.Perm xs ∧ ys.Pairwise (fun x y => ¬ cf y x < 0) ∧ MCon P (ρ.f 6) [.own e xs.length (xs.flatMap fun x => [B x]), .val (.func (.func g) #[] #[])] (.tup []) [.own e xs.length (ys.flatMap fun x => [B x]), .any] := by
 let A : β → List AV := fun x => [B x]
 let k : Nat := 1
 have hk : ∀ x ∈ xs, (A x).length = k := fun _ _ => rfl
 have inv : ∀ {w : World} {vs : List Value} {os : List Nat} {F : Nat → Prop}, [AV.own e xs.length (xs.flatMap A), .val (.func (.func g) #[] #[])].length = vs.length →
   (∀ tm oss, RepTL P w F tm oss [AV.own e xs.length (xs.flatMap A), .val (.func (.func g) #[] #[])] vs os) →
   ∃ v, vs = [v, .func (.func g) #[] #[]] ∧ RepC P w F (.own e xs.length (xs.flatMap A)) v os := by
  intro w vs os F hl hrep
  have hr := hrep (fun _ => undef) (fun _ => [])
  obtain ⟨v1, v2, rfl⟩ : ∃ v1 v2, vs = [v1, v2] := by
   match vs, hl with
   | [a, b], _ => exact ⟨a, b, rfl⟩
  cases hr with
  | cons _ _ o1 _ _ o2 h1 h2 =>
   cases h2 with
   | cons _ _ o3 _ _ o4 h3 h4 =>
    cases h4
    have e3 : o3 = [] := h3.noOwn (by simp [hasOwn])
    subst e3
    rw [h3.val_eq]
    exact ⟨v1, rfl, by simpa using h1.ofKids (by simp [kids])⟩
 by_cases hx0 : xs = []
 ·subst hx0
  refine ⟨[], List.Perm.refl _, List.Pairwise.nil, hen, ?_⟩
  intro w vs os hl hos hosl hrep
  obtain ⟨v, rfl, hv⟩ := inv hl hrep
  have key : ∃ p cap, v = .slice p 0 cap := by
   rcases hv.own_inv with ⟨_, _, h, _⟩ | ⟨b, cap, c, os', _, h, _⟩
   ·exact ⟨none, 0, h⟩
   ·exact ⟨_, cap, h⟩
  obtain ⟨p, cap, rfl⟩ := key
  refine (AnyF.slices_SortFunc_none (P := P) (ρ := ρ) { L with } p cap (.func (.func g) #[] #[]) w).mono ?_
  rintro e' w' ⟨rfl, rfl⟩
  refine ⟨_, [], os, rfl, Ext.refl _ _, fun F tm oss => .tup [] [] [] rfl (.nil _), fun F tm oss => ?_, rfl, by simpa using hos, fun b hb => ?_⟩
  ·have := RepTL.cons (tm := tm) (oss := oss) _ _ _ _ _ _ (RepT.cell _ _ _ (hv.fresh (F' := F) (by simp [freshOK, freshL]))) (RepTL.cons .any (.func (.func g) #[] #[]) [] [] [] [] (.any _) (.nil _))
   simpa using this
  ·simp at hb
   exact ⟨.inl hb, hosl b hb⟩
 ·have hn0 : 0 < xs.length := List.length_pos_iff.2 hx0
  let inst : Inhabited (Fin xs.length) := ⟨⟨0, hn0⟩⟩
  let d : Array (Fin xs.length) := Array.ofFn id
  have hd : d.size = xs.length := by simp [d]
  have hdv : ∀ i : Nat, i < xs.length → (d[i]!).1 = i := fun i hi => by
   rw [getElem!_pos d i (by rw [hd]; exact hi)]; simp [d]
  let cf' : Fin xs.length → Fin xs.length → Int := fun i j => cf xs[i] xs[j]
  have hO' : SWO (ltOf cf') := ⟨fun x => hO.irrefl _, fun x y z => hO.trans _ _ _, fun x y z => hO.ntrans _ _ _⟩
  have hsort := pdq_sorts (ltOf cf') hO' d 0 d.size (Lib.bitLen d.size) true true (Nat.zero_le _) (Nat.le_refl _) (Or.inl rfl)
  let d' := pdq (ltOf cf') d 0 d.size (Lib.bitLen d.size) true true
  have hp : d'.toList.Perm d.toList := by
   have := hsort.1.2.2
   have e1 : d'.size = d.size := hsort.1.1
   have e2 : d'.extract 0 d.size = d' := by rw [← e1]; exact Array.extract_size
   have e3 : d.extract 0 d.size = d := Array.extract_size
   change (d'.extract 0 d.size).toList.Perm _ at this
   rw [e2, e3] at this
   exact this
  have hd' : d'.size = xs.length := hsort.1.1.trans hd
  have hnd : d.toList.Nodup := by
   refine List.pairwise_iff_getElem.2 fun i j hi hj hij => ?_
   simp [d, Fin.ext_iff]
   omega
  refine ⟨d'.toList.map fun i => xs[i], ?_, ?_, hen, ?_⟩
  ·have e1 : d.toList.map (fun i => xs[i]) = xs := by
    simp only [d, Array.toList_ofFn]
    apply List.ext_getElem <;> simp
   have := hp.map (fun i : Fin xs.length => xs[i])
   rw [e1] at this
   exact this
  ·rw [List.pairwise_map]
   refine List.pairwise_iff_getElem.2 fun i j hi hj hij => ?_
   have := hsort.2 i j (Nat.zero_le _) hij (by simpa [hd, hd'] using hj)
   have a1 : d'[i]! = d'.toList[i] := by rw [getElem!_pos d' i (by simpa using hi)]; simp
   have a2 : d'[j]! = d'.toList[j] := by rw [getElem!_pos d' j (by simpa using hj)]; simp
   change ltOf cf' d'[j]! d'[i]! = false at this
   rw [a1, a2] at this
   simpa [ltOf, cf'] using this
  ·intro w vs os hl hos hosl hrep
   obtain ⟨v, rfl, hv⟩ := inv hl hrep
   rcases hv.own_inv with ⟨h0, _⟩ | ⟨b, cap, c, os', rfl, rfl, hb, hnc, hcs, hL⟩
   ·omega
   rw [hce] at hcs
   have hle : xs.length * k ≤ c.size := Nat.le_trans (Nat.mul_le_mul_right k hnc) hcs
   have hnod := List.nodup_cons.1 hos
   obtain ⟨f, f1, f2, f3, f4⟩ := RepL.els A k hk hL hnod.2
   have hbz : b < w.heap.size := hosl b (by simp)
   let enc : Fin xs.length → List Value := fun i => (c.toList.drop (i.1 * k)).take k
   have hek : ∀ x, (enc x).length = k := fun i => by
    have e1 : i.1 * k + k ≤ xs.length * k := by
     have := Nat.mul_le_mul_right k (show i.1 + 1 ≤ xs.length from i.2)
     rw [Nat.add_mul, Nat.one_mul] at this
     exact this
    simp only [enc, List.length_take, List.length_drop, Array.length_toList]
    omega
   have he1 : ∀ x, ∀ v ∈ enc x, v.oneCell' = true := fun i v hv => by
    have h1 := (f1 i.1 i.2).oneCell v
    rw [hk _ (List.getElem_mem i.2)] at h1
    refine h1 ?_
    rw [List.take_take, Nat.min_self]
    exact hv
   let en1 : Fin xs.length → Value := fun i => c.toList[i.1]?.getD undef
   have hen1 : ∀ i, enc i = [en1 i] := fun i => by
    have hi : i.1 < c.toList.length := by
     have h0 := i.2
     have h1 : xs.length * 1 ≤ c.size := hle
     have h2 : c.toList.length = c.size := Array.length_toList
     omega
    show (c.toList.drop (i.1 * 1)).take 1 = [c.toList[i.1]?.getD undef]
    rw [Nat.mul_one, List.drop_eq_getElem_cons hi, List.getElem?_eq_getElem hi]
    rfl
   have hsw : ∀ m (dk : Array (Fin xs.length)) os2, sortWorld en1 w b 0 m dk os2 = sortWorldK enc k w b 0 m dk os2 := fun m dk os2 => by
    have e1 : enc = fun i => [en1 i] := funext hen1
    rw [e1]
    exact sortW1 en1 w b 0 m dk os2
   have h11 : OneCell en1 := fun i => he1 i (en1 i) (by rw [hen1]; simp)
   have hcmp : CmpLays1 P g #[] en1 cf' b 0 d.size w := by
    intro m os2 dk hdk x y
    rw [hsw]
    let W := sortWorldK enc k w b 0 m dk os2
    have hW : ∀ z, z < w.heap.size ∧ z ≠ b → W.heap[z]? = w.heap[z]? := fun z hz => sortW_heap enc k w b 0 m dk os2 hz.1 hz.2
    have hWs : w.heap.size ≤ W.heap.size := (Ext.sorted enc k w b m dk os2 (G := fun z => z < w.heap.size ∧ z ≠ b) (fun _ h => h)).size
    have hx : ∀ i : Fin xs.length, RepC P W (fun z => z < W.heap.size) (frz (B xs[i])) (en1 i) [] := fun i => by
     have h1 := (f1 i.1 i.2).frz (F' := fun z => z < w.heap.size ∧ z ≠ b) (fun z hz => ⟨hz.1, fun e => hz.2 (by simp [e])⟩)
      (fun z hz => ⟨hosl z (by simp [f2 _ z hz]), fun e => hnod.1 (e ▸ f2 _ z hz)⟩)
     have h2 := h1.mono (fun z hz => Nat.lt_of_lt_of_le hz.1 hWs) (fun z hz => by
      rcases hz with hz | hz
      ·exact hW z hz
      ·simp at hz)
     have e2 : (c.toList.drop (i.1 * k)).take k = [en1 i] := hen1 i
     rw [e2] at h2
     exact h2.one
    have hcc := (hc xs[x] (List.getElem_mem x.2) xs[y] (List.getElem_mem y.2)).2 W [en1 x, en1 y] rfl
     (fun tm oss => .cons _ _ [] _ _ [] (.cell _ _ _ (hx x)) (.cons _ _ [] _ _ [] (.cell _ _ _ (hx y)) (.nil _)))
    refine hcc.mono ?_
    rintro e' w' ⟨v, o, rfl, h1, h2, _⟩
    refine ⟨?_, @Ext.grown ⟨1⟩ _ _ rfl h1⟩
    rw [(h2 (fun _ => undef) (fun _ => [])).val_eq]
   have hH : HoldsK enc k w b 0 d := holdsK_cells hn0 k w b hb hle d hd hdv
   have hH1 : Holds en1 w b 0 d := fun j hj => by
    have h := hH j (by rw [size_flatK]; show j < d.size * 1; omega)
    have e1 : (flatK enc k d)[j]! = en1 d[j]! := by
     rw [get_flatK enc k d j (by show j < d.size * 1; omega), hen1]
     show [en1 d[j / 1]!][j % 1]! = _
     rw [Nat.div_one, Nat.mod_one]; rfl
    rw [e1] at h
    exact h
   have key := Any.slices_SortFunc_eq L en1 h11 cf' hO' g #[] b 0 cap d w (fun args w => run_callFunc (hc _ (List.getElem_mem hn0) _ (List.getElem_mem hn0)).1 args) hcmp hH1 hbz (by rw [hd]; exact hsz)
   rw [hd] at key
   refine key.mono ?_
   rintro e' w' ⟨rfl, m, os2, hw'⟩
   rw [hsw] at hw'
   subst hw'
   have hd2 : pdq (ltOf cf') d 0 xs.length (Lib.bitLen xs.length) true true = d' := by simp only [d', hd]
   rw [hd2]
   have hnd' : d'.toList.Nodup := hp.nodup_iff.2 hnd
   obtain ⟨j1, j2⟩ := RepL.join (P := P) (w := w) A k hk (by simpa using hle) f1 f3 f4 d'.toList hnd'
   have hEx := Ext.sorted enc k w b m d' os2 (G := fun z => z < w.heap.size ∧ z ∉ b :: os') (fun z hz => ⟨hz.1, fun e => hz.2 (by simp [e])⟩)
   have hsub : ∀ z, z ∈ d'.toList.flatMap (fun i => f i.1) → z ∈ os' := fun z hz => by
    obtain ⟨i, _, h⟩ := List.mem_flatMap.1 hz
    exact f2 _ z h
   refine ⟨_, [], b :: d'.toList.flatMap (fun i => f i.1), rfl, hEx, fun F tm oss => .tup [] [] [] rfl (.nil _), fun F tm oss => ?_, rfl, ?_, fun z hz => ?_⟩
   ·have hcells : (putCells id 0 (flatK enc k d') c).toList.take (xs.length * k) = d'.toList.flatMap enc := by
     apply List.ext_getElem?
     intro j
     by_cases hj : j < xs.length * k
     ·rw [flatMap_get enc k hek _ _ (by simpa [hd'] using hj)]
      have hjc : j < c.size := by omega
      rw [List.getElem?_take_of_lt hj]
      have g1 := get_flatK enc k d' j (by rw [hd']; exact hj)
      rw [getElem!_pos _ j (by rw [size_flatK, hd']; exact hj)] at g1
      have k0 : 0 < k := Nat.one_pos
      have hq : j / k < d'.size := by rw [hd']; exact Nat.div_lt_of_lt_mul (by rw [Nat.mul_comm]; exact hj)
      rw [getElem!_pos d' (j / k) hq] at g1
      simp [putCells, hjc, hd', hj, hq]
      simpa [Array.getElem?_eq_getElem hq] using g1
     ·rw [List.getElem?_eq_none (by simp; omega), List.getElem?_eq_none]
      rw [flatMap_len enc k hek, Array.length_toList, hd']
      omega
    have hL2 : RepL P (sortWorldK enc k w b 0 m d' os2) F ((d'.toList.map fun i => xs[i]).flatMap A) (putCells id 0 (flatK enc k d') c).toList (d'.toList.flatMap fun i => f i.1) := by
     refine RepL.of_take (k := xs.length * k) ?_
     rw [hcells]
     have j3 : freshL ((d'.toList.map fun i => xs[i]).flatMap A) = true := by
      refine freshL_mem.2 fun c hc => ?_
      obtain ⟨x, hx, h⟩ := List.mem_flatMap.1 hc
      obtain ⟨i, _, rfl⟩ := List.mem_map.1 hx
      exact freshL_mem.1 hfr c (List.mem_flatMap.2 ⟨_, List.getElem_mem i.2, h⟩)
     refine (RepL.mono (F := fun z => z < w.heap.size ∧ z ∉ b :: os') (fun _ h => h) j1 (fun z hz => ?_)).fresh j3
     rcases hz with hz | hz
     ·exact hEx.block z hz
     ·exact sortW_heap enc k w b 0 m d' os2 (hosl z (by simp [hsub z hz])) (fun e => hnod.1 (e ▸ hsub z hz))
    have hown : RepC P (sortWorldK enc k w b 0 m d' os2) F (.own e xs.length ((d'.toList.map fun i => xs[i]).flatMap A)) (.slice (some ⟨b, 0, none⟩) xs.length cap) (b :: d'.toList.flatMap fun i => f i.1) :=
     .own b e xs.length cap _ _ _ (sortW_blk enc k w b 0 m d' os2 hb) hnc (by rw [hce]; simpa [putCells] using hcs) hL2
    have := RepTL.cons (tm := tm) (oss := oss) _ _ _ _ _ _ (RepT.cell _ _ _ hown) (RepTL.cons .any (.func (.func g) #[] #[]) [] [] [] [] (.any _) (.nil _))
    simpa using this
   ·simp only [List.nil_append]
    exact List.nodup_cons.2 ⟨fun h => hnod.1 (hsub _ h), j2⟩
   ·simp only [List.not_mem_nil, false_or, List.mem_cons] at hz
    refine ⟨.inl ?_, ?_⟩
    ·rcases hz with rfl | hz
     ·simp
     ·simp [hsub z hz]
    ·refine Nat.lt_of_lt_of_le ?_ hEx.size
     rcases hz with rfl | hz
     ·exact hbz
     ·exact hosl z (by simp [hsub z hz])
end
end Go.Abs

