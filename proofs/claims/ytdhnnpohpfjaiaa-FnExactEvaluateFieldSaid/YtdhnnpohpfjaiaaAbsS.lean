/- Structs: new ones, their parts, loads and stores of whole ones. It holds over any program. -/
import Derived.Test.YtdhnnpohpfjaiaaAbsK0
set_option linter.unusedVariables false
set_option linter.unusedSimpArgs false
namespace Go.Abs
open Go.RowKit (Below)

section
variable {P : Program} {N : Nat × List Nat} {G : Nat → Prop} {w0 : World × (Nat → Value)} {w w' : World} {S : St} {a : Act} {F : Nat → Prop} {oss : Nat → List Nat} {X : List Nat}

mutual
theorem roots_nil_rep {tm tm' : Nat → Value} {oss oss' : Nat → List Nat} {c : AV} {v : Value} {os : List Nat} (h : RepT P w F tm oss c v os) (hr : roots c = []) : RepT P w F tm' oss' c v os := by
  cases h with
  | any v => exact .any v
  | cell c v os h => exact .cell _ _ _ h
  | agg cs vs os hl h => exact .agg cs vs os hl (rootsL_nil_rep h hr)
  | tup cs vs os hl h => exact .tup cs vs os hl (rootsL_nil_rep h hr)
  | fn f cs vs os hl h => exact .fn f cs vs os hl (rootsL_nil_rep h hr)
  | bor s p v h => simp [roots] at hr
  | ptr s p off u b h hb => simp [roots] at hr
  | slp s p off n cap u b h hb hn => simp [roots] at hr
theorem rootsL_nil_rep {tm tm' : Nat → Value} {oss oss' : Nat → List Nat} {cs : List AV} {vs : List Value} {os : List Nat} (h : RepTL P w F tm oss cs vs os) (hr : rootsL cs = []) : RepTL P w F tm' oss' cs vs os := by
  cases h with
  | nil vs => exact .nil vs
  | cons c v os cs vs os' h t =>
    simp [rootsL] at hr
    exact .cons c v os cs vs os' (roots_nil_rep h hr.1) (rootsL_nil_rep t hr.2)
end

theorem run_loadAgg {T : TypeId} {m : Nat} (hT : kindT P T = some (some m)) {b off : Nat} {vs : List Value} (hl : vs.length = m) (h : ∀ j v, vs[j]? = some v → w.cell? ⟨b, off + j, none⟩ = some v) :
    (loadVar T ⟨b, off, none⟩).run P w = .ok (.agg vs.toArray) w := by
  obtain ⟨d, hd, hf, hm⟩ := kindT_agg hT
  obtain ⟨i, hi, hs⟩ := cellsOf_info hd
  have h1 := run_isAgg hd w
  rw [hf] at h1
  have h2 := run_loadCells_list (P := P) w ⟨b, off, none⟩ vs (fun j v hj => by rw [addr_add]; exact h j v hj)
  rw [hl, hm] at h2
  simp only [loadVar, Sem.run_bind, h1, Result.andThen_ok, if_true, run_sizeOf hi, h2, Sem.run_pure]

theorem RepL.toT {tm : Nat → Value} {cs : List AV} {vs : List Value} {os : List Nat} (h : RepL P w F cs vs os) : RepTL P w F tm oss cs vs os := by
  induction cs generalizing vs os with
  | nil => cases h; exact .nil _
  | cons c cs ih => cases h with | cons c v os cs vs os' h t => exact .cons _ _ _ _ _ _ (.cell _ _ _ h) (ih t)


/-- The things at these places are taken out: the turns, one after the other. -/
def tkU : St → List Loc → Option (List AV × List Upd)
  | _, [] => some ([], [])
  | S, (s, p) :: ls => match ctn S s p with
    | some (c, _) => match tkU (updn s (putP (S s) p .any) S) ls with
      | some (cs, U) => some (c :: cs, .n s (putP (S s) p .any) :: U)
      | none => none
    | none => none
theorem tkU_eq : ∀ {ls : List Loc} {S : St} {cs : List AV} {U : List Upd}, tkU S ls = some (cs, U) → tkLs S ls = some (cs, app U S)
  | [], S, cs, U, h => by simp [tkU] at h; obtain ⟨rfl, rfl⟩ := h; rfl
  | (s, p) :: ls, S, cs, U, h => by
    rw [tkU] at h
    split at h
    · rename_i c cc hc
      split at h
      · rename_i cs' U' h'
        injection h with h; obtain ⟨rfl, rfl⟩ := Prod.mk.injEq .. ▸ h
        rw [tkLs, hc]
        simp only
        rw [tkU_eq h']
        rfl
      · simp at h
    · simp at h

/-- A struct's value in slot t is taken over. -/
def takeA (S : St) (t : Nat) : Option (List AV × List Upd) :=
  match S t with
  | .agg cs => if hasOwnL cs then if (rootsL cs).isEmpty then some (cs, [.w t .any]) else none
    else match tkU S (cs.flatMap locB) with
      | some (lf, U) => match fillB cs lf with
        | some (es, []) => some (es, U)
        | _ => none
      | none => none
  | _ => none

theorem Core.takeA (h : Core P N G w0 S a w F oss X) {t : Nat} {es : List AV} {U : List Upd} (hc : takeA S t = some (es, U)) :
    ∃ oss' oc vs, tmo a t = .agg vs.toArray ∧ Core P N G w0 (app U S) a w F oss' (oc ++ X) ∧ (∀ tm oss'', RepTL P w F tm oss'' es vs oc) ∧ es.length = vs.length := by
  unfold Abs.takeA at hc
  split at hc
  · rename_i cs hS
    have hr := h.rep t
    rw [hS] at hr
    split at hc
    · split at hc
      · rename_i hroots
        injection hc with hc; obtain ⟨rfl, rfl⟩ := Prod.mk.injEq .. ▸ hc
        obtain ⟨k1, k2⟩ := h.take t
        generalize hu : tmo a t = u at hr
        generalize ho : oss t = ot at hr k1
        cases hr with
        | cell _ _ _ hc => cases hc
        | agg _ vs os hl hL => exact ⟨_, ot, vs, rfl, k1, fun tm oss'' => rootsL_nil_rep hL (by simpa using hroots), hl⟩
      · simp at hc
    · split at hc
      · rename_i lf U1 h1
        split at hc
        · rename_i es' h3
          injection hc with hc; obtain ⟨rfl, rfl⟩ := Prod.mk.injEq .. ▸ hc
          obtain ⟨us, oc, oss1, k1, k2⟩ := h.tkLs (tkU_eq h1)
          generalize hu : tmo a t = u at hr
          generalize oss t = ot at hr
          cases hr with
          | cell _ _ _ hc => cases hc
          | agg _ vs os hl hL =>
            have h3' : fillB cs (lf ++ []) = some (es', []) := by simpa using h3
            obtain ⟨m1, m2⟩ := fillB_rep (F0 := F) (fun _ h => h) hL k2 h3'
            exact ⟨oss1, oc, vs, rfl, k1, m1, m2.trans hl⟩
        · simp at hc
      · simp at hc
  · simp at hc

/-- A cell's own things. -/
def cellB : AV → Bool
  | .val _ => true
  | .sl _ _ => true
  | .own _ _ _ => true
  | .box _ _ => true
  | .fptr _ => true
  | .mp _ => true
  | .fmp _ => true
  | _ => false
def cellsB : List AV → Bool
  | [] => true
  | c :: cs => cellB c && cellsB cs
theorem RepTL.toL {tm : Nat → Value} : ∀ {cs : List AV} {vs : List Value} {os : List Nat}, RepTL P w F tm oss cs vs os → cellsB cs = true → RepL P w F cs vs os
  | [], vs, os, h, _ => by cases h; exact .nil _
  | c :: cs, vs, os, h, hb => by
    simp [cellsB] at hb
    cases h with
    | cons _ v o1 _ vs o2 h t =>
      refine .cons _ _ _ _ _ _ ?_ (RepTL.toL t hb.2)
      cases h with
      | cell _ _ _ h => exact h
      | _ => simp [cellB] at hb

/-- The parts of a struct in a new block, seen from the slot of its address. -/
def ldCs (s : Nat) (p : List Nat) : Nat → List AV → List AV
  | _, [] => []
  | i, c :: cs => ldC s p i c :: ldCs s p (i + 1) cs
theorem ldCs_rep {tm : Nat → Value} {s : Nat} {p : List Nat} {u : Value} {b : Nat} {c : Array Value} {e : TypeId} {fr : Nat × Nat} (hu : walkIn w (oss s) (tm s) p u) (hb : baseOf u = some b) (hx : b ∈ oss s)
    (hh : w.heap[b]? = some (.cells c e fr)) : ∀ {cs : List AV} {vs : List Value} {os : List Nat} (i : Nat), RepL P w F cs vs os → (∀ j v, vs[j]? = some v → c[i + j]? = some v) → RepTL P w F tm oss (ldCs s p i cs) vs []
  | [], vs, os, i, h, hv => .nil _
  | d :: cs, vs, os, i, h, hv => by
    cases h with
    | cons _ v o1 _ vs o2 h t =>
      have ht := ldCs_rep hu hb hx hh (i + 1) t (fun j v hj => by rw [show i + 1 + j = i + (j + 1) by omega]; exact hv (j + 1) v (by simpa using hj))
      refine .cons _ _ [] _ _ [] ?_ ht
      unfold ldC
      split
      · exact .bor s (p ++ [i]) v (walkIn_snoc hu hb hx hh (hv 0 v (by simp)))
      · rename_i ho
        cases h with
        | own0 => simp [isOB] at ho
        | own => simp [isOB] at ho
        | box => simp [isOB] at ho
        | mp => simp [isOB] at ho
        | it => simp [isOB] at ho
        | fmp b es clock c h1 h2 h3 => exact .cell _ _ _ (.fmp b es clock c h1 h2 h3)
        | any v h => exact .any v
        | val v h => exact .cell _ _ _ (.val v h)
        | sl0 x y => exact .cell _ _ _ (.sl0 x y)
        | sl b off n cap c e fr cs h1 h2 h3 h4 => exact .cell _ _ _ (.sl b off n cap c e fr cs h1 h2 h3 h4)
        | fptr b off c e fr cs h1 h2 h3 => exact .cell _ _ _ (.fptr b off c e fr cs h1 h2 h3)

def valsB : List AV → Bool
  | [] => true
  | .val _ :: cs => valsB cs
  | _ :: _ => false
theorem cvL_rep : ∀ (us : List Value), valsB (us.map cv) = true → RepL P w F (us.map cv) us []
  | [], _ => .nil _
  | u :: us, h => by
    rw [List.map_cons] at h ⊢
    generalize hc : cv u = c at h ⊢
    cases c with
    | val z =>
      obtain ⟨rfl, h1⟩ := cv_val hc
      exact .cons _ _ [] _ _ [] (.val _ h1) (cvL_rep us (by simpa [valsB] using h))
    | _ => simp [valsB] at h

/-! ## a new variable -/
def alS (P : Program) (d : Nat) (T : TypeId) : Option (Prop × List Nat × List Upd) :=
  match infoT P T with
  | some (_, _, zs) => if valsB zs then some (True, [], [.w d (.box T zs)]) else none
  | none => none

theorem al_sound (h : Core P N G w0 S a w F oss []) {T : TypeId} {d : Nat} (hd : OkD N d) {p : Prop} {rd : List Nat} {U : List Upd} (hm : alS P d T = some (p, rd, U)) :
    ∃ v w', (Instr.alloc T true (.tuple #[])).run P w = .ok v w' ∧ StRel P N G w0 (app U S) (a.put (some d) v) w' := by
  unfold alS at hm
  split at hm
  · rename_i s by_ zs hI
    split at hm
    · rename_i hz
      simp only [Option.some.injEq, Prod.mk.injEq] at hm; obtain ⟨rfl, rfl, rfl⟩ := hm
      obtain ⟨i, z, i1, i2, i3, i4, i5, i6, i7⟩ := infoT_some hI
      subst i6
      refine ⟨_, w.alloc (.cells z.cells T), ?_, h.newBox (w' := w.alloc (.cells z.cells T)) (c := z.cells) (e := T) rfl rfl rfl (by simp) (heap_alloc_new w _) (fun b hb => Below.heap_alloc w _ b hb) (cvL_rep _ hz) hd⟩
      simp [Instr.alloc, zeroValue, typeInfo, i1, i2, newVar, newRow]
    · simp at hm
  · simp at hm

/-! ## a variable that begins as a value -/
def bxS (cf : Cfg) (N : Nat × List Nat) (S : St) (d : Nat) (T : TypeId) (x : Operand) : Option (Prop × List Nat × List Upd) :=
  match x, aop S x with
  | .tmp t, .agg cs => match takeA S t with
    | some (es, U) => if cellsB es then
        if hasOwnL cs then some (t < N.1 ∧ t ≠ d, slotsOf x, U ++ [.w d (.box T es), .w t (.agg (ldCs d [] 0 es))])
        else some (True, slotsOf x, U ++ [.w d (.box T es)])
      else none
    | none => none
  | _, _ => match tk cf S x with
    | some (c, U) => some (True, slotsOf x, U ++ [.w d (.box T [c])])
    | none => none

theorem run_box (T : TypeId) (v : Value) (w : World) : (Instr.box T v).run P w = .ok (.pointer (some ⟨w.heap.size, 0, none⟩)) (w.alloc (.cells v.cells T)) := by
  simp [Instr.box, newVar, newRow]

theorem oneCell_cells {v : Value} (h : v.oneCell' = true) : v.cells = #[v] := by
  cases v <;> simp [Value.oneCell', Value.cells] at *

theorem bx_sound (h : Core P N G w0 S a w F oss []) {cf : Cfg} {T : TypeId} {d : Nat} (hd : OkD N d) {x : Operand} {p : Prop} {rd : List Nat} {U : List Upd} (hm : bxS cf N S d T x = some (p, rd, U)) (hp : p) :
    ∃ v w', (Instr.box T (a.eval x)).run P w = .ok v w' ∧ StRel P N G w0 (app U S) (a.put (some d) v) w' := by
  unfold bxS at hm
  split at hm
  · rename_i t cs hS
    split at hm
    · rename_i es U1 ht
      split at hm
      · rename_i hcb
        obtain ⟨oss', oc, vs, k1, k2, k3, k4⟩ := h.takeA ht
        have hev : a.eval (.tmp t) = .agg vs.toArray := k1
        have hL := (k3 (tmo a) oss').toL hcb
        simp only [List.append_nil] at k2
        have hnew : ∀ {cc : Array Value}, cc.toList = vs → RepL P w F es cc.toList oc := fun e => by rw [e]; exact hL
        have fin := k2.newBox (w' := w.alloc (.cells vs.toArray T)) (c := vs.toArray) (e := T) rfl rfl rfl (by simp) (heap_alloc_new w _) (fun b hb => Below.heap_alloc w _ b hb) (hnew rfl) hd
        have hrun : (Instr.box T (a.eval (.tmp t))).run P w = .ok (.pointer (some ⟨w.heap.size, 0, none⟩)) (w.alloc (.cells vs.toArray T)) := by
          rw [hev, run_box]; rfl
        split at hm
        · simp only [Option.some.injEq, Prod.mk.injEq] at hm; obtain ⟨rfl, rfl, rfl⟩ := hm
          obtain ⟨hp1, hp2⟩ := hp
          refine ⟨_, _, hrun, ?_⟩
          rw [app_append]
          obtain ⟨F2, oss2, m⟩ := fin
          have hrd := m.rep d
          have hSd : upd d (.box T es) (app U1 S) d = .box T es := by simp [upd, kl]
          rw [hSd] at hrd
          have hcd := hrd.ofKids (by simp [kids])
          have hbase : baseOf (tmo (a.put (some d) (.pointer (some ⟨w.heap.size, 0, none⟩))) d) = some w.heap.size := by
            have hl : d < a.tmps.size := by rw [h.sz]; exact hd.1
            simp [tmo, Act.put, hl, baseOf]
          have hval : tmo (a.put (some d) (.pointer (some ⟨w.heap.size, 0, none⟩))) d = .pointer (some ⟨w.heap.size, 0, none⟩) := by
            have hl : d < a.tmps.size := by rw [h.sz]; exact hd.1
            simp [tmo, Act.put, hl]
          rw [hval] at hcd
          have hvt : tmo (a.put (some d) (.pointer (some ⟨w.heap.size, 0, none⟩))) t = .agg vs.toArray := by
            rw [← k1]
            simp [tmo, Act.put, Array.getElem?_setIfInBounds, Ne.symm hp2]
          have hap : StRel P N G w0 (upd t (.agg (ldCs d [] 0 es)) (upd d (.box T es) (app U1 S))) ((a.put (some d) (.pointer (some ⟨w.heap.size, 0, none⟩))).put (some t) (.agg vs.toArray)) (w.alloc (.cells vs.toArray T)) := by
            generalize ho : oss2 d = od at hcd
            cases hcd with
            | box b _ c _ ol hb hl =>
              have hb' : (w.alloc (.cells vs.toArray T)).heap[w.heap.size]? = some (.cells vs.toArray T (0, 0)) := heap_alloc_new w _
              refine (m.put' hp1 (.inr hvt.symm) (c := .agg (ldCs d [] 0 es)) (od := []) (X' := []) ?_ (by simp) List.nodup_nil (by simp) List.nodup_nil).st
              have hll : (ldCs d [] 0 es).length = vs.length := by
                have : ∀ (cs : List AV) (i : Nat), (ldCs d [] i cs).length = cs.length := by
                  intro cs; induction cs with
                  | nil => intro i; rfl
                  | cons c cs ih => intro i; simp [ldCs, ih]
                rw [this, k4]
              refine .agg _ vs [] hll ?_
              have hq : RepL P (w.alloc (.cells vs.toArray T)) F2 es vs ol := by
                rw [hb] at hb'
                injection hb' with hb'
                injection hb' with hb' _ _
                subst hb'
                exact hl
              exact ldCs_rep (u := tmo (a.put (some d) (.pointer (some ⟨w.heap.size, 0, none⟩))) d) (p := []) (by exact rfl) hbase (by rw [ho]; simp) hb' 0 hq (fun j v hj => by rw [Nat.zero_add]; simpa using hj)
          have hput : (a.put (some d) (.pointer (some ⟨w.heap.size, 0, none⟩))).put (some t) (.agg vs.toArray) = a.put (some d) (.pointer (some ⟨w.heap.size, 0, none⟩)) := by
            rw [← hvt]
            exact put_self ..
          rw [hput] at hap
          exact hap
        · simp only [Option.some.injEq, Prod.mk.injEq] at hm; obtain ⟨rfl, rfl, rfl⟩ := hm
          refine ⟨_, _, hrun, ?_⟩
          rw [app_append]
          exact fin
      · simp at hm
    · simp at hm
  · rename_i x _ _ _
    split at hm
    · rename_i c U1 ht
      simp only [Option.some.injEq, Prod.mk.injEq] at hm; obtain ⟨rfl, rfl, rfl⟩ := hm
      obtain ⟨F', oss', oc, k1, k2, k3⟩ := h.tk ht
      simp only [List.append_nil] at k1
      refine ⟨_, _, run_box T _ w, ?_⟩
      rw [app_append, oneCell_cells k2.oneCell]
      have hL : RepL P w F' [c] [a.eval x] oc := by
        have := RepL.cons c (a.eval x) oc [] [] [] k2 (.nil [])
        simpa using this
      exact k1.newBox (w' := w.alloc (.cells #[a.eval x] T)) (c := #[a.eval x]) (e := T) rfl rfl rfl (by simp) (heap_alloc_new w _) (fun b hb => Below.heap_alloc w _ b hb) hL hd
    · simp at hm

/-! ## a field's address -/
/-- Where a struct's field begins. -/
def fldT (P : Program) (T : TypeId) (i : Nat) : Option Nat :=
  match P.underlying T with
  | some (.struct fs) => match fs[i]? with
    | some f => if P.cellsOf f.type = 0 then none else some f.offset
    | none => none
  | _ => none
def faS (P : Program) (S : St) (d : Nat) (T : TypeId) (x : Operand) (i : Nat) : Option (Prop × List Nat × List Upd) :=
  match fldT P T i with
  | some o => match adr S x with
    | some (s, p, off) => match ctn S s p with
      | some (_, cs) => some (cs ≠ [], slotsOf x ++ [s], [.w d (.ptr s p (off + o))])
      | none => none
    | none => match aop S x with
      | .fptr cs => some (True, slotsOf x, [.w d (.fptr (cs.drop o))])
      | _ => none
  | none => none

theorem run_fieldAt {T : TypeId} {i o : Nat} (h : fldT P T i = some o) (b off : Nat) (w : World) :
    (Instr.fieldAt T (.pointer (some ⟨b, off, none⟩)) i).run P w = .ok (.pointer (some ⟨b, off + o, none⟩)) w := by
  unfold fldT at h
  split at h
  · rename_i fs hT
    split at h
    · rename_i f hf
      split at h
      · simp at h
      · rename_i hz
        injection h with h; subst h
        obtain ⟨it, hi, hs⟩ : ∃ it, P.info? f.type = some it ∧ P.cellsOf f.type = it.size := by
          cases hi : P.info? f.type with
          | none => simp [Program.cellsOf, hi] at hz
          | some it => exact ⟨it, rfl, by simp [Program.cellsOf, hi]⟩
        rw [hs] at hz
        simp [Instr.fieldAt, run_underlying hT, hf, Instr.sureAddr, fieldPlace, run_sizeOf hi, hs, hz, Addr.add]
    · simp at h
  · simp at h

theorem fa_sound (h : Core P N G w0 S a w F oss []) {T : TypeId} {i d : Nat} (hd : OkD N d) {x : Operand} {p : Prop} {rd : List Nat} {U : List Upd} (hm : faS P S d T x i = some (p, rd, U)) (hp : p) :
    ∃ v, (Instr.fieldAt T (a.eval x) i).run P w = .ok v w ∧ StRel P N G w0 (app U S) (a.put (some d) v) w := by
  unfold faS at hm
  split at hm
  · rename_i o hF
    split at hm
    · rename_i s q off ha
      split at hm
      · rename_i cc cs hc
        simp only [Option.some.injEq, Prod.mk.injEq] at hm; obtain ⟨rfl, rfl, rfl⟩ := hm
        obtain ⟨hk, hg, hkc⟩ := ctn_some hc
        obtain ⟨u, o1, ou, o2, k1, k2, k3, k4, k5, k6⟩ := h.inplace hk hg
        obtain ⟨b, hb, hx⟩ := h.adr ha hc hp k1
        exact ⟨_, by rw [hx]; exact run_fieldAt hF b off w, h.put0 hd (.ptr s q (off + o) u b k1 hb)⟩
      · simp at hm
    · split at hm
      · rename_i cs hx
        simp only [Option.some.injEq, Prod.mk.injEq] at hm; obtain ⟨rfl, rfl, rfl⟩ := hm
        obtain ⟨os, ho, _⟩ := h.op x
        rw [hx] at ho
        generalize a.eval x = u at ho ⊢
        cases ho with
        | cell _ _ _ hc => cases hc with
          | fptr b off c e fr cs hF' hb hl =>
            refine ⟨_, run_fieldAt hF b off w, h.put0 hd (.cell _ _ _ (.fptr b (off + o) c e fr (cs.drop o) hF' hb ?_))⟩
            have := hl.drop o
            rwa [List.drop_drop] at this
      · simp at hm
  · simp at hm

/-! ## a whole struct, loaded -/
def ldAS (S : St) (d m : Nat) (x : Operand) : Option (Prop × List Nat × List Upd) :=
  match adr S x with
  | some (s, p, off) => match ctn S s p with
    | some (_, cs) => some (cs ≠ [] ∧ off + m ≤ cs.length, slotsOf x ++ [s], [.w d (.agg (ldCs s p off ((cs.drop off).take m)))])
    | none => none
  | none => match aop S x with
    | .fptr cs => some (0 < m ∧ m ≤ cs.length, slotsOf x, [.w d (.agg (cs.take m))])
    | _ => none

theorem ldCs_len (s : Nat) (p : List Nat) : ∀ (cs : List AV) (i : Nat), (ldCs s p i cs).length = cs.length
  | [], _ => rfl
  | c :: cs, i => by simp [ldCs, ldCs_len s p cs (i + 1)]

/-- A part of a row. -/
theorem RepL.part : ∀ {cs : List AV} {vs : List Value} {os : List Nat}, RepL P w F cs vs os → ∀ k, ∃ o1 o2, os = o1 ++ o2 ∧ RepL P w F (cs.take k) (vs.take k) o1 ∧ RepL P w F (cs.drop k) (vs.drop k) o2
  | cs, vs, os, h, 0 => ⟨[], os, rfl, .nil _, by simpa using h⟩
  | [], vs, os, h, k + 1 => by cases h; exact ⟨[], [], rfl, by simp; exact .nil _, by simp; exact .nil _⟩
  | c :: cs, vs, os, h, k + 1 => by
    cases h with
    | cons _ v o1 _ vs o2 h t =>
      obtain ⟨p1, p2, rfl, h1, h2⟩ := RepL.part t k
      exact ⟨o1 ++ p1, p2, by simp, by simpa using RepL.cons _ _ _ _ _ _ h h1, by simpa using h2⟩

theorem ldA_sound (h : Core P N G w0 S a w F oss []) {T : TypeId} {m d : Nat} (hT : kindT P T = some (some m)) (hd : OkD N d) {x : Operand} {p : Prop} {rd : List Nat} {U : List Upd} (hm : ldAS S d m x = some (p, rd, U)) (hp : p) :
    ∃ v, (Instr.loadAt T (a.eval x)).run P w = .ok v w ∧ StRel P N G w0 (app U S) (a.put (some d) v) w := by
  have run : ∀ {b off : Nat} {c : Array Value} {e : TypeId} {fr : Nat × Nat}, w.heap[b]? = some (.cells c e fr) → off + m ≤ c.size →
      (Instr.loadAt T (.pointer (some ⟨b, off, none⟩))).run P w = .ok (.agg ((c.toList.drop off).take m).toArray) w := by
    intro b off c e fr hb hl
    have := run_loadAgg (w := w) hT (b := b) (off := off) (vs := (c.toList.drop off).take m) (by simp; omega) (fun j v hj => by
      rw [cell_of hb]
      rw [List.getElem?_take] at hj
      split at hj
      · rw [List.getElem?_drop] at hj; simpa using hj
      · simp at hj)
    simp only [Instr.loadAt, Instr.sureAddr, Sem.run_bind, Sem.run_pure, Result.andThen_ok, this]
  unfold ldAS at hm
  split at hm
  · rename_i s q off ha
    split at hm
    · rename_i cc cs hc
      simp only [Option.some.injEq, Prod.mk.injEq] at hm; obtain ⟨rfl, rfl, rfl⟩ := hm
      obtain ⟨hne, hlen⟩ := hp
      obtain ⟨hk, hg, hkc⟩ := ctn_some hc
      obtain ⟨u, o1, ou, o2, k1, k2, k3, k4, k5, k6⟩ := h.inplace hk hg
      obtain ⟨b, hb, hx⟩ := h.adr ha hc hne k1
      obtain ⟨b', e, cur, ol, r1, r2, r3, r4, r5⟩ := rowOf k2 hkc hne
      rw [hb] at r1; injection r1 with r1; subst r1
      have hll := r4.length_le
      refine ⟨_, by rw [hx]; exact run r3 (by rw [← Array.length_toList]; omega), h.put0 hd (.agg _ _ [] ?_ ?_)⟩
      · rw [ldCs_len]; simp; rw [← Array.length_toList]; omega
      · obtain ⟨p1, p2, e1, g1, g2⟩ := r4.part off
        obtain ⟨p3, p4, e3, g3, g4⟩ := g2.part m
        exact ldCs_rep k1 hb (by rw [k3, r2]; simp) r3 off g3 (fun j v hj => by
          rw [List.getElem?_take] at hj
          split at hj
          · rw [List.getElem?_drop] at hj; simpa using hj
          · simp at hj)
    · simp at hm
  · split at hm
    · rename_i cs hx
      simp only [Option.some.injEq, Prod.mk.injEq] at hm; obtain ⟨rfl, rfl, rfl⟩ := hm
      obtain ⟨os, ho, _⟩ := h.op x
      rw [hx] at ho
      generalize a.eval x = u at ho ⊢
      cases ho with
      | cell _ _ _ hc => cases hc with
        | fptr b off c e fr cs hF' hb hl =>
          have hll := hl.length_le
          simp at hll
          have hp : 0 < m ∧ m ≤ cs.length := hp
          refine ⟨_, run hb (by omega), h.put0 hd (.agg _ _ [] (by simp; omega) ?_)⟩
          obtain ⟨p1, p2, e1, g1, g2⟩ := hl.part m
          have : p1 = [] := by
            have := congrArg List.length e1
            simp at this
            exact List.eq_nil_of_length_eq_zero (by omega)
          subst this
          exact g1.toT
    · simp at hm

/-! ## a whole struct, stored -/
def setMany {α : Type} : List α → Nat → List α → List α
  | l, _, [] => l
  | l, o, e :: es => setMany (l.set o e) (o + 1) es
theorem setMany_eq {α : Type} : ∀ (es l : List α) (o : Nat), o + es.length ≤ l.length → setMany l o es = l.take o ++ es ++ l.drop (o + es.length)
  | [], l, o, h => by simp [setMany]
  | e :: es, l, o, h => by
    simp only [List.length_cons] at h
    rw [setMany, setMany_eq es (l.set o e) (o + 1) (by simp; omega)]
    rw [List.take_add_one, List.take_set_of_le (Nat.le_refl o), List.drop_set_of_lt (by omega)]
    simp [show o < l.length by omega, Nat.add_assoc, Nat.add_comm 1]
/-- A row with other things in some of its places. -/
theorem RepL.setMany : ∀ {es : List AV} {vs : List Value} {oc : List Nat} {w' : World} {F' : Nat → Prop}, RepL P w' F' es vs oc → es.length = vs.length →
    ∀ {cs : List AV} {us : List Value} {os : List Nat} (o : Nat), RepL P w' F' cs us os → o + es.length ≤ cs.length →
    ∃ os', RepL P w' F' (Abs.setMany cs o es) (Abs.setMany us o vs) os' ∧ (∀ b, b ∈ os' → b ∈ os ∨ b ∈ oc) ∧ ((os ++ oc).Nodup → os'.Nodup)
  | [], vs, oc, w', F', h, hl, cs, us, os, o, k, hb => by
    cases h
    have : vs = [] := by simpa using hl.symm
    subst this
    exact ⟨os, k, fun b hb => .inl hb, fun hn => by simpa using hn⟩
  | e :: es, vs, oc, w', F', h, hl, cs, us, os, o, k, hb => by
    simp only [List.length_cons] at hb
    cases h with
    | cons _ v p1 _ vs p2 h t =>
      obtain ⟨v0, o1, ou, o2, q1, q2, q3, q4⟩ := RepL.get k (i := o) (List.getElem?_eq_getElem (show o < cs.length by omega))
      have k' := q4 w' F' e p1 v (fun _ h => h) (fun _ _ => rfl) h
      obtain ⟨os', m1, m2, m3⟩ := RepL.setMany t (by simpa using hl) (o + 1) k' (by simp; omega)
      refine ⟨os', m1, fun b hb => ?_, fun hn => m3 ?_⟩
      · rcases m2 b hb with hb | hb
        · simp only [List.mem_append] at hb ⊢
          rw [q3]
          rcases hb with hb | hb | hb <;> simp [hb]
        · exact .inr (by simp [hb])
      · rw [q3] at hn
        simp only [List.nodup_append, List.mem_append] at hn ⊢
        obtain ⟨⟨n1, ⟨n2, n3, n4⟩, n5⟩, ⟨n6, n7, n8⟩, n9⟩ := hn
        refine ⟨⟨n1, ⟨n6, n3, fun x hx y hy e => n9 y (.inr (.inr hy)) x (.inl hx) e.symm⟩, fun x hx y hy => ?_⟩, n7, fun x hx y hy => ?_⟩
        · rcases hy with hy | hy
          · exact n9 x (.inl hx) y (.inl hy)
          · exact n5 x hx y (.inr hy)
        · rcases hx with hx | hx | hx
          · exact n9 x (.inl hx) y (.inr hy)
          · exact n8 x hx y hy
          · exact n9 x (.inr (.inr hx)) y (.inr hy)

def stAS (P : Program) (S : St) (T : TypeId) (x y : Operand) : Option (Prop × List Nat × List Upd) :=
  match y with
  | .tmp t => match takeA S t with
    | some (es, U) => match adr (app U S) x with
      | some (s, p, off) => match ctn (app U S) s p with
        | some (cc, cs) => some (P.cellsOf T = es.length ∧ off + es.length ≤ cs.length ∧ cs ≠ [] ∧ cellsB es = true, slotsOf x ++ slotsOf y ++ [s], U ++ [.n s (putP ((app U S) s) p (setKids cc (setMany cs off es)))])
        | none => none
      | none => none
    | none => none
  | _ => none

theorem stA_sound (h : Core P N G w0 S a w F oss []) {T : TypeId} {m : Nat} (hT : kindT P T = some (some m)) {x y : Operand} {p : Prop} {rd : List Nat} {U : List Upd} (hm : stAS P S T x y = some (p, rd, U)) (hp : p) :
    ∃ w', (Instr.storeAt T (a.eval x) (a.eval y)).run P w = .ok () w' ∧ StRel P N G w0 (app U S) a w' := by
  unfold stAS at hm
  split at hm
  · rename_i t
    split at hm
    · rename_i es U1 htk
      obtain ⟨oss1, oc, vs, hv, h1, hes, hlen⟩ := h.takeA htk
      simp only [List.append_nil] at h1
      split at hm
      · rename_i s q off ha
        split at hm
        · rename_i cc cs hct
          simp only [Option.some.injEq, Prod.mk.injEq] at hm; obtain ⟨rfl, rfl, rfl⟩ := hm
          obtain ⟨hsz, hoff, hcs, hcb⟩ := hp
          obtain ⟨hk, hg, hkc⟩ := ctn_some hct
          obtain ⟨u, o1, ou, o2, k1, k2, k3, k4, k5, k6⟩ := h1.inplace hk hg
          obtain ⟨b, hb, hx⟩ := h1.adr ha hct hcs k1
          obtain ⟨b', e, cur, ol, r1, r2, r3, r4, r5⟩ := rowOf k2 hkc hcs
          rw [hb] at r1; injection r1 with r1; subst r1
          have hL := (hes (tmo a) oss1).toL hcb
          have hone : ∀ v ∈ vs, v.oneCell' = true := by
            have := hL.oneCell
            rw [hlen, List.take_length] at this
            exact this
          have hll := r4.length_le
          have hlv : off + vs.length ≤ cur.size := by rw [← Array.length_toList, ← hlen]; omega
          have hst := run_storeCells_at P b off e vs 0 cur w r3 (by simpa using hlv) hone
          have hrow : (cur.toList.take (off + 0) ++ vs ++ cur.toList.drop (off + 0 + vs.length)) = Abs.setMany cur.toList off vs := by
            rw [Nat.add_zero, setMany_eq vs cur.toList off (by simpa using hlv)]
          rw [hrow] at hst
          have hsm : (Abs.setMany cur.toList off vs).length = cur.size := by
            rw [setMany_eq vs cur.toList off (by simpa using hlv)]; simp; omega
          obtain ⟨i, hi, hs2⟩ : ∃ i, P.info? T = some i ∧ P.cellsOf T = i.size := by
            obtain ⟨d, hd, _⟩ := kindT_agg hT
            exact cellsOf_info hd
          let W' := w.setRow b (Abs.setMany cur.toList off vs).toArray
          have hev : a.eval (.tmp t) = .agg vs.toArray := hv
          refine ⟨W', ?_, ?_⟩
          · rw [hx, hev]
            have hc : (Value.agg vs.toArray).cells = vs.toArray := rfl
            simp only [Instr.storeAt, Instr.sureAddr, storeVar, Sem.run_bind, Sem.run_pure, Result.andThen_ok, run_sizeOf hi, hc]
            rw [hsz, hlen]
            simpa [W'] using hst
          · rw [app_append]
            have hbou : b ∈ ou := by rw [r2]; simp
            have hbol : ∀ z, z ∈ ol → z ≠ b := by
              intro z hz ez
              rw [r2] at k5
              exact (List.nodup_cons.1 k5).1 (ez ▸ hz)
            have hw' : ∀ z, z ≠ b → W'.heap[z]? = w.heap[z]? := fun z hz => setRow_other w b z _ hz
            have hocb : ∀ z, z ∈ oc → z ≠ b := fun z hz ez => (k4 b hbou).2.2 (ez ▸ hz)
            have hFb : ∀ z, F z → z ≠ b := fun z hz ez => (k4 b hbou).1 (ez ▸ hz)
            have r4' : RepL P W' F cs cur.toList ol := r4.mono (fun _ h => h) (fun z hz => hw' z (by rcases hz with hz | hz; exact hFb z hz; exact hbol z hz))
            have hL' : RepL P W' F es vs oc := hL.mono (fun _ h => h) (fun z hz => hw' z (by rcases hz with hz | hz; exact hFb z hz; exact hocb z hz))
            obtain ⟨os', g1, g2, g3⟩ := RepL.setMany hL' hlen off r4' hoff
            have hnew := r5 W' F _ os' (Abs.setMany cur.toList off vs).toArray (setRow_heap w b cur _ e _ r3) (by simpa using hsm) (by simpa using g1)
            have hsz' : W'.heap.size = w.heap.size := by simp [W']
            refine (k6 W' F _ _ [] rfl rfl rfl (by rw [hsz']; exact Nat.le_refl _) (fun z _ _ hz => hw' z (fun ez => hz (ez ▸ hbou))) (fun _ h => h) (fun _ h => .inl h) hnew ?_ ?_ (by simp) List.nodup_nil).st
            · intro z hz
              rw [hsz']
              have hin : z ∈ oc ∨ z ∈ ou := by
                rw [r2]
                rcases List.mem_cons.1 hz with hz | hz
                · exact .inr (by simp [hz])
                · rcases g2 z hz with hz | hz
                  · exact .inr (by simp [hz])
                  · exact .inl hz
              rcases hin with hin | hin
              · exact ⟨.inl hin, (h1.xo z hin).2, (h1.xo z hin).1⟩
              · exact ⟨.inr (.inl hin), (k4 z hin).2.1, (k4 z hin).1⟩
            · have hd : ∀ z, z ∈ ou → z ∉ oc := fun z hz => (k4 z hz).2.2
              rw [r2] at k5 hd
              have k5 := List.nodup_cons.1 k5
              refine List.nodup_cons.2 ⟨fun hz => ?_, g3 (List.nodup_append.2 ⟨k5.2, h1.xn, fun x hx y hy e => hd y (by rw [← e]; simp [hx]) hy⟩)⟩
              rcases g2 b hz with hz | hz
              · exact k5.1 hz
              · exact hd b (by simp) hz
        · simp at hm
      · simp at hm
    · simp at hm
  · simp at hm
end
end Go.Abs
