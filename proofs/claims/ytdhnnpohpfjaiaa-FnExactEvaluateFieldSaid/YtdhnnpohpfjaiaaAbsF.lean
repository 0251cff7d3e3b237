/- Operations on rows of cells: addresses, loads, stores, literals, make, append, len, calls. It holds over any program. -/
import Derived.Test.YtdhnnpohpfjaiaaAbsE
set_option linter.unusedVariables false
set_option linter.unusedSimpArgs false
namespace Go.Abs
open Go.RowKit (Below)

/-- Of a type: one cell, or a struct or array of so many. -/
def kindT (P : Program) (t : TypeId) : Option (Option Nat) :=
  match P.underlying t with
  | some (.struct _) => some (some (P.cellsOf t))
  | some (.array _ _) => some (some (P.cellsOf t))
  | some _ => some none
  | none => none
/-- A slice type's element type. -/
def elemT (P : Program) (t : TypeId) : Option TypeId :=
  match P.underlying t with
  | some (.slice e) => some e
  | _ => none
/-- A type's cells, bytes and zero. -/
def infoT (P : Program) (e : TypeId) : Option (Nat × Nat × List AV) :=
  match P.info? e with
  | some i => match i.zero with
    | some z => if z.cells.size = i.size then some (i.size, i.bytes, z.cells.toList.map cv) else none
    | none => none
  | none => none

def isAggD : TypeDesc → Bool
  | .struct _ => true
  | .array _ _ => true
  | _ => false
theorem kindT_one {P : Program} {t : TypeId} (h : kindT P t = some none) : ∃ d, P.underlying t = some d ∧ isAggD d = false := by
  unfold kindT at h
  split at h <;> first | (rename_i d h1 h2 h3; exact ⟨d, h3, by cases d <;> simp_all [isAggD]⟩) | simp at h
theorem kindT_agg {P : Program} {t : TypeId} {m : Nat} (h : kindT P t = some (some m)) : ∃ d, P.underlying t = some d ∧ isAggD d = true ∧ m = P.cellsOf t := by
  unfold kindT at h
  split at h
  · rename_i d hd; exact ⟨_, hd, rfl, by simpa using h.symm⟩
  · rename_i d hd; exact ⟨_, hd, rfl, by simpa using h.symm⟩
  · simp at h
  · simp at h
theorem elemT_some {P : Program} {t e : TypeId} (h : elemT P t = some e) : P.underlying t = some (.slice e) := by
  unfold elemT at h
  split at h
  · rename_i e' he; rw [he]; simpa using h
  · simp at h
theorem infoT_some {P : Program} {e : TypeId} {s b : Nat} {zs : List AV} (h : infoT P e = some (s, b, zs)) :
    ∃ i z, P.info? e = some i ∧ i.zero = some z ∧ i.size = s ∧ i.bytes = b ∧ z.cells.size = s ∧ zs = z.cells.toList.map cv ∧ P.cellsOf e = s := by
  unfold infoT at h
  split at h
  · rename_i i hi
    split at h
    · rename_i z hz
      split at h
      · rename_i hs; simp at h; obtain ⟨rfl, rfl, rfl⟩ := h; exact ⟨i, z, hi, hz, rfl, rfl, hs, rfl, by simp [Program.cellsOf, hi]⟩
      · simp at h
    · simp at h
  · simp at h

theorem cellsOf_info {P : Program} {t : TypeId} {d : TypeDesc} (h : P.underlying t = some d) : ∃ i, P.info? t = some i ∧ P.cellsOf t = i.size := by
  unfold Program.underlying at h
  cases hi : P.info? t with
  | none => simp [hi] at h
  | some i => exact ⟨i, rfl, by simp [Program.cellsOf, hi]⟩

section
variable {P : Program} {N : Nat × List Nat} {G : Nat → Prop} {w0 : World × (Nat → Value)} {w w' : World} {S : St} {a : Act} {F : Nat → Prop} {oss : Nat → List Nat} {X : List Nat}

theorem run_isAgg {t : TypeId} {d : TypeDesc} (h : P.underlying t = some d) (w : World) : (isAgg t).run P w = .ok (isAggD d) w := by
  simp only [isAgg, Sem.run_bind, run_underlying h, Result.andThen_ok]
  cases d <;> rfl

theorem walkIn_snoc {w : World} {X : List Nat} {i : Nat} : ∀ {p : List Nat} {v u v' : Value} {b : Nat} {c : Array Value} {e : TypeId} {fr : Nat × Nat}, walkIn w X v p u → baseOf u = some b → b ∈ X →
    w.heap[b]? = some (.cells c e fr) → c[i]? = some v' → walkIn w X v (p ++ [i]) v'
  | [], v, u, v', b, c, e, fr, h, hb, hx, hh, hc => ⟨b, c, e, fr, v', by rw [← (show u = v from h)]; exact hb, hx, hh, hc, rfl⟩
  | j :: p, v, u, v', b, c, e, fr, h, hb, hx, hh, hc => by
    obtain ⟨b1, c1, e1, fr1, v1, h1, h2, h3, h4, h5⟩ := h
    exact ⟨b1, c1, e1, fr1, v1, h1, h2, h3, h4, walkIn_snoc h5 hb hx hh hc⟩

/-- The row of a thing of ours. -/
theorem rowOf {c : AV} {u : Value} {os : List Nat} {cs : List AV} (h : RepC P w F c u os) (hk : kids c = some cs) (hne : cs ≠ []) :
    ∃ b e cc ol, baseOf u = some b ∧ os = b :: ol ∧ w.heap[b]? = some (.cells cc e (0, 0)) ∧ RepL P w F cs cc.toList ol ∧
      (∀ (w' : World) (F' : Nat → Prop) cs' ol' (cc' : Array Value), w'.heap[b]? = some (.cells cc' e (0, 0)) → cc'.size = cc.size → RepL P w' F' cs' cc'.toList ol' → RepC P w' F' (setKids c cs') u (b :: ol')) := by
  cases h with
  | own b e n cap cc cs0 ol hb hn hc hl =>
    simp [kids] at hk; subst hk
    exact ⟨b, e, cc, ol, rfl, rfl, hb, hl, fun w' F' cs' ol' cc' hh hs hl' => .own b e n cap cc' cs' ol' hh hn (by rw [hs]; exact hc) hl'⟩
  | box b e cc cs0 ol hb hl =>
    simp [kids] at hk; subst hk
    exact ⟨b, e, cc, ol, rfl, rfl, hb, hl, fun w' F' cs' ol' cc' hh hs hl' => .box b e cc' cs' ol' hh hl'⟩
  | own0 e => simp [kids] at hk; subst hk; exact (hne rfl).elim
  | mp => simp [kids] at hk; subst hk; exact (hne rfl).elim
  | it => simp [kids] at hk; subst hk; exact (hne rfl).elim
  | _ => simp [kids] at hk

/-- What lies at a path of a slot, and its row. -/
def ctn (S : St) (s : Nat) (p : List Nat) : Option (AV × List AV) :=
  match kids (S s), getP (S s) p with
  | some _, some c => match kids c with
    | some cs => some (c, cs)
    | none => none
  | _, _ => none

theorem ctn_some {s : Nat} {p : List Nat} {c : AV} {cs : List AV} (h : ctn S s p = some (c, cs)) : kids (S s) ≠ none ∧ getP (S s) p = some c ∧ kids c = some cs := by
  unfold ctn at h
  split at h
  · rename_i x c' hk hg
    split at h
    · rename_i cs' hc
      simp at h; obtain ⟨rfl, rfl⟩ := h
      exact ⟨by simp [hk], hg, hc⟩
    · simp at h
  · simp at h

/-- An address: of cell off of the row at path p of slot s. -/
def adr (S : St) : Operand → Option (Nat × List Nat × Nat)
  | .tmp t => match S t with
    | .ptr s p off => some (s, p, off)
    | .box _ _ => some (t, [], 0)
    | .bor s p => match ctn S s p with
      | some (.box _ _, _) => some (s, p, 0)
      | _ => none
    | _ => none
  | _ => none

theorem Core.adr (h : Core P N G w0 S a w F oss X) {x : Operand} {s : Nat} {p : List Nat} {off : Nat} (hx : adr S x = some (s, p, off)) {c : AV} {cs : List AV}
    (hc : ctn S s p = some (c, cs)) (hne : cs ≠ []) {u : Value} (hu : walkIn w (oss s) (tmo a s) p u) : ∃ b, baseOf u = some b ∧ a.eval x = .pointer (some ⟨b, off, none⟩) := by
  obtain ⟨hk, hg, hkc⟩ := ctn_some hc
  obtain ⟨u', o1, ou, o2, k1, k2, k3, k4, k5, k6⟩ := h.inplace hk hg
  have := walkIn_fun hu k1; subst this
  obtain ⟨b, e, cc, ol, r1, r2, r3, r4, r5⟩ := rowOf k2 hkc hne
  refine ⟨b, r1, ?_⟩
  cases x with
  | tmp t =>
    have hr := h.get t
    simp only [Abs.adr] at hx
    generalize hv : a.eval (.tmp t) = v at hr ⊢
    split at hx
    · rename_i s' p' off' hS
      simp at hx; obtain ⟨rfl, rfl, rfl⟩ := hx
      rw [hS] at hr
      generalize oss t = ot at hr
      cases hr with
      | cell _ _ _ hc => cases hc
      | ptr _ _ _ u'' b' h1 h2 =>
        have := walkIn_fun hu h1; subst this
        rw [r1] at h2; injection h2 with h2; subst h2; rfl
    · rename_i e' cs' hS
      simp at hx; obtain ⟨rfl, rfl, rfl⟩ := hx
      have hu' : u = tmo a t := hu
      have hv' : v = tmo a t := hv.symm
      rw [← hu'] at hv'; subst hv'
      rw [hS] at hr
      generalize oss t = ot at hr
      cases hr with
      | cell _ _ _ hc => cases hc with
        | box b' _ _ _ _ _ _ => simp [baseOf] at r1; subst r1; rfl
    · rename_i s' p' hS
      split at hx
      · rename_i e'' cs'' cs3 hct
        simp at hx; obtain ⟨rfl, rfl, rfl⟩ := hx
        rw [hc] at hct; simp at hct; obtain ⟨rfl, rfl⟩ := hct
        rw [hS] at hr
        generalize oss t = ot at hr
        cases hr with
        | cell _ _ _ hc => cases hc
        | bor _ _ _ h1 =>
          have := walkIn_fun hu h1; subst this
          cases k2 with
          | box b' _ _ _ _ _ _ => simp [baseOf] at r1; subst r1; rfl
      · simp at hx
    · simp at hx
  | _ => simp [Abs.adr] at hx

def ldC (s : Nat) (p : List Nat) (i : Nat) (c : AV) : AV := if isOB c then .bor s (p ++ [i]) else c

theorem cell_of {b : Nat} {cc : Array Value} {e : TypeId} {fr : Nat × Nat} (h : w.heap[b]? = some (.cells cc e fr)) (i : Nat) : w.cell? ⟨b, i, none⟩ = cc[i]? := by
  simp [World.cell?, h]

theorem run_load1 {T : TypeId} (hT : kindT P T = some none) {b i : Nat} {v : Value} (h : w.cell? ⟨b, i, none⟩ = some v) : (Instr.loadAt T (.pointer (some ⟨b, i, none⟩))).run P w = .ok v w := by
  obtain ⟨d, hd, hf⟩ := kindT_one hT
  have := run_isAgg hd w
  rw [hf] at this
  simp only [Instr.loadAt, Instr.sureAddr, loadVar, Sem.run_bind, Sem.run_pure, Result.andThen_ok, this, load]
  simp [Sem.run, h]

def slotsOf : Operand → List Nat
  | .tmp t => [t]
  | _ => []

/-- A load of one cell. -/
def ld1A (S : St) (d : Nat) (rx : List Nat) (s : Nat) (p : List Nat) (off : Nat) : Option (List Nat × List Upd) :=
  match ctn S s p with
  | some (_, cs) => match cs[off]? with
    | some .any => none
    | some c => some (rx ++ [s], [.w d (ldC s p off c)])
    | none => none
  | none => none
def ld1S (S : St) (d : Nat) (x : Operand) : Option (List Nat × List Upd) :=
  match adr S x with
  | some (s, p, off) => ld1A S d (slotsOf x) s p off
  | none => match aop S x with
    | .fptr (.any :: _) => none
    | .fptr (c :: _) => some (slotsOf x, [.w d c])
    | _ => none

theorem ld1_sound (h : Core P N G w0 S a w F oss []) {T : TypeId} (hT : kindT P T = some none) {d : Nat} (hd : OkD N d) {x : Operand} {rd : List Nat} {U : List Upd} (hm : ld1S S d x = some (rd, U)) :
    ∃ v, (Instr.loadAt T (a.eval x)).run P w = .ok v w ∧ StRel P N G w0 (app U S) (a.put (some d) v) w := by
  unfold ld1S at hm
  split at hm
  · rename_i s p off ha
    unfold ld1A at hm
    split at hm
    · rename_i c cs hc
      obtain ⟨hk, hg, hkc⟩ := ctn_some hc
      obtain ⟨u, o1, ou, o2, k1, k2, k3, k4, k5, k6⟩ := h.inplace hk hg
      have key : ∀ ci, cs[off]? = some ci → ci ≠ .any → ∃ v, (Instr.loadAt T (a.eval x)).run P w = .ok v w ∧ StRel P N G w0 (app [.w d (ldC s p off ci)] S) (a.put (some d) v) w := by
        intro ci hi hne
        have hcs : cs ≠ [] := by intro e; subst e; simp at hi
        obtain ⟨b, hb, hx⟩ := h.adr ha hc hcs k1
        obtain ⟨b', e, cc, ol, r1, r2, r3, r4, r5⟩ := rowOf k2 hkc hcs
        rw [hb] at r1; injection r1 with r1; subst r1
        obtain ⟨v, l1, lu, l2, e1, e2, e3, e4⟩ := RepL.get r4 hi
        refine ⟨v, ?_, ?_⟩
        · rw [hx]; exact run_load1 hT (by rw [cell_of r3]; simpa using e1)
        · refine h.put0 hd ?_
          unfold ldC
          split
          · exact .bor s _ v (walkIn_snoc k1 hb (by rw [k3, r2]; simp) r3 (by simpa using e1))
          · rename_i hob
            have : lu = [] := (RepT.cell (tm := tmo a) (oss := oss) _ _ _ e2).noOwn (by cases e2 <;> simp_all [isOB, hasOwn])
            subst this
            exact .cell _ _ _ e2
      split at hm
      · simp at hm
      · rename_i ci hne hi
        injection hm with hm; obtain ⟨rfl, rfl⟩ := Prod.mk.injEq .. ▸ hm
        exact key ci hi (fun e => hne (e ▸ rfl))
      · simp at hm
    · simp at hm
  · split at hm
    · simp at hm
    · rename_i c cs hc hf
      injection hm with hm; obtain ⟨rfl, rfl⟩ := Prod.mk.injEq .. ▸ hm
      obtain ⟨os, ho, _⟩ := h.op x
      rw [hf] at ho
      generalize hu : a.eval x = u at ho
      cases ho with
      | cell _ _ _ hc' => cases hc' with
        | fptr b off cc e fr cs hF hb hl =>
          obtain ⟨v, e1, e2⟩ := RepL.get0 hl (i := 0) rfl
          simp at e1
          exact ⟨v, run_load1 hT (by rw [cell_of hb]; simpa using e1), h.put0 hd (.cell _ _ _ e2)⟩
    · simp at hm

/-! ## the address of an element -/

def ixS (P : Program) (S : St) (d : Nat) (T : TypeId) (x i : Operand) : Option (Prop × List Nat × List Upd) :=
  match elemT P T, aop S i with
  | some e, .val (.int _ n) => match infoT P e with
    | some (es, _, _) => match x, aop S x with
      | .tmp t, .own _ m _ => some (0 ≤ n ∧ n < m, t :: slotsOf i, [.w d (.ptr t [] (n.toNat * es))])
      | .tmp t, .bor s p => match ctn S s p with
        | some (.own _ m _, _) => some (0 ≤ n ∧ n < m, t :: s :: slotsOf i, [.w d (.ptr s p (n.toNat * es))])
        | _ => none
      | .tmp t, .sl m cs => some (0 ≤ n ∧ n < m ∧ cs ≠ [], t :: slotsOf i, [.w d (.fptr (cs.drop (n.toNat * es)))])
      | _, _ => none
    | none => none
  | _, _ => none

theorem run_sizeOf {e : TypeId} {i : TypeInfo} (h : P.info? e = some i) (w : World) : (sizeOf e).run P w = .ok (P.cellsOf e) w := by
  simp [sizeOf, typeInfo, h, Program.cellsOf]

theorem addr_add (b off q : Nat) : (⟨b, off, none⟩ : Addr).add q = ⟨b, off + q, none⟩ := by unfold Addr.add; split <;> simp_all

theorem run_ix {T e : TypeId} (hT : elemT P T = some e) {i : TypeInfo} (hi : P.info? e = some i) (k : IntKind) (n : Int) (b off m cap : Nat) (h0 : 0 ≤ n) (h1 : n < m) :
    (Instr.indexAt T (.slice (some ⟨b, off, none⟩) m cap) (.int k n)).run P w = .ok (.pointer (some ⟨b, off + n.toNat * P.cellsOf e, none⟩)) w := by
  have hu := elemT_some hT
  simp only [Instr.indexAt, asIntOf, Sem.run_bind, Sem.run_pure, Result.andThen_ok, run_underlying hu]
  simp only [h0, h1, and_self, if_true, Sem.run_bind, run_sizeOf hi, Result.andThen_ok, Sem.run_pure, addr_add]

theorem ix_sound (h : Core P N G w0 S a w F oss []) {T : TypeId} {d : Nat} (hd : OkD N d) {x i : Operand} {p : Prop} {rd : List Nat} {U : List Upd} (hm : ixS P S d T x i = some (p, rd, U)) (hp : p) :
    ∃ v, (Instr.indexAt T (a.eval x) (a.eval i)).run P w = .ok v w ∧ StRel P N G w0 (app U S) (a.put (some d) v) w := by
  unfold ixS at hm
  split at hm
  · rename_i e k n hT hi
    split at hm
    case h_2 => simp at hm
    rename_i es by_ zs hI
    obtain ⟨inf, zv, hinf, _, _, _, _, _, hes⟩ := infoT_some hI
    subst hes
    rw [h.int hi]
    -- the row's own header
    have own : ∀ (s : Nat) (q : List Nat) (e' : TypeId) (m : Nat) (cs : List AV) (u : Value), ctn S s q = some (.own e' m cs, cs) → walkIn w (oss s) (tmo a s) q u → 0 ≤ n ∧ n < m →
        ∃ v, (Instr.indexAt T u (.int k n)).run P w = .ok v w ∧ StRel P N G w0 (app [.w d (.ptr s q (n.toNat * P.cellsOf e))] S) (a.put (some d) v) w := by
      intro s q e' m cs u hc hu hn
      obtain ⟨hk, hg, hkc⟩ := ctn_some hc
      obtain ⟨u', o1, ou, o2, k1, k2, k3, k4, k5, k6⟩ := h.inplace hk hg
      have := walkIn_fun hu k1; subst this
      cases k2 with
      | own0 e => omega
      | own b e n' cap c cs os hb hn' hc hl =>
        have := run_ix (w := w) hT hinf k n b 0 m cap hn.1 hn.2
        rw [Nat.zero_add] at this
        exact ⟨_, this, h.put0 hd (.ptr s q _ _ b hu rfl)⟩
    split at hm
    · rename_i t e' m cs hS
      simp only [Option.some.injEq, Prod.mk.injEq] at hm; obtain ⟨rfl, rfl, rfl⟩ := hm
      exact own t [] e' m cs _ (by simp only [aop] at hS; simp [ctn, hS, kids, getP]) rfl hp
    · rename_i t s q hS
      have hr := h.get t
      simp only [aop] at hS
      rw [hS] at hr
      generalize hu : a.eval (.tmp t) = u at hr ⊢
      generalize oss t = ot at hr
      split at hm
      · rename_i e' m cs' cs hc
        simp only [Option.some.injEq, Prod.mk.injEq] at hm; obtain ⟨rfl, rfl, rfl⟩ := hm
        have hcs : cs' = cs := by have := (ctn_some hc).2.2; simpa [kids] using this
        subst hcs
        cases hr with
        | cell _ _ _ hc => cases hc
        | bor _ _ _ h1 => exact own s q e' m cs' _ hc h1 hp
      · simp at hm
    · rename_i t m cs hS
      simp only [Option.some.injEq, Prod.mk.injEq] at hm; obtain ⟨rfl, rfl, rfl⟩ := hm
      have hr := h.get t
      simp only [aop] at hS
      rw [hS] at hr
      generalize hu : a.eval (.tmp t) = u at hr ⊢
      generalize oss t = ot at hr
      cases hr with
      | cell _ _ _ hc => cases hc with
        | sl0 => exact (hp.2.2 rfl).elim
        | sl b off m cap c e'' fr cs hF hb hl hn =>
          refine ⟨_, run_ix (w := w) hT hinf k n b off m cap hp.1 hp.2.1, h.put0 hd (.cell _ _ _ (.fptr b _ c e'' fr _ hF hb ?_))⟩
          have := hl.drop (n.toNat * P.cellsOf e)
          rwa [List.drop_drop] at this
    · simp at hm
  · simp at hm
end
end Go.Abs
