/- Copies of cells; literals of structs and arrays by value; slice literals of one struct. It holds over any program. -/
import Derived.Test.YtdhnnpohpfjaiaaAbsT
set_option linter.unusedVariables false
set_option linter.unusedSimpArgs false
namespace Go.Abs
open Go.RowKit (Below)
section
variable {P : Program} {N : Nat × List Nat} {G : Nat → Prop} {w0 : World × (Nat → Value)} {w w' : World} {S : St} {a : Act} {F : Nat → Prop} {oss : Nat → List Nat} {X : List Nat}

/-- Where a slice of ours lies: slot, path, first cell, elements. -/
def plc (S : St) (x : Operand) : Option (Nat × List Nat × Nat × Nat) :=
  match x, aop S x with
  | .tmp t, .own _ n _ => some (t, [], 0, n)
  | .tmp _, .slp s p o n => some (s, p, o, n)
  | .tmp _, .bor s p => match ctn S s p with
    | some (.own _ n _, _) => some (s, p, 0, n)
    | _ => none
  | _, _ => none

theorem plc_sound (h : Core P N G w0 S a w F oss X) {x : Operand} {s : Nat} {p : List Nat} {o n : Nat} (hx : plc S x = some (s, p, o, n)) {cc : AV} {cs : List AV} (hc : ctn S s p = some (cc, cs)) (hne : cs ≠ [])
    {u : Value} (hu : walkIn w (oss s) (tmo a s) p u) : ∃ b cap, baseOf u = some b ∧ a.eval x = .slice (some ⟨b, o, none⟩) n cap := by
  obtain ⟨hk, hg, hkc⟩ := ctn_some hc
  obtain ⟨u', o1, ou, o2, k1, k2, k3, k4, k5, k6⟩ := h.inplace hk hg
  have := walkIn_fun hu k1; subst this
  unfold plc at hx
  split at hx
  · rename_i t e m ds hS
    simp only [Option.some.injEq, Prod.mk.injEq] at hx; obtain ⟨rfl, rfl, rfl, rfl⟩ := hx
    simp only [aop] at hS
    simp [getP, hS] at hg; subst hg
    simp [kids] at hkc; subst hkc
    have hev : a.eval (.tmp t) = tmo a t := rfl
    have hu : u = tmo a t := hu
    rw [hev, ← hu]
    cases k2 with
    | own0 => exact (hne rfl).elim
    | own b e n cap c cs os hb hn hc hl => exact ⟨b, cap, rfl, rfl⟩
  · rename_i t s' p' o' n' hS
    simp only [Option.some.injEq, Prod.mk.injEq] at hx; obtain ⟨rfl, rfl, rfl, rfl⟩ := hx
    simp only [aop] at hS
    have hr := h.get t
    rw [hS] at hr
    generalize a.eval (.tmp t) = v at hr ⊢
    generalize oss t = ot at hr
    cases hr with
    | cell _ _ _ hc => cases hc
    | slp _ _ _ _ cap u2 b hw hb hn =>
      have := walkIn_fun hu hw; subst this
      exact ⟨b, cap, hb, rfl⟩
  · rename_i t s' p' hS
    split at hx
    · rename_i e m ds ds' hct
      simp only [Option.some.injEq, Prod.mk.injEq] at hx; obtain ⟨rfl, rfl, rfl, rfl⟩ := hx
      rw [hct] at hc
      simp only [Option.some.injEq, Prod.mk.injEq] at hc; obtain ⟨rfl, rfl⟩ := hc
      simp [kids] at hkc; subst hkc
      simp only [aop] at hS
      have hr := h.get t
      rw [hS] at hr
      generalize a.eval (.tmp t) = v at hr ⊢
      generalize oss t = ot at hr
      cases hr with
      | cell _ _ _ hc => cases hc
      | bor _ _ _ hw =>
        have := walkIn_fun hu hw; subst this
        cases k2 with
        | own0 => exact (hne rfl).elim
        | own b e n cap c cs os hb hn hc hl => exact ⟨b, cap, rfl, rfl⟩
    · simp at hx
  · simp at hx

/-- A slice's cells, where none of them is ours. -/
def srcC (S : St) (y : Operand) : Option (Nat × List AV) :=
  match y, aop S y with
  | _, .val (.slice none 0 0) => some (0, [])
  | _, .sl m ds => some (m, ds)
  | .tmp _, .own _ m ds => if hasOwnL ds then none else some (m, ds)
  | .tmp _, .bor s p => match ctn S s p with
    | some (.own _ m _, ds) => if hasOwnL ds then none else some (m, ds)
    | _ => none
  | .tmp _, .slp s p o m => match ctn S s p with
    | some (_, ds) => if hasOwnL ds || ds.isEmpty then none else some (m, ds.drop o)
    | _ => none
  | _, _ => none

theorem srcC_sound (h : Core P N G w0 S a w F oss X) {y : Operand} {m : Nat} {ds : List AV} (hy : srcC S y = some (m, ds)) :
    ∃ base cap vs, a.eval y = .slice base m cap ∧ RepL P w F ds vs [] ∧ ((base = none ∧ m = 0) ∨ (m = 0 ∧ ds = []) ∨ ∃ b off, base = some ⟨b, off, none⟩ ∧ ∀ j u, vs[j]? = some u → w.cell? ⟨b, off + j, none⟩ = some u) := by
  have row : ∀ {s : Nat} {p : List Nat} {c : AV} {ds : List AV}, ctn S s p = some (c, ds) → ds ≠ [] → hasOwnL ds = false → ∀ {u : Value}, walkIn w (oss s) (tmo a s) p u →
      ∃ b e cc, baseOf u = some b ∧ w.heap[b]? = some (.cells cc e (0, 0)) ∧ RepL P w F ds cc.toList [] := by
    intro s p c ds hct hne ho u hu
    obtain ⟨hk, hg, hkc⟩ := ctn_some hct
    obtain ⟨u', o1, ou, o2, k1, k2, k3, k4, k5, k6⟩ := h.inplace hk hg
    have := walkIn_fun hu k1; subst this
    obtain ⟨b, e, cc, ol, r1, r2, r3, r4, r5⟩ := rowOf k2 hkc hne
    have := r4.noOwn ho
    subst this
    exact ⟨b, e, cc, r1, r3, r4⟩
  obtain ⟨os, hop, _⟩ := h.op y
  unfold srcC at hy
  split at hy
  · rename_i hv
    simp only [Option.some.injEq, Prod.mk.injEq] at hy; obtain ⟨rfl, rfl⟩ := hy
    exact ⟨none, 0, [], h.int hv, .nil _, .inl ⟨rfl, rfl⟩⟩
  · rename_i hv
    simp only [Option.some.injEq, Prod.mk.injEq] at hy; obtain ⟨rfl, rfl⟩ := hy
    rw [hv] at hop
    generalize a.eval _ = u at hop ⊢
    cases hop with
    | cell _ _ _ hc => cases hc with
      | sl0 base cap => exact ⟨base, cap, [], rfl, .nil _, .inr (.inl ⟨rfl, rfl⟩)⟩
      | sl b off n cap c e fr cs hF hb hl hn =>
        exact ⟨_, cap, _, rfl, hl, .inr (.inr ⟨b, off, rfl, fun j u hj => by rw [cell_of hb]; simpa [List.getElem?_drop] using hj⟩)⟩
  · rename_i t e m' ds' hv
    split at hy
    · simp at hy
    · rename_i ho
      simp only [Option.some.injEq, Prod.mk.injEq] at hy; obtain ⟨rfl, rfl⟩ := hy
      rw [hv] at hop
      generalize a.eval (.tmp t) = u at hop ⊢
      cases hop with
      | cell _ _ _ hc => cases hc with
        | own0 => exact ⟨none, 0, [], rfl, .nil _, .inl ⟨rfl, rfl⟩⟩
        | own b e n cap c cs ol hb hn hc hl =>
          have := hl.noOwn (by simpa using ho)
          subst this
          exact ⟨_, cap, _, rfl, hl, .inr (.inr ⟨b, 0, rfl, fun j u hj => by rw [cell_of hb]; simpa using hj⟩)⟩
  · rename_i t s p hv
    split at hy
    · rename_i e m' ds1 ds' hct
      split at hy
      · simp at hy
      · rename_i ho
        simp only [Option.some.injEq, Prod.mk.injEq] at hy; obtain ⟨rfl, rfl⟩ := hy
        rw [hv] at hop
        generalize a.eval (.tmp t) = u at hop ⊢
        cases hop with
        | cell _ _ _ hc => cases hc
        | bor _ _ _ hw =>
          obtain ⟨hk, hg, hkc⟩ := ctn_some hct
          obtain ⟨u', o1, ou, o2, k1, k2, k3, k4, k5, k6⟩ := h.inplace hk hg
          have := walkIn_fun hw k1; subst this
          simp [kids] at hkc; subst hkc
          cases k2 with
          | own0 => exact ⟨none, 0, [], rfl, .nil _, .inl ⟨rfl, rfl⟩⟩
          | own b e n cap c cs ol hb hn hc hl =>
            have := hl.noOwn (by simpa using ho)
            subst this
            exact ⟨_, cap, _, rfl, hl, .inr (.inr ⟨b, 0, rfl, fun j u hj => by rw [cell_of hb]; simpa using hj⟩)⟩
    · simp at hy
  · rename_i t s p o m' hv
    split at hy
    · rename_i c ds' hct
      split at hy
      · simp at hy
      · rename_i ho
        simp only [Option.some.injEq, Prod.mk.injEq] at hy; obtain ⟨rfl, rfl⟩ := hy
        simp at ho
        rw [hv] at hop
        generalize a.eval (.tmp t) = u at hop ⊢
        cases hop with
        | cell _ _ _ hc => cases hc
        | slp _ _ _ _ cap u2 b hw hb hn =>
          obtain ⟨b', e, cc, q1, q2, q3⟩ := row hct (by intro e; subst e; simp at ho) ho.1 hw
          rw [hb] at q1; injection q1 with q1; subst q1
          exact ⟨_, cap, _, rfl, q3.drop o, .inr (.inr ⟨b, o, rfl, fun j u hj => by rw [cell_of q2]; simpa [List.getElem?_drop] using hj⟩)⟩
    · simp at hy
  · simp at hy

def cpS (P : Program) (S : St) (d : Nat) (T : TypeId) (x y : Operand) : R :=
  match elemT P T with
  | some e => match infoT P e with
    | some (es, _, _) => match plc S x, srcC S y with
      | some (s, p, o, n), some (m, ds) => match ctn S s p with
        | some (cc, cs) => some (cs ≠ [] ∧ o + min m n * es ≤ cs.length ∧ min m n * es ≤ ds.length, slotsOf x ++ slotsOf y ++ [s],
            [.n s (putP (S s) p (setKids cc (setMany cs o (ds.take (min m n * es))))), .w d (.val (.int .i64 (min m n : Nat)))])
        | none => none
      | _, _ => none
    | none => none
  | none => none

theorem cp_sound (h : Core P N G w0 S a w F oss []) {T T' ty : TypeId} {d : Nat} (hd : OkD N d) {x y : Operand} {p : Prop} {rd : List Nat} {U : List Upd} (hm : cpS P S d T x y = some (p, rd, U)) (hp : p) :
    ∃ v w', (Builtin.copy_ #[T, T'] ty #[a.eval x, a.eval y]).run P w = .ok v w' ∧ StRel P N G w0 (app U S) (a.put (some d) v) w' := by
  unfold cpS at hm
  split at hm
  · rename_i e hT
    split at hm
    · rename_i es by_ zs hI
      split at hm
      · rename_i s q o n m ds hx hy
        split at hm
        · rename_i cc cs hct
          simp only [Option.some.injEq, Prod.mk.injEq] at hm; obtain ⟨rfl, rfl, rfl⟩ := hm
          obtain ⟨hne, hlen, hds⟩ := hp
          obtain ⟨hk, hg, hkc⟩ := ctn_some hct
          obtain ⟨u, o1, ou, o2, k1, k2, k3, k4, k5, k6⟩ := h.inplace hk hg
          obtain ⟨b, cap, hb, hxe⟩ := plc_sound h hx hct hne k1
          obtain ⟨b', e', cur, ol, r1, r2, r3, r4, r5⟩ := rowOf k2 hkc hne
          rw [hb] at r1; injection r1 with r1; subst r1
          obtain ⟨base, cap', vs, hye, hl, hsrc⟩ := srcC_sound h hy
          obtain ⟨i, z, hi, _, hs, _, _, _, hcs⟩ := infoT_some hI
          have hz : ∀ w, (sizeOf e).run P w = .ok es w := fun w => by rw [run_sizeOf hi, hcs]
          have hu := elemT_some hT
          generalize hkk : min m n = k at hlen hds
          -- the cells that are copied
          have hll := hl.length_le
          have hnl : (vs.take (k * es)).length = k * es := by rw [List.length_take]; omega
          have hnr : RepL P w F (ds.take (k * es)) (vs.take (k * es)) [] := by
            have := (hl.pref (k * es)).take
            rw [List.length_take, Nat.min_eq_left hds] at this
            exact this
          have hone : ∀ v ∈ vs.take (k * es), v.oneCell' = true := by
            have := hnr.oneCell
            rw [List.length_take, Nat.min_eq_left hds, List.take_take, Nat.min_self] at this
            exact this
          have hload : (Builtin.firstCells es k (.slice base m cap')).run P w = .ok (vs.take (k * es)).toArray w := by
            rcases hsrc with ⟨rfl, rfl⟩ | ⟨rfl, rfl⟩ | ⟨b2, off, rfl, hr⟩
            · have : k = 0 := by omega
              subst this; simp [Builtin.firstCells]
            · have : k = 0 := by omega
              subst this
              cases base <;> simp [Builtin.firstCells, loadCells, loadCellsFrom]
            · have := run_loadCells_list (P := P) w ⟨b2, off, none⟩ (vs.take (k * es)) (fun j v hj => by
                rw [addr_add]; refine hr j v ?_
                rw [List.getElem?_take] at hj; split at hj
                · exact hj
                · simp at hj)
              rw [hnl] at this
              simpa [Builtin.firstCells] using this
          have hcl := r4.length_le
          have hst := run_storeCells_at P b o e' (vs.take (k * es)) 0 cur w r3 (by rw [hnl, ← Array.length_toList]; omega) hone
          have hrow : (cur.toList.take (o + 0) ++ vs.take (k * es) ++ cur.toList.drop (o + 0 + (vs.take (k * es)).length)) = Abs.setMany cur.toList o (vs.take (k * es)) := by
            rw [Nat.add_zero, setMany_eq _ cur.toList o (by rw [hnl]; omega)]
          rw [hrow] at hst
          have hsm : (Abs.setMany cur.toList o (vs.take (k * es))).length = cur.size := by
            rw [setMany_eq _ cur.toList o (by rw [hnl]; omega)]; simp; rw [← Array.length_toList]; omega
          let W' := w.setRow b (Abs.setMany cur.toList o (vs.take (k * es))).toArray
          refine ⟨.int .i64 k, W', ?_, ?_⟩
          · rw [hxe, hye]
            have e1 : Nat.min m n = k := hkk
            simp only [Builtin.copy_, List.getElem?_toArray, List.getElem?_cons_zero, List.getElem?_cons_succ, Sem.run_bind, run_underlying hu, Result.andThen_ok, Builtin.lenOf, Sem.run_pure, e1, hz, hload, hst]
            simp [goInt, W', hst]
          · have hbou : b ∈ ou := by rw [r2]; simp
            have hw' : ∀ z, z ≠ b → W'.heap[z]? = w.heap[z]? := fun z hz => setRow_other w b z _ hz
            have hFb : ∀ z, F z → z ≠ b := fun z hz ez => (k4 b hbou).1 (ez ▸ hz)
            have hbol : ∀ z, z ∈ ol → z ≠ b := by
              intro z hz ez
              rw [r2] at k5
              exact (List.nodup_cons.1 k5).1 (ez ▸ hz)
            have r4' : RepL P W' F cs cur.toList ol := r4.mono (fun _ h => h) (fun z hz => hw' z (by rcases hz with hz | hz; exact hFb z hz; exact hbol z hz))
            have hL' : RepL P W' F (ds.take (k * es)) (vs.take (k * es)) [] := hnr.mono (fun _ h => h) (fun z hz => hw' z (by rcases hz with hz | hz; exact hFb z hz; simp at hz))
            obtain ⟨os', g1, g2, g3⟩ := RepL.setMany hL' (by rw [hnl, List.length_take]; omega) o r4' (by rw [List.length_take]; omega)
            have hnew := r5 W' F _ os' (Abs.setMany cur.toList o (vs.take (k * es))).toArray (setRow_heap w b cur _ e' _ r3) (by simpa using hsm) (by simpa using g1)
            have hsz' : W'.heap.size = w.heap.size := by simp [W']
            have g2' : ∀ z, z ∈ os' → z ∈ ol := fun z hz => (g2 z hz).elim id (by simp)
            have fin := k6 W' F _ _ [] rfl rfl rfl (by rw [hsz']; exact Nat.le_refl _) (fun z _ _ hz => hw' z (fun ez => hz (ez ▸ hbou))) (fun _ h => h) (fun _ h => .inl h) hnew
              (by
                intro z hz
                rw [hsz']
                have hin : z ∈ ou := by
                  rw [r2]
                  rcases List.mem_cons.1 hz with hz | hz
                  · simp [hz]
                  · simp [g2' z hz]
                exact ⟨.inr (.inl hin), (k4 z hin).2.1, (k4 z hin).1⟩)
              (by
                rw [r2] at k5
                have k5 := List.nodup_cons.1 k5
                exact List.nodup_cons.2 ⟨fun hz => k5.1 (g2' b hz), g3 (by simpa using k5.2)⟩) (by simp) List.nodup_nil
            exact fin.put0 hd (.cell _ _ _ (.val _ rfl))
        · simp at hm
      · simp at hm
    · simp at hm
  · simp at hm

/-! ## literals by value -/
/-- Where the parts go. -/
def plT (P : Program) (T : TypeId) (i : Nat) : Option Nat :=
  match P.underlying T with
  | some (.struct fs) => match fs[i]? with
    | some f => if kindT P f.type = some none ∧ P.cellsOf f.type = 1 then some f.offset else none
    | none => none
  | some (.array _ e) => if kindT P e = some none ∧ P.cellsOf e = 1 then some i else none
  | _ => none
/-- Every part's size is known. -/
def plOk (P : Program) (T : TypeId) : Bool :=
  match P.underlying T with
  | some (.struct fs) => fs.toList.all fun f => (P.info? f.type).isSome
  | some (.array _ e) => (P.info? e).isSome
  | _ => false
def plTs (P : Program) (T : TypeId) : List Nat → Option (List Nat)
  | [] => some []
  | i :: is => match plT P T i, plTs P T is with
    | some o, some os => some (o :: os)
    | _, _ => none
def putAll {α : Type} : List α → List Nat → List α → List α
  | l, o :: os, c :: cs => putAll (l.set o c) os cs
  | l, _, _ => l
def bdS (P : Program) (cf : Cfg) (S : St) (d : Nat) (T : TypeId) (parts : List (Nat × Operand)) : R :=
  match infoT P T with
  | some (_, _, zs) => match tks cf S (parts.map (·.2)), plTs P T (parts.map (·.1)) with
    | some (cs, U), some os => if valsB zs && plOk P T then some (∀ o ∈ os, o < zs.length, parts.flatMap (fun x => slotsOf x.2), U ++ [.w d (.agg (putAll zs os cs))]) else none
    | _, _ => none
  | none => none

theorem putAll_len {α : Type} : ∀ (os : List Nat) (l cs : List α), (putAll l os cs).length = l.length
  | [], l, cs => by cases cs <;> rfl
  | o :: os, l, [] => rfl
  | o :: os, l, c :: cs => by rw [putAll, putAll_len os]; simp

theorem RepL.putAll : ∀ {cs : List AV} {us : List Value} {oc : List Nat}, RepL P w F cs us oc → cs.length = us.length → ∀ {os : List Nat} {l : List AV} {vs : List Value} {ol : List Nat}, RepL P w F l vs ol → (∀ o ∈ os, o < l.length) → os.length = cs.length →
    ∃ o', RepL P w F (Abs.putAll l os cs) (Abs.putAll vs os us) o' ∧ (∀ b, b ∈ o' → b ∈ ol ∨ b ∈ oc) ∧ ((ol ++ oc).Nodup → o'.Nodup)
  | [], us, oc, h, hl, os, l, vs, ol, k, ho, hn => by
    cases h
    have : os = [] := List.eq_nil_of_length_eq_zero (by simpa using hn)
    subst this
    have : us = [] := by simpa using hl.symm
    subst this
    exact ⟨ol, k, fun b hb => .inl hb, fun h => by simpa using h⟩
  | c :: cs, us, oc, h, hl, [], l, vs, ol, k, ho, hn => by simp at hn
  | c :: cs, us, oc, h, hl, o :: os, l, vs, ol, k, ho, hn => by
    cases h with
    | cons _ v p1 _ us p2 hc ht =>
      obtain ⟨v0, o1, ou, o2, q1, q2, q3, q4⟩ := RepL.get k (i := o) (List.getElem?_eq_getElem (ho o (by simp)))
      have k' := q4 w F c p1 v (fun _ h => h) (fun _ _ => rfl) hc
      obtain ⟨o', m1, m2, m3⟩ := RepL.putAll ht (by simpa using hl) (os := os) k' (fun o' ho' => by rw [List.length_set]; exact ho o' (by simp [ho'])) (by simpa using hn)
      refine ⟨o', m1, fun b hb => ?_, fun hn => m3 ?_⟩
      · rcases m2 b hb with hb | hb
        · simp only [List.mem_append] at hb ⊢
          rw [q3]
          rcases hb with hb | hb | hb <;> simp [hb]
        · exact .inr (by simp [hb])
      · rw [q3] at hn
        simp only [List.nodup_append, List.mem_append] at hn ⊢
        obtain ⟨⟨n1, ⟨n2, n3, n4⟩, n5⟩, ⟨n6, n7, n8⟩, n9⟩ := hn
        refine ⟨⟨n1, ⟨n6, n3, fun x hx y hy e => n9 y (.inr (.inr hy)) x (.inl hx) e.symm⟩, fun x hx y hy => ?_⟩, n7, fun x hx y hy => ?_⟩
        · rcases hy with hy | hy
          · exact n9 x (.inl hx) y (.inl hy)
          · exact n5 x hx y (.inr hy)
        · rcases hx with hx | hx | hx
          · exact n9 x (.inl hx) y (.inr hy)
          · exact n8 x hx y hy
          · exact n9 x (.inr (.inr hx)) y (.inr hy)

theorem fill_putAll {place : Nat → Option (Nat × Nat)} : ∀ {is os : List Nat} {us : List Value} {cells : Array Value}, (∀ (j i o : Nat), is[j]? = some i → os[j]? = some o → place i = some (o, 1)) → is.length = os.length → us.length = os.length →
    (∀ v ∈ us, v.oneCell' = true) → (∀ o ∈ os, o < cells.size) → Instr.fill place cells (is.zip us) = some (Abs.putAll cells.toList os us).toArray
  | [], os, us, cells, h, h1, h2, h3, h4 => by
    have : os = [] := List.eq_nil_of_length_eq_zero (by simpa using h1.symm)
    subst this
    have : us = [] := List.eq_nil_of_length_eq_zero (by simpa using h2)
    subst this
    simp [Instr.fill, Abs.putAll]
  | i :: is, [], us, cells, h, h1, h2, h3, h4 => by simp at h1
  | i :: is, o :: os, [], cells, h, h1, h2, h3, h4 => by simp at h2
  | i :: is, o :: os, v :: us, cells, h, h1, h2, h3, h4 => by
    have hv : v.cells = #[v] := oneCell_cells (h3 v (by simp))
    have hp := h 0 i o rfl rfl
    have ho := h4 o (by simp)
    have := fill_putAll (cells := cells.setIfInBounds o v) (fun j i o hi ho => h (j + 1) i o (by simpa using hi) (by simpa using ho)) (by simpa using h1) (by simpa using h2) (fun v hv => h3 v (by simp [hv])) (fun o' ho' => by simpa using h4 o' (by simp [ho'])) 
    rw [List.zip_cons_cons, Instr.fill, hp]
    simp only [hv, List.size_toArray, List.length_cons, List.length_nil, Nat.zero_add]
    rw [if_neg (by simp; omega)]
    have hs : (#[v] : Array Value).zipIdx.foldl (fun cs (x : Value × Nat) => cs.setIfInBounds (o + x.2) x.1) cells = cells.setIfInBounds o v := by simp [Array.zipIdx]
    erw [hs, this]
    rw [Array.toList_setIfInBounds]
    rfl

theorem plTs_get {T : TypeId} : ∀ {is os : List Nat}, plTs P T is = some os → is.length = os.length ∧ ∀ (j i o : Nat), is[j]? = some i → os[j]? = some o → plT P T i = some o
  | [], os, h => by simp [plTs] at h; subst h; simp
  | i :: is, os, h => by
    rw [plTs] at h
    split at h
    · rename_i o os' h1 h2
      injection h with h; subst h
      obtain ⟨k1, k2⟩ := plTs_get h2
      refine ⟨by simp [k1], fun j i' o' hi ho => ?_⟩
      cases j with
      | zero => simp at hi ho; subst hi; subst ho; exact h1
      | succ j => exact k2 j i' o' (by simpa using hi) (by simpa using ho)
    · simp at h

theorem plOk_places (fs : List Field) (h : fs.all (fun f => (P.info? f.type).isSome) = true) : fs.mapM (fun f => (P.info? f.type).map fun i => (f.offset, i.size)) = some (fs.map fun f => (f.offset, P.cellsOf f.type)) := by
  induction fs with
  | nil => rfl
  | cons f fs ih =>
    simp only [List.all_cons, Bool.and_eq_true] at h
    obtain ⟨i, hi⟩ := Option.isSome_iff_exists.1 h.1
    simp [List.mapM_cons, hi, ih h.2, Program.cellsOf]

theorem bd_sound (h : Core P N G w0 S a w F oss []) {cf : Cfg} {T : TypeId} {parts : Array (Nat × Operand)} {d : Nat} (hd : OkD N d) {p : Prop} {rd : List Nat} {U : List Upd}
    (hm : bdS P cf S d T parts.toList = some (p, rd, U)) (hp : p) :
    ∃ v, (Instr.build T (parts.map fun (i, x) => (i, a.eval x))).run P w = .ok v w ∧ StRel P N G w0 (app U S) (a.put (some d) v) w := by
  unfold bdS at hm
  split at hm
  · rename_i s by_ zs hI
    split at hm
    · rename_i cs U1 os htk hpl
      split at hm
      · rename_i hz
        simp only [Option.some.injEq, Prod.mk.injEq] at hm; obtain ⟨rfl, rfl, rfl⟩ := hm
        rw [Bool.and_eq_true] at hz
        obtain ⟨i, z, i1, i2, i3, i4, i5, i6, i7⟩ := infoT_some hI
        subst i6
        obtain ⟨F', oss', oc, k1, k2, k3, k4⟩ := h.tks htk
        simp only [List.append_nil] at k1
        obtain ⟨g1, g2⟩ := plTs_get hpl
        have hzr : RepL P w F' (z.cells.toList.map cv) z.cells.toList [] := cvL_rep _ hz.1
        have hul : ((parts.toList.map (·.2)).map a.eval).length = os.length := by rw [← g1]; simp
        have hone : ∀ v ∈ (parts.toList.map (·.2)).map a.eval, v.oneCell' = true := by
          have := k2.oneCell
          rw [k3, ← List.length_map (f := a.eval), List.take_length] at this
          exact this
        obtain ⟨o', m1, m2, m3⟩ := RepL.putAll k2 (by rw [k3]; simp) hzr hp (by rw [k3, ← g1]; simp)
        have hfill : ∀ place : Nat → Option (Nat × Nat), (∀ i o, plT P T i = some o → place i = some (o, 1)) → Instr.fill place z.cells (parts.map fun (i, x) => (i, a.eval x)).toList = some (Abs.putAll z.cells.toList os ((parts.toList.map (·.2)).map a.eval)).toArray := by
          intro place hpp
          have e1 : (parts.map fun (i, x) => (i, a.eval x)).toList = (parts.toList.map (·.1)).zip ((parts.toList.map (·.2)).map a.eval) := by
            rw [Array.toList_map]
            generalize parts.toList = l
            induction l with
            | nil => rfl
            | cons q l ih => simp [ih]
          rw [e1]
          exact fill_putAll (fun j i o hi ho => hpp i o (g2 j i o hi ho)) g1 hul hone (fun o ho => by have := hp o ho; simpa using this)
        refine ⟨.agg (Abs.putAll z.cells.toList os ((parts.toList.map (·.2)).map a.eval)).toArray, run_build w T _ _ ?_, ?_⟩
        · have hok := hz.2
          unfold plOk at hok
          unfold Program.built
          split at hok
          · rename_i fs hu
            simp only [i1, hu, i2]
            rw [plOk_places fs.toList (by simpa using hok)]
            refine hfill _ (fun i o hi => ?_)
            unfold plT at hi
            rw [hu] at hi
            simp only at hi
            split at hi
            · rename_i f hf
              split at hi
              · rename_i hk
                injection hi with hi; subst hi
                simp [hf, hk.2]
              · simp at hi
            · simp at hi
          · rename_i n e hu
            obtain ⟨ie, hie⟩ := Option.isSome_iff_exists.1 hok
            simp only [i1, hu, i2, hie]
            refine hfill _ (fun i o hi => ?_)
            unfold plT at hi
            rw [hu] at hi
            simp only at hi
            split at hi
            · rename_i hk
              injection hi with hi; subst hi
              have : ie.size = 1 := by have := hk.2; simpa [Program.cellsOf, hie] using this
              simp [this]
            · simp at hi
          · simp at hok
        · rw [app_append]
          have hsub := k1.sub (X' := o') (fun b hb => (m2 b hb).elim (by simp) id) (m3 (by simpa using k1.xn))
          refine hsub.putX hd (.agg _ _ _ ?_ m1.toT)
          rw [putAll_len, putAll_len]; simp
      · simp at hm
    · simp at hm
  · simp at hm

/-! ## a slice literal of one struct -/
def b1S (P : Program) (S : St) (d : Nat) (T : TypeId) (len : Nat) (parts : List (Nat × Operand)) : R :=
  match elemT P T, len, parts with
  | some e, 1, [(0, .tmp t)] => match infoT P e with
    | some (es, _, _) => match takeA S t with
      | some (cs, U) => some (cellsB cs = true ∧ cs.length = es ∧ 0 < es ∧ es ≤ 16777216, [t], U ++ [.w d (.own e 1 cs)])
      | none => none
    | none => none
  | _, _, _ => none

theorem b1_sound (h : Core P N G w0 S a w F oss []) {T : TypeId} {len : Nat} {parts : Array (Nat × Operand)} {d : Nat} (hd : OkD N d) {p : Prop} {rd : List Nat} {U : List Upd}
    (hm : b1S P S d T len parts.toList = some (p, rd, U)) (hp : p) :
    ∃ v w', (Instr.buildSlice T len (parts.map fun (i, x) => (i, a.eval x))).run P w = .ok v w' ∧ StRel P N G w0 (app U S) (a.put (some d) v) w' := by
  unfold b1S at hm
  split at hm
  · rename_i e t hT hparts
    split at hm
    · rename_i es by_ zs hI
      obtain ⟨i, z, i1, i2, i3, i4, i5, i6, i7⟩ := infoT_some hI
      split at hm
      · rename_i cs U1 htk
        simp only [Option.some.injEq, Prod.mk.injEq] at hm; obtain ⟨rfl, rfl, rfl⟩ := hm
        obtain ⟨hcb, hcl, hpos, hsm⟩ := hp
        obtain ⟨oss1, oc, vs, hv, h1, hes, hlen⟩ := h.takeA htk
        simp only [List.append_nil] at h1
        have hL := (hes (tmo a) oss1).toL hcb
        have hev : a.eval (.tmp t) = .agg vs.toArray := hv
        have hpl : (parts.map fun (i, x) => (i, a.eval x)).toList = [(0, .agg vs.toArray)] := by
          rw [Array.toList_map, hparts]; simp [hev]
        have hvl : vs.length = es := by omega
        have hfill : Instr.fill (fun i_1 => some (i_1 * i.size, i.size)) ((Array.range (1 * i.size)).map (z.cells[· % z.cells.size]!)) (parts.map fun (i, x) => (i, a.eval x)).toList = some vs.toArray := by
          rw [hpl]
          have hzc : ((Array.range (1 * i.size)).map (z.cells[· % z.cells.size]!)).size = es := by simp [i3]
          generalize (Array.range (1 * i.size)).map (z.cells[· % z.cells.size]!) = zc at hzc
          simp only [Instr.fill, Value.cells, Nat.zero_mul, Nat.one_mul, List.size_toArray, hvl, i3]
          rw [if_neg (by simp; omega)]
          simp only [Option.some.injEq]
          apply Array.ext'
          have key : ∀ (us : List Value) (k : Nat) (c : Array Value), k + us.length ≤ c.size → ((us.zipIdx k).foldl (fun cs (x : Value × Nat) => cs.setIfInBounds (0 + x.2) x.1) c).toList = c.toList.take k ++ us ++ c.toList.drop (k + us.length) := by
            intro us
            induction us with
            | nil => intro k c _; simp
            | cons u us ih =>
              intro k c hk
              simp only [List.length_cons] at hk
              simp only [List.zipIdx_cons, List.foldl_cons, Nat.zero_add]
              have := ih (k + 1) (c.setIfInBounds k u) (by simp; omega)
              simp only [Nat.zero_add] at this
              rw [this, Array.toList_setIfInBounds]
              rw [List.take_add_one, List.take_set_of_le (Nat.le_refl k), List.drop_set_of_lt (by omega)]
              have hk2 : k < c.size := by omega
              simp [hk2, Nat.add_assoc, Nat.add_comm 1]
          have := key vs 0 zc (by omega)
          simp only [List.take_zero, List.nil_append, Nat.zero_add] at this
          rw [← Array.foldl_toList]
          have e2 : vs.toArray.zipIdx.toList = vs.zipIdx 0 := by simp
          rw [e2]
          simp only [Nat.zero_add]
          rw [this, List.drop_of_length_le (by simp; omega)]
          simp
        have hu := elemT_some hT
        refine ⟨_, _, Go.run_buildSlice w T e 1 _ vs.toArray i z hu i1 i2 (by rw [i3]; omega) (by rw [i3]; omega) hfill, ?_⟩
        rw [app_append]
        exact h1.newOwn (w' := w.alloc (.cells vs.toArray e)) (c := vs.toArray) (e := e) (cs := cs) (n := 1) (cap := 1) rfl rfl rfl (by simp) (heap_alloc_new w _) (fun b hb => Below.heap_alloc w _ b hb) (Nat.le_refl _) (by rw [i7]; simp; omega) (by simpa using hL) hd
      · simp at hm
    · simp at hm
  · simp at hm

/-- A slice literal. -/
def blS (P : Program) (cf : Cfg) (S : St) (d : Nat) (T : TypeId) (len : Nat) (parts : List (Nat × Operand)) : R :=
  match elemT P T with
  | some e => match kindT P e with
    | some (some _) => if len = 0 then bsS P cf S d T len parts else b1S P S d T len parts
    | _ => bsS P cf S d T len parts
  | none => none
theorem bl_sound (h : Core P N G w0 S a w F oss []) {cf : Cfg} {T : TypeId} {len : Nat} {parts : Array (Nat × Operand)} {d : Nat} (hd : OkD N d) {p : Prop} {rd : List Nat} {U : List Upd}
    (hm : blS P cf S d T len parts.toList = some (p, rd, U)) (hp : p) :
    ∃ v w', (Instr.buildSlice T len (parts.map fun (i, x) => (i, a.eval x))).run P w = .ok v w' ∧ StRel P N G w0 (app U S) (a.put (some d) v) w' := by
  unfold blS at hm
  split at hm
  · split at hm
    · split at hm
      · exact bs_sound h hd hm hp
      · exact b1_sound h hd hm hp
    · exact bs_sound h hd hm hp
  · simp at hm
end
end Go.Abs
