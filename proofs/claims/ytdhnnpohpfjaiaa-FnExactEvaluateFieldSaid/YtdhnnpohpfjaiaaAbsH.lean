/- make, stores of one cell, append. It holds over any program. -/
import Derived.Test.YtdhnnpohpfjaiaaAbsG
set_option linter.unusedVariables false
set_option linter.unusedSimpArgs false
namespace Go.Abs
open Go.RowKit (Below)

section
variable {P : Program} {N : Nat × List Nat} {G : Nat → Prop} {w0 : World × (Nat → Value)} {w w' : World} {S : St} {a : Act} {F : Nat → Prop} {oss : Nat → List Nat} {X : List Nat}

/-! ## make (elements of one cell) -/

def isV : AV → Bool
  | .val _ => true
  | _ => false
def mkS (P : Program) (S : St) (d : Nat) (T : TypeId) (len cap : Operand) : Option (Prop × List Nat × List Upd) :=
  match elemT P T, aop S len, aop S cap with
  | some e, .val (.int _ n), .val (.int _ c) => match infoT P e with
    | some (1, by_, [.val z]) => some (0 ≤ n ∧ n ≤ c ∧ (by_ : Int) * c ≤ 281474976710656 ∧ c ≤ 9223372036854775807, slotsOf len ++ slotsOf cap, [.w d (.own e n.toNat (List.replicate n.toNat (.val z)))])
    | some (_, by_, zs) => if zs.all isV = true then some (0 ≤ n ∧ n ≤ c ∧ (by_ : Int) * c ≤ 281474976710656 ∧ c ≤ 9223372036854775807, slotsOf len ++ slotsOf cap, [.w d (.own e n.toNat (List.replicate n.toNat zs).flatten)]) else none
    | none => none
  | _, _, _ => none

theorem cv_val {u z : Value} (h : cv u = .val z) : u = z ∧ z.oneCell' = true := by
  unfold cv at h
  split at h <;> first | (injection h with h; subst h; exact ⟨rfl, rfl⟩) | simp at h

theorem RepL.replicate {c : AV} {v : Value} (h : RepC P w F c v []) : ∀ (n m : Nat), n ≤ m → RepL P w F (List.replicate n c) (List.replicate m v) []
  | 0, m, _ => .nil _
  | n + 1, 0, h => by omega
  | n + 1, m + 1, hm => by
    rw [List.replicate_succ, List.replicate_succ]
    exact .cons _ _ [] _ _ [] h (RepL.replicate h n m (by omega))

theorem RepL.of_get {F : Nat → Prop} : ∀ {cs : List AV} {vs : List Value}, (∀ (j : Nat) c, cs[j]? = some c → ∃ v, vs[j]? = some v ∧ RepC P w F c v []) → RepL P w F cs vs []
  | [], vs, _ => .nil _
  | c :: cs, [], h => by
    obtain ⟨v, hv, _⟩ := h 0 c rfl
    simp at hv
  | c :: cs, v :: vs, h => by
    obtain ⟨v', hv, hr⟩ := h 0 c rfl
    simp at hv; subst hv
    exact .cons _ _ [] _ _ [] hr (RepL.of_get (fun j c hj => by simpa using h (j + 1) c (by simpa using hj)))
theorem flat_rep {α : Type} (zs : List α) (hp : 0 < zs.length) : ∀ (n j : Nat), (List.replicate n zs).flatten[j]? = if j < n * zs.length then zs[j % zs.length]? else none
  | 0, j => by simp
  | n + 1, j => by
    rw [List.replicate_succ, List.flatten_cons]
    by_cases h : j < zs.length
    · rw [List.getElem?_append_left h, Nat.mod_eq_of_lt h, if_pos (by rw [Nat.add_mul]; omega)]
    · rw [List.getElem?_append_right (by omega), flat_rep zs hp n, Nat.mod_eq_sub_mod (by omega : j ≥ zs.length)]
      by_cases h2 : j - zs.length < n * zs.length
      · rw [if_pos h2, if_pos (by rw [Nat.add_mul]; omega)]
      · rw [if_neg h2, if_neg (by rw [Nat.add_mul]; omega)]
theorem made_rep {z : Array Value} (hz : ((z.toList.map cv).all isV) = true) (n m : Nat) (h : n ≤ m) : RepL P w F (List.replicate n (z.toList.map cv)).flatten (madeCells z (m * z.size)).toList [] := by
  refine RepL.of_get (fun j c hj => ?_)
  rcases Nat.eq_zero_or_pos z.size with h0 | hp
  · have : z.toList = [] := List.eq_nil_of_length_eq_zero (by simpa using h0)
    rw [this] at hj
    simp at hj
  rw [flat_rep _ (by simpa using hp)] at hj
  split at hj
  · rename_i hlt
    simp only [List.length_map, Array.length_toList] at hlt hj
    have hjz : j % z.size < z.size := Nat.mod_lt _ hp
    rw [List.getElem?_map] at hj
    have e1 : z.toList[j % z.size]? = some z[j % z.size]! := by simp [hjz]
    rw [e1] at hj
    simp only [Option.map_some, Option.some.injEq] at hj
    have hjm : j < m * z.size := Nat.lt_of_lt_of_le hlt (Nat.mul_le_mul_right _ h)
    refine ⟨z[j % z.size]!, ?_, ?_⟩
    · rw [Array.getElem?_toList]; simp [madeCells, hjm]
    · have hv := (List.all_eq_true.1 hz) c (by rw [← hj]; exact List.mem_map.2 ⟨_, List.mem_of_getElem? e1, rfl⟩)
      cases c with
      | val u =>
        obtain ⟨rfl, h2⟩ := cv_val hj
        exact .val _ h2
      | _ => simp [isV] at hv
  · simp at hj
theorem mk_sound (h : Core P N G w0 S a w F oss []) {T : TypeId} {len cap : Operand} {d : Nat} (hd : OkD N d) {p : Prop} {rd : List Nat} {U : List Upd}
    (hm : mkS P S d T len cap = some (p, rd, U)) (hp : p) :
    ∃ v w', (Instr.makeSlice T (a.eval len) (a.eval cap)).run P w = .ok v w' ∧ StRel P N G w0 (app U S) (a.put (some d) v) w' := by
  unfold mkS at hm
  split at hm
  · rename_i e k n k' c hT hl hc
    have hu := elemT_some hT
    split at hm
    · rename_i by_ z hI
      simp only [Option.some.injEq, Prod.mk.injEq] at hm; obtain ⟨rfl, rfl, rfl⟩ := hm
      obtain ⟨i, zv, i1, i2, i3, i4, i5, i6, i7⟩ := infoT_some hI
      rw [h.int hl, h.int hc]
      obtain ⟨p1, p2, p3, p4⟩ := hp
      subst i4
      refine ⟨_, _, run_make w T e i zv hu i1 i2 k k' n c p1 p2 p3 p4, ?_⟩
      obtain ⟨z0, hz0⟩ : ∃ z0, zv.cells = #[z0] := by
        have : zv.cells.toList.length = 1 := by simpa using i5
        match hh : zv.cells.toList, this with
        | [z0], _ => exact ⟨z0, by apply Array.ext'; simpa using hh⟩
      rw [hz0] at i6
      simp at i6
      obtain ⟨rfl, hone⟩ := cv_val i6.symm
      have hlist : (madeCells zv.cells (c.toNat * i.size)).toList = List.replicate c.toNat z0 := by
        rw [hz0, i3, Nat.mul_one, toList_madeCells_one]
      exact h.newOwn (w' := w.alloc (.cells (madeCells zv.cells (c.toNat * i.size)) e)) (c := madeCells zv.cells (c.toNat * i.size)) (e := e) (n := n.toNat) (cap := c.toNat) rfl rfl rfl (by simp) (heap_alloc_new w _) (fun b hb => Below.heap_alloc w _ b hb)
        (by omega) (by rw [i7, ← Array.length_toList, hlist]; simp) (by rw [hlist]; exact RepL.replicate (.val z0 hone) _ _ (by omega)) hd
    · rename_i by_ zs _ hI
      split at hm
      · rename_i hz
        simp only [Option.some.injEq, Prod.mk.injEq] at hm; obtain ⟨rfl, rfl, rfl⟩ := hm
        obtain ⟨i, zv, i1, i2, i3, i4, i5, i6, i7⟩ := infoT_some hI
        rw [h.int hl, h.int hc]
        obtain ⟨p1, p2, p3, p4⟩ := hp
        subst i4
        refine ⟨_, _, run_make w T e i zv hu i1 i2 k k' n c p1 p2 p3 p4, ?_⟩
        rw [i6] at hz ⊢
        have hsz : i.size = zv.cells.size := by rw [i3, i5]
        rw [hsz]
        exact h.newOwn (w' := w.alloc (.cells (madeCells zv.cells (c.toNat * zv.cells.size)) e)) (c := madeCells zv.cells (c.toNat * zv.cells.size)) (e := e) (n := n.toNat) (cap := c.toNat) rfl rfl rfl (by simp) (heap_alloc_new w _) (fun b hb => Below.heap_alloc w _ b hb)
          (by omega) (by rw [i7, size_madeCells, i5]; exact Nat.le_refl _) (made_rep hz _ _ (by omega)) hd
      · simp at hm
    · simp at hm
  · simp at hm

/-! ## a store of one cell -/

def st1S (P : Program) (cf : Cfg) (S : St) (T : TypeId) (x y : Operand) : Option (Prop × List Nat × List Upd) :=
  match tk cf S y with
  | some (c, U) => match adr (app U S) x with
    | some (s, p, off) => match ctn (app U S) s p with
      | some (cc, cs) => some (P.cellsOf T = 1 ∧ off < cs.length, slotsOf x ++ slotsOf y ++ [s], U ++ [.n s (putP ((app U S) s) p (setKids cc (cs.set off c)))])
      | none => none
    | none => none
  | none => none

theorem st1_sound (h : Core P N G w0 S a w F oss []) {cf : Cfg} {T : TypeId} (hT : kindT P T = some none) {x y : Operand} {p : Prop} {rd : List Nat} {U : List Upd} (hm : st1S P cf S T x y = some (p, rd, U)) (hp : p) :
    ∃ w', (Instr.storeAt T (a.eval x) (a.eval y)).run P w = .ok () w' ∧ StRel P N G w0 (app U S) a w' := by
  unfold st1S at hm
  split at hm
  · rename_i c U1 htk
    obtain ⟨F1, oss1, oc, h1, hc, hF⟩ := h.tk htk
    simp only [List.append_nil] at h1
    split at hm
    · rename_i s q off ha
      split at hm
      · rename_i cc cs hct
        simp only [Option.some.injEq, Prod.mk.injEq] at hm; obtain ⟨rfl, rfl, rfl⟩ := hm
        obtain ⟨hsz, hoff⟩ := hp
        obtain ⟨hk, hg, hkc⟩ := ctn_some hct
        have hcs : cs ≠ [] := by intro e; subst e; simp at hoff
        obtain ⟨u, o1, ou, o2, k1, k2, k3, k4, k5, k6⟩ := h1.inplace hk hg
        obtain ⟨b, hb, hx⟩ := h1.adr ha hct hcs k1
        obtain ⟨b', e, cur, ol, r1, r2, r3, r4, r5⟩ := rowOf k2 hkc hcs
        rw [hb] at r1; injection r1 with r1; subst r1
        obtain ⟨vo, l1, lu, l2, e1, e2, e3, e4⟩ := RepL.get r4 (List.getElem?_eq_getElem hoff)
        have hone := hc.oneCell
        have hlen : off < cur.size := by rw [← Array.length_toList]; exact (List.getElem?_eq_some_iff.1 e1).1
        have hcells : (a.eval y).cells = #[a.eval y] := by
          cases hy : a.eval y <;> simp [hy, Value.oneCell', Value.cells] at *
        have hst := run_storeCells_at P b off e [a.eval y] 0 cur w r3 (by simp; omega) (by simpa using hone)
        have hrow : (cur.toList.take (off + 0) ++ [a.eval y] ++ cur.toList.drop (off + 0 + [a.eval y].length)) = cur.toList.set off (a.eval y) := by
          rw [Nat.add_zero, List.set_eq_take_append_cons_drop, if_pos (by simpa using hlen)]; simp
        rw [hrow] at hst
        obtain ⟨i, hi⟩ : ∃ i, P.info? T = some i := by
          obtain ⟨d, hd, _⟩ := kindT_one hT
          obtain ⟨i, hi, _⟩ := cellsOf_info hd
          exact ⟨i, hi⟩
        refine ⟨w.setRow b (cur.toList.set off (a.eval y)).toArray, ?_, ?_⟩
        · rw [hx]
          simp only [Instr.storeAt, Instr.sureAddr, storeVar, Sem.run_bind, Sem.run_pure, Result.andThen_ok, run_sizeOf hi, hsz, hcells]
          simpa using hst
        · rw [app_append]
          have hbou : b ∈ ou := by rw [r2]; simp
          have hbn : ∀ z, z ∈ l1 ∨ z ∈ l2 → z ≠ b := by
            intro z hz ez
            rw [r2, e3] at k5
            have := (List.nodup_cons.1 k5).1
            exact this (by subst ez; rcases hz with hz | hz <;> simp [hz])
          have hw' : ∀ z, z ≠ b → (w.setRow b (cur.toList.set off (a.eval y)).toArray).heap[z]? = w.heap[z]? := fun z hz => setRow_other w b z _ hz
          have hocb : ∀ z, z ∈ oc → z ≠ b := fun z hz ez => (k4 b hbou).2.2 (ez ▸ hz)
          have hFb : ∀ z, F1 z → z ≠ b := fun z hz ez => (k4 b hbou).1 (ez ▸ hz)
          have hrow' := e4 (w.setRow b (cur.toList.set off (a.eval y)).toArray) F1 c oc (a.eval y) (fun _ h => h)
            (fun z hz => hw' z (by rcases hz with hz | hz | hz; exact hFb z hz; exact hbn z (.inl hz); exact hbn z (.inr hz)))
            (hc.mono (fun _ h => h) (fun z hz => hw' z (by rcases hz with hz | hz; exact hFb z hz; exact hocb z hz)))
          have hnew := r5 (w.setRow b (cur.toList.set off (a.eval y)).toArray) F1 _ _ (cur.toList.set off (a.eval y)).toArray (setRow_heap w b cur _ e _ r3) (by simp) hrow'
          refine (k6 (w.setRow b (cur.toList.set off (a.eval y)).toArray) F1 _ _ [] rfl rfl rfl (by simp) (fun z _ _ hz => hw' z (fun ez => hz (ez ▸ hbou))) (fun _ h => h) (fun _ h => .inl h) hnew ?_ ?_ (by simp) List.nodup_nil).st
          · intro z hz
            have hsz : (w.setRow b (cur.toList.set off (a.eval y)).toArray).heap.size = w.heap.size := by simp
            rw [hsz]
            have hin : z ∈ oc ∨ z ∈ ou := by
              rw [r2, e3]
              simp only [List.mem_cons, List.mem_append] at hz ⊢
              rcases hz with hz | hz | hz | hz <;> simp [hz]
            rcases hin with hin | hin
            · exact ⟨.inl hin, (h1.xo z hin).2, (h1.xo z hin).1⟩
            · exact ⟨.inr (.inl hin), (k4 z hin).2.1, (k4 z hin).1⟩
          · rw [r2, e3] at k5
            have hd : ∀ z, z ∈ ou → z ∉ oc := fun z hz => (k4 z hz).2.2
            simp only [List.nodup_cons, List.nodup_append, List.mem_append] at k5 ⊢
            obtain ⟨n0, n1, ⟨n2, n3, n4⟩, n5⟩ := k5
            have m1 : ∀ z, z ∈ l1 ∨ z ∈ l2 → z ∈ ou := fun z hz => by rw [r2, e3]; rcases hz with hz | hz <;> simp [hz]
            refine ⟨fun hz => ?_, n1, ⟨h1.xn, n3, fun x hx y hy e => hd y (m1 y (.inr hy)) (e ▸ hx)⟩, fun x hx y hy e => ?_⟩
            · rcases hz with hz | hz | hz
              · exact hbn _ (.inl hz) rfl
              · exact hocb _ hz rfl
              · exact hbn _ (.inr hz) rfl
            · rcases hy with hy | hy
              · exact hd x (m1 x (.inl hx)) (e ▸ hy)
              · exact n5 x hx y (.inr hy) e
      · simp at hm
    · simp at hm
  · simp at hm

/-! ## append -/

/-- The elements of a slice that is appended. -/
def els (S : St) (y : Operand) : Option (Nat × List AV × List Upd) :=
  match y, aop S y with
  | _, .val (.slice none 0 0) => some (0, [], [])
  | _, .sl m ds => some (m, ds, [])
  | .tmp t, .own _ m ds => some (m, ds, [.w t .any])
  | .tmp _, .bor s p => match ctn S s p with
    | some (.own _ m _, ds) => if hasOwnL ds then none else some (m, ds, [])
    | _ => none
  | _, _ => none

def isSome2 (e0 : TypeId) : Option (AV × List Upd) → Option (TypeId × Nat × List AV × List Upd)
  | some (.own e n cs, U) => some (e, n, cs, U)
  | some (.val (.slice none 0 0), U) => some (e0, 0, [], U)
  | _ => none

def apS (P : Program) (S : St) (d : Nat) (T : TypeId) (x y : Operand) : Option (Prop × List Nat × List Upd) :=
  match elemT P T with
  | some e => match infoT P e with
    | some (es, by_, _) => match isSome2 e (tk { nv := 0 } S x) with
      | some (e', n, cs, U1) => match els (app U1 S) y with
        | some (m, ds, U2) => some (e' = e ∧ cs.length = n * es ∧ ds.length = m * es ∧ (n + m) * by_ ≤ 140737488355328 ∧ n + m ≤ 9223372036854775807 ∧ 0 < es,
            slotsOf x ++ slotsOf y, U1 ++ U2 ++ [.w d (.own e (n + m) (cs ++ ds))])
        | none => none
      | none => none
    | none => none
  | none => none

theorem RepL.noOwn {cs : List AV} {vs : List Value} {os : List Nat} (h : RepL P w F cs vs os) (hn : hasOwnL cs = false) : os = [] := by
  induction cs generalizing vs os with
  | nil => cases h; rfl
  | cons c cs ih =>
    cases h with
    | cons c v os cs vs os' h t =>
      simp [hasOwnL] at hn
      have e1 : os = [] := (RepT.cell (tm := fun _ => undef) (oss := fun _ => []) _ _ _ h).noOwn hn.1
      rw [e1, ih t hn.2]; rfl

theorem els_sound (h : Core P N G w0 S a w F oss X) {y : Operand} {m : Nat} {ds : List AV} {U : List Upd} (hm : els S y = some (m, ds, U)) :
    ∃ oss' oc base c news, Core P N G w0 (app U S) a w F oss' (oc ++ X) ∧ a.eval y = .slice base m c ∧ RepL P w F ds news oc ∧
      (ds = [] ∨ ∃ ad, base = some ad ∧ ∀ j u, news[j]? = some u → w.cell? (ad.add j) = some u) := by
  obtain ⟨os, ho, hbs⟩ := h.op y
  unfold els at hm
  split at hm
  · rename_i hy
    simp only [Option.some.injEq, Prod.mk.injEq] at hm; obtain ⟨rfl, rfl, rfl⟩ := hm
    exact ⟨oss, [], none, 0, [], h, h.int hy, .nil _, .inl rfl⟩
  · rename_i m ds hy
    simp only [Option.some.injEq, Prod.mk.injEq] at hm; obtain ⟨rfl, rfl, rfl⟩ := hm
    rw [hy] at ho
    generalize hu : a.eval _ = u at ho ⊢
    cases ho with
    | cell _ _ _ hc => cases hc with
      | sl0 base cap => exact ⟨oss, [], base, cap, [], h, rfl, .nil _, .inl rfl⟩
      | sl b off n cap c e fr cs hF hb hl hn =>
        exact ⟨oss, [], _, cap, _, h, rfl, hl, .inr ⟨_, rfl, fun j u hj => by rw [addr_add, cell_of hb]; simpa [List.getElem?_drop] using hj⟩⟩
  · rename_i t e m ds hy
    simp only [Option.some.injEq, Prod.mk.injEq] at hm; obtain ⟨rfl, rfl, rfl⟩ := hm
    obtain ⟨k1, k2⟩ := h.take t
    have k3 := k2.ofKids (by simp only [aop] at hy; simp [hy, kl, kids])
    simp only [aop] at hy
    rw [hy, kl] at k3
    have hv : a.eval (.tmp t) = tmo a t := rfl
    rw [hv]
    generalize tmo a t = u at k3
    generalize ho' : oss t = ot at k3
    cases k3 with
    | own0 e => exact ⟨_, [], none, 0, [], k1.sub (fun b hb => by simp at hb; simp [hb]) h.xn, rfl, .nil _, .inl rfl⟩
    | own b e n cap c cs os hb hn hc hl =>
      refine ⟨_, os, _, cap, _, k1.sub (X' := os ++ X) (fun z hz => ?_) ?_, rfl, hl, .inr ⟨_, rfl, fun j u hj => by rw [addr_add, cell_of hb]; simpa using hj⟩⟩
      · rw [ho']; simp only [List.mem_append, List.mem_cons] at hz ⊢; rcases hz with hz | hz <;> simp [hz]
      · have := k1.xn
        rw [ho'] at this
        exact (List.nodup_cons.1 this).2
  · rename_i t s p hy
    split at hm
    · rename_i e m' cs' ds' hct
      split at hm
      · simp at hm
      · rename_i hno
        simp only [Option.some.injEq, Prod.mk.injEq] at hm; obtain ⟨rfl, rfl, rfl⟩ := hm
        have hr := h.get t
        simp only [aop] at hy
        rw [hy] at hr
        generalize hu : a.eval (.tmp t) = u at hr ⊢
        generalize oss t = ot at hr
        obtain ⟨hk, hg, hkc⟩ := ctn_some hct
        obtain ⟨u', o1, ou, o2, k1, k2, k3, k4, k5, k6⟩ := h.inplace hk hg
        cases hr with
        | cell _ _ _ hc => cases hc
        | bor _ _ _ hw =>
          have := walkIn_fun hw k1; subst this
          simp [kids] at hkc; subst hkc
          cases k2 with
          | own0 e => exact ⟨oss, [], none, 0, [], h, rfl, .nil _, .inl rfl⟩
          | own b e n cap c cs os hb hn hc hl =>
            have := hl.noOwn (by simpa using hno)
            subst this
            exact ⟨oss, [], _, cap, _, h, rfl, hl, .inr ⟨_, rfl, fun j u hj => by rw [addr_add, cell_of hb]; simpa using hj⟩⟩
    · simp at hm
  · simp at hm

theorem run_append_zero {t e ty : TypeId} (ht : P.underlying t = some (.slice e)) {i : TypeInfo} (hi : P.info? e = some i) (b y : Option Addr) (n cap c : Nat) (hn : n ≤ cap) (hb : y = none ∨ True) :
    (Builtin.append_ #[t, t] ty #[.slice b n cap, .slice y 0 c]).run P w = .ok (.slice b n cap) w := by
  cases b <;> cases y <;> simp [Builtin.append_, run_underlying ht, sizeOf, typeInfo, hi, Builtin.lenOf, hn, Builtin.firstCells, loadCells, loadCellsFrom, storeCells]
end
end Go.Abs
