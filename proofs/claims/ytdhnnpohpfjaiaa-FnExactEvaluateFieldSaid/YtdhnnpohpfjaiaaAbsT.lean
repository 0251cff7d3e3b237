/- Arrays, parts of slices, copies, parts and literals of structs by value. It holds over any program. -/
import Derived.Test.YtdhnnpohpfjaiaaAbsS
import Derived.Laws.CopyRow
import Derived.Laws.Slices
set_option linter.unusedVariables false
set_option linter.unusedSimpArgs false
namespace Go.Abs
open Go.RowKit (Below)

abbrev R := Option (Prop × List Nat × List Upd)

section
variable {P : Program} {N : Nat × List Nat} {G : Nat → Prop} {w0 : World × (Nat → Value)} {w w' : World} {S : St} {a : Act} {F : Nat → Prop} {oss : Nat → List Nat} {X : List Nat}

/-! ## arrays -/
/-- An array's elements, an element's cells, whether it is of one cell. -/
def arrT (P : Program) (T : TypeId) : Option (Nat × Nat × Bool) :=
  match P.underlying T with
  | some (.array n e) => match P.info? e with
    | some i => some (n, i.size, kindT P e == some none)
    | none => none
  | _ => none
theorem arrT_some {T : TypeId} {n es : Nat} {b : Bool} (h : arrT P T = some (n, es, b)) : ∃ e i, P.underlying T = some (.array n e) ∧ P.info? e = some i ∧ i.size = es ∧ (b = true → kindT P e = some none) := by
  unfold arrT at h
  split at h
  · rename_i n' e hu
    split at h
    · rename_i i hi
      simp only [Option.some.injEq, Prod.mk.injEq] at h; obtain ⟨rfl, rfl, rfl⟩ := h
      exact ⟨e, i, hu, hi, rfl, fun hb => by simpa using hb⟩
    · simp at h
  · simp at h

def ixA (P : Program) (S : St) (d : Nat) (T : TypeId) (x i : Operand) : R :=
  match arrT P T, aop S i with
  | some (len, es, _), .val (.int _ n) => match adr S x with
    | some (s, p, off) => match ctn S s p with
      | some (_, cs) => some (0 ≤ n ∧ n < len ∧ cs ≠ [], slotsOf x ++ slotsOf i ++ [s], [.w d (.ptr s p (off + n.toNat * es))])
      | none => none
    | none => match aop S x with
      | .fptr cs => some (0 ≤ n ∧ n < len, slotsOf x ++ slotsOf i, [.w d (.fptr (cs.drop (n.toNat * es)))])
      | _ => none
  | _, _ => none

theorem run_ixA {T : TypeId} {len es : Nat} {bb : Bool} (h : arrT P T = some (len, es, bb)) (b off : Nat) (k : IntKind) (n : Int) (h0 : 0 ≤ n) (h1 : n < len) (w : World) :
    (Instr.indexAt T (.pointer (some ⟨b, off, none⟩)) (.int k n)).run P w = .ok (.pointer (some ⟨b, off + n.toNat * es, none⟩)) w := by
  obtain ⟨e, i, hu, hi, hs, _⟩ := arrT_some h
  have hz : (sizeOf e).run P w = .ok es w := by rw [run_sizeOf hi]; simp [Program.cellsOf, hi, hs]
  simp only [Instr.indexAt, asIntOf, Sem.run_bind, Sem.run_pure, Result.andThen_ok, run_underlying hu, Instr.sureAddr]
  simp only [h0, h1, and_self, if_true, Sem.run_bind, hz, Result.andThen_ok, Sem.run_pure, addr_add]

theorem ixA_sound (h : Core P N G w0 S a w F oss []) {T : TypeId} {d : Nat} (hd : OkD N d) {x i : Operand} {p : Prop} {rd : List Nat} {U : List Upd} (hm : ixA P S d T x i = some (p, rd, U)) (hp : p) :
    ∃ v, (Instr.indexAt T (a.eval x) (a.eval i)).run P w = .ok v w ∧ StRel P N G w0 (app U S) (a.put (some d) v) w := by
  unfold ixA at hm
  split at hm
  · rename_i len es bb k n hT hi
    rw [h.int hi]
    split at hm
    · rename_i s q off ha
      split at hm
      · rename_i cc cs hc
        simp only [Option.some.injEq, Prod.mk.injEq] at hm; obtain ⟨rfl, rfl, rfl⟩ := hm
        obtain ⟨h0, h1, hne⟩ := hp
        obtain ⟨hk, hg, hkc⟩ := ctn_some hc
        obtain ⟨u, o1, ou, o2, k1, k2, k3, k4, k5, k6⟩ := h.inplace hk hg
        obtain ⟨b, hb, hx⟩ := h.adr ha hc hne k1
        exact ⟨_, by rw [hx]; exact run_ixA hT b off k n h0 h1 w, h.put0 hd (.ptr s q _ u b k1 hb)⟩
      · simp at hm
    · split at hm
      · rename_i cs hx
        simp only [Option.some.injEq, Prod.mk.injEq] at hm; obtain ⟨rfl, rfl, rfl⟩ := hm
        obtain ⟨os, ho, _⟩ := h.op x
        rw [hx] at ho
        generalize a.eval x = u at ho ⊢
        cases ho with
        | cell _ _ _ hc => cases hc with
          | fptr b off c e fr cs hF' hb hl =>
            refine ⟨_, run_ixA hT b off k n hp.1 hp.2 w, h.put0 hd (.cell _ _ _ (.fptr b _ c e fr _ hF' hb ?_))⟩
            have := hl.drop (n.toNat * es)
            rwa [List.drop_drop] at this
      · simp at hm
  · simp at hm

/-- The address of an element: of a slice, or of an array. -/
def ixR (P : Program) (S : St) (d : Nat) (T : TypeId) (x i : Operand) : R :=
  match elemT P T with
  | some _ => ixS P S d T x i
  | none => ixA P S d T x i
theorem ixR_sound (h : Core P N G w0 S a w F oss []) {T : TypeId} {d : Nat} (hd : OkD N d) {x i : Operand} {p : Prop} {rd : List Nat} {U : List Upd} (hm : ixR P S d T x i = some (p, rd, U)) (hp : p) :
    ∃ v, (Instr.indexAt T (a.eval x) (a.eval i)).run P w = .ok v w ∧ StRel P N G w0 (app U S) (a.put (some d) v) w := by
  unfold ixR at hm
  split at hm
  · exact ix_sound h hd hm hp
  · exact ixA_sound h hd hm hp

/-- A part of a value of parts: taken out where it is ours. -/
def ptS (S : St) (N : Nat × List Nat) (d t : Nat) (i : Nat) : R :=
  match S t with
  | .agg cs => match cs[i]? with
    | some .any => none
    | some c => if hasOwn c then some (t < N.1 ∧ t ≠ d, [t], [.w t (.agg (cs.set i .any)), .w d (kl [t] c)]) else some (True, [t], [.w d c])
    | none => none
  | _ => none
theorem pt_sound (h : Core P N G w0 S a w F oss []) {t i d : Nat} (hd : OkD N d) {p : Prop} {rd : List Nat} {U : List Upd} (hm : ptS S N d t i = some (p, rd, U)) (hp : p) :
    ∃ vs v, a.eval (.tmp t) = .agg (List.toArray vs) ∧ vs[i]? = some v ∧ StRel P N G w0 (app U S) (a.put (some d) v) w := by
  unfold ptS at hm
  split at hm
  · rename_i cs hS
    have hr := h.rep t
    split at hm
    · simp at hm
    · rename_i c hne hi
      split at hm
      · rename_i hown
        simp only [Option.some.injEq, Prod.mk.injEq] at hm; obtain ⟨rfl, rfl, rfl⟩ := hm
        obtain ⟨k1, k2⟩ := h.take t
        rw [hS] at k2
        have hv : a.eval (.tmp t) = tmo a t := rfl
        generalize hu : tmo a t = u at k2 hv
        generalize ho : oss t = ot at k2 k1
        rw [kl] at k2
        cases k2 with
        | cell _ _ _ hc => cases hc
        | agg _ vs os hl hL =>
          have hi' : (klL [t] cs)[i]? = some (kl [t] c) := by rw [klL_eq, List.getElem?_map, hi]; rfl
          obtain ⟨v, o1, oc, o2, e1, e2, e3, e4⟩ := hL.get hi'
          subst e3
          refine ⟨vs, v, hv, e1, ?_⟩
          simp only [List.append_nil] at k1
          have hnd := k1.xn
          have n1 := List.nodup_append.1 hnd
          have n2 := List.nodup_append.1 n1.2.1
          have hset : (klL [t] cs).set i .any = klL [t] (cs.set i .any) := by
            rw [klL_eq, klL_eq, List.map_set]; rfl
          have back : Core P N G w0 (upd t (.agg (cs.set i .any)) S) a w F (ins (ins oss t []) t (o1 ++ o2)) oc := by
            have hr2 : RepT P w F (tmo a) (ins oss t []) (.agg (klL [t] (cs.set i .any))) (tmo a t) (o1 ++ o2) := by
              rw [hu]; exact .agg _ vs _ (by rw [klL_length, List.length_set, ← hl, klL_length]) (hset ▸ e4)
            have := k1.reput (t := t) hp.1 hr2 (fun b hb => by simp only [List.mem_append] at hb ⊢; rcases hb with hb | hb <;> simp [hb])
              (List.nodup_append.2 ⟨n1.1, n2.2.1, fun x hx y hy e => n1.2.2 x hx y (by simp [hy]) e⟩) (X' := oc)
              (fun b hb => ⟨by simp [hb], fun hx => by
                rcases List.mem_append.1 hx with hx | hx
                · exact n1.2.2 b hx b (by simp [hb]) rfl
                · exact n2.2.2 b hb b hx rfl⟩) n2.1
            have heq : upd t (.agg (klL [t] (cs.set i .any))) (upd t .any S) = upd t (.agg (cs.set i .any)) S := by
              funext j
              simp only [upd]
              split
              · simp [kl, klL_klL]
              · exact kl_kl _ _
            rwa [heq] at this
          have he2 : RepT P w F (tmo a) (ins (ins oss t []) t (o1 ++ o2)) (kl [t] (kl [t] c)) v oc :=
            RepT.kl [t] (fun _ h => h) (fun s p u hs k => by
              have hs : s ≠ t := by simpa using hs
              simpa [ins, hs] using k) e2 (fun _ _ => rfl)
          rw [kl_kl] at he2
          exact back.putX hd he2
      · rename_i hown
        simp only [Option.some.injEq, Prod.mk.injEq] at hm; obtain ⟨rfl, rfl, rfl⟩ := hm
        rw [hS] at hr
        have hv : a.eval (.tmp t) = tmo a t := rfl
        generalize tmo a t = u at hr hv
        generalize oss t = ot at hr
        cases hr with
        | cell _ _ _ hc => cases hc
        | agg _ vs os hl hL =>
          obtain ⟨v, o1, oc, o2, e1, e2, e3, e4⟩ := hL.get hi
          refine ⟨vs, v, hv, e1, ?_⟩
          rw [e2.noOwn (by simpa using hown)] at e2
          exact h.put0 hd e2
    · simp at hm
  · simp at hm

/-- An element of an array's value (elements of one cell). -/
def ivS (P : Program) (S : St) (N : Nat × List Nat) (d : Nat) (T : TypeId) (x i : Operand) : R :=
  match x with
  | .tmp t => match arrT P T, aop S i with
    | some (len, 1, true), .val (.int _ n) => match ptS S N d t n.toNat with
      | some (p, rd, U) => some (0 ≤ n ∧ n < len ∧ p, rd ++ slotsOf i, U)
      | none => none
    | _, _ => none
  | _ => none
theorem run_part1 {e : TypeId} (h : kindT P e = some none) (vs : List Value) (i : Nat) (v : Value) (hv : vs[i]? = some v) (w : World) : (part e vs.toArray i).run P w = .ok v w := by
  obtain ⟨d, hd, hf⟩ := kindT_one h
  have := run_isAgg hd w
  rw [hf] at this
  simp [part, this, hv]
theorem iv_sound (h : Core P N G w0 S a w F oss []) {T : TypeId} {d : Nat} (hd : OkD N d) {x i : Operand} {p : Prop} {rd : List Nat} {U : List Upd} (hm : ivS P S N d T x i = some (p, rd, U)) (hp : p) :
    ∃ v, (Instr.index T (a.eval x) (a.eval i)).run P w = .ok v w ∧ StRel P N G w0 (app U S) (a.put (some d) v) w := by
  unfold ivS at hm
  split at hm
  · rename_i t
    split at hm
    · rename_i len k n hT hi
      rw [h.int hi]
      split at hm
      · rename_i q rd' U' hpt
        simp only [Option.some.injEq, Prod.mk.injEq] at hm; obtain ⟨rfl, rfl, rfl⟩ := hm
        obtain ⟨h0, h1, hq⟩ := hp
        obtain ⟨vs, v, e1, e2, e3⟩ := pt_sound h hd hpt hq
        obtain ⟨e, inf, hu, hinf, hs, hb⟩ := arrT_some hT
        refine ⟨v, ?_, e3⟩
        have hz : (sizeOf e).run P w = .ok 1 w := by rw [run_sizeOf hinf]; simp [Program.cellsOf, hinf, hs]
        rw [e1]
        simp only [Instr.index, asIntOf, Sem.run_bind, Sem.run_pure, Result.andThen_ok, run_underlying hu, h0, h1, and_self, if_true, hz, Nat.mul_one, run_part1 (hb rfl) vs _ v e2 w]
      · simp at hm
    · simp at hm
  · simp at hm

/-! ## a field of a struct's value -/
def fld1T (P : Program) (T : TypeId) (i : Nat) : Option Nat :=
  match P.underlying T with
  | some (.struct fs) => match fs[i]? with
    | some f => if kindT P f.type = some none then some f.offset else none
    | none => none
  | _ => none
def fdS (P : Program) (S : St) (N : Nat × List Nat) (d : Nat) (T : TypeId) (x : Operand) (i : Nat) : R :=
  match x with
  | .tmp t => match fld1T P T i with
    | some o => ptS S N d t o
    | _ => none
  | _ => none
theorem fd_sound (h : Core P N G w0 S a w F oss []) {T : TypeId} {d i : Nat} (hd : OkD N d) {x : Operand} {p : Prop} {rd : List Nat} {U : List Upd} (hm : fdS P S N d T x i = some (p, rd, U)) (hp : p) :
    ∃ v, (Instr.field T (a.eval x) i).run P w = .ok v w ∧ StRel P N G w0 (app U S) (a.put (some d) v) w := by
  unfold fdS at hm
  split at hm
  · rename_i t
    split at hm
    · rename_i o hF
      obtain ⟨vs, v, e1, e2, e3⟩ := pt_sound h hd hm hp
      refine ⟨v, ?_, e3⟩
      unfold fld1T at hF
      split at hF
      · rename_i fs hu
        split at hF
        · rename_i f hf
          split at hF
          · rename_i hk
            injection hF with hF; subst hF
            rw [e1]
            simp [Instr.field, run_underlying hu, hf, asAgg, run_part1 hk vs _ v e2 w]
          · simp at hF
        · simp at hF
      · simp at hF
    · simp at hm
  · simp at hm

/-! ## parts of slices -/
def bnd (S : St) : Option Operand → Int → Option Int
  | none, z => some z
  | some x, _ => match aop S x with
    | .val (.int _ n) => some n
    | _ => none
def bndSl : Option Operand → List Nat
  | none => []
  | some x => slotsOf x

/-- A part of the row's elements (from cell o on, m of them, es cells each). -/
def prS (S : St) (d es : Nat) (rd : List Nat) (s : Nat) (p : List Nat) (o m : Nat) (lo hi : Option Operand) : R :=
  match bnd S lo 0, bnd S hi m with
  | some l, some h => some (0 ≤ l ∧ l < h ∧ h ≤ m, rd ++ [s], [.w d (.slp s p (o + l.toNat * es) (h - l).toNat)])
  | _, _ => none
/-- The first elements of a slice of ours: it is taken over. -/
def poS (S : St) (d es : Nat) (rd : List Nat) (s : Nat) (p : List Nat) (lo hi : Option Operand) : R :=
  match tkP false s p S with
  | some (.own e m cs, U) => match bnd S lo 0, bnd S hi m with
    | some l, some h => some (l = 0 ∧ 0 ≤ h ∧ h ≤ m, rd ++ [s], U ++ [.w d (.own e h.toNat (cs.take (h.toNat * es)))])
    | _, _ => none
  | _ => none
def slS (P : Program) (cf : Cfg) (S : St) (d : Nat) (T : TypeId) (x : Operand) (lo hi : Option Operand) : R :=
  match elemT P T with
  | some e => match infoT P e with
    | some (es, _, _) => match x with
      | .tmp t => match S t with
        | .sl m cs => match bnd S lo 0, bnd S hi m with
          | some l, some h => some (0 ≤ l ∧ l ≤ h ∧ h ≤ m, slotsOf x ++ bndSl lo ++ bndSl hi, [.w d (.sl (h - l).toNat ((cs.drop (l.toNat * es)).take ((h - l).toNat * es)))])
          | _, _ => none
        | .own _ m _ => if cf.tko.contains d then poS S d es (t :: bndSl lo ++ bndSl hi) t [] lo hi else prS S d es (t :: bndSl lo ++ bndSl hi) t [] 0 m lo hi
        | .bor s p => if cf.tko.contains d then poS S d es (t :: bndSl lo ++ bndSl hi) s p lo hi else match ctn S s p with
          | some (.own _ m _, _) => prS S d es (t :: bndSl lo ++ bndSl hi) s p 0 m lo hi
          | _ => none
        | .slp s p o m => prS S d es (t :: bndSl lo ++ bndSl hi) s p o m lo hi
        | _ => none
      | _ => none
    | none => none
  | none => match arrT P T with
    | some (n, es, _) => match adr S x with
      | some (s, p, off) => match ctn S s p with
        | some (_, cs) => match prS S d es (slotsOf x ++ bndSl lo ++ bndSl hi) s p off n lo hi with
          | some (q, rd, U) => some (cs ≠ [] ∧ q, rd, U)
          | none => none
        | none => none
      | none => none
    | none => none

theorem bnd_run (h : Core P N G w0 S a w F oss X) {lo : Option Operand} {z l : Int} (hb : bnd S lo z = some l) : (lo = none ∧ l = z) ∨ ∃ x k, lo = some x ∧ a.eval x = .int k l := by
  cases lo with
  | none => simp [bnd] at hb; exact .inl ⟨rfl, hb.symm⟩
  | some x =>
    simp only [bnd] at hb
    split at hb
    · rename_i k n hx
      injection hb with hb; subst hb
      exact .inr ⟨x, k, rfl, h.int hx⟩
    · simp at hb

/-- The bounds, run. -/
theorem run_bounds (h : Core P N G w0 S a w F oss X) {lo hi : Option Operand} {l hh : Int} {len cap : Nat} (h1 : bnd S lo 0 = some l) (h2 : bnd S hi len = some hh) (h0 : 0 ≤ l) (h3 : l ≤ hh) (h4 : hh ≤ len) (hc : len ≤ cap) (b : Bool) :
    (Instr.sliceBounds b len cap (lo.map a.eval) (hi.map a.eval) none).run P w = .ok (l.toNat, hh.toNat, cap) w := by
  have e1 : (hh.toNat : Int) = hh := Int.toNat_of_nonneg (by omega)
  rcases bnd_run h h1 with ⟨rfl, rfl⟩ | ⟨x, k, rfl, hx⟩ <;> rcases bnd_run h h2 with ⟨rfl, rfl⟩ | ⟨y, k', rfl, hy⟩
  · simp [Instr.sliceBounds]
  · simp [Instr.sliceBounds, hy, run_sliceBound, show 0 ≤ hh by omega, show hh ≤ (cap : Int) by omega]
  · simp [Instr.sliceBounds, hx, run_sliceBound, h0, h3, h4]
  · simp [Instr.sliceBounds, hx, hy, run_sliceBound, show 0 ≤ hh by omega, show hh ≤ (cap : Int) by omega, h0, h3, e1]

theorem run_sl {T e : TypeId} (hT : elemT P T = some e) {es by_ : Nat} {zs : List AV} (hI : infoT P e = some (es, by_, zs)) (h : Core P N G w0 S a w F oss X) {lo hi : Option Operand} {l hh : Int} {len cap : Nat}
    (h1 : bnd S lo 0 = some l) (h2 : bnd S hi len = some hh) (h0 : 0 ≤ l) (h3 : l ≤ hh) (h4 : hh ≤ len) (hc : len ≤ cap) (base : Option Addr) :
    (Instr.sliceAt T (.slice base len cap) (lo.map a.eval) (hi.map a.eval) none).run P w = .ok (.slice (if cap = l.toNat then base else base.map (·.add (l.toNat * es))) (hh - l).toNat (cap - l.toNat)) w := by
  have hu := elemT_some hT
  obtain ⟨i, z, hi', _, hs, _, _, _, hcs⟩ := infoT_some hI
  have hz : (sizeOf e).run P w = .ok es w := by rw [run_sizeOf hi', hcs]
  have e : (hh - l).toNat = hh.toNat - l.toNat := by omega
  rw [e]
  simp [Instr.sliceAt, Instr.slice, run_underlying hu, run_bounds h h1 h2 h0 h3 h4 hc, hz]

theorem pr_sound (h : Core P N G w0 S a w F oss []) {d es : Nat} (hd : OkD N d) {s : Nat} {p : List Nat} {o m : Nat} {lo hi : Option Operand} {rd0 rd : List Nat} {q : Prop} {U : List Upd} (hm : prS S d es rd0 s p o m lo hi = some (q, rd, U)) (hq : q)
    {u : Value} {b cap : Nat} (hu : walkIn w (oss s) (tmo a s) p u) (hb : baseOf u = some b) (hc : m ≤ cap) :
    ∃ l hh, bnd S lo 0 = some l ∧ bnd S hi m = some hh ∧ 0 ≤ l ∧ l < hh ∧ hh ≤ m ∧
      StRel P N G w0 (app U S) (a.put (some d) (.slice (some ⟨b, o + l.toNat * es, none⟩) (hh - l).toNat (cap - l.toNat))) w := by
  unfold prS at hm
  split at hm
  · rename_i l hh h1 h2
    simp only [Option.some.injEq, Prod.mk.injEq] at hm; obtain ⟨rfl, rfl, rfl⟩ := hm
    obtain ⟨q1, q2, q3⟩ := hq
    exact ⟨l, hh, h1, h2, q1, q2, q3, h.put0 hd (.slp s p _ _ _ u b hu hb (by omega))⟩
  · simp at hm

theorem po_sound (h : Core P N G w0 S a w F oss []) {T e : TypeId} (hT : elemT P T = some e) {es by_ : Nat} {zs : List AV} (hI : infoT P e = some (es, by_, zs)) {d : Nat} (hd : OkD N d) {s : Nat} {p : List Nat} {lo hi : Option Operand} {rd0 rd : List Nat} {q : Prop} {U : List Upd}
    (hm : poS S d es rd0 s p lo hi = some (q, rd, U)) (hq : q) {u : Value} (hu : walkIn w (oss s) (tmo a s) p u) :
    ∃ v, (Instr.sliceAt T u (lo.map a.eval) (hi.map a.eval) none).run P w = .ok v w ∧ StRel P N G w0 (app U S) (a.put (some d) v) w := by
  unfold poS at hm
  split at hm
  · rename_i e' m cs U1 htk
    split at hm
    · rename_i l hh h1 h2
      simp only [Option.some.injEq, Prod.mk.injEq] at hm; obtain ⟨rfl, rfl, rfl⟩ := hm
      obtain ⟨rfl, q2, q3⟩ := hq
      obtain ⟨F', oss', oc, k1, k2, k3⟩ := h.tkP htk hu
      simp only [List.append_nil] at k1
      rw [app_append]
      cases k2 with
      | own0 e =>
        have hh0 : hh = 0 := by omega
        subst hh0
        refine ⟨_, run_sl hT hI h h1 h2 (Int.le_refl _) q2 q3 (Nat.le_refl 0) none, ?_⟩
        have := k1.put0 hd (c := .own e' 0 []) (v := .slice none 0 0) (.cell _ _ _ (.own0 e'))
        simpa [app] using this
      | own b e n cap c cs os hb hn hc hl =>
        refine ⟨_, run_sl hT hI h h1 h2 (Int.le_refl _) q2 q3 hn (some ⟨b, 0, none⟩), ?_⟩
        have e0 : (if cap = (0 : Int).toNat then some (⟨b, 0, none⟩ : Addr) else (some (⟨b, 0, none⟩ : Addr)).map (·.add ((0 : Int).toNat * es))) = some ⟨b, 0, none⟩ := by
          split
          · rfl
          · simp [addr_add]
        rw [e0]
        obtain ⟨p1, p2, e1, g1, g2⟩ := RepL.part hl (hh.toNat * es)
        have hsub := k1.sub (X' := b :: p1) (fun z hz => by rw [e1]; rcases List.mem_cons.1 hz with hz | hz <;> simp [hz]) (by
          have := k1.xn
          rw [e1] at this
          have n1 := List.nodup_cons.1 this
          exact List.nodup_cons.2 ⟨fun hx => n1.1 (by simp [hx]), (List.nodup_append.1 n1.2).1⟩)
        have g1' := g1.of_take
        simp only [Int.sub_zero, Int.toNat_zero, Nat.sub_zero]
        exact hsub.putX hd (.cell _ _ _ (.own b e' hh.toNat cap c _ p1 hb (by omega) hc g1'))
    · simp at hm
  · simp at hm

theorem sl_sound (h : Core P N G w0 S a w F oss []) {cf : Cfg} {T : TypeId} {d : Nat} (hd : OkD N d) {x : Operand} {lo hi : Option Operand} {p : Prop} {rd : List Nat} {U : List Upd} (hm : slS P cf S d T x lo hi = some (p, rd, U)) (hp : p) :
    ∃ v, (Instr.sliceAt T (a.eval x) (lo.map a.eval) (hi.map a.eval) none).run P w = .ok v w ∧ StRel P N G w0 (app U S) (a.put (some d) v) w := by
  have part : ∀ {T e : TypeId} {es by_ : Nat} {zs : List AV}, elemT P T = some e → infoT P e = some (es, by_, zs) → ∀ {rd0 : List Nat} {s : Nat} {q : List Nat} {o m cap b : Nat} {u : Value}, walkIn w (oss s) (tmo a s) q u → baseOf u = some b → m ≤ cap →
      prS S d es rd0 s q o m lo hi = some (p, rd, U) → ∃ v, (Instr.sliceAt T (.slice (some ⟨b, o, none⟩) m cap) (lo.map a.eval) (hi.map a.eval) none).run P w = .ok v w ∧ StRel P N G w0 (app U S) (a.put (some d) v) w := by
    intro T e es by_ zs hT hI rd0 s q o m cap b u hu hb hc hm
    obtain ⟨l, hh, h1, h2, h3, h4, h5, h6⟩ := pr_sound h hd hm hp hu hb hc
    refine ⟨_, run_sl hT hI h h1 h2 h3 (by omega) h5 hc _, ?_⟩
    rw [if_neg (by omega)]
    simpa [addr_add] using h6
  unfold slS at hm
  split at hm
  · rename_i e hT
    split at hm
    · rename_i es by_ zs hI
      split at hm
      case h_2 => simp at hm
      rename_i t
      split at hm
      · rename_i m cs hx
        split at hm
        · rename_i l hh h1 h2
          simp only [Option.some.injEq, Prod.mk.injEq] at hm; obtain ⟨rfl, rfl, rfl⟩ := hm
          obtain ⟨q1, q2, q3⟩ := hp
          have ho := h.get t
          rw [hx] at ho
          generalize a.eval (.tmp t) = u at ho ⊢
          generalize oss t = ot at ho
          cases ho with
          | cell _ _ _ hc => cases hc with
            | sl0 base cap =>
              refine ⟨_, run_sl hT hI h h1 h2 q1 q2 q3 (Nat.zero_le cap) base, ?_⟩
              have e0 : (hh - l).toNat = 0 := by omega
              rw [e0]
              simpa [app] using h.put0 hd (.cell _ _ _ (.sl0 _ _))
            | sl b off m cap c e' fr cs hF hb hl hn =>
              refine ⟨_, run_sl hT hI h h1 h2 q1 q2 q3 hn _, ?_⟩
              by_cases hz : cap = l.toNat
              · rw [if_pos hz]
                have e0 : (hh - l).toNat = 0 := by omega
                rw [e0]
                simpa [app] using h.put0 hd (.cell _ _ _ (.sl0 _ _))
              · rw [if_neg hz]
                have := (hl.drop (l.toNat * es)).pref ((hh - l).toNat * es)
                rw [List.drop_drop] at this
                refine h.put0 hd ?_
                simpa [addr_add] using RepT.cell (P := P) (w := w) (F := F) (tm := tmo a) (oss := oss) _ _ _ (RepC.sl b (off + l.toNat * es) (hh - l).toNat (cap - l.toNat) c e' fr _ hF hb this (by omega))
        · simp at hm
      · rename_i e' m cs hx
        have hr := h.rep t
        rw [hx] at hr
        split at hm
        · exact po_sound h hT hI hd hm hp (u := a.eval (.tmp t)) rfl
        · have hv : a.eval (.tmp t) = tmo a t := rfl
          rw [hv]
          generalize hge : tmo a t = u at hr ⊢
          have hu : walkIn w (oss t) (tmo a t) [] u := hge.symm
          clear hv hge
          generalize oss t = ot at hr
          cases hr with
          | cell _ _ _ hc => cases hc with
            | own0 =>
              unfold prS at hm
              split at hm
              · simp only [Option.some.injEq, Prod.mk.injEq] at hm; obtain ⟨rfl, rfl, rfl⟩ := hm; omega
              · simp at hm
            | own b e n cap c cs os hb hn hc hl => exact part hT hI hu (show baseOf (.slice (some ⟨b, 0, none⟩) m cap) = some b from rfl) hn hm
      · rename_i s q hx
        have hr := h.rep t
        rw [hx] at hr
        have hv : a.eval (.tmp t) = tmo a t := rfl
        rw [hv]
        generalize tmo a t = u at hr ⊢
        generalize oss t = ot at hr
        cases hr with
        | cell _ _ _ hc => cases hc
        | bor _ _ _ hw =>
          split at hm
          · exact po_sound h hT hI hd hm hp hw
          · split at hm
            · rename_i e' m cs' cs hc
              obtain ⟨hk, hg, hkc⟩ := ctn_some hc
              obtain ⟨u', o1, ou, o2, k1, k2, k3, k4, k5, k6⟩ := h.inplace hk hg
              have := walkIn_fun hw k1; subst this
              cases k2 with
              | own0 =>
                unfold prS at hm
                split at hm
                · simp only [Option.some.injEq, Prod.mk.injEq] at hm; obtain ⟨rfl, rfl, rfl⟩ := hm; omega
                · simp at hm
              | own b e n cap c cs os hb hn hc hl => exact part hT hI hw (show baseOf (.slice (some ⟨b, 0, none⟩) m cap) = some b from rfl) hn hm
            · simp at hm
      · rename_i s q o m hx
        have hr := h.rep t
        rw [hx] at hr
        have hv : a.eval (.tmp t) = tmo a t := rfl
        rw [hv]
        generalize tmo a t = u at hr ⊢
        generalize oss t = ot at hr
        cases hr with
        | cell _ _ _ hc => cases hc
        | slp _ _ _ _ cap u b hw hb hn => exact part hT hI hw hb hn hm
      · simp at hm
    · simp at hm
  · rename_i hT
    split at hm
    · rename_i n es bb hA
      split at hm
      · rename_i s q off ha
        split at hm
        · rename_i cc cs hc
          split at hm
          · rename_i q' rd' U' hpr
            simp only [Option.some.injEq, Prod.mk.injEq] at hm; obtain ⟨rfl, rfl, rfl⟩ := hm
            obtain ⟨hne, hq⟩ := hp
            obtain ⟨hk, hg, hkc⟩ := ctn_some hc
            obtain ⟨u, o1, ou, o2, k1, k2, k3, k4, k5, k6⟩ := h.inplace hk hg
            obtain ⟨b, hb, hx⟩ := h.adr ha hc hne k1
            obtain ⟨l, hh, h1, h2, h3, h4, h5, h6⟩ := pr_sound h hd hpr hq k1 hb (Nat.le_refl n)
            obtain ⟨e, i, hu, hi', hs, _⟩ := arrT_some hA
            have hz : (sizeOf e).run P w = .ok es w := by rw [run_sizeOf hi']; simp [Program.cellsOf, hi', hs]
            have hbd := run_bounds h h1 h2 h3 (by omega) h5 (Nat.le_refl n) false
            refine ⟨_, ?_, h6⟩
            rw [hx]
            have e2 : (hh - l).toNat = hh.toNat - l.toNat := by omega
            rw [e2]
            have hnz : ¬ n = l.toNat := by omega
            simp [Instr.sliceAt, run_underlying hu, Instr.sureAddr, hbd, hz, hnz, addr_add]
          · simp at hm
        · simp at hm
      · simp at hm
    · simp at hm
end
end Go.Abs
