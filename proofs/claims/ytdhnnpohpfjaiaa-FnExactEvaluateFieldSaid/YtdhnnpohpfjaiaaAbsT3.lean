/- Maps keyed by arrays of three whole numbers. It holds over any program. -/
import Derived.Test.YtdhnnpohpfjaiaaAbsT2
set_option linter.unusedVariables false
set_option linter.unusedSimpArgs false
namespace Go.Abs
open Go.RowKit (Below)
section
variable {P : Program} {N : Nat × List Nat} {G : Nat → Prop} {w0 : World × (Nat → Value)} {w w' : World} {S : St} {a : Act} {F : Nat → Prop} {oss : Nat → List Nat} {X : List Nat}

/-- Maps from arrays of three whole numbers to whole numbers. -/
def mapT (P : Program) (T : TypeId) : Bool :=
  match P.underlying T with
  | some (.map K E) => match P.underlying K with
    | some (.array 3 I) => (match P.underlying I with | some (.int .i64) => true | _ => false) && (match P.info? I with | some i => i.size == 1 | none => false) &&
        (match P.info? E with | some i => (match i.zero with | some (.int .i64 0) => true | _ => false) | none => false)
    | _ => false
  | _ => false
structure IsMap (P : Program) (T K E I : TypeId) : Prop where
  map : P.underlying T = some (.map K E)
  key : P.underlying K = some (.array 3 I)
  int : P.underlying I = some (.int .i64)
  size : ∃ i, P.info? I = some i ∧ i.size = 1
  zero : ∃ i, P.info? E = some i ∧ i.zero = some (.int .i64 0)
theorem mapT_some {T : TypeId} (h : mapT P T = true) : ∃ K E I, IsMap P T K E I := by
  unfold mapT at h
  split at h
  · rename_i K E hT
    split at h
    · rename_i I hK
      simp only [Bool.and_eq_true] at h
      obtain ⟨⟨h1, h2⟩, h3⟩ := h
      split at h1
      · rename_i hI
        split at h2
        · rename_i i hi
          split at h3
          · rename_i j hj
            split at h3
            · rename_i hz
              exact ⟨K, E, I, hT, hK, hI, ⟨i, hi, by simpa using h2⟩, ⟨j, hj, hz⟩⟩
            · simp at h3
          · simp at h3
        · simp at h2
      · simp at h1
    · simp at h
  · simp at h

theorem run_size1 {I : TypeId} (h : ∃ i, P.info? I = some i ∧ i.size = 1) (w : World) : (sizeOf I).run P w = .ok 1 w := by
  obtain ⟨i, hi, hs⟩ := h
  simp [sizeOf, typeInfo, hi, hs]
theorem run_isAggI {I : TypeId} (h : P.underlying I = some (.int .i64)) (w : World) : (isAgg I).run P w = .ok false w := run_isAgg h w

theorem run_partK {I : TypeId} (h : P.underlying I = some (.int .i64)) (k : Key) (w : World) :
    (part I #[.int .i64 k.1, .int .i64 k.2.1, .int .i64 k.2.2] 0).run P w = .ok (.int .i64 k.1) w ∧
    (part I #[.int .i64 k.1, .int .i64 k.2.1, .int .i64 k.2.2] 1).run P w = .ok (.int .i64 k.2.1) w ∧
    (part I #[.int .i64 k.1, .int .i64 k.2.1, .int .i64 k.2.2] 2).run P w = .ok (.int .i64 k.2.2) w := by
  refine ⟨?_, ?_, ?_⟩ <;> simp [part, run_isAggI h]

theorem r3 : List.range' 0 3 = [0, 1, 2] := rfl

theorem run_checkKey3 {T K E I : TypeId} (h : IsMap P T K E I) (em : Bool) (n : Nat) (k : Key) (w : World) : (Instr.checkKey em (n + 2) K (keyV k)).run P w = .ok () w := by
  obtain ⟨p0, p1, p2⟩ := run_partK (P := P) h.int k w
  have c : ∀ v, (Instr.checkKey em (n + 1) I (.int .i64 v)).run P w = .ok () w := fun v => by rw [Instr.checkKey]; simp [run_underlying h.int]
  rw [Instr.checkKey]
  simp [keyV, run_underlying h.key, r3, run_size1 h.size, p0, p1, p2, c]

theorem run_equal3 {T K E I : TypeId} (h : IsMap P T K E I) (n : Nat) (k q : Key) (w : World) : (Op.equalIn (n + 2) K (keyV k) (keyV q)).run P w = .ok (decide (k = q)) w := by
  obtain ⟨p0, p1, p2⟩ := run_partK (P := P) h.int k w
  obtain ⟨q0, q1, q2⟩ := run_partK (P := P) h.int q w
  have c : ∀ x y, (Op.equalIn (n + 1) I (.int .i64 x) (.int .i64 y)).run P w = .ok (x == y) w := fun x y => by rw [Op.equalIn]; simp [run_underlying h.int]
  obtain ⟨k0, k1, k2⟩ := k
  obtain ⟨s0, s1, s2⟩ := q
  simp only at p0 p1 p2 q0 q1 q2
  rw [Op.equalIn]
  by_cases h0 : k0 = s0
  · by_cases h1 : k1 = s1
    · by_cases h2 : k2 = s2
      · subst h0; subst h1; subst h2
        simp [keyV, run_underlying h.key, r3, run_size1 h.size, p0, p1, p2, c]
      · subst h0; subst h1
        simp [keyV, run_underlying h.key, r3, run_size1 h.size, p0, p1, p2, q0, q1, q2, c, h2]
    · subst h0
      simp [keyV, run_underlying h.key, r3, run_size1 h.size, p0, p1, p2, q0, q1, q2, c, h1]
  · simp [keyV, run_underlying h.key, r3, run_size1 h.size, p0, p1, p2, q0, q1, q2, c, h0]

theorem run_findAsking3 {T K E I : TypeId} (h : IsMap P T K E I) (k : Key) (w : World) : ∀ (es : List MapEntry) (j : Nat), (∀ e ∈ es, ∃ q, e.key = keyV q) →
    ((Instr.findAsking K (keyV k) es j).run P w = .ok none w ∧ ∀ e ∈ es, e.key ≠ keyV k) ∨
    ∃ l1 e l2, es = l1 ++ e :: l2 ∧ e.key = keyV k ∧ (∀ e ∈ l1, e.key ≠ keyV k) ∧ (Instr.findAsking K (keyV k) es j).run P w = .ok (some (j + l1.length, e.val)) w
  | [], j, hk => .inl ⟨by simp [Instr.findAsking], by simp⟩
  | e :: es, j, hk => by
    obtain ⟨q, hq⟩ := hk e (by simp)
    have he : (Op.equal K (keyV k) e.key).run P w = .ok (decide (k = q)) w := by
      rw [hq]; exact run_equal3 h 9998 k q w
    by_cases hkq : k = q
    · subst hkq
      refine .inr ⟨[], e, es, rfl, hq, by simp, ?_⟩
      simp [Instr.findAsking, he]
    · have hne : e.key ≠ keyV k := fun e1 => hkq (keyV_inj (by rw [← e1, hq]))
      rcases run_findAsking3 h k w es (j + 1) (fun e he => hk e (by simp [he])) with ⟨h1, h2⟩ | ⟨l1, e1, l2, h1, h2, h3, h4⟩
      · refine .inl ⟨?_, ?_⟩
        · simp [Instr.findAsking, he, hkq, h1]
        · intro x hx
          rcases List.mem_cons.1 hx with rfl | hx
          · exact hne
          · exact h2 x hx
      · refine .inr ⟨e :: l1, e1, l2, by simp [h1], h2, ?_, ?_⟩
        · intro x hx
          rcases List.mem_cons.1 hx with rfl | hx
          · exact hne
          · exact h3 x hx
        · simp [Instr.findAsking, he, hkq, h4, Nat.add_assoc, Nat.add_comm 1]

theorem run_findKey3 {T K E I : TypeId} (h : IsMap P T K E I) (k : Key) (w : World) (es : List MapEntry) (hk : ∀ e ∈ es, ∃ q, e.key = keyV q) :
    ((Instr.findKey K (keyV k) es).run P w = .ok none w ∧ ∀ e ∈ es, e.key ≠ keyV k) ∨
    ∃ l1 e l2, es = l1 ++ e :: l2 ∧ e.key = keyV k ∧ (∀ e ∈ l1, e.key ≠ keyV k) ∧ (Instr.findKey K (keyV k) es).run P w = .ok (some (l1.length, e.val)) w := by
  have key : (Instr.findKey K (keyV k) es).run P w = (Instr.findAsking K (keyV k) es 0).run P w := by
    cases es with
    | nil => simp [Instr.findKey, run_underlying h.key, Instr.findNow, Instr.findAsking]
    | cons e es => simp [Instr.findKey, run_underlying h.key, Instr.findNow, Instr.sameNow]
  rw [key]
  have := run_findAsking3 h k w es 0 hk
  simpa using this

/-! ## a new map -/
def mzero : Key → Option Int := fun _ => none
def mset (c : Key → Option Int) (k : Key) (v : Int) : Key → Option Int := fun q => if q = k then some v else c q
def mmS (d : Nat) : Option Operand → R
  | none => some (True, [], [.w d (.mp mzero)])
  | _ => none
theorem mapOk_nil : MapOk mzero [] 0 := ⟨by simp, fun _ _ => rfl, .nil, by simp, by simp⟩
theorem mm_sound (h : Core P N G w0 S a w F oss []) {T : TypeId} {d : Nat} (hd : OkD N d) {r : Option Operand} {p : Prop} {rd : List Nat} {U : List Upd} (hm : mmS d r = some (p, rd, U)) :
    ∃ v w', (Instr.makeMap T (r.map a.eval)).run P w = .ok v w' ∧ StRel P N G w0 (app U S) (a.put (some d) v) w' := by
  unfold mmS at hm
  split at hm
  · simp only [Option.some.injEq, Prod.mk.injEq] at hm; obtain ⟨rfl, rfl, rfl⟩ := hm
    refine ⟨.map (some w.heap.size), w.alloc (.map #[] 0), by simp [Instr.makeMap, newObj, Sem.run], ?_⟩
    have hh := heap_alloc_new w (.map #[] 0)
    have k : Core P N G w0 S a (w.alloc (.map #[] 0)) F oss [w.heap.size] :=
      h.world rfl rfl rfl (by simp) (fun b hb _ => Below.heap_alloc w _ b hb) (fun _ h => h) (fun _ h => .inl h)
        (fun b hb => by
          simp only [List.mem_singleton] at hb; subst hb
          exact ⟨.inr (Nat.le_refl _), by simp, fun hf => by have := h.fw _ hf; omega⟩) (by simp)
    exact k.putX hd (.cell _ _ _ (.mp _ #[] 0 _ hh mapOk_nil))
  · simp at hm

/-! ## a look-up -/
/-- A key out of its value. -/
def keyA : AV → Option Key
  | .agg [.val (.int .i64 x), .val (.int .i64 y), .val (.int .i64 z)] => some (x, y, z)
  | _ => none
/-- A map that can be read. -/
def mapA (S : St) (x : Operand) : Option (Key → Option Int) :=
  match x, aop S x with
  | _, .fmp c => some c
  | .tmp _, .mp c => some c
  | .tmp _, .bor s p => match kids (S s), getP (S s) p with
    | some _, some (.mp c) => some c
    | _, _ => none
  | _, _ => none
def lkS (P : Program) (S : St) (d : Nat) (T : TypeId) (x i : Operand) : Bool → R
  | false => if mapT P T then match mapA S x, keyA (aop S i) with
    | some c, some k => some (True, slotsOf x ++ slotsOf i, [.w d (.val (.int .i64 ((c k).getD 0)))])
    | _, _ => none
    else none
  | true => none

theorem RepT.valv {tm : Nat → Value} {u v : Value} {os : List Nat} (h : RepT P w F tm oss (.val u) v os) : v = u := by
  generalize hc : AV.val u = c at h
  cases h with
  | cell c v os h => subst hc; cases h; rfl
  | _ => simp at hc
theorem keyA_sound (h : Core P N G w0 S a w F oss X) {i : Operand} {k : Key} (hk : keyA (aop S i) = some k) : a.eval i = keyV k := by
  obtain ⟨os, ho, _⟩ := h.op i
  unfold keyA at hk
  split at hk
  · rename_i x y z hv
    injection hk with hk; subst hk
    rw [hv] at ho
    generalize a.eval i = u at ho ⊢
    cases ho with
    | cell _ _ _ hc => cases hc
    | agg _ vs os hl hL =>
      match vs, hl with
      | [v1, v2, v3], _ =>
        cases hL with
        | cons _ _ _ _ _ _ c1 t1 => cases t1 with
          | cons _ _ _ _ _ _ c2 t2 => cases t2 with
            | cons _ _ _ _ _ _ c3 t3 =>
              rw [c1.valv, c2.valv, c3.valv]
              rfl
  · simp at hk

theorem mapA_sound (h : Core P N G w0 S a w F oss X) {x : Operand} {c : Key → Option Int} (hc : mapA S x = some c) : ∃ b es clock, a.eval x = .map (some b) ∧ w.heap[b]? = some (.map es clock) ∧ MapOk c es.toList clock := by
  obtain ⟨os, ho, _⟩ := h.op x
  unfold mapA at hc
  split at hc
  · rename_i hv
    injection hc with hc; subst hc
    rw [hv] at ho
    generalize a.eval _ = u at ho ⊢
    cases ho with
    | cell _ _ _ hc => cases hc with
      | fmp b es clock _ hF hb hm => exact ⟨b, es, clock, rfl, hb, hm⟩
  · rename_i t c' hv
    injection hc with hc; subst hc
    rw [hv] at ho
    generalize a.eval _ = u at ho ⊢
    cases ho with
    | cell _ _ _ hc => cases hc with
      | mp b es clock _ hb hm => exact ⟨b, es, clock, rfl, hb, hm⟩
  · rename_i t s p hv
    split at hc
    · rename_i xx c' hk hg
      injection hc with hc; subst hc
      rw [hv] at ho
      generalize a.eval _ = u at ho ⊢
      cases ho with
      | cell _ _ _ hc => cases hc
      | bor _ _ _ hw =>
        obtain ⟨u', o1, ou, o2, k1, k2, k3, k4, k5, k6⟩ := h.inplace (by simp [hk]) hg
        have := walkIn_fun hw k1; subst this
        cases k2 with
        | mp b es clock _ hb hm => exact ⟨b, es, clock, rfl, hb, hm⟩
    · simp at hc
  · simp at hc

theorem MapOk.keys {c : Key → Option Int} {es : List MapEntry} {clock : Nat} (h : MapOk c es clock) : ∀ e ∈ es, ∃ q, e.key = keyV q := fun e he => by
  obtain ⟨k, v, hk, _⟩ := h.ent e he
  exact ⟨k, hk⟩

theorem lk_sound (h : Core P N G w0 S a w F oss []) {T : TypeId} {d : Nat} (hd : OkD N d) {x i : Operand} {ok : Bool} {p : Prop} {rd : List Nat} {U : List Upd} (hm : lkS P S d T x i ok = some (p, rd, U)) :
    ∃ v, (Instr.lookup T (a.eval x) (a.eval i) ok).run P w = .ok v w ∧ StRel P N G w0 (app U S) (a.put (some d) v) w := by
  unfold lkS at hm
  split at hm
  · split at hm
    · rename_i hT
      obtain ⟨K, E, I, hM⟩ := mapT_some hT
      split at hm
      · rename_i c k hc hk
        simp only [Option.some.injEq, Prod.mk.injEq] at hm; obtain ⟨rfl, rfl, rfl⟩ := hm
        obtain ⟨b, es, clock, hx, hb, hmo⟩ := mapA_sound h hc
        have hi := keyA_sound h hk
        refine ⟨.int .i64 ((c k).getD 0), ?_, h.put0 hd (.cell _ _ _ (.val _ rfl))⟩
        rw [hx, hi]
        have hget : (getObj b).run P w = .ok (.map es clock) w := by simp [getObj, Sem.run, hb]
        have hck := run_checkKey3 hM es.isEmpty 9998 k w
        have hz : (zeroValue E).run P w = .ok (.int .i64 0) w := by
          obtain ⟨j, hj, hz⟩ := hM.zero
          simp [zeroValue, typeInfo, hj, hz]
        rcases run_findKey3 hM k w es.toList hmo.keys with ⟨h1, h2⟩ | ⟨l1, e, l2, h1, h2, h3, h4⟩
        · rw [hmo.out k h2]
          simp [Instr.lookup, run_underlying hM.map, hget, hck, h1, hz]
        · obtain ⟨q, v, hq, hv, hcv⟩ := hmo.ent e (by rw [h1]; simp)
          have : q = k := keyV_inj (by rw [← hq, h2])
          subst this
          rw [hcv]
          simp [Instr.lookup, run_underlying hM.map, hget, hck, h4, hv]
      · simp at hm
    · simp at hm
  · simp at hm
end
end Go.Abs
