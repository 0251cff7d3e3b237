/- New rows (literals, make, append), stores, len, calls. It holds over any program. -/
import Derived.Test.YtdhnnpohpfjaiaaAbsF
import Derived.Great.BuildSlice
set_option linter.unusedVariables false
set_option linter.unusedSimpArgs false
namespace Go.Abs
open Go.RowKit (Below)

section
variable {P : Program} {N : Nat × List Nat} {G : Nat → Prop} {w0 : World × (Nat → Value)} {w w' : World} {S : St} {a : Act} {F : Nat → Prop} {oss : Nat → List Nat} {X : List Nat}

/-- A new block, that holds what stands beside. -/
theorem Core.newBlock (h : Core P N G w0 S a w F oss X) {c : Array Value} {e : TypeId} (ho : w'.os = w.os) (ht : w'.tape = w.tape) (hp : w'.output = w.output)
    (hs : w'.heap.size = w.heap.size + 1) (hh : w'.heap[w.heap.size]? = some (.cells c e (0, 0))) (hw : ∀ b, b < w.heap.size → w'.heap[b]? = w.heap[b]?) :
    Core P N G w0 S a w' F oss (w.heap.size :: X) :=
  h.world ho ht hp (by omega) (fun b hb _ => hw b hb) (fun _ h => h) (fun _ h => .inl h)
    (fun b hb => by
      rcases List.mem_cons.1 hb with rfl | hb
      · exact ⟨.inr (Nat.le_refl _), by omega, fun hf => by have := h.fw _ hf; omega⟩
      · exact ⟨.inl hb, by have := (h.xo b hb).2; omega, (h.xo b hb).1⟩)
    (List.nodup_cons.2 ⟨fun hx => by have := (h.xo _ hx).2; omega, h.xn⟩)

theorem Core.newOwn (h : Core P N G w0 S a w F oss X) {c : Array Value} {e : TypeId} {cs : List AV} {n cap : Nat} (ho : w'.os = w.os) (ht : w'.tape = w.tape) (hp : w'.output = w.output)
    (hs : w'.heap.size = w.heap.size + 1) (hh : w'.heap[w.heap.size]? = some (.cells c e (0, 0))) (hw : ∀ b, b < w.heap.size → w'.heap[b]? = w.heap[b]?)
    (hn : n ≤ cap) (hc : cap * P.cellsOf e ≤ c.size) (hl : RepL P w F cs c.toList X) {d : Nat} (hd : OkD N d) :
    StRel P N G w0 (upd d (.own e n cs) S) (a.put (some d) (.slice (some ⟨w.heap.size, 0, none⟩) n cap)) w' := by
  refine (h.newBlock ho ht hp hs hh hw).putX hd (.cell _ _ _ (.own _ e n cap c cs X hh hn hc (hl.mono (fun _ h => h) (fun b hb => ?_))))
  rcases hb with hb | hb
  · exact hw b (h.fw b hb)
  · exact hw b (h.xo b hb).2

theorem Core.newBox (h : Core P N G w0 S a w F oss X) {c : Array Value} {e : TypeId} {cs : List AV} (ho : w'.os = w.os) (ht : w'.tape = w.tape) (hp : w'.output = w.output)
    (hs : w'.heap.size = w.heap.size + 1) (hh : w'.heap[w.heap.size]? = some (.cells c e (0, 0))) (hw : ∀ b, b < w.heap.size → w'.heap[b]? = w.heap[b]?)
    (hl : RepL P w F cs c.toList X) {d : Nat} (hd : OkD N d) :
    StRel P N G w0 (upd d (.box e cs) S) (a.put (some d) (.pointer (some ⟨w.heap.size, 0, none⟩))) w' := by
  refine (h.newBlock ho ht hp hs hh hw).putX hd (.cell _ _ _ (.box _ e c cs X hh (hl.mono (fun _ h => h) (fun b hb => ?_))))
  rcases hb with hb | hb
  · exact hw b (h.fw b hb)
  · exact hw b (h.xo b hb).2

/-! ## operands one after the other -/

def tks (cf : Cfg) : St → List Operand → Option (List AV × List Upd)
  | _, [] => some ([], [])
  | S, x :: xs => match tk cf S x with
    | some (c, U) => match tks cf (app U S) xs with
      | some (cs, V) => some (c :: cs, U ++ V)
      | none => none
    | none => none

theorem Core.tks {cf : Cfg} : ∀ {xs : List Operand} {S : St} {F : Nat → Prop} {oss : Nat → List Nat} {X : List Nat} (_ : Core P N G w0 S a w F oss X) {cs : List AV} {U : List Upd},
    tks cf S xs = some (cs, U) → ∃ F' oss' oc, Core P N G w0 (app U S) a w F' oss' (oc ++ X) ∧ RepL P w F' cs (xs.map a.eval) oc ∧ cs.length = xs.length ∧ (∀ b, F b → F' b)
  | [], S, F, oss, X, h, cs, U, hc => by
    simp [Abs.tks] at hc; obtain ⟨rfl, rfl⟩ := hc
    exact ⟨F, oss, [], h, .nil _, rfl, fun _ h => h⟩
  | x :: xs, S, F, oss, X, h, cs, U, hc => by
    rw [Abs.tks] at hc
    split at hc
    · rename_i c U1 h1
      split at hc
      · rename_i cs' V h2
        simp only [Option.some.injEq, Prod.mk.injEq] at hc; obtain ⟨rfl, rfl⟩ := hc
        obtain ⟨F1, oss1, oc1, k1, k2, k3⟩ := h.tk h1
        obtain ⟨F2, oss2, oc2, m1, m2, m3, m4⟩ := Core.tks k1 h2
        refine ⟨F2, oss2, oc1 ++ oc2, ?_, ?_, by simp [m3], fun b hb => m4 b (k3 b hb)⟩
        · rw [app_append]
          refine m1.sub (fun b hb => ?_) ?_
          · simp only [List.mem_append] at hb ⊢
            rcases hb with (hb | hb) | hb
            · exact .inr (.inl hb)
            · exact .inl hb
            · exact .inr (.inr hb)
          · have := m1.xn
            simp only [List.nodup_append, List.mem_append] at this ⊢
            obtain ⟨n1, ⟨n2, n3, n4⟩, n5⟩ := this
            refine ⟨⟨n2, n1, fun x hx y hy e => n5 y hy x (.inl hx) e.symm⟩, n3, fun x hx y hy => ?_⟩
            rcases hx with hx | hx
            · exact n4 x hx y hy
            · exact n5 x hx y (.inr hy)
        · exact .cons _ _ _ _ _ _ (k2.mono m4 (fun _ _ => rfl)) m2
      · simp at hc
    · simp at hc

/-! ## a slice literal (elements of one cell) -/

def idxOk : Nat → List (Nat × Operand) → Bool
  | _, [] => true
  | k, (i, _) :: ps => i == k && idxOk (k + 1) ps

def bsS (P : Program) (cf : Cfg) (S : St) (d : Nat) (T : TypeId) (len : Nat) (parts : List (Nat × Operand)) : Option (Prop × List Nat × List Upd) :=
  match elemT P T with
  | some e => match infoT P e with
    | some (1, _, _) => if idxOk 0 parts && (parts.length == len) then
        match tks cf S (parts.map (·.2)) with
        | some (cs, U) => some (len ≤ 16777216, parts.flatMap (fun x => slotsOf x.2), U ++ [.w d (.own e len cs)])
        | none => none
      else none
    | _ => none
  | none => none

theorem fill_all (vs : List Value) (h1 : ∀ v ∈ vs, v.oneCell' = true) : ∀ (k : Nat) (cells : Array Value), k + vs.length ≤ cells.size →
    Instr.fill (fun i => some (i * 1, 1)) cells ((vs.zipIdx k).map fun x => (x.2, x.1)) = some (cells.toList.take k ++ vs ++ cells.toList.drop (k + vs.length)).toArray := by
  induction vs with
  | nil => intro k cells h; simp [Instr.fill]
  | cons v vs ih =>
    intro k cells h
    have hv : v.cells = #[v] := by
      have := h1 v (by simp)
      cases v <;> simp [Value.oneCell', Value.cells] at *
    simp only [List.length_cons] at h
    have hk : k < cells.size := by omega
    simp only [List.zipIdx_cons, List.map_cons, Instr.fill, Nat.mul_one, hv]
    have hs : (#[v] : Array Value).zipIdx.foldl (fun cs (x : Value × Nat) => cs.setIfInBounds (k + x.2) x.1) cells = cells.setIfInBounds k v := by simp [Array.zipIdx]
    simp only [List.size_toArray, List.length_cons, List.length_nil, Nat.zero_add]
    rw [if_neg (by simp; omega)]
    have := ih (fun u hu => h1 u (by simp [hu])) (k + 1) (cells.setIfInBounds k v) (by simp; omega)
    simp only [Nat.mul_one] at this
    erw [hs, this]
    congr 2
    simp only [Array.toList_setIfInBounds, List.length_cons]
    have e1 : (cells.toList.set k v).take (k + 1) = cells.toList.take k ++ [v] := by
      rw [List.take_add_one, List.take_set_of_le (Nat.le_refl k)]
      simp [hk]
    rw [e1, List.drop_set_of_lt (by omega)]
    simp [Nat.add_assoc, Nat.add_comm 1]

theorem zip_of_idxOk (a : Act) : ∀ (parts : List (Nat × Operand)) (k : Nat), idxOk k parts = true →
    (parts.map fun x => (x.1, a.eval x.2)) = (((parts.map (·.2)).map a.eval).zipIdx k).map fun x => (x.2, x.1)
  | [], k, _ => rfl
  | (i, x) :: ps, k, h => by
    simp [idxOk] at h
    simp [h.1, zip_of_idxOk a ps (k + 1) h.2]

theorem bs_sound (h : Core P N G w0 S a w F oss []) {cf : Cfg} {T : TypeId} {len : Nat} {parts : Array (Nat × Operand)} {d : Nat} (hd : OkD N d) {p : Prop} {rd : List Nat} {U : List Upd}
    (hm : bsS P cf S d T len parts.toList = some (p, rd, U)) (hp : p) :
    ∃ v w', (Instr.buildSlice T len (parts.map fun (i, x) => (i, a.eval x))).run P w = .ok v w' ∧ StRel P N G w0 (app U S) (a.put (some d) v) w' := by
  unfold bsS at hm
  split at hm
  · rename_i e hT
    have hu := elemT_some hT
    split at hm
    · rename_i b zs hI
      obtain ⟨i, z, i1, i2, i3, i4, i5, i6, i7⟩ := infoT_some hI
      split at hm
      · rename_i hidx
        simp only [Bool.and_eq_true, beq_iff_eq] at hidx
        split at hm
        · rename_i cs U1 hk
          simp only [Option.some.injEq, Prod.mk.injEq] at hm; obtain ⟨rfl, rfl, rfl⟩ := hm
          obtain ⟨F', oss', oc, k1, k2, k3, k4⟩ := h.tks hk
          simp only [List.append_nil] at k1
          rw [app_append]
          have hlen : cs.length = len := by rw [k3]; simpa using hidx.2
          have key : ∀ c : Array Value, c.toList = (parts.toList.map (·.2)).map a.eval → StRel P N G w0 (app [.w d (.own e len cs)] (app U1 S)) (a.put (some d) (.slice (some ⟨w.heap.size, 0, none⟩) len len)) (w.alloc (.cells c e)) := by
            intro c hc
            have hsz : c.size = len := by rw [← Array.length_toList, hc]; simpa using hidx.2
            exact k1.newOwn (w' := w.alloc (.cells c e)) (c := c) (e := e) (cs := cs) (n := len) (cap := len) rfl rfl rfl (by simp) (heap_alloc_new w _) (fun b hb => Below.heap_alloc w _ b hb) (Nat.le_refl _) (by rw [i7, hsz]; omega) (by rw [hc]; exact k2) hd
          have hpl : (parts.map fun (i, x) => (i, a.eval x)).toList = ((((parts.toList.map (·.2)).map a.eval).zipIdx 0).map fun x => (x.2, x.1)) := by
            rw [Array.toList_map]; exact zip_of_idxOk a _ 0 hidx.1
          by_cases h0 : len = 0
          · subst h0
            have hnil : parts.toList = [] := List.eq_nil_of_length_eq_zero (by simpa using hidx.2)
            refine ⟨_, _, ?_, key #[] (by simp [hnil])⟩
            simp [Instr.buildSlice, run_underlying hu, run_sizeOf i1, newRow, hnil, Instr.fill]
            have : parts = #[] := by apply Array.ext'; simpa using hnil
            subst this; simp [Array.range_zero']
          · refine ⟨_, _, Go.run_buildSlice w T e len _ (((parts.toList.map (·.2)).map a.eval).toArray) i z hu i1 i2 (by rw [i3]; omega) (by rw [i3]; omega) ?_, key _ rfl⟩
            rw [hpl, i3]
            rw [fill_all _ _ 0 _ (by simp; simpa using Nat.le_of_eq hidx.2)]
            · have e1 : ((parts.toList.map (·.2)).map a.eval).length = len := by simpa using hidx.2
              congr 2
              rw [List.take_zero, List.nil_append, Nat.zero_add, e1, List.drop_of_length_le (by simp), List.append_nil]
            · have := k2.oneCell
              rw [k3] at this
              intro v hv
              exact this v (by rw [List.take_of_length_le (by simp)]; exact hv)
        · simp at hm
      · simp at hm
    · simp at hm
  · simp at hm
end
end Go.Abs
