/- Abstract values (slices by value, with ownership), how they stand for the model's values in a world, and what keeps that. It holds over any program. -/
import Derived.WalkKit
import Derived.Maps.RangeRun
set_option linter.unusedVariables false
set_option linter.unusedSimpArgs false
namespace Go.Abs
open Go.RowKit (Below)

/-- An abstract value. 'any': nothing is known. 'val v': just this value of one cell. 'sl n cs': a slice of n elements whose cells nobody writes any more. 'own e n cs': a slice of n elements (element type e) whose block is ours alone. 'box e cs': a pointer to a block of ours. 'bor s p': the same value as the one that lies at path p of slot s. 'ptr s p off': the address of cell off of the block at path p of slot s. 'fptr cs': an address of cells that nobody writes. 'mp c': a map of ours, from keys of three whole numbers to whole numbers: c k is what a look-up of k gives. 'fmp c': such a map that nobody writes. 'it l es': an iterator of ours over a map that nobody writes: l was given last, es (in whatever order) are left. 'slp s p off n': a slice of n elements that begins at cell off of the row at path p of slot s. -/
abbrev Key := Int × Int × Int

inductive AV where
  | any
  | val (v : Value)
  | sl (n : Nat) (cs : List AV)
  | own (e : TypeId) (n : Nat) (cs : List AV)
  | box (e : TypeId) (cs : List AV)
  | agg (cs : List AV)
  | tup (cs : List AV)
  | fn (f : FuncId) (cs : List AV)
  | bor (s : Nat) (p : List Nat)
  | ptr (s : Nat) (p : List Nat) (off : Nat)
  | fptr (cs : List AV)
  | mp (c : Key → Option Int)
  | fmp (c : Key → Option Int)
  | it (l : Option (Key × Int)) (es : List (Key × Int))
  | slp (s : Nat) (p : List Nat) (off n : Nat)
  deriving Inhabited

abbrev AV.int (n : Int) : AV := .val (.int .i64 n)
abbrev AV.bool (b : Bool) : AV := .val (.bool b)
/-- A slice of integers that is read alone; one of ours. -/
def AV.ints (xs : List Int) : AV := .sl xs.length (xs.map AV.int)
def AV.oints (e : TypeId) (xs : List Int) : AV := .own e xs.length (xs.map AV.int)

abbrev St := Nat → AV

mutual
/-- Frozen: what was ours is read alone from now on. -/
def frz : AV → AV
  | .own _ n cs => .sl n (frzL cs)
  | .box _ cs => .fptr (frzL cs)
  | .agg cs => .agg (frzL cs)
  | .tup cs => .tup (frzL cs)
  | .fn f cs => .fn f (frzL cs)
  | .mp c => .fmp c
  | .it _ _ => .any
  | c => c
def frzL : List AV → List AV
  | [] => []
  | c :: cs => frz c :: frzL cs
end

theorem frzL_eq : ∀ cs, frzL cs = cs.map frz
  | [] => rfl
  | c :: cs => by rw [frzL, frzL_eq cs, List.map_cons]

/-- A key's value; what an entry holds. -/
def keyV (k : Key) : Value := .agg #[.int .i64 k.1, .int .i64 k.2.1, .int .i64 k.2.2]
def entV (p : Key × Int) : Value × Value := (keyV p.1, .int .i64 p.2)
theorem keyV_inj {a b : Key} (h : keyV a = keyV b) : a = b := by
  obtain ⟨a1, a2, a3⟩ := a
  obtain ⟨b1, b2, b3⟩ := b
  simp [keyV] at h
  obtain ⟨rfl, rfl, rfl⟩ := h
  rfl
/-- What a map's block holds, and what a look-up gives. -/
structure MapOk (c : Key → Option Int) (es : List MapEntry) (clock : Nat) : Prop where
  ent : ∀ e ∈ es, ∃ k v, e.key = keyV k ∧ e.val = .int .i64 v ∧ c k = some v
  out : ∀ k, (∀ e ∈ es, e.key ≠ keyV k) → c k = none
  nd : es.Pairwise (fun a b => a.key ≠ b.key)
  born : (es.map (·.born)).Nodup
  lt : ∀ e ∈ es, e.born < clock

mutual
/-- What a cell, or a value of one cell, holds: AV, value, the blocks that are ours through it. -/
inductive RepC (P : Program) (w : World) (F : Nat → Prop) : AV → Value → List Nat → Prop
  | any (v : Value) (h : v.oneCell' = true) : RepC P w F .any v []
  | val (v : Value) (h : v.oneCell' = true) : RepC P w F (.val v) v []
  | sl0 (base : Option Addr) (cap : Nat) : RepC P w F (.sl 0 []) (.slice base 0 cap) []
  | sl (b off n cap : Nat) (c : Array Value) (e : TypeId) (fr : Nat × Nat) (cs : List AV) (hF : F b) (hb : w.heap[b]? = some (.cells c e fr))
      (hl : RepL P w F cs (c.toList.drop off) []) (hn : n ≤ cap) : RepC P w F (.sl n cs) (.slice (some ⟨b, off, none⟩) n cap) []
  | own0 (e : TypeId) : RepC P w F (.own e 0 []) (.slice none 0 0) []
  | own (b : Nat) (e : TypeId) (n cap : Nat) (c : Array Value) (cs : List AV) (os : List Nat) (hb : w.heap[b]? = some (.cells c e (0, 0))) (hn : n ≤ cap)
      (hc : cap * P.cellsOf e ≤ c.size) (hl : RepL P w F cs c.toList os) : RepC P w F (.own e n cs) (.slice (some ⟨b, 0, none⟩) n cap) (b :: os)
  | box (b : Nat) (e : TypeId) (c : Array Value) (cs : List AV) (os : List Nat) (hb : w.heap[b]? = some (.cells c e (0, 0)))
      (hl : RepL P w F cs c.toList os) : RepC P w F (.box e cs) (.pointer (some ⟨b, 0, none⟩)) (b :: os)
  | fptr (b off : Nat) (c : Array Value) (e : TypeId) (fr : Nat × Nat) (cs : List AV) (hF : F b) (hb : w.heap[b]? = some (.cells c e fr))
      (hl : RepL P w F cs (c.toList.drop off) []) : RepC P w F (.fptr cs) (.pointer (some ⟨b, off, none⟩)) []
  | mp (b : Nat) (es : Array MapEntry) (clock : Nat) (c : Key → Option Int) (hb : w.heap[b]? = some (.map es clock)) (hm : MapOk c es.toList clock) : RepC P w F (.mp c) (.map (some b)) [b]
  | fmp (b : Nat) (es : Array MapEntry) (clock : Nat) (c : Key → Option Int) (hF : F b) (hb : w.heap[b]? = some (.map es clock)) (hm : MapOk c es.toList clock) : RepC P w F (.fmp c) (.map (some b)) []
  | it (r b : Nat) (seen : Array Nat) (es : Array MapEntry) (clock : Nat) (c : Key → Option Int) (l : Option (Key × Int)) (rem : List (Key × Int)) (hr : w.heap[r]? = some (.mapIter (some b) clock seen clock)) (hF : F b)
      (hb : w.heap[b]? = some (.map es clock)) (hm : MapOk c es.toList clock) (hl : ∀ p, l = some p → ∃ e ∈ es.toList, (∃ s1 : Array Nat, seen = s1.push e.born) ∧ (e.key, e.val) = entV p)
      (hrem : ((leftOf es seen).toList.map fun e => (e.key, e.val)).Perm (rem.map entV)) : RepC P w F (.it l rem) (.pointer (some ⟨r, 0, none⟩)) [r]
/-- The first cells of a row. -/
inductive RepL (P : Program) (w : World) (F : Nat → Prop) : List AV → List Value → List Nat → Prop
  | nil (vs : List Value) : RepL P w F [] vs []
  | cons (c : AV) (v : Value) (os : List Nat) (cs : List AV) (vs : List Value) (os' : List Nat) (h : RepC P w F c v os) (t : RepL P w F cs vs os') :
      RepL P w F (c :: cs) (v :: vs) (os ++ os')
end

section
variable {P : Program} {w w' : World} {F F' : Nat → Prop}

mutual
theorem RepC.mono (hF : ∀ b, F b → F' b) {c : AV} {v : Value} {os : List Nat} (h : RepC P w F c v os)
    (hw : ∀ b, F b ∨ b ∈ os → w'.heap[b]? = w.heap[b]?) : RepC P w' F' c v os := by
  cases h with
  | any _ h => exact .any _ h
  | val _ h => exact .val _ h
  | sl0 base cap => exact .sl0 base cap
  | sl b off n cap c e fr cs hb hh hl hn => exact .sl b off n cap c e fr cs (hF b hb) ((hw b (.inl hb)).trans hh) (RepL.mono hF hl hw) hn
  | own0 e => exact .own0 e
  | own b e n cap c cs os hh hn hc hl => exact .own b e n cap c cs os ((hw b (.inr (by simp))).trans hh) hn hc (RepL.mono hF hl (fun x hx => hw x (hx.imp id (fun h => by simp [h]))))
  | box b e c cs os hh hl => exact .box b e c cs os ((hw b (.inr (by simp))).trans hh) (RepL.mono hF hl (fun x hx => hw x (hx.imp id (fun h => by simp [h]))))
  | fptr b off c e fr cs hb hh hl => exact .fptr b off c e fr cs (hF b hb) ((hw b (.inl hb)).trans hh) (RepL.mono hF hl hw)
  | mp b es clock c hb hm => exact .mp b es clock c ((hw b (.inr (by simp))).trans hb) hm
  | fmp b es clock c hb hh hm => exact .fmp b es clock c (hF b hb) ((hw b (.inl hb)).trans hh) hm
  | it r b seen es clock c l rem hr hb hh hm hl hrem => exact .it r b seen es clock c l rem ((hw r (.inr (by simp))).trans hr) (hF b hb) ((hw b (.inl hb)).trans hh) hm hl hrem
theorem RepL.mono (hF : ∀ b, F b → F' b) {cs : List AV} {vs : List Value} {os : List Nat} (h : RepL P w F cs vs os)
    (hw : ∀ b, F b ∨ b ∈ os → w'.heap[b]? = w.heap[b]?) : RepL P w' F' cs vs os := by
  cases h with
  | nil vs => exact .nil vs
  | cons c v os cs vs os' h t => exact .cons c v os cs vs os' (RepC.mono hF h (fun x hx => hw x (hx.imp id (fun h => by simp [h])))) (RepL.mono hF t (fun x hx => hw x (hx.imp id (fun h => by simp [h]))))
end

mutual
/-- What was ours is frozen: its blocks go over to those that nobody writes. -/
theorem RepC.frz (hF : ∀ b, F b → F' b) {c : AV} {v : Value} {os : List Nat} (h : RepC P w F c v os) (ho : ∀ b ∈ os, F' b) : RepC P w F' (frz c) v [] := by
  cases h with
  | any _ h => exact .any _ h
  | val _ h => exact .val _ h
  | sl0 base cap => exact .sl0 base cap
  | sl b off n cap c e fr cs hb hh hl hn => exact .sl b off n cap c e fr cs (hF b hb) hh (RepL.mono hF hl (fun _ _ => rfl)) hn
  | own0 e => exact .sl0 none 0
  | own b e n cap c cs os hh hn hc hl => exact .sl b 0 n cap c e _ _ (ho b (by simp)) hh (by simpa using RepL.frz hF hl (fun x hx => ho x (by simp [hx]))) hn
  | box b e c cs os hh hl => exact .fptr b 0 c e _ _ (ho b (by simp)) hh (by simpa using RepL.frz hF hl (fun x hx => ho x (by simp [hx])))
  | fptr b off c e fr cs hb hh hl => exact .fptr b off c e fr cs (hF b hb) hh (RepL.mono hF hl (fun _ _ => rfl))
  | mp b es clock c hb hm => exact .fmp b es clock c (ho b (by simp)) hb hm
  | fmp b es clock c hb hh hm => exact .fmp b es clock c (hF b hb) hh hm
  | it r b seen es clock c l rem hr hb hh hm hl hrem => exact .any _ rfl
theorem RepL.frz (hF : ∀ b, F b → F' b) {cs : List AV} {vs : List Value} {os : List Nat} (h : RepL P w F cs vs os) (ho : ∀ b ∈ os, F' b) : RepL P w F' (frzL cs) vs [] := by
  cases h with
  | nil vs => exact .nil vs
  | cons c v os cs vs os' h t => exact .cons _ v [] _ vs [] (RepC.frz hF h (fun x hx => ho x (by simp [hx]))) (RepL.frz hF t (fun x hx => ho x (by simp [hx])))
end

theorem RepC.oneCell {c : AV} {v : Value} {os : List Nat} (h : RepC P w F c v os) : v.oneCell' = true := by
  cases h <;> first | assumption | rfl

theorem RepL.length_le {cs : List AV} {vs : List Value} {os : List Nat} (h : RepL P w F cs vs os) : cs.length ≤ vs.length := by
  induction cs generalizing vs os with
  | nil => exact Nat.zero_le _
  | cons c cs ih => cases h with | cons c v os cs vs os' h t => simpa using ih t

/-- One cell of a row; and the row with another cell there. -/
theorem RepL.get {cs : List AV} {vs : List Value} {os : List Nat} (h : RepL P w F cs vs os) {i : Nat} {c : AV} (hi : cs[i]? = some c) :
    ∃ v o1 ou o2, vs[i]? = some v ∧ RepC P w F c v ou ∧ os = o1 ++ (ou ++ o2) ∧
      (∀ (w' : World) (F' : Nat → Prop) c' ou' v', (∀ b, F b → F' b) → (∀ x, F x ∨ x ∈ o1 ∨ x ∈ o2 → w'.heap[x]? = w.heap[x]?) → RepC P w' F' c' v' ou' →
        RepL P w' F' (cs.set i c') (vs.set i v') (o1 ++ (ou' ++ o2))) := by
  induction cs generalizing vs os i with
  | nil => simp at hi
  | cons d cs ih =>
    cases h with
    | cons d v os cs vs os' hd t =>
      cases i with
      | zero =>
        simp at hi; subst hi
        exact ⟨v, [], os, os', rfl, hd, by simp, fun w' F' c' ou' v' hF hw h' => by simpa using RepL.cons _ _ _ _ _ _ h' (t.mono hF (fun x hx => hw x (by rcases hx with h | h <;> simp [h])))⟩
      | succ i =>
        simp at hi
        obtain ⟨u, o1, ou, o2, e1, e2, e3, e4⟩ := ih t hi
        refine ⟨u, os ++ o1, ou, o2, by simpa using e1, e2, by simp [e3], fun w' F' c' ou' v' hF hw h' => ?_⟩
        have := RepL.cons _ _ _ _ _ _ (hd.mono hF (fun x hx => hw x (by rcases hx with h | h <;> simp [h]))) (e4 w' F' c' ou' v' hF (fun x hx => hw x (by rcases hx with h | h | h <;> simp [h])) h')
        simpa using this

theorem RepL.append {cs ds : List AV} {vs us : List Value} {os os' : List Nat} (h : RepL P w F cs vs os) (hl : cs.length = vs.length) (k : RepL P w F ds us os') :
    RepL P w F (cs ++ ds) (vs ++ us) (os ++ os') := by
  induction cs generalizing vs os with
  | nil =>
    cases h with
    | nil vs => have : vs = [] := List.eq_nil_of_length_eq_zero hl.symm; subst this; simpa using k
  | cons c cs ih =>
    cases h with
    | cons c v os cs vs os' h t => have := RepL.cons _ _ _ _ _ _ h (ih t (by simpa using hl)); simpa using this

theorem RepL.take {cs : List AV} {vs : List Value} {os : List Nat} (h : RepL P w F cs vs os) : RepL P w F cs (vs.take cs.length) os := by
  induction cs generalizing vs os with
  | nil => cases h; exact .nil _
  | cons c cs ih => cases h with | cons c v os cs vs os' h t => simpa using RepL.cons _ _ _ _ _ _ h (ih t)

theorem RepL.more {cs : List AV} {vs : List Value} {os : List Nat} (h : RepL P w F cs vs os) (us : List Value) : RepL P w F cs (vs ++ us) os := by
  induction cs generalizing vs os with
  | nil => cases h; exact .nil _
  | cons c cs ih => cases h with | cons c v os cs vs os' h t => exact RepL.cons _ _ _ _ _ _ h (ih t)

theorem RepL.of_take {cs : List AV} {vs : List Value} {os : List Nat} {k : Nat} (h : RepL P w F cs (vs.take k) os) : RepL P w F cs vs os := by
  have := h.more (vs.drop k); rwa [List.take_append_drop] at this

/-- A part of a row of which nothing is ours. -/
theorem RepL.drop {cs : List AV} {vs : List Value} (h : RepL P w F cs vs []) (k : Nat) : RepL P w F (cs.drop k) (vs.drop k) [] := by
  induction cs generalizing vs k with
  | nil => simp; exact .nil _
  | cons c cs ih =>
    cases k with
    | zero => simpa using h
    | succ k =>
      generalize ho : ([] : List Nat) = os0 at h
      cases h with
      | cons c v os cs vs os' h t =>
        obtain ⟨rfl, rfl⟩ := List.append_eq_nil_iff.1 ho.symm
        simpa using ih t k

theorem RepL.pref {cs : List AV} {vs : List Value} (h : RepL P w F cs vs []) (k : Nat) : RepL P w F (cs.take k) vs [] := by
  induction cs generalizing vs k with
  | nil => simpa using h
  | cons c cs ih =>
    cases k with
    | zero => exact .nil _
    | succ k =>
      generalize ho : ([] : List Nat) = os0 at h
      cases h with
      | cons c v os cs vs os' h t =>
        obtain ⟨rfl, rfl⟩ := List.append_eq_nil_iff.1 ho.symm
        exact RepL.cons _ _ [] _ _ [] h (ih t k)

theorem RepL.get0 {cs : List AV} {vs : List Value} (h : RepL P w F cs vs []) {i : Nat} {c : AV} (hi : cs[i]? = some c) :
    ∃ v, vs[i]? = some v ∧ RepC P w F c v [] := by
  obtain ⟨v, o1, ou, o2, e1, e2, e3, _⟩ := h.get hi
  obtain ⟨rfl, e4⟩ := List.append_eq_nil_iff.1 e3.symm
  obtain ⟨rfl, rfl⟩ := List.append_eq_nil_iff.1 e4
  exact ⟨v, e1, e2⟩

theorem RepL.oneCell {cs : List AV} {vs : List Value} {os : List Nat} (h : RepL P w F cs vs os) : ∀ v ∈ vs.take cs.length, v.oneCell' = true := by
  induction cs generalizing vs os with
  | nil => simp
  | cons c cs ih =>
    cases h with
    | cons c v os cs vs os' h t =>
      intro u hu
      simp at hu
      rcases hu with rfl | hu
      · exact h.oneCell
      · exact ih t u hu

end
end Go.Abs
