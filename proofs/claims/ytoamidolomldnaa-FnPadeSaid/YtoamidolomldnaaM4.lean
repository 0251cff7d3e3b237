/- Texts of the own layer and contracts, part 4: AbsQ. -/
import Derived.OpenShut
import Derived.ReadAgain
import Derived.ChangeBears
import Derived.Lib.SmallJoins
import Derived.Test.YtoamidolomldnaaM3
/- What comes in as data, as the walks see it; what goes out reads as it did. It holds over any program. -/
set_option linter.unusedVariables false
set_option linter.unusedSimpArgs false
namespace Go.Abs
open Go.RowKit Go.WideShapes Go.ChangeShapes Go.Deep
section
variable {H : Type} {enc : TypeId × Value → H} {P : Program} {w : World} {sp : Nat → Bool} {held : Bool} {base : Nat}

/-- A slice's elements, one after the other. -/
theorem rows_rep {F : Nat → Prop} {c : Array Value} {e0 : TypeId} {fr : Nat × Nat} {b off s : Nat} (hb : w.heap[b]? = some (.cells c e0 fr)) {α : Type} {f : α → List AV} (hf : ∀ a, (f a).length = s) :
    ∀ (asx : List α) (i0 : Nat), (∀ (i : Nat) a, asx[i]? = some a → ∃ vs, vs.length = s ∧ (∀ j, j < s → c[off + (i0 + i) * s + j]? = vs[j]?) ∧ RepL P w F (f a) vs []) → RepL P w F (asx.flatMap f) (c.toList.drop (off + i0 * s)) []
  | [], i0, _ => .nil _
  | a :: asx, i0, h => by
    obtain ⟨vs, h1, h2, h3⟩ := h 0 a rfl
    have ih := rows_rep hb hf asx (i0 + 1) (fun i a hi => by
      have := h (i + 1) a (by simpa using hi)
      rw [show i0 + (i + 1) = i0 + 1 + i by omega] at this
      exact this)
    rw [List.flatMap_cons]
    refine RepL.of_get (fun j cc hj => ?_)
    by_cases hjs : j < s
    · rw [List.getElem?_append_left (by rw [hf]; exact hjs)] at hj
      obtain ⟨v, hv, hr⟩ := h3.get0 hj
      refine ⟨v, ?_, hr⟩
      rw [List.getElem?_drop, Array.getElem?_toList, ← hv, ← h2 j hjs]
      simp
    · rw [List.getElem?_append_right (by rw [hf]; omega), hf] at hj
      obtain ⟨v, hv, hr⟩ := ih.get0 hj
      refine ⟨v, ?_, hr⟩
      rw [List.getElem?_drop] at hv ⊢
      rw [← hv]
      congr 1
      rw [Nat.add_mul]; omega

/-- A slice that comes in. -/
theorem open_sl {t e : TypeId} (ht : P.underlying t = some (.slice e)) {s : Nat} (hs : P.cellsOf e = s) (hpos : 0 < s) {α : Type} {f : α → List AV} (hf : ∀ a, (f a).length = s) {Good : α → Prop}
    (hel : ∀ n cs y, DataW.trod enc P w base sp held n e cs = some y → ∃ a, Good a ∧ RepL P w (fun b => b < w.heap.size) (f a) cs [])
    {n : Nat} {cs : List Value} {x : DataW H × List MemPlace} (h : DataW.trod enc P w base sp held n t cs = some x) :
    ∃ asx : List α, (∀ a ∈ asx, Good a) ∧ asx.length ≤ 9223372036854775807 ∧ RepL P w (fun b => b < w.heap.size) [.sl asx.length (asx.flatMap f)] cs [] ∧ cs.length = 1 := by
  rcases DataW.trod_slice ht h with ⟨rfl, _⟩ | ⟨a, len, cap, elems, rest, m, _, rfl, _, hb, hl, hm, hlen, hel2, _, _⟩
  · exact ⟨[], by simp, by simp, .cons _ _ [] _ _ [] (.sl0 none 0) (.nil _), rfl⟩
  · have hmax : maxLen ≤ 9223372036854775807 := by decide
    -- each element
    have each : ∀ i, i < len → ∃ (vs : List Value) (q : α), w.cells? base (a.add (i * s)) s = some vs ∧ Good q ∧ RepL P w (fun b => b < w.heap.size) (f q) vs [] := by
      intro i hi
      have h1 := hel2 i hi
      rw [hs] at h1
      have h2 : elems[i]? = some (elems[i]'(by omega)) := List.getElem?_eq_getElem _
      rw [h2, Option.bind_eq_some_iff] at h1
      obtain ⟨vs, h3, h4⟩ := h1
      obtain ⟨q, h5, h6⟩ := hel _ _ _ h4
      exact ⟨vs, q, h3, h5, h6⟩
    have mk : ∀ k, k ≤ len → ∃ asx : List α, asx.length = k ∧ (∀ a ∈ asx, Good a) ∧ ∀ i q, asx[i]? = some q → ∃ vs, w.cells? base (a.add (i * s)) s = some vs ∧ RepL P w (fun b => b < w.heap.size) (f q) vs [] := by
      intro k
      induction k with
      | zero => intro _; exact ⟨[], rfl, by simp, by simp⟩
      | succ k ih =>
        intro hk
        obtain ⟨asx, k1, k2, k3⟩ := ih (by omega)
        obtain ⟨vs, q, h1, h2, h3⟩ := each k (by omega)
        refine ⟨asx ++ [q], by simp [k1], ?_, ?_⟩
        · intro z hz
          rcases List.mem_append.1 hz with hz | hz
          · exact k2 z hz
          · simp at hz; subst hz; exact h2
        · intro i z hz
          by_cases hi : i < asx.length
          · rw [List.getElem?_append_left hi] at hz; exact k3 i z hz
          · rw [List.getElem?_append_right (by omega)] at hz
            have hi0 : i - asx.length = 0 := by
              have := (List.getElem?_eq_some_iff.1 hz).1
              simp at this; omega
            rw [hi0] at hz
            simp at hz; subst hz
            have : i = k := by omega
            subst this
            exact ⟨vs, h1, h3⟩
    obtain ⟨asx, k1, k2, k3⟩ := mk len (Nat.le_refl _)
    refine ⟨asx, k2, by omega, ?_, rfl⟩
    rw [k1]
    by_cases h0 : len = 0
    · subst h0
      have : asx = [] := List.eq_nil_of_length_eq_zero k1
      subst this
      exact .cons _ _ [] _ _ [] (.sl0 _ _) (.nil _)
    · -- the block
      obtain ⟨vs, q, h1, _, _⟩ := each 0 (by omega)
      obtain ⟨g1, g2, g3⟩ := World.cells?_some h1
      have c0 := g3 0 hpos
      have hv0 : ∃ v, vs[0]? = some v := ⟨vs[0]'(by omega), List.getElem?_eq_getElem _⟩
      obtain ⟨v0, hv0⟩ := hv0
      rw [hv0] at c0
      have ea : (a.add (0 * s)).add 0 = a := by simp [Addr.add]
      rw [ea] at c0
      obtain ⟨b, off, spot⟩ := a
      unfold World.cell? at c0
      simp only at c0
      cases hbk : w.heap[b]? with
      | none => simp [hbk] at c0
      | some o =>
        cases o with
        | cells c et fr =>
          simp only [hbk] at c0
          cases spot with
          | some z => simp at c0
          | none =>
            refine .cons _ _ [] _ _ [] (.sl b off len cap c et fr _ ?_ hbk ?_ hl) (.nil _)
            · rcases Nat.lt_or_ge b w.heap.size with hlt | hge
              · exact hlt
              · simp [Array.getElem?_eq_none hge] at hbk
            · have := rows_rep (P := P) (F := fun b => b < w.heap.size) (off := off) hbk hf asx 0 (fun i q hi => by
                obtain ⟨vs, m1, m2⟩ := k3 i q hi
                obtain ⟨p1, p2, p3⟩ := World.cells?_some m1
                refine ⟨vs, p2, fun j hj => ?_, m2⟩
                rw [← p3 j hj]
                rw [Nat.zero_add]
                have e1 : ((⟨b, off, none⟩ : Addr).add (i * s)).add j = ⟨b, off + i * s + j, none⟩ := by
                  unfold Addr.add; split <;> split <;> simp_all <;> omega
                rw [e1, cell_of hbk])
              simpa using this
        | _ => simp [hbk] at c0

/-- A whole number that comes in. -/
theorem open_i {t : TypeId} {k : IntKind} (ht : P.underlying t = some (.int k)) {F : Nat → Prop} {n : Nat} {cs : List Value} {y : DataW H × List MemPlace} (h : DataW.trod enc P w base sp held n t cs = some y) :
    ∃ z : Int, (Lit.int k z).wf = true ∧ RepL P w F [.val (.int k z)] cs [] ∧ cs.length = 1 := by
  obtain ⟨z, rfl, _, hw⟩ := DataW.trod_int ht h
  exact ⟨z, hw, .cons _ _ [] _ _ [] (.val _ rfl) (.nil _), rfl⟩

/-- A struct of two cells that comes in. -/
theorem open_st2 {t : TypeId} {f0 f1 : Field} (ht : P.underlying t = some (.struct #[f0, f1])) (hone : oneCellFields P #[f0, f1] = true) (hC : P.cellsOf t = 2) {n : Nat} {cs : List Value} {y : DataW H × List MemPlace} (h : DataW.trod enc P w base sp held n t cs = some y) :
    ∃ c0 c1 y0 y1 m, cs = [c0, c1] ∧ DataW.trod enc P w base sp held m f0.type [c0] = some y0 ∧ DataW.trod enc P w base sp held m f1.type [c1] = some y1 := by
  obtain ⟨y0, y1, m, hx, hl, h0, h1⟩ := trod_struct2 ht h
  rw [hC] at hl
  match cs, hl with
  | [c0, c1], _ =>
    obtain ⟨o0, k0⟩ := hone_of hone 0 f0 rfl
    obtain ⟨o1, k1⟩ := hone_of hone 1 f1 rfl
    exact ⟨c0, c1, y0, y1, m, rfl, by simpa [o0, k0] using h0, by simpa [o1, k1] using h1⟩

theorem RepL.two {F : Nat → Prop} {a b : AV} {u v : Value} (h : RepL P w F [a] [u] []) (k : RepL P w F [b] [v] []) : RepL P w F [a, b] [u, v] [] := by
  obtain ⟨u', h1, h2⟩ := h.get0 (i := 0) rfl
  obtain ⟨v', k1, k2⟩ := k.get0 (i := 0) rfl
  simp at h1 k1; subst h1; subst k1
  exact .cons _ _ [] _ _ [] h2 (.cons _ _ [] _ _ [] k2 (.nil _))
theorem RepL.one {F : Nat → Prop} {a : AV} {v : Value} (h : RepL P w F [a] [v] []) : RepC P w F a v [] := by
  obtain ⟨v', h1, h2⟩ := h.get0 (i := 0) rfl
  simp at h1; subst h1; exact h2

/-- What came in reads behind the call as it did. -/
theorem trodAll_carry {w' : World} : ∀ {ts : List TypeId} {vs : List Value} {ds : List (DataW H)} {ps : List MemPlace}, DataW.TrodAll enc P w base sp held ts vs ds ps → (∀ p ∈ ps, w.sameAt w' p) → DataW.TrodAll enc P w' base sp held ts vs ds ps
  | [], [], [], _, h, _ => h
  | _ :: _, _ :: _, _ :: _, _, ⟨p, q, ⟨n, h1⟩, h2, e⟩, hs => ⟨p, q, ⟨n, DataW.trod_carry n _ _ _ h1 (fun x hx => hs x (by rw [e]; exact List.mem_append_left _ hx))⟩, trodAll_carry h2 (fun x hx => hs x (by rw [e]; exact List.mem_append_right _ hx)), e⟩
theorem args_again {W W' : World} {ts : List TypeId} (K : Kids P (· < P.types.size)) (hz : ∀ t e, t < P.types.size → P.underlying t = some (.slice e) → 0 < P.cellsOf e) (hts : ts.all (fun t => decide (t < P.types.size)) = true) (hb : Below W.heap.size W W')
    {vs : List Value} {ds : List (DataW H)} {ps : List MemPlace} (h : DataW.TrodAll enc P W 0 (fun _ => true) true ts vs ds ps) (hlt : ∀ p ∈ ps, p.block < W.heap.size) {s : Nat → Bool} (hs : ∀ p ∈ ps, s p.block = true) :
    DataW.TrodAll enc P W' 0 s true ts vs ds ps :=
  (trodAll_carry h (fun p hp => hb.same (hlt p hp))).respare K hz (fun t ht => of_decide_eq_true (List.all_eq_true.1 hts t ht)) hs
end
end Go.Abs
