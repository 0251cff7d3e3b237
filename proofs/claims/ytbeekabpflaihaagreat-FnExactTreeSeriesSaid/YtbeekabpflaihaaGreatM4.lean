/- Texts of the own layer and contracts, part 4: AbsQ AbsM AbsW AbsW2 AbsX AbsW3. -/
import Derived.OpenShut
import Derived.ReadAgain
import Derived.ChangeBears
import Derived.Lib.SmallJoins
import Derived.Shelf.SlSortCmp.NoneTotal
import Derived.Test.YtbeekabpflaihaaGreatM3
/- What comes in as data, as the walks see it; what goes out reads as it did. It holds over any program. -/
set_option linter.unusedSectionVars false
set_option linter.unusedVariables false
set_option linter.unusedSimpArgs false
namespace Go.Abs
variable [DrawK]
open Go.RowKit Go.WideShapes Go.ChangeShapes Go.Deep
section
variable {H : Type} {enc : TypeId × Value → H} {P : Program} {w : World} {sp : Nat → Bool} {held : Bool} {base : Nat}

/-- A slice's elements, one after the other. -/
theorem rows_rep {F : Nat → Prop} {c : Array Value} {e0 : TypeId} {fr : Nat × Nat} {b off s : Nat} (hb : w.heap[b]? = some (.cells c e0 fr)) {α : Type} {f : α → List AV} (hf : ∀ a, (f a).length = s) :
    ∀ (asx : List α) (i0 : Nat), (∀ (i : Nat) a, asx[i]? = some a → ∃ vs, vs.length = s ∧ (∀ j, j < s → c[off + (i0 + i) * s + j]? = vs[j]?) ∧ RepL P w F (f a) vs []) → RepL P w F (asx.flatMap f) (c.toList.drop (off + i0 * s)) []
  | [], i0, _ => .nil _
  | a :: asx, i0, h => by
    obtain ⟨vs, h1, h2, h3⟩ := h 0 a rfl
    have ih := rows_rep hb hf asx (i0 + 1) (fun i a hi => by
      have := h (i + 1) a (by simpa using hi)
      rw [show i0 + (i + 1) = i0 + 1 + i by omega] at this
      exact this)
    rw [List.flatMap_cons]
    refine RepL.of_get (fun j cc hj => ?_)
    by_cases hjs : j < s
    · rw [List.getElem?_append_left (by rw [hf]; exact hjs)] at hj
      obtain ⟨v, hv, hr⟩ := h3.get0 hj
      refine ⟨v, ?_, hr⟩
      rw [List.getElem?_drop, Array.getElem?_toList, ← hv, ← h2 j hjs]
      simp
    · rw [List.getElem?_append_right (by rw [hf]; omega), hf] at hj
      obtain ⟨v, hv, hr⟩ := ih.get0 hj
      refine ⟨v, ?_, hr⟩
      rw [List.getElem?_drop] at hv ⊢
      rw [← hv]
      congr 1
      rw [Nat.add_mul]; omega

/-- A slice that comes in. -/
theorem open_sl {t e : TypeId} (ht : P.underlying t = some (.slice e)) {s : Nat} (hs : P.cellsOf e = s) (hpos : 0 < s) {α : Type} {f : α → List AV} (hf : ∀ a, (f a).length = s) {Good : α → Prop}
    (hel : ∀ n cs y, DataW.trod enc P w base sp held n e cs = some y → ∃ a, Good a ∧ RepL P w (fun b => b < w.heap.size) (f a) cs [])
    {n : Nat} {cs : List Value} {x : DataW H × List MemPlace} (h : DataW.trod enc P w base sp held n t cs = some x) :
    ∃ asx : List α, (∀ a ∈ asx, Good a) ∧ asx.length ≤ 9223372036854775807 ∧ RepL P w (fun b => b < w.heap.size) [.sl asx.length (asx.flatMap f)] cs [] ∧ cs.length = 1 := by
  rcases DataW.trod_slice ht h with ⟨rfl, _⟩ | ⟨a, len, cap, elems, rest, m, _, rfl, _, hb, hl, hm, hlen, hel2, _, _⟩
  · exact ⟨[], by simp, by simp, .cons _ _ [] _ _ [] (.sl0 none 0) (.nil _), rfl⟩
  · have hmax : maxLen ≤ 9223372036854775807 := by decide
    -- each element
    have each : ∀ i, i < len → ∃ (vs : List Value) (q : α), w.cells? base (a.add (i * s)) s = some vs ∧ Good q ∧ RepL P w (fun b => b < w.heap.size) (f q) vs [] := by
      intro i hi
      have h1 := hel2 i hi
      rw [hs] at h1
      have h2 : elems[i]? = some (elems[i]'(by omega)) := List.getElem?_eq_getElem _
      rw [h2, Option.bind_eq_some_iff] at h1
      obtain ⟨vs, h3, h4⟩ := h1
      obtain ⟨q, h5, h6⟩ := hel _ _ _ h4
      exact ⟨vs, q, h3, h5, h6⟩
    have mk : ∀ k, k ≤ len → ∃ asx : List α, asx.length = k ∧ (∀ a ∈ asx, Good a) ∧ ∀ i q, asx[i]? = some q → ∃ vs, w.cells? base (a.add (i * s)) s = some vs ∧ RepL P w (fun b => b < w.heap.size) (f q) vs [] := by
      intro k
      induction k with
      | zero => intro _; exact ⟨[], rfl, by simp, by simp⟩
      | succ k ih =>
        intro hk
        obtain ⟨asx, k1, k2, k3⟩ := ih (by omega)
        obtain ⟨vs, q, h1, h2, h3⟩ := each k (by omega)
        refine ⟨asx ++ [q], by simp [k1], ?_, ?_⟩
        · intro z hz
          rcases List.mem_append.1 hz with hz | hz
          · exact k2 z hz
          · simp at hz; subst hz; exact h2
        · intro i z hz
          by_cases hi : i < asx.length
          · rw [List.getElem?_append_left hi] at hz; exact k3 i z hz
          · rw [List.getElem?_append_right (by omega)] at hz
            have hi0 : i - asx.length = 0 := by
              have := (List.getElem?_eq_some_iff.1 hz).1
              simp at this; omega
            rw [hi0] at hz
            simp at hz; subst hz
            have : i = k := by omega
            subst this
            exact ⟨vs, h1, h3⟩
    obtain ⟨asx, k1, k2, k3⟩ := mk len (Nat.le_refl _)
    refine ⟨asx, k2, by omega, ?_, rfl⟩
    rw [k1]
    by_cases h0 : len = 0
    · subst h0
      have : asx = [] := List.eq_nil_of_length_eq_zero k1
      subst this
      exact .cons _ _ [] _ _ [] (.sl0 _ _) (.nil _)
    · -- the block
      obtain ⟨vs, q, h1, _, _⟩ := each 0 (by omega)
      obtain ⟨g1, g2, g3⟩ := World.cells?_some h1
      have c0 := g3 0 hpos
      have hv0 : ∃ v, vs[0]? = some v := ⟨vs[0]'(by omega), List.getElem?_eq_getElem _⟩
      obtain ⟨v0, hv0⟩ := hv0
      rw [hv0] at c0
      have ea : (a.add (0 * s)).add 0 = a := by simp [Addr.add]
      rw [ea] at c0
      obtain ⟨b, off, spot⟩ := a
      unfold World.cell? at c0
      simp only at c0
      cases hbk : w.heap[b]? with
      | none => simp [hbk] at c0
      | some o =>
        cases o with
        | cells c et fr =>
          simp only [hbk] at c0
          cases spot with
          | some z => simp at c0
          | none =>
            refine .cons _ _ [] _ _ [] (.sl b off len cap c et fr _ ?_ hbk ?_ hl) (.nil _)
            · rcases Nat.lt_or_ge b w.heap.size with hlt | hge
              · exact hlt
              · simp [Array.getElem?_eq_none hge] at hbk
            · have := rows_rep (P := P) (F := fun b => b < w.heap.size) (off := off) hbk hf asx 0 (fun i q hi => by
                obtain ⟨vs, m1, m2⟩ := k3 i q hi
                obtain ⟨p1, p2, p3⟩ := World.cells?_some m1
                refine ⟨vs, p2, fun j hj => ?_, m2⟩
                rw [← p3 j hj]
                rw [Nat.zero_add]
                have e1 : ((⟨b, off, none⟩ : Addr).add (i * s)).add j = ⟨b, off + i * s + j, none⟩ := by
                  unfold Addr.add; split <;> split <;> simp_all <;> omega
                rw [e1, cell_of hbk])
              simpa using this
        | _ => simp [hbk] at c0

/-- A whole number that comes in. -/
theorem open_i {t : TypeId} {k : IntKind} (ht : P.underlying t = some (.int k)) {F : Nat → Prop} {n : Nat} {cs : List Value} {y : DataW H × List MemPlace} (h : DataW.trod enc P w base sp held n t cs = some y) :
    ∃ z : Int, (Lit.int k z).wf = true ∧ RepL P w F [.val (.int k z)] cs [] ∧ cs.length = 1 := by
  obtain ⟨z, rfl, _, hw⟩ := DataW.trod_int ht h
  exact ⟨z, hw, .cons _ _ [] _ _ [] (.val _ rfl) (.nil _), rfl⟩

/-- A struct of two cells that comes in. -/
theorem open_st2 {t : TypeId} {f0 f1 : Field} (ht : P.underlying t = some (.struct #[f0, f1])) (hone : oneCellFields P #[f0, f1] = true) (hC : P.cellsOf t = 2) {n : Nat} {cs : List Value} {y : DataW H × List MemPlace} (h : DataW.trod enc P w base sp held n t cs = some y) :
    ∃ c0 c1 y0 y1 m, cs = [c0, c1] ∧ DataW.trod enc P w base sp held m f0.type [c0] = some y0 ∧ DataW.trod enc P w base sp held m f1.type [c1] = some y1 := by
  obtain ⟨y0, y1, m, hx, hl, h0, h1⟩ := trod_struct2 ht h
  rw [hC] at hl
  match cs, hl with
  | [c0, c1], _ =>
    obtain ⟨o0, k0⟩ := hone_of hone 0 f0 rfl
    obtain ⟨o1, k1⟩ := hone_of hone 1 f1 rfl
    exact ⟨c0, c1, y0, y1, m, rfl, by simpa [o0, k0] using h0, by simpa [o1, k1] using h1⟩

theorem RepL.two {F : Nat → Prop} {a b : AV} {u v : Value} (h : RepL P w F [a] [u] []) (k : RepL P w F [b] [v] []) : RepL P w F [a, b] [u, v] [] := by
  obtain ⟨u', h1, h2⟩ := h.get0 (i := 0) rfl
  obtain ⟨v', k1, k2⟩ := k.get0 (i := 0) rfl
  simp at h1 k1; subst h1; subst k1
  exact .cons _ _ [] _ _ [] h2 (.cons _ _ [] _ _ [] k2 (.nil _))
theorem RepL.one {F : Nat → Prop} {a : AV} {v : Value} (h : RepL P w F [a] [v] []) : RepC P w F a v [] := by
  obtain ⟨v', h1, h2⟩ := h.get0 (i := 0) rfl
  simp at h1; subst h1; exact h2

/-- What came in reads behind the call as it did. -/
theorem trodAll_carry {w' : World} : ∀ {ts : List TypeId} {vs : List Value} {ds : List (DataW H)} {ps : List MemPlace}, DataW.TrodAll enc P w base sp held ts vs ds ps → (∀ p ∈ ps, w.sameAt w' p) → DataW.TrodAll enc P w' base sp held ts vs ds ps
  | [], [], [], _, h, _ => h
  | _ :: _, _ :: _, _ :: _, _, ⟨p, q, ⟨n, h1⟩, h2, e⟩, hs => ⟨p, q, ⟨n, DataW.trod_carry n _ _ _ h1 (fun x hx => hs x (by rw [e]; exact List.mem_append_left _ hx))⟩, trodAll_carry h2 (fun x hx => hs x (by rw [e]; exact List.mem_append_right _ hx)), e⟩
theorem args_again {W W' : World} {ts : List TypeId} (K : Kids P (· < P.types.size)) (hz : ∀ t e, t < P.types.size → P.underlying t = some (.slice e) → 0 < P.cellsOf e) (hts : ts.all (fun t => decide (t < P.types.size)) = true) (hb : Below W.heap.size W W')
    {vs : List Value} {ds : List (DataW H)} {ps : List MemPlace} (h : DataW.TrodAll enc P W 0 (fun _ => true) true ts vs ds ps) (hlt : ∀ p ∈ ps, p.block < W.heap.size) {s : Nat → Bool} (hs : ∀ p ∈ ps, s p.block = true) :
    DataW.TrodAll enc P W' 0 s true ts vs ds ps :=
  (trodAll_carry h (fun p hp => hb.same (hlt p hp))).respare K hz (fun t ht => of_decide_eq_true (List.all_eq_true.1 hts t ht)) hs
end
end Go.Abs

/- The rules by which the conditions of a walk are reckoned out. -/
set_option linter.unusedSectionVars false
set_option linter.unusedVariables false
set_option linter.unusedSimpArgs false
namespace Go.Abs
variable [DrawK]

@[go_sem] theorem upd_app (d : Nat) (v : AV) (S : St) (i : Nat) : upd d v S i = kl [d] (if i = d then v else S i) := rfl
@[go_sem] theorem updn_app (d : Nat) (v : AV) (S : St) (i : Nat) : updn d v S i = if i = d then v else kn d (S i) := rfl
@[go_sem] theorem kl_any (W : List Nat) : kl W .any = .any := rfl
@[go_sem] theorem kl_val (W : List Nat) (v : Value) : kl W (.val v) = .val v := rfl
@[go_sem] theorem kl_sl (W : List Nat) (n : Nat) (cs : List AV) : kl W (.sl n cs) = .sl n cs := rfl
@[go_sem] theorem kl_own (W : List Nat) (e n : Nat) (cs : List AV) : kl W (.own e n cs) = .own e n cs := rfl
@[go_sem] theorem kl_box (W : List Nat) (e : Nat) (cs : List AV) : kl W (.box e cs) = .box e cs := rfl
@[go_sem] theorem kl_fptr (W : List Nat) (cs : List AV) : kl W (.fptr cs) = .fptr cs := rfl
@[go_sem] theorem kl_agg (W : List Nat) (cs : List AV) : kl W (.agg cs) = .agg (klL W cs) := by rw [kl]
@[go_sem] theorem kl_tup (W : List Nat) (cs : List AV) : kl W (.tup cs) = .tup (klL W cs) := by rw [kl]
@[go_sem] theorem kl_fn (W : List Nat) (f : FuncId) (cs : List AV) : kl W (.fn f cs) = .fn f (klL W cs) := by rw [kl]
@[go_sem] theorem klL_nil' (W : List Nat) : klL W [] = [] := rfl
@[go_sem] theorem klL_cons (W : List Nat) (c : AV) (cs : List AV) : klL W (c :: cs) = kl W c :: klL W cs := by rw [klL]
@[go_sem] theorem kl_bor (d s : Nat) (p : List Nat) : kl [d] (.bor s p) = if s = d then .any else .bor s p := by
  rw [kl]; by_cases h : s = d <;> simp [h]
@[go_sem] theorem kl_ptr (d s : Nat) (p : List Nat) (o : Nat) : kl [d] (.ptr s p o) = if s = d then .any else .ptr s p o := by
  rw [kl]; by_cases h : s = d <;> simp [h]
@[go_sem] theorem kn_any (d : Nat) : kn d .any = .any := rfl
@[go_sem] theorem kn_val (d : Nat) (v : Value) : kn d (.val v) = .val v := rfl
@[go_sem] theorem kn_sl (d : Nat) (n : Nat) (cs : List AV) : kn d (.sl n cs) = .sl n cs := rfl
@[go_sem] theorem kn_own (d : Nat) (e n : Nat) (cs : List AV) : kn d (.own e n cs) = .own e n cs := rfl
@[go_sem] theorem kn_box (d : Nat) (e : Nat) (cs : List AV) : kn d (.box e cs) = .box e cs := rfl
@[go_sem] theorem kn_fptr (d : Nat) (cs : List AV) : kn d (.fptr cs) = .fptr cs := rfl
@[go_sem] theorem kn_agg (d : Nat) (cs : List AV) : kn d (.agg cs) = .agg (knL d cs) := by rw [kn]
@[go_sem] theorem kn_tup (d : Nat) (cs : List AV) : kn d (.tup cs) = .tup (knL d cs) := by rw [kn]
@[go_sem] theorem kn_fn (d : Nat) (f : FuncId) (cs : List AV) : kn d (.fn f cs) = .fn f (knL d cs) := by rw [kn]
@[go_sem] theorem knL_nil' (d : Nat) : knL d [] = [] := rfl
@[go_sem] theorem knL_cons (d : Nat) (c : AV) (cs : List AV) : knL d (c :: cs) = kn d c :: knL d cs := by rw [knL]
@[go_sem] theorem kn_bor0 (d s : Nat) : kn d (.bor s []) = .bor s [] := by rw [kn]; simp
@[go_sem] theorem kn_bor1 (d s i : Nat) (p : List Nat) : kn d (.bor s (i :: p)) = if s = d then .any else .bor s (i :: p) := by
  rw [kn]; by_cases h : s = d <;> simp [h]
@[go_sem] theorem kn_ptr0 (d s o : Nat) : kn d (.ptr s [] o) = .ptr s [] o := by rw [kn]; simp
@[go_sem] theorem kn_ptr1 (d s i : Nat) (p : List Nat) (o : Nat) : kn d (.ptr s (i :: p) o) = if s = d then .any else .ptr s (i :: p) o := by
  rw [kn]; by_cases h : s = d <;> simp [h]

@[go_sem] theorem kn1_any (d : Nat) : kn1 d .any = .any := rfl
@[go_sem] theorem kn1_val (d : Nat) (v : Value) : kn1 d (.val v) = .val v := rfl
@[go_sem] theorem kn1_sl (d : Nat) (n : Nat) (cs : List AV) : kn1 d (.sl n cs) = .sl n cs := rfl
@[go_sem] theorem kn1_own (d : Nat) (e n : Nat) (cs : List AV) : kn1 d (.own e n cs) = .own e n cs := rfl
@[go_sem] theorem kn1_box (d : Nat) (e : Nat) (cs : List AV) : kn1 d (.box e cs) = .box e cs := rfl
@[go_sem] theorem kn1_fptr (d : Nat) (cs : List AV) : kn1 d (.fptr cs) = .fptr cs := rfl
@[go_sem] theorem kn1_agg (d : Nat) (cs : List AV) : kn1 d (.agg cs) = .agg (kn1L d cs) := by rw [kn1]
@[go_sem] theorem kn1_tup (d : Nat) (cs : List AV) : kn1 d (.tup cs) = .tup (kn1L d cs) := by rw [kn1]
@[go_sem] theorem kn1_fn (d : Nat) (f : FuncId) (cs : List AV) : kn1 d (.fn f cs) = .fn f (kn1L d cs) := by rw [kn1]
@[go_sem] theorem kn1L_nil' (d : Nat) : kn1L d [] = [] := rfl
@[go_sem] theorem kn1L_cons (d : Nat) (c : AV) (cs : List AV) : kn1L d (c :: cs) = kn1 d c :: kn1L d cs := by rw [kn1L]
@[go_sem] theorem kn1_bor (d s : Nat) (p : List Nat) : kn1 d (.bor s p) = if s = d ∧ 2 ≤ p.length then .any else .bor s p := by rw [kn1]; simp
@[go_sem] theorem kn1_ptr (d s : Nat) (p : List Nat) (o : Nat) : kn1 d (.ptr s p o) = if s = d ∧ 2 ≤ p.length then .any else .ptr s p o := by rw [kn1]; simp
@[go_sem] theorem updn1_app (d : Nat) (v : AV) (S : St) (i : Nat) : updn1 d v S i = if i = d then v else kn1 d (S i) := rfl

@[go_sem] theorem kl_mp (W : List Nat) (c : Key → Option Int) : kl W (.mp c) = .mp c := rfl
@[go_sem] theorem kl_fmp (W : List Nat) (c : Key → Option Int) : kl W (.fmp c) = .fmp c := rfl
@[go_sem] theorem kl_it (W : List Nat) (l : Option (Key × Int)) (es : List (Key × Int)) : kl W (.it l es) = .it l es := rfl
@[go_sem] theorem kl_slp (d s : Nat) (p : List Nat) (o n : Nat) : kl [d] (.slp s p o n) = if s = d then .any else .slp s p o n := by
  rw [kl]; by_cases h : s = d <;> simp [h]
@[go_sem] theorem kn_mp (d : Nat) (c : Key → Option Int) : kn d (.mp c) = .mp c := rfl
@[go_sem] theorem kn_fmp (d : Nat) (c : Key → Option Int) : kn d (.fmp c) = .fmp c := rfl
@[go_sem] theorem kn_it (d : Nat) (l : Option (Key × Int)) (es : List (Key × Int)) : kn d (.it l es) = .it l es := rfl
@[go_sem] theorem kn_slp0 (d s o n : Nat) : kn d (.slp s [] o n) = .slp s [] o n := by rw [kn]; simp
@[go_sem] theorem kn_slp1 (d s i : Nat) (p : List Nat) (o n : Nat) : kn d (.slp s (i :: p) o n) = if s = d then .any else .slp s (i :: p) o n := by
  rw [kn]; by_cases h : s = d <;> simp [h]
@[go_sem] theorem kn1_mp (d : Nat) (c : Key → Option Int) : kn1 d (.mp c) = .mp c := rfl
@[go_sem] theorem kn1_fmp (d : Nat) (c : Key → Option Int) : kn1 d (.fmp c) = .fmp c := rfl
@[go_sem] theorem kn1_it (d : Nat) (l : Option (Key × Int)) (es : List (Key × Int)) : kn1 d (.it l es) = .it l es := rfl
@[go_sem] theorem kn1_slp (d s : Nat) (p : List Nat) (o n : Nat) : kn1 d (.slp s p o n) = if s = d ∧ 2 ≤ p.length then .any else .slp s p o n := by rw [kn1]; simp
@[go_sem] theorem kl_keyAV (W : List Nat) (k : Key) : kl W (keyAV k) = keyAV k := rfl
@[go_sem] theorem kn_keyAV (d : Nat) (k : Key) : kn d (keyAV k) = keyAV k := rfl
@[go_sem] theorem kn1_keyAV (d : Nat) (k : Key) : kn1 d (keyAV k) = keyAV k := rfl
@[go_sem] theorem cv_nilmap : cv (.map none) = .val (.map none) := rfl
@[go_sem] theorem hasOwn_keyAV (k : Key) : hasOwn (keyAV k) = false := rfl
@[go_sem] theorem keyA_keyAV (k : Key) : keyA (keyAV k) = some k := rfl
@[go_sem] theorem frz_keyAV (k : Key) : frz (keyAV k) = keyAV k := rfl
@[go_sem] theorem initS_app (args : List AV) (i : Nat) : initS args i = (match args[i]? with | some c => c | none => .any) := rfl
@[go_sem] theorem aop_tmp (S : St) (t : Nat) : aop S (.tmp t) = S t := rfl
@[go_sem] theorem aop_const (S : St) (v : Value) : aop S (.const v) = cv v := rfl
@[go_sem] theorem aop_func (S : St) (f : FuncId) : aop S (.func f) = .val (.func (.func f) #[] #[]) := rfl
@[go_sem] theorem cv_nilptr : cv (.pointer none) = .val (.pointer none) := rfl
@[go_sem] theorem cv_nil : cv (.slice none 0 0) = .val (.slice none 0 0) := rfl
@[go_sem] theorem cv_int (k : IntKind) (n : Int) : cv (.int k n) = .val (.int k n) := rfl
@[go_sem] theorem cv_bool (b : Bool) : cv (.bool b) = .val (.bool b) := rfl
@[go_sem] theorem cv_string (s : ByteArray) : cv (.string s) = .val (.string s) := rfl

@[go_sem] theorem lookup_nil' (i : Nat) : List.lookup i ([] : List (Nat × AV)) = none := rfl
@[go_sem] theorem lookup_cons' (i d : Nat) (v : AV) (T : List (Nat × AV)) : List.lookup i ((d, v) :: T) = if i = d then some v else List.lookup i T := by
  rw [List.lookup_cons]
  by_cases h : i = d
  · simp [h]
  · have : (i == d) = false := by simpa using h
    simp [h, this]

attribute [go_sem] ncS binB binS alt alt2 alt3 nrg rmv insA rangeOf nextOf nilOf NilVC mxS binW ixR ixA ivS fdS ptS bnd bndSl prS poS foS slS plc srcC cpS bdS plTs putAll b0S b1S blS mmS mapA keyA lkS mplc muS enS RangeVC NextVC tkLm callV cap1 caps mfS bxS faS alS stAS ldAS takeA tkU ldCs ldC cellB cellsB valsB setMany app TestVC_true TestVC_false callOf stepO withD mvR mvS mvT valR ldR stR hasOwn hasOwnL isOB roots rootsL binI unI cnI
  ld1S ld1A adr ctn kids setKids getP putP ldC IntKind.signed slotsOf ixS mkS isV st1S apS els isSome2 tk tkP tks bsS idxOk lnS exS rsvArgs rsv rsvL frz frzL gslot skipU retAV retOf inK_i64
section
variable (P : Program) (cf : Cfg) (N : Nat × List Nat) (ops : Array Oper) (K : St → Prop) (Q : Exit → St → Prop) (S : St)
@[go_sem] theorem vcOps_nil : vcOps P cf N ops [] K S = K S := rfl
@[go_sem] theorem vcOps_plain (dst : Option Tmp) (op : Op) (ty : TypeId) (pos : String) (after : Array Edge) (l : List Oper) :
    vcOps P cf N ops (⟨dst, op, ty, pos, after, none⟩ :: l) K S = vcOp P cf N ⟨dst, op, ty, pos, after, none⟩ (vcOps P cf N ops l K) S := rfl
/-- A guarded operation. -/
def GuardVC (g : Nat) (b : Bool) (A B : St → Prop) (S : St) : Prop :=
  match S g with
  | .val (.bool c) => g < N.1 ∧ TestVC (c == b) A B (upd g (.val (.bool b)) S) (upd g (.val (.bool !b)) S)
  | .tup [] => B S
  | _ => False
@[go_sem] theorem vcOps_guard (dst : Option Tmp) (op : Op) (ty : TypeId) (pos : String) (after : Array Edge) (j : Nat) (b : Bool) (l : List Oper) :
    vcOps P cf N ops (⟨dst, op, ty, pos, after, some (j, b)⟩ :: l) K S = (match gslot ops j with
      | some g => GuardVC N g b (vcOp P cf N ⟨dst, op, ty, pos, after, some (j, b)⟩ (vcOps P cf N ops l K)) (skipK ⟨dst, op, ty, pos, after, some (j, b)⟩ (vcOps P cf N ops l K)) S
      | none => False) := rfl
@[go_sem] theorem GuardVC_app (g : Nat) (b : Bool) (A B : St → Prop) : GuardVC N g b A B S = (match S g with
  | .val (.bool c) => g < N.1 ∧ TestVC (c == b) A B (upd g (.val (.bool b)) S) (upd g (.val (.bool !b)) S)
  | .tup [] => B S
  | _ => False) := rfl
@[go_sem] theorem vcOp_app (o : Oper) : vcOp P cf N o K S = (match callOf o.op with
  | some (f, xs) => if cf.mu.contains f then MVC P N f xs o.dst K S else if cf.mu.contains (1000000 + f) then GVC P cf N f xs o.dst K S else if cf.mu.contains (2000000 + f) then RVC P cf N f xs o.dst K S else match rsvArgs S xs with
    | some asx => CallVC P cf N f asx o.dst K S
    | none => False
  | none => match callV S o.op with
    | some (f, xs, cs) => match rsvArgs S xs, rsvL S cs with
      | some asx, some bs => CallVC P cf N f (asx ++ bs) o.dst K S
      | _, _ => False
    | none => match rangeOf P S o.op, o.dst with
      | some c, some d => RangeVC N c d K S
      | _, _ => match nextOf S o.op, o.dst with
        | some (t, rem), some d => NextVC N t rem d K S
        | _, _ => match nilOf P S o.op, o.dst with
          | some n, some d => NilVC N n d K S
          | _, _ => match stepO P cf N S o.op o.dst with
            | some (p, _, U) => p ∧ K (app U S)
            | none => False) := rfl
@[go_sem] theorem skipK_app (o : Oper) : skipK o K S = K (app (skipU o) S) := rfl
@[go_sem] theorem vc_skip : vc P cf N .skip Q S = Q .normal S := rfl
@[go_sem] theorem vc_region (id : Nat) : vc P cf N (.region id ops false) Q S = vcOps P cf N ops ops.toList (Q .normal) S := rfl
@[go_sem] theorem vc_draw (id : Nat) : vc P cf N (.region id ops true) Q S = DrawSel P cf N ops id (Q .normal) S := rfl
@[go_sem] theorem vcD_nil (i : Nat) (tr : List Ent) : vcD P cf N ops i [] K tr S = doneD ops K tr S := rfl
@[go_sem] theorem vcD_plain (i : Nat) (tr : List Ent) (dst : Option Tmp) (op : Op) (ty : TypeId) (pos : String) (after : Array Edge) (l : List Oper) :
    vcD P cf N ops i (⟨dst, op, ty, pos, after, none⟩ :: l) K tr S = runD P cf N i ⟨dst, op, ty, pos, after, none⟩ [] (vcD P cf N ops (i + 1) l K) tr S := rfl
@[go_sem] theorem vcD_guard (i : Nat) (tr : List Ent) (dst : Option Tmp) (op : Op) (ty : TypeId) (pos : String) (after : Array Edge) (j : Nat) (b : Bool) (l : List Oper) :
    vcD P cf N ops i (⟨dst, op, ty, pos, after, some (j, b)⟩ :: l) K tr S = (match gslot ops j with
      | some g => GuardD N g b (runD P cf N i ⟨dst, op, ty, pos, after, some (j, b)⟩ [g] (vcD P cf N ops (i + 1) l K)) (skipD i ⟨dst, op, ty, pos, after, some (j, b)⟩ [g] (vcD P cf N ops (i + 1) l K)) tr S
      | none => False) := rfl
@[go_sem] theorem runD_app (i : Nat) (o : Oper) (G : List Nat) (C : List Ent → St → Prop) (tr : List Ent) : runD P cf N i o G C tr S = (match callOf o.op with
  | some (f, xs) => if (cf.mu.contains f || cf.mu.contains (1000000 + f)) = true then MCallD P N f xs o.dst i (G ++ (opsD S o.op).flatMap (rdO S)) C tr S else match rsvArgs S xs with
    | some asx => closedB (G ++ (opsD S o.op).flatMap (rdO S)) S = true ∧ CallD P cf N f asx o.dst i (G ++ (opsD S o.op).flatMap (rdO S)) C tr S
    | none => False
  | none => match stepO P cf N S o.op o.dst with
    | some (p, _, U) => (closedB (G ++ (opsD S o.op).flatMap (rdO S)) S && inB (rts U) (G ++ (opsD S o.op).flatMap (rdO S))) = true ∧ p ∧ C (⟨i, G ++ (opsD S o.op).flatMap (rdO S), wrs U⟩ :: tr) (app U S)
    | none => False) := rfl
@[go_sem] theorem skipD_app (i : Nat) (o : Oper) (G : List Nat) (C : List Ent → St → Prop) (tr : List Ent) : skipD i o G C tr S = (closedB G S = true ∧ C (⟨i, G, wrs (skipU o)⟩ :: tr) (app (skipU o) S)) := rfl
@[go_sem] theorem GuardD_app (g : Nat) (b : Bool) (A B : List Ent → St → Prop) (tr : List Ent) : GuardD N g b A B tr S = (match S g with
  | .val (.bool c) => g < N.1 ∧ DTest (c == b) A B tr S
  | .tup [] => B tr S
  | _ => False) := rfl
@[go_sem] theorem DTest_true (A B : List Ent → St → Prop) (tr : List Ent) : DTest true A B tr S = A tr S := by simp [DTest]
@[go_sem] theorem DTest_false (A B : List Ent → St → Prop) (tr : List Ent) : DTest false A B tr S = B tr S := by simp [DTest]
@[go_sem] theorem vcX_nil (q : Nat → Nat → Bool) (tr : List Ent) : vcX P cf N ops q [] K tr S = (okX ops q tr = true ∧ K S) := rfl
@[go_sem] theorem vcX_cons (q : Nat → Nat → Bool) (i : Nat) (tr : List Ent) (l : List Nat) : vcX P cf N ops q (i :: l) K tr S = (match ops[i]? with
  | some o => match o.guard with
    | none => runD P cf N i o [] (vcX P cf N ops q l K) tr S
    | some (j, b) => match gslot ops j with
      | some g => GuardD N g b (runD P cf N i o [g] (vcX P cf N ops q l K)) (skipD i o [g] (vcX P cf N ops q l K)) tr S
      | none => False
  | none => False) := rfl
@[go_sem] theorem DrawVC3_app (q : Exc) (n : Nat) : DrawVC3 P cf N ops q n K S = (checkX ops q (insA q.c q.p (rmv q.c (nrg 0 n))) (nrg 0 n) (insA q.p q.d (rmv q.p (nrg 0 n))) = true ∧
    vcX P cf N ops (excB q) (insA q.c q.p (rmv q.c (nrg 0 n))) K [] S ∧ vcX P cf N ops (excB q) (nrg 0 n) K [] S ∧ vcX P cf N ops (excB q) (insA q.p q.d (rmv q.p (nrg 0 n))) K [] S) := rfl
@[go_sem] theorem DrawSel_app (id : Nat) : DrawSel P cf N ops id K S = (match alt cf id with
  | some (q, n) => if q.c = 99 then DrawVC2 P cf N ops q n K S else DrawVC3 P cf N ops q n K S
  | none => match alt2 cf id with
    | some (q, n) => if q.c = 99 then DrawVC5 P cf N ops q n K S else DrawVC4 P cf N ops q n K S
    | none => if alt3 cf id = true then DrawVC6 P cf N ops K S else DrawVC P cf N ops K S) := rfl
@[go_sem] theorem AllY_nil (q : Nat → Nat → Bool) (R : Nat → List Upd) : AllY P cf N ops q R K S [] = True := rfl
@[go_sem] theorem AllY_cons (q : Nat → Nat → Bool) (R : Nat → List Upd) (l : List Nat) (Ls : List (List Nat)) : AllY P cf N ops q R K S (l :: Ls) = (vcY P cf N ops q R l K [] S ∧ AllY P cf N ops q R K S Ls) := rfl
theorem DrawVC4_app (q : Exc) (n : Nat) : DrawVC4 P cf N ops q n K S = (∃ R, checkZ ops q (insA q.d q.c (insA q.c q.p (rmv q.d (rmv q.c (nrg 0 n))))) (insA q.d q.p (rmv q.d (nrg 0 n))) (nrg 0 n) = true ∧
    vcY P cf N ops (excB q) R (insA q.d q.c (insA q.c q.p (rmv q.d (rmv q.c (nrg 0 n))))) K [] S ∧ vcY P cf N ops (excB q) R (insA q.d q.p (rmv q.d (nrg 0 n))) K [] S ∧ vcY P cf N ops (excB q) R (nrg 0 n) K [] S) := rfl
theorem DrawVC5_app (q : Exc) (n : Nat) : DrawVC5 P cf N ops q n K S = (∃ R, checkW ops q (nrg 0 n) (insA q.p q.d (rmv q.p (nrg 0 n))) = true ∧
    vcY P cf N ops (excB q) R (nrg 0 n) K [] S ∧ vcY P cf N ops (excB q) R (insA q.p q.d (rmv q.p (nrg 0 n))) K [] S) := rfl
@[go_sem] theorem vcY_nil (q : Nat → Nat → Bool) (R : Nat → List Upd) (tr : List Ent) : vcY P cf N ops q R [] K tr S = (okX ops q tr = true ∧ K S) := rfl
@[go_sem] theorem vcY_cons (q : Nat → Nat → Bool) (R : Nat → List Upd) (i : Nat) (tr : List Ent) (l : List Nat) : vcY P cf N ops q R (i :: l) K tr S = (match ops[i]? with
  | some o => match o.guard with
    | none => runD P cf N i o [] (fixK cf R i o S (vcY P cf N ops q R l K)) tr S
    | some _ => False
  | none => False) := rfl
@[go_sem] theorem fixK_app (R : Nat → List Upd) (i : Nat) (o : Oper) (S S' : St) (C : List Ent → St → Prop) (tr : List Ent) : fixK cf R i o S C tr S' = (fixC cf R i o S S' ∧ C tr S') := rfl
@[go_sem] theorem fixC_app (R : Nat → List Upd) (i : Nat) (o : Oper) (S S' : St) : fixC cf R i o S S' = (match callOf o.op with
  | none => True
  | some (f, xs) => match o.dst with
    | none => False
    | some d => if (cf.mu.contains f || cf.mu.contains (1000000 + f)) = true then match locArgs S xs with
      | [(s, [])] => s ≠ d ∧ R i = [.n s .any, .n s (S' s), .w d (S' d)]
      | [(s, []), (t, [])] => (s ≠ t ∧ s ≠ d ∧ t ≠ d) ∧ R i = [.n s .any, .n t .any, .n s (S' s), .n t (S' t), .w d (S' d)]
      | _ => False
      else R i = [.w d (S' d)]) := rfl
@[go_sem] theorem DrawVC2_app (q : Exc) (n : Nat) : DrawVC2 P cf N ops q n K S = (checkY ops q (insA q.d q.p (rmv q.d (nrg 0 n))) (nrg 0 n) = true ∧
    vcX P cf N ops (excB q) (insA q.d q.p (rmv q.d (nrg 0 n))) K [] S ∧ vcX P cf N ops (excB q) (nrg 0 n) K [] S) := rfl
@[go_sem] theorem DrawVC_app : DrawVC P cf N ops K S = (edgesOk ops = true ∧ vcD P cf N ops 0 ops.toList K [] S) := rfl
@[go_sem] theorem vc_seq (x y : Code) : vc P cf N (.seq x y) Q S = vc P cf N x (thenQ (vc P cf N y Q) Q) S := rfl
@[go_sem] theorem vc_cond (c : Operand) (x y : Code) : vc P cf N (.cond c x y) Q S = (match aop S c with
    | .val (.bool t) => TestVC t (vc P cf N x Q) (vc P cf N y Q) S S
    | _ => False) := rfl
@[go_sem] theorem vc_block (id : Nat) (b : Code) : vc P cf N (.block id b) Q S = vc P cf N b (blockQ id Q) S := rfl
@[go_sem] theorem vc_loop (b : Code) : vc P cf N (.loop b) Q S = LoopVC (vc P cf N b) Q S := rfl
@[go_sem] theorem vc_exit (id : Nat) : vc P cf N (.exit id) Q S = Q (.exit id) S := rfl
@[go_sem] theorem vc_ret : vc P cf N .ret Q S = Q .ret S := rfl
@[go_sem] theorem thenQ_normal : thenQ K Q .normal S = K S := rfl
@[go_sem] theorem thenQ_ret : thenQ K Q .ret S = Q .ret S := rfl
@[go_sem] theorem thenQ_exit (id : Nat) : thenQ K Q (.exit id) S = Q (.exit id) S := rfl
@[go_sem] theorem blockQ_normal (id : Nat) : blockQ id Q .normal S = Q .normal S := rfl
@[go_sem] theorem blockQ_ret (id : Nat) : blockQ id Q .ret S = Q .ret S := rfl
@[go_sem] theorem blockQ_exit (id id' : Nat) : blockQ id Q (.exit id') S = if id' = id then Q .normal S else Q (.exit id') S := rfl
@[go_sem] theorem loopQ_ret (I : Nat → St → Prop) (n : Nat) : loopQ I n Q .ret S = Q .ret S := rfl
@[go_sem] theorem loopQ_exit (I : Nat → St → Prop) (n id : Nat) : loopQ I n Q (.exit id) S = Q (.exit id) S := rfl
@[go_sem] theorem retQ_ret (rs : List ResultVar) (r : AV) : retQ P rs r .ret S = ∃ cs, retAV P S rs = some cs ∧ retOf cs = r := rfl
@[go_sem] theorem retQ_normal (rs : List ResultVar) (r : AV) : retQ P rs r .normal S = ∃ cs, retAV P S rs = some cs ∧ retOf cs = r := rfl
@[go_sem] theorem retM_ret (rs : List ResultVar) (kp : List Nat) (n : Nat) (r : AV) (outs : List AV) : retM P rs kp n r outs .ret S = ∃ cs, retAV P S (rs ++ kp.map .tmp) = some cs ∧ retOf (cs.take rs.length) = r ∧ outsOf kp (cs.drop rs.length) n = outs ∧ freshL cs = true := rfl
@[go_sem] theorem retR_ret (rs : List ResultVar) (kp : List Nat) (n : Nat) (R : AV → List AV → Prop) : retR P rs kp n R .ret S = ∃ cs, retAV P S (rs ++ kp.map .tmp) = some cs ∧ R (retOf (cs.take rs.length)) (outsOf kp (cs.drop rs.length) n) := rfl
@[go_sem] theorem retR_normal (rs : List ResultVar) (kp : List Nat) (n : Nat) (R : AV → List AV → Prop) : retR P rs kp n R .normal S = ∃ cs, retAV P S (rs ++ kp.map .tmp) = some cs ∧ R (retOf (cs.take rs.length)) (outsOf kp (cs.drop rs.length) n) := rfl
end
attribute [go_sem] opsD closedB inB wrs rts rdO af afL Op.operands Call.operands OkD MVC GVC RVC MCallD locs locB locArgs fillA fillB fillArgs leafA anyB leafB leafArgs tkLs ptLs locOk outsOf freshOK freshL
end Go.Abs

/- slices.SortFunc at structs, as a contract of this layer. It holds over any program. -/
set_option linter.unusedSectionVars false
set_option linter.unusedVariables false
set_option linter.unusedSimpArgs false
namespace Go.Abs
variable [DrawK]
open Go.RowKit (Below)
open Go.Proofs Go.Sort Go.Shelf Go.RowKit Go.Lib

section
variable {P : Program} {w w' : World} {F F' : Nat → Prop}

/-- A row of elements of k cells, by elements. -/
theorem RepL.els {β : Type} (A : β → List AV) (k : Nat) : ∀ {xs : List β} {vs : List Value} {os : List Nat}, (∀ x ∈ xs, (A x).length = k) → RepL P w F (xs.flatMap A) vs os → os.Nodup →
    ∃ f : Nat → List Nat, (∀ (i : Nat) (hi : i < xs.length), RepL P w F (A xs[i]) ((vs.drop (i * k)).take k) (f i)) ∧ (∀ i b, b ∈ f i → b ∈ os) ∧ (∀ i, (f i).Nodup) ∧ ∀ i j b, b ∈ f i → b ∈ f j → i = j := by
  intro xs
  induction xs with
  | nil => intro vs os _ _ _; exact ⟨fun _ => [], by simp, by simp, by simp, by simp⟩
  | cons x xs ih =>
    intro vs os hk h hn
    obtain ⟨o1, o2, rfl, h1, h2⟩ := h.part k
    have hx := hk x (by simp)
    rw [List.flatMap_cons, List.take_left' hx] at h1
    rw [List.flatMap_cons, List.drop_left' hx] at h2
    have n := List.nodup_append.1 hn
    obtain ⟨f, f1, f2, f3, f4⟩ := ih (fun y hy => hk y (by simp [hy])) h2 n.2.1
    refine ⟨fun i => match i with | 0 => o1 | i + 1 => f i, fun i hi => ?_, fun i b hb => ?_, fun i => ?_, fun i j b hi hj => ?_⟩
    · cases i with
      | zero => simpa using h1
      | succ i =>
        have := f1 i (by simpa using hi)
        rw [List.drop_drop] at this
        have e : (i + 1) * k = k + i * k := by rw [Nat.add_mul, Nat.one_mul, Nat.add_comm]
        rw [e]
        exact this
    · cases i with
      | zero => simp at hb; simp [hb]
      | succ i => simp at hb; simp [f2 i b hb]
    · cases i with
      | zero => exact n.1
      | succ i => exact f3 i
    · cases i with
      | zero => cases j with
        | zero => rfl
        | succ j => exact (n.2.2 b hi b (f2 j b hj) rfl).elim
      | succ i => cases j with
        | zero => exact (n.2.2 b hj b (f2 i b hi) rfl).elim
        | succ j => rw [f4 i j b hi hj]

/-- .. in another order. -/
theorem RepL.join {β : Type} (A : β → List AV) (k : Nat) {xs : List β} {vs : List Value} {f : Nat → List Nat} (hk : ∀ x ∈ xs, (A x).length = k) (hl : xs.length * k ≤ vs.length)
    (h : ∀ (i : Nat) (hi : i < xs.length), RepL P w F (A xs[i]) ((vs.drop (i * k)).take k) (f i)) (hn : ∀ i, (f i).Nodup) (hd : ∀ i j b, b ∈ f i → b ∈ f j → i = j) :
    ∀ s : List (Fin xs.length), s.Nodup → RepL P w F ((s.map fun i => xs[i]).flatMap A) (s.flatMap fun i => (vs.drop (i.1 * k)).take k) (s.flatMap fun i => f i.1) ∧ (s.flatMap fun i => f i.1).Nodup
  | [], _ => ⟨.nil _, List.nodup_nil⟩
  | i :: s, hs => by
    have n := List.nodup_cons.1 hs
    obtain ⟨h1, h2⟩ := RepL.join A k hk hl h hn hd s n.2
    have hi := i.2
    refine ⟨?_, ?_⟩
    · rw [List.map_cons, List.flatMap_cons, List.flatMap_cons, List.flatMap_cons]
      refine RepL.append (h i.1 hi) ?_ h1
      have e : i.1 * k + k ≤ xs.length * k := by
        have := Nat.mul_le_mul_right k (show i.1 + 1 ≤ xs.length from hi)
        rw [Nat.add_mul, Nat.one_mul] at this
        exact this
      refine (hk _ (List.getElem_mem hi)).trans ?_
      rw [List.length_take, List.length_drop]
      omega
    · rw [List.flatMap_cons]
      refine List.nodup_append.2 ⟨hn _, h2, fun x hx y hy e => ?_⟩
      subst e
      obtain ⟨j, hj, hy⟩ := List.mem_flatMap.1 hy
      have := hd _ _ x hx hy
      exact n.1 (by rw [Fin.ext this]; exact hj)

theorem RepC.own_inv {e : TypeId} {n : Nat} {cs : List AV} {v : Value} {os : List Nat} (h : RepC P w F (.own e n cs) v os) :
    (n = 0 ∧ cs = [] ∧ v = .slice none 0 0 ∧ os = []) ∨ ∃ (b cap : Nat) (c : Array Value) (os' : List Nat), os = b :: os' ∧ v = .slice (some ⟨b, 0, none⟩) n cap ∧ w.heap[b]? = some (.cells c e (0, 0)) ∧ n ≤ cap ∧ cap * P.cellsOf e ≤ c.size ∧ RepL P w F cs c.toList os' := by
  cases h with
  | own0 _ => exact .inl ⟨rfl, rfl, rfl, rfl⟩
  | own b _ _ cap c _ os hb hn hc hl => exact .inr ⟨b, cap, c, os, rfl, rfl, hb, hn, hc, hl⟩
theorem RepT.fn_inv {g : FuncId} {tm : Nat → Value} {oss : Nat → List Nat} {v : Value} {os : List Nat} (h : RepT P w F tm oss (.fn g []) v os) : v = .func (.func g) #[] #[] ∧ os = [] := by
  cases h with
  | cell _ _ _ h => cases h
  | fn _ _ vs os hl h =>
    have : vs = [] := List.length_eq_zero_iff.1 hl.symm
    subst this
    cases h
    exact ⟨rfl, rfl⟩

/-- A world that only drew and grew. -/
theorem Ext.grown (hD1 : dK = 1) (h : Ext (fun b => b < w.heap.size) w w') : ∃ q os', w' = grow (w.drewN q) os' := by
  refine ⟨w'.drawn - w.drawn, w'.heap.extract w.heap.size w'.heap.size, ?_⟩
  have h1 := h.os; have h2 := h.tape; have h3 := h.output; have h4 := h.size; have h5 := h.block; have h6 := h.drawn
  rw [hD1, Nat.mul_one, Nat.mul_one] at h6
  obtain ⟨hp, t, d, o, u⟩ := w
  obtain ⟨hp', t', d', o', u'⟩ := w'
  simp only at *
  subst h1 h2 h3
  have e1 : hp' = hp ++ hp'.extract hp.size hp'.size := by
    apply Array.ext_getElem?
    intro i
    rw [Array.getElem?_append]
    split
    · rename_i hi; exact h5 i hi
    · rename_i hi
      rw [Array.getElem?_extract]
      have e : hp.size + (i - hp.size) = i := by omega
      rw [e]
      split
      · rfl
      · rename_i hn
        rw [Array.getElem?_eq_none]
        omega
  have e2 : d' = d + (d' - d) := by omega
  unfold grow World.drewN
  simp only
  rw [← e1, ← e2]
end

theorem freshL_mem : ∀ {cs : List AV}, freshL cs = true ↔ ∀ c ∈ cs, freshOK c = true
  | [] => by simp [freshL]
  | c :: cs => by simp [freshL, freshL_mem (cs := cs)]

theorem flatMap_len {β : Type} (f : β → List Value) (k : Nat) (hk : ∀ x, (f x).length = k) : ∀ xs : List β, (xs.flatMap f).length = xs.length * k
  | [] => by simp
  | x :: xs => by rw [List.flatMap_cons, List.length_append, flatMap_len f k hk xs, hk, List.length_cons, Nat.add_mul, Nat.one_mul, Nat.add_comm]

theorem flatMap_get {β : Type} [Inhabited β] (f : β → List Value) (k : Nat) (hk : ∀ x, (f x).length = k) : ∀ (xs : List β) (j : Nat), j < xs.length * k → (xs.flatMap f)[j]? = some ((f xs[j / k]!)[j % k]!)
  | [], j, h => by simp at h
  | x :: xs, j, h => by
    have k0 : 0 < k := by rcases Nat.eq_zero_or_pos k with e | e; · subst e; simp at h
                          · exact e
    rw [List.flatMap_cons]
    by_cases hj : j < k
    · rw [List.getElem?_append_left (by rw [hk]; exact hj), Nat.div_eq_of_lt hj, Nat.mod_eq_of_lt hj]
      have hj' : j < (f x).length := by rw [hk]; exact hj
      simp [hj']
    · rw [List.getElem?_append_right (by rw [hk]; omega), hk]
      have e1 : j = (j - k) + k := by omega
      have hl : j - k < xs.length * k := by
        rw [List.length_cons, Nat.add_mul, Nat.one_mul] at h; omega
      rw [flatMap_get f k hk xs (j - k) hl]
      have e2 : j / k = (j - k) / k + 1 := by rw [← Nat.add_div_right _ k0, ← e1]
      have e3 : j % k = (j - k) % k := by conv => lhs; rw [e1]; rw [Nat.add_mod_right]
      rw [e2, e3]
      simp

section
variable {P : Program} {ρ : Ren}
theorem sortW_heap {α : Type} [Inhabited α] (enc : α → List Value) (k : Nat) (w : World) (b off m : Nat) (dk : Array α) (os : Array Obj) {z : Nat} (hz : z < w.heap.size) (hne : z ≠ b) :
    (sortWorldK enc k w b off m dk os).heap[z]? = w.heap[z]? := by
  unfold sortWorldK
  rw [heap_grow_old _ _ (by rw [size_putRowK]; exact hz)]
  simp [putRowK, putRow, mapBlock, Sort.ahead, Array.getElem?_modify, Ne.symm hne]

theorem sortW_blk {α : Type} [Inhabited α] (enc : α → List Value) (k : Nat) (w : World) (b off m : Nat) (dk : Array α) (os : Array Obj) {c : Array Value} {e : TypeId} {fr : Nat × Nat} (hb : w.heap[b]? = some (.cells c e fr)) :
    (sortWorldK enc k w b off m dk os).heap[b]? = some (.cells (putCells id off (flatK enc k dk) c) e fr) := by
  have hz : b < w.heap.size := (Array.getElem?_eq_some_iff.1 hb).1
  unfold sortWorldK
  rw [heap_grow_old _ _ (by rw [size_putRowK]; exact hz)]
  simp [putRowK, putRow, mapBlock, Sort.ahead, Array.getElem?_modify, hb, onCells]

theorem Ext.sorted {α : Type} [Inhabited α] (enc : α → List Value) (k : Nat) (w : World) (b m : Nat) (dk : Array α) (os : Array Obj) {G : Nat → Prop} (hG : ∀ z, G z → z < w.heap.size ∧ z ≠ b) : Ext G w (sortWorldK enc k w b 0 m dk os) where
  os := rfl
  tape := rfl
  output := rfl
  size := by unfold sortWorldK; rw [size_grow, size_putRowK]; exact Nat.le_add_right _ _
  block := fun z hz => sortW_heap enc k w b 0 m dk os (hG z hz).1 (hG z hz).2
  drawn := Nat.mul_le_mul_right _ (Nat.le_add_right _ _)

/-- What the row holds is as the kit says it. -/
theorem holdsK_cells {n : Nat} (hn : 0 < n) (k : Nat) (w : World) (b : Nat) {c : Array Value} {e : TypeId} (hb : w.heap[b]? = some (.cells c e (0, 0))) (hs : n * k ≤ c.size) (d : Array (Fin n)) [Inhabited (Fin n)] (hd : d.size = n) (hv : ∀ i : Nat, i < n → (d[i]!).1 = i) :
    HoldsK (fun i : Fin n => (c.toList.drop (i.1 * k)).take k) k w b 0 d := by
  intro j hj
  rw [size_flatK, hd] at hj
  have k0 : 0 < k := by rcases Nat.eq_zero_or_pos k with e | e; · subst e; simp at hj
                        · exact e
  have hq : j / k < n := Nat.div_lt_of_lt_mul (by rw [Nat.mul_comm]; exact hj)
  have hm := Nat.mod_lt j k0
  have he : j / k * k + j % k = j := by rw [Nat.mul_comm]; exact Nat.div_add_mod j k
  have hjc : j < c.size := by omega
  refine ⟨?_, by simp [World.frozen?, hb]⟩
  rw [get_flatK _ _ _ _ (by rw [hd]; exact hj)]
  simp only [World.cell?, hb, Nat.zero_add, hv _ hq, id]
  simp [hm, he, hjc]

set_option maxHeartbeats 1000000 in
/-- slices.SortFunc: a row of structs of ours, sorted in place. -/
theorem sort_mcon (L : SlLaysF0.n6 P ρ) (k : Nat) (aE : ∀ w, (isAgg (ρ.t 24)).run P w = .ok true w) (zE : ∀ w, (Go.sizeOf (ρ.t 24)).run P w = .ok k w) (hen : Enters P (ρ.f 6)) {β : Type} (A : β → List AV) (cf : β → β → Int)
    (hO : SWO (ltOf cf)) (g : FuncId) (e : TypeId) (hce : P.cellsOf e = k) (xs : List β) (hk : ∀ x ∈ xs, (A x).length = k) (hfr : freshL (xs.flatMap A) = true)
    (hc : ∀ x ∈ xs, ∀ y ∈ xs, @Con ⟨1⟩ P g [.agg (frzL (A x)), .agg (frzL (A y))] (.int (cf x y))) (hsz : xs.length < 4611686018427387904) :
    ∃ ys : List β, ys.Perm xs ∧ ys.Pairwise (fun x y => ¬ cf y x < 0) ∧ MCon P (ρ.f 6) [.own e xs.length (xs.flatMap A), .val (.func (.func g) #[] #[])] (.tup []) [.own e xs.length (ys.flatMap A), .any] := by
  have inv : ∀ {w : World} {vs : List Value} {os : List Nat} {F : Nat → Prop}, [AV.own e xs.length (xs.flatMap A), .val (.func (.func g) #[] #[])].length = vs.length →
      (∀ tm oss, RepTL P w F tm oss [AV.own e xs.length (xs.flatMap A), .val (.func (.func g) #[] #[])] vs os) →
      ∃ v, vs = [v, .func (.func g) #[] #[]] ∧ RepC P w F (.own e xs.length (xs.flatMap A)) v os := by
    intro w vs os F hl hrep
    have hr := hrep (fun _ => undef) (fun _ => [])
    obtain ⟨v1, v2, rfl⟩ : ∃ v1 v2, vs = [v1, v2] := by
      match vs, hl with
      | [a, b], _ => exact ⟨a, b, rfl⟩
    cases hr with
    | cons _ _ o1 _ _ o2 h1 h2 =>
      cases h2 with
      | cons _ _ o3 _ _ o4 h3 h4 =>
        cases h4
        have e3 : o3 = [] := h3.noOwn (by simp [hasOwn])
        subst e3
        rw [h3.val_eq]
        exact ⟨v1, rfl, by simpa using h1.ofKids (by simp [kids])⟩
  by_cases hx0 : xs = []
  · subst hx0
    refine ⟨[], List.Perm.refl _, List.Pairwise.nil, hen, ?_⟩
    intro w vs os hl hos hosl hrep
    obtain ⟨v, rfl, hv⟩ := inv hl hrep
    have key : ∃ p cap, v = .slice p 0 cap := by
      rcases hv.own_inv with ⟨_, _, h, _⟩ | ⟨b, cap, c, os', _, h, _⟩
      · exact ⟨none, 0, h⟩
      · exact ⟨_, cap, h⟩
    obtain ⟨p, cap, rfl⟩ := key
    refine (AnyF.slices_SortFunc_none L p cap (.func (.func g) #[] #[]) w).mono ?_
    rintro e' w' ⟨rfl, rfl⟩
    refine ⟨_, [], os, rfl, Ext.refl _ _, fun F tm oss => .tup [] [] [] rfl (.nil _), fun F tm oss => ?_, rfl, by simpa using hos, fun b hb => ?_⟩
    · have := RepTL.cons (tm := tm) (oss := oss) _ _ _ _ _ _ (RepT.cell _ _ _ (hv.fresh (F' := F) (by simp [freshOK, freshL]))) (RepTL.cons .any (.func (.func g) #[] #[]) [] [] [] [] (.any _) (.nil _))
      simpa using this
    · simp at hb
      exact ⟨.inl hb, hosl b hb⟩
  · have hn0 : 0 < xs.length := List.length_pos_iff.2 hx0
    let inst : Inhabited (Fin xs.length) := ⟨⟨0, hn0⟩⟩
    let d : Array (Fin xs.length) := Array.ofFn id
    have hd : d.size = xs.length := by simp [d]
    have hdv : ∀ i : Nat, i < xs.length → (d[i]!).1 = i := fun i hi => by
      rw [getElem!_pos d i (by rw [hd]; exact hi)]; simp [d]
    let cf' : Fin xs.length → Fin xs.length → Int := fun i j => cf xs[i] xs[j]
    have hO' : SWO (ltOf cf') := ⟨fun x => hO.irrefl _, fun x y z => hO.trans _ _ _, fun x y z => hO.ntrans _ _ _⟩
    have hsort := pdq_sorts (ltOf cf') hO' d 0 d.size (Lib.bitLen d.size) true true (Nat.zero_le _) (Nat.le_refl _) (Or.inl rfl)
    let d' := pdq (ltOf cf') d 0 d.size (Lib.bitLen d.size) true true
    have hp : d'.toList.Perm d.toList := by
      have := hsort.1.2.2
      have e1 : d'.size = d.size := hsort.1.1
      have e2 : d'.extract 0 d.size = d' := by rw [← e1]; exact Array.extract_size
      have e3 : d.extract 0 d.size = d := Array.extract_size
      change (d'.extract 0 d.size).toList.Perm _ at this
      rw [e2, e3] at this
      exact this
    have hd' : d'.size = xs.length := hsort.1.1.trans hd
    have hnd : d.toList.Nodup := by
      refine List.pairwise_iff_getElem.2 fun i j hi hj hij => ?_
      simp [d, Fin.ext_iff]
      omega
    refine ⟨d'.toList.map fun i => xs[i], ?_, ?_, hen, ?_⟩
    · have e1 : d.toList.map (fun i => xs[i]) = xs := by
        simp only [d, Array.toList_ofFn]
        apply List.ext_getElem <;> simp
      have := hp.map (fun i : Fin xs.length => xs[i])
      rw [e1] at this
      exact this
    · rw [List.pairwise_map]
      refine List.pairwise_iff_getElem.2 fun i j hi hj hij => ?_
      have := hsort.2 i j (Nat.zero_le _) hij (by simpa [hd, hd'] using hj)
      have a1 : d'[i]! = d'.toList[i] := by rw [getElem!_pos d' i (by simpa using hi)]; simp
      have a2 : d'[j]! = d'.toList[j] := by rw [getElem!_pos d' j (by simpa using hj)]; simp
      change ltOf cf' d'[j]! d'[i]! = false at this
      rw [a1, a2] at this
      simpa [ltOf, cf'] using this
    · intro w vs os hl hos hosl hrep
      obtain ⟨v, rfl, hv⟩ := inv hl hrep
      rcases hv.own_inv with ⟨h0, _⟩ | ⟨b, cap, c, os', rfl, rfl, hb, hnc, hcs, hL⟩
      · omega
      rw [hce] at hcs
      have hle : xs.length * k ≤ c.size := Nat.le_trans (Nat.mul_le_mul_right k hnc) hcs
      have hnod := List.nodup_cons.1 hos
      obtain ⟨f, f1, f2, f3, f4⟩ := RepL.els A k hk hL hnod.2
      have hbz : b < w.heap.size := hosl b (by simp)
      let enc : Fin xs.length → List Value := fun i => (c.toList.drop (i.1 * k)).take k
      have hek : ∀ x, (enc x).length = k := fun i => by
        have e1 : i.1 * k + k ≤ xs.length * k := by
          have := Nat.mul_le_mul_right k (show i.1 + 1 ≤ xs.length from i.2)
          rw [Nat.add_mul, Nat.one_mul] at this
          exact this
        simp only [enc, List.length_take, List.length_drop, Array.length_toList]
        omega
      have he1 : ∀ x, ∀ v ∈ enc x, v.oneCell' = true := fun i v hv => by
        have h1 := (f1 i.1 i.2).oneCell v
        rw [hk _ (List.getElem_mem i.2)] at h1
        refine h1 ?_
        rw [List.take_take, Nat.min_self]
        exact hv
      have hcmp : CmpLays P g #[] enc k cf' b 0 d.size w := by
        intro m os2 dk hdk x y
        let W := sortWorldK enc k w b 0 m dk os2
        have hW : ∀ z, z < w.heap.size ∧ z ≠ b → W.heap[z]? = w.heap[z]? := fun z hz => sortW_heap enc k w b 0 m dk os2 hz.1 hz.2
        have hWs : w.heap.size ≤ W.heap.size := (Ext.sorted enc k w b m dk os2 (G := fun z => z < w.heap.size ∧ z ≠ b) (fun _ h => h)).size
        have hx : ∀ i : Fin xs.length, RepL P W (fun z => z < W.heap.size) (frzL (A xs[i])) (enc i) [] := fun i => by
          have h1 := (f1 i.1 i.2).frz (F' := fun z => z < w.heap.size ∧ z ≠ b) (fun z hz => ⟨hz.1, fun e => hz.2 (by simp [e])⟩)
            (fun z hz => ⟨hosl z (by simp [f2 _ z hz]), fun e => hnod.1 (e ▸ f2 _ z hz)⟩)
          exact h1.mono (fun z hz => Nat.lt_of_lt_of_le hz.1 hWs) (fun z hz => by
            rcases hz with hz | hz
            · exact hW z hz
            · simp at hz)
        have hfl : ∀ i : Fin xs.length, (frzL (A xs[i])).length = (enc i).length := fun i => by
          rw [frzL_eq, List.length_map, hek]; exact hk _ (List.getElem_mem i.2)
        have hcc := (hc xs[x] (List.getElem_mem x.2) xs[y] (List.getElem_mem y.2)).2 W [.agg (enc x).toArray, .agg (enc y).toArray] rfl
          (fun tm oss => .cons _ _ [] _ _ [] (.agg _ _ [] (hfl x) (hx x).toT) (.cons _ _ [] _ _ [] (.agg _ _ [] (hfl y) (hx y).toT) (.nil _)))
        refine hcc.mono ?_
        rintro e' w' ⟨v, o, rfl, h1, h2, _⟩
        refine ⟨?_, @Ext.grown ⟨1⟩ _ _ rfl h1⟩
        rw [(h2 (fun _ => undef) (fun _ => [])).val_eq]
      have hH : HoldsK enc k w b 0 d := holdsK_cells hn0 k w b hb hle d hd hdv
      have key := AnyQ.slices_SortFunc_eq L k aE zE enc hek he1 cf' hO' g #[] b 0 cap d w (fun args w => run_callFunc (hc _ (List.getElem_mem hn0) _ (List.getElem_mem hn0)).1 args) hcmp hH hbz (by rw [hd]; exact hsz)
      rw [hd] at key
      refine key.mono ?_
      rintro e' w' ⟨rfl, m, os2, rfl⟩
      have hd2 : pdq (ltOf cf') d 0 xs.length (Lib.bitLen xs.length) true true = d' := by simp only [d', hd]
      rw [hd2]
      have hnd' : d'.toList.Nodup := hp.nodup_iff.2 hnd
      obtain ⟨j1, j2⟩ := RepL.join (P := P) (w := w) A k hk (by simpa using hle) f1 f3 f4 d'.toList hnd'
      have hEx := Ext.sorted enc k w b m d' os2 (G := fun z => z < w.heap.size ∧ z ∉ b :: os') (fun z hz => ⟨hz.1, fun e => hz.2 (by simp [e])⟩)
      have hsub : ∀ z, z ∈ d'.toList.flatMap (fun i => f i.1) → z ∈ os' := fun z hz => by
        obtain ⟨i, _, h⟩ := List.mem_flatMap.1 hz
        exact f2 _ z h
      refine ⟨_, [], b :: d'.toList.flatMap (fun i => f i.1), rfl, hEx, fun F tm oss => .tup [] [] [] rfl (.nil _), fun F tm oss => ?_, rfl, ?_, fun z hz => ?_⟩
      · have hcells : (putCells id 0 (flatK enc k d') c).toList.take (xs.length * k) = d'.toList.flatMap enc := by
          apply List.ext_getElem?
          intro j
          by_cases hj : j < xs.length * k
          · rw [flatMap_get enc k hek _ _ (by simpa [hd'] using hj)]
            have hjc : j < c.size := by omega
            rw [List.getElem?_take_of_lt hj]
            have g1 := get_flatK enc k d' j (by rw [hd']; exact hj)
            rw [getElem!_pos _ j (by rw [size_flatK, hd']; exact hj)] at g1
            have k0 : 0 < k := by rcases Nat.eq_zero_or_pos k with h | h; · subst h; simp at hj
                                  · exact h
            have hq : j / k < d'.size := by rw [hd']; exact Nat.div_lt_of_lt_mul (by rw [Nat.mul_comm]; exact hj)
            rw [getElem!_pos d' (j / k) hq] at g1
            simp [putCells, hjc, hd', hj, hq]
            simpa [Array.getElem?_eq_getElem hq] using g1
          · rw [List.getElem?_eq_none (by simp; omega), List.getElem?_eq_none]
            rw [flatMap_len enc k hek, Array.length_toList, hd']
            omega
        have hL2 : RepL P (sortWorldK enc k w b 0 m d' os2) F ((d'.toList.map fun i => xs[i]).flatMap A) (putCells id 0 (flatK enc k d') c).toList (d'.toList.flatMap fun i => f i.1) := by
          refine RepL.of_take (k := xs.length * k) ?_
          rw [hcells]
          have j3 : freshL ((d'.toList.map fun i => xs[i]).flatMap A) = true := by
            refine freshL_mem.2 fun c hc => ?_
            obtain ⟨x, hx, h⟩ := List.mem_flatMap.1 hc
            obtain ⟨i, _, rfl⟩ := List.mem_map.1 hx
            exact freshL_mem.1 hfr c (List.mem_flatMap.2 ⟨_, List.getElem_mem i.2, h⟩)
          refine (RepL.mono (F := fun z => z < w.heap.size ∧ z ∉ b :: os') (fun _ h => h) j1 (fun z hz => ?_)).fresh j3
          rcases hz with hz | hz
          · exact hEx.block z hz
          · exact sortW_heap enc k w b 0 m d' os2 (hosl z (by simp [hsub z hz])) (fun e => hnod.1 (e ▸ hsub z hz))
        have hown : RepC P (sortWorldK enc k w b 0 m d' os2) F (.own e xs.length ((d'.toList.map fun i => xs[i]).flatMap A)) (.slice (some ⟨b, 0, none⟩) xs.length cap) (b :: d'.toList.flatMap fun i => f i.1) :=
          .own b e xs.length cap _ _ _ (sortW_blk enc k w b 0 m d' os2 hb) hnc (by rw [hce]; simpa [putCells] using hcs) hL2
        have := RepTL.cons (tm := tm) (oss := oss) _ _ _ _ _ _ (RepT.cell _ _ _ hown) (RepTL.cons .any (.func (.func g) #[] #[]) [] [] [] [] (.any _) (.nil _))
        simpa using this
      · simp only [List.nil_append]
        exact List.nodup_cons.2 ⟨fun h => hnod.1 (hsub _ h), j2⟩
      · simp only [List.not_mem_nil, false_or, List.mem_cons] at hz
        refine ⟨.inl ?_, ?_⟩
        · rcases hz with rfl | hz
          · simp
          · simp [hsub z hz]
        · refine Nat.lt_of_lt_of_le ?_ hEx.size
          rcases hz with rfl | hz
          · exact hbz
          · exact hosl z (by simp [hsub z hz])
end
end Go.Abs

/- slices.SortFunc at elements of one cell, as a contract of this layer. It holds over any program. -/
set_option linter.unusedSectionVars false
set_option linter.unusedVariables false
set_option linter.unusedSimpArgs false
namespace Go.Abs
variable [DrawK]
open Go.RowKit (Below)
open Go.Proofs Go.Sort Go.Shelf Go.RowKit Go.Lib
/-- A row of cells, as a row of elements of one cell. -/
theorem sortW1 {α : Type} [Inhabited α] (enc : α → Value) (w : World) (blk off m : Nat) (dk : Array α) (os : Array Obj) : sortWorld enc w blk off m dk os = sortWorldK (fun x => [enc x]) 1 w blk off m dk os := by
  unfold sortWorld sortWorldK putRowK
  congr 1
  unfold putRow
  congr 1
  funext c
  unfold putCells
  refine Array.ext (by simp) fun i h1 h2 => ?_
  simp only [Array.getElem_mapIdx, size_flatK, Nat.mul_one, id]
  split
  · rename_i h
    rw [get_flatK _ _ _ _ (by omega), Nat.div_one, Nat.mod_one]; rfl
  · rfl
section
variable {P : Program} {ρ : Ren}
set_option maxHeartbeats 1000000 in
/-- slices.SortFunc: a row of cells of ours, sorted in place. -/
theorem sort_mcon1 (L : SlLaysF.n6 P ρ) (hen : Enters P (ρ.f 6)) {β : Type} (B : β → AV) (cf : β → β → Int)
    (hO : SWO (ltOf cf)) (g : FuncId) (e : TypeId) (hce : P.cellsOf e = 1) (xs : List β) (hfr : freshL (xs.flatMap fun x => [B x]) = true)
    (hc : ∀ x ∈ xs, ∀ y ∈ xs, @Con ⟨1⟩ P g [frz (B x), frz (B y)] (.int (cf x y))) (hsz : xs.length < 4611686018427387904) :
    ∃ ys : List β, ys.Perm xs ∧ ys.Pairwise (fun x y => ¬ cf y x < 0) ∧ MCon P (ρ.f 6) [.own e xs.length (xs.flatMap fun x => [B x]), .val (.func (.func g) #[] #[])] (.tup []) [.own e xs.length (ys.flatMap fun x => [B x]), .any] := by
  let A : β → List AV := fun x => [B x]
  let k : Nat := 1
  have hk : ∀ x ∈ xs, (A x).length = k := fun _ _ => rfl
  have inv : ∀ {w : World} {vs : List Value} {os : List Nat} {F : Nat → Prop}, [AV.own e xs.length (xs.flatMap A), .val (.func (.func g) #[] #[])].length = vs.length →
      (∀ tm oss, RepTL P w F tm oss [AV.own e xs.length (xs.flatMap A), .val (.func (.func g) #[] #[])] vs os) →
      ∃ v, vs = [v, .func (.func g) #[] #[]] ∧ RepC P w F (.own e xs.length (xs.flatMap A)) v os := by
    intro w vs os F hl hrep
    have hr := hrep (fun _ => undef) (fun _ => [])
    obtain ⟨v1, v2, rfl⟩ : ∃ v1 v2, vs = [v1, v2] := by
      match vs, hl with
      | [a, b], _ => exact ⟨a, b, rfl⟩
    cases hr with
    | cons _ _ o1 _ _ o2 h1 h2 =>
      cases h2 with
      | cons _ _ o3 _ _ o4 h3 h4 =>
        cases h4
        have e3 : o3 = [] := h3.noOwn (by simp [hasOwn])
        subst e3
        rw [h3.val_eq]
        exact ⟨v1, rfl, by simpa using h1.ofKids (by simp [kids])⟩
  by_cases hx0 : xs = []
  · subst hx0
    refine ⟨[], List.Perm.refl _, List.Pairwise.nil, hen, ?_⟩
    intro w vs os hl hos hosl hrep
    obtain ⟨v, rfl, hv⟩ := inv hl hrep
    have key : ∃ p cap, v = .slice p 0 cap := by
      rcases hv.own_inv with ⟨_, _, h, _⟩ | ⟨b, cap, c, os', _, h, _⟩
      · exact ⟨none, 0, h⟩
      · exact ⟨_, cap, h⟩
    obtain ⟨p, cap, rfl⟩ := key
    refine (AnyF.slices_SortFunc_none (P := P) (ρ := ρ) { L with } p cap (.func (.func g) #[] #[]) w).mono ?_
    rintro e' w' ⟨rfl, rfl⟩
    refine ⟨_, [], os, rfl, Ext.refl _ _, fun F tm oss => .tup [] [] [] rfl (.nil _), fun F tm oss => ?_, rfl, by simpa using hos, fun b hb => ?_⟩
    · have := RepTL.cons (tm := tm) (oss := oss) _ _ _ _ _ _ (RepT.cell _ _ _ (hv.fresh (F' := F) (by simp [freshOK, freshL]))) (RepTL.cons .any (.func (.func g) #[] #[]) [] [] [] [] (.any _) (.nil _))
      simpa using this
    · simp at hb
      exact ⟨.inl hb, hosl b hb⟩
  · have hn0 : 0 < xs.length := List.length_pos_iff.2 hx0
    let inst : Inhabited (Fin xs.length) := ⟨⟨0, hn0⟩⟩
    let d : Array (Fin xs.length) := Array.ofFn id
    have hd : d.size = xs.length := by simp [d]
    have hdv : ∀ i : Nat, i < xs.length → (d[i]!).1 = i := fun i hi => by
      rw [getElem!_pos d i (by rw [hd]; exact hi)]; simp [d]
    let cf' : Fin xs.length → Fin xs.length → Int := fun i j => cf xs[i] xs[j]
    have hO' : SWO (ltOf cf') := ⟨fun x => hO.irrefl _, fun x y z => hO.trans _ _ _, fun x y z => hO.ntrans _ _ _⟩
    have hsort := pdq_sorts (ltOf cf') hO' d 0 d.size (Lib.bitLen d.size) true true (Nat.zero_le _) (Nat.le_refl _) (Or.inl rfl)
    let d' := pdq (ltOf cf') d 0 d.size (Lib.bitLen d.size) true true
    have hp : d'.toList.Perm d.toList := by
      have := hsort.1.2.2
      have e1 : d'.size = d.size := hsort.1.1
      have e2 : d'.extract 0 d.size = d' := by rw [← e1]; exact Array.extract_size
      have e3 : d.extract 0 d.size = d := Array.extract_size
      change (d'.extract 0 d.size).toList.Perm _ at this
      rw [e2, e3] at this
      exact this
    have hd' : d'.size = xs.length := hsort.1.1.trans hd
    have hnd : d.toList.Nodup := by
      refine List.pairwise_iff_getElem.2 fun i j hi hj hij => ?_
      simp [d, Fin.ext_iff]
      omega
    refine ⟨d'.toList.map fun i => xs[i], ?_, ?_, hen, ?_⟩
    · have e1 : d.toList.map (fun i => xs[i]) = xs := by
        simp only [d, Array.toList_ofFn]
        apply List.ext_getElem <;> simp
      have := hp.map (fun i : Fin xs.length => xs[i])
      rw [e1] at this
      exact this
    · rw [List.pairwise_map]
      refine List.pairwise_iff_getElem.2 fun i j hi hj hij => ?_
      have := hsort.2 i j (Nat.zero_le _) hij (by simpa [hd, hd'] using hj)
      have a1 : d'[i]! = d'.toList[i] := by rw [getElem!_pos d' i (by simpa using hi)]; simp
      have a2 : d'[j]! = d'.toList[j] := by rw [getElem!_pos d' j (by simpa using hj)]; simp
      change ltOf cf' d'[j]! d'[i]! = false at this
      rw [a1, a2] at this
      simpa [ltOf, cf'] using this
    · intro w vs os hl hos hosl hrep
      obtain ⟨v, rfl, hv⟩ := inv hl hrep
      rcases hv.own_inv with ⟨h0, _⟩ | ⟨b, cap, c, os', rfl, rfl, hb, hnc, hcs, hL⟩
      · omega
      rw [hce] at hcs
      have hle : xs.length * k ≤ c.size := Nat.le_trans (Nat.mul_le_mul_right k hnc) hcs
      have hnod := List.nodup_cons.1 hos
      obtain ⟨f, f1, f2, f3, f4⟩ := RepL.els A k hk hL hnod.2
      have hbz : b < w.heap.size := hosl b (by simp)
      let enc : Fin xs.length → List Value := fun i => (c.toList.drop (i.1 * k)).take k
      have hek : ∀ x, (enc x).length = k := fun i => by
        have e1 : i.1 * k + k ≤ xs.length * k := by
          have := Nat.mul_le_mul_right k (show i.1 + 1 ≤ xs.length from i.2)
          rw [Nat.add_mul, Nat.one_mul] at this
          exact this
        simp only [enc, List.length_take, List.length_drop, Array.length_toList]
        omega
      have he1 : ∀ x, ∀ v ∈ enc x, v.oneCell' = true := fun i v hv => by
        have h1 := (f1 i.1 i.2).oneCell v
        rw [hk _ (List.getElem_mem i.2)] at h1
        refine h1 ?_
        rw [List.take_take, Nat.min_self]
        exact hv
      let en1 : Fin xs.length → Value := fun i => c.toList[i.1]?.getD undef
      have hen1 : ∀ i, enc i = [en1 i] := fun i => by
        have hi : i.1 < c.toList.length := by
          have h0 := i.2
          have h1 : xs.length * 1 ≤ c.size := hle
          have h2 : c.toList.length = c.size := Array.length_toList
          omega
        show (c.toList.drop (i.1 * 1)).take 1 = [c.toList[i.1]?.getD undef]
        rw [Nat.mul_one, List.drop_eq_getElem_cons hi, List.getElem?_eq_getElem hi]
        rfl
      have hsw : ∀ m (dk : Array (Fin xs.length)) os2, sortWorld en1 w b 0 m dk os2 = sortWorldK enc k w b 0 m dk os2 := fun m dk os2 => by
        have e1 : enc = fun i => [en1 i] := funext hen1
        rw [e1]
        exact sortW1 en1 w b 0 m dk os2
      have h11 : OneCell en1 := fun i => he1 i (en1 i) (by rw [hen1]; simp)
      have hcmp : CmpLays1 P g #[] en1 cf' b 0 d.size w := by
        intro m os2 dk hdk x y
        rw [hsw]
        let W := sortWorldK enc k w b 0 m dk os2
        have hW : ∀ z, z < w.heap.size ∧ z ≠ b → W.heap[z]? = w.heap[z]? := fun z hz => sortW_heap enc k w b 0 m dk os2 hz.1 hz.2
        have hWs : w.heap.size ≤ W.heap.size := (Ext.sorted enc k w b m dk os2 (G := fun z => z < w.heap.size ∧ z ≠ b) (fun _ h => h)).size
        have hx : ∀ i : Fin xs.length, RepC P W (fun z => z < W.heap.size) (frz (B xs[i])) (en1 i) [] := fun i => by
          have h1 := (f1 i.1 i.2).frz (F' := fun z => z < w.heap.size ∧ z ≠ b) (fun z hz => ⟨hz.1, fun e => hz.2 (by simp [e])⟩)
            (fun z hz => ⟨hosl z (by simp [f2 _ z hz]), fun e => hnod.1 (e ▸ f2 _ z hz)⟩)
          have h2 := h1.mono (fun z hz => Nat.lt_of_lt_of_le hz.1 hWs) (fun z hz => by
            rcases hz with hz | hz
            · exact hW z hz
            · simp at hz)
          have e2 : (c.toList.drop (i.1 * k)).take k = [en1 i] := hen1 i
          rw [e2] at h2
          exact h2.one
        have hcc := (hc xs[x] (List.getElem_mem x.2) xs[y] (List.getElem_mem y.2)).2 W [en1 x, en1 y] rfl
          (fun tm oss => .cons _ _ [] _ _ [] (.cell _ _ _ (hx x)) (.cons _ _ [] _ _ [] (.cell _ _ _ (hx y)) (.nil _)))
        refine hcc.mono ?_
        rintro e' w' ⟨v, o, rfl, h1, h2, _⟩
        refine ⟨?_, @Ext.grown ⟨1⟩ _ _ rfl h1⟩
        rw [(h2 (fun _ => undef) (fun _ => [])).val_eq]
      have hH : HoldsK enc k w b 0 d := holdsK_cells hn0 k w b hb hle d hd hdv
      have hH1 : Holds en1 w b 0 d := fun j hj => by
        have h := hH j (by rw [size_flatK]; show j < d.size * 1; omega)
        have e1 : (flatK enc k d)[j]! = en1 d[j]! := by
          rw [get_flatK enc k d j (by show j < d.size * 1; omega), hen1]
          show [en1 d[j / 1]!][j % 1]! = _
          rw [Nat.div_one, Nat.mod_one]; rfl
        rw [e1] at h
        exact h
      have key := Any.slices_SortFunc_eq L en1 h11 cf' hO' g #[] b 0 cap d w (fun args w => run_callFunc (hc _ (List.getElem_mem hn0) _ (List.getElem_mem hn0)).1 args) hcmp hH1 hbz (by rw [hd]; exact hsz)
      rw [hd] at key
      refine key.mono ?_
      rintro e' w' ⟨rfl, m, os2, hw'⟩
      rw [hsw] at hw'
      subst hw'
      have hd2 : pdq (ltOf cf') d 0 xs.length (Lib.bitLen xs.length) true true = d' := by simp only [d', hd]
      rw [hd2]
      have hnd' : d'.toList.Nodup := hp.nodup_iff.2 hnd
      obtain ⟨j1, j2⟩ := RepL.join (P := P) (w := w) A k hk (by simpa using hle) f1 f3 f4 d'.toList hnd'
      have hEx := Ext.sorted enc k w b m d' os2 (G := fun z => z < w.heap.size ∧ z ∉ b :: os') (fun z hz => ⟨hz.1, fun e => hz.2 (by simp [e])⟩)
      have hsub : ∀ z, z ∈ d'.toList.flatMap (fun i => f i.1) → z ∈ os' := fun z hz => by
        obtain ⟨i, _, h⟩ := List.mem_flatMap.1 hz
        exact f2 _ z h
      refine ⟨_, [], b :: d'.toList.flatMap (fun i => f i.1), rfl, hEx, fun F tm oss => .tup [] [] [] rfl (.nil _), fun F tm oss => ?_, rfl, ?_, fun z hz => ?_⟩
      · have hcells : (putCells id 0 (flatK enc k d') c).toList.take (xs.length * k) = d'.toList.flatMap enc := by
          apply List.ext_getElem?
          intro j
          by_cases hj : j < xs.length * k
          · rw [flatMap_get enc k hek _ _ (by simpa [hd'] using hj)]
            have hjc : j < c.size := by omega
            rw [List.getElem?_take_of_lt hj]
            have g1 := get_flatK enc k d' j (by rw [hd']; exact hj)
            rw [getElem!_pos _ j (by rw [size_flatK, hd']; exact hj)] at g1
            have k0 : 0 < k := Nat.one_pos
            have hq : j / k < d'.size := by rw [hd']; exact Nat.div_lt_of_lt_mul (by rw [Nat.mul_comm]; exact hj)
            rw [getElem!_pos d' (j / k) hq] at g1
            simp [putCells, hjc, hd', hj, hq]
            simpa [Array.getElem?_eq_getElem hq] using g1
          · rw [List.getElem?_eq_none (by simp; omega), List.getElem?_eq_none]
            rw [flatMap_len enc k hek, Array.length_toList, hd']
            omega
        have hL2 : RepL P (sortWorldK enc k w b 0 m d' os2) F ((d'.toList.map fun i => xs[i]).flatMap A) (putCells id 0 (flatK enc k d') c).toList (d'.toList.flatMap fun i => f i.1) := by
          refine RepL.of_take (k := xs.length * k) ?_
          rw [hcells]
          have j3 : freshL ((d'.toList.map fun i => xs[i]).flatMap A) = true := by
            refine freshL_mem.2 fun c hc => ?_
            obtain ⟨x, hx, h⟩ := List.mem_flatMap.1 hc
            obtain ⟨i, _, rfl⟩ := List.mem_map.1 hx
            exact freshL_mem.1 hfr c (List.mem_flatMap.2 ⟨_, List.getElem_mem i.2, h⟩)
          refine (RepL.mono (F := fun z => z < w.heap.size ∧ z ∉ b :: os') (fun _ h => h) j1 (fun z hz => ?_)).fresh j3
          rcases hz with hz | hz
          · exact hEx.block z hz
          · exact sortW_heap enc k w b 0 m d' os2 (hosl z (by simp [hsub z hz])) (fun e => hnod.1 (e ▸ hsub z hz))
        have hown : RepC P (sortWorldK enc k w b 0 m d' os2) F (.own e xs.length ((d'.toList.map fun i => xs[i]).flatMap A)) (.slice (some ⟨b, 0, none⟩) xs.length cap) (b :: d'.toList.flatMap fun i => f i.1) :=
          .own b e xs.length cap _ _ _ (sortW_blk enc k w b 0 m d' os2 hb) hnc (by rw [hce]; simpa [putCells] using hcs) hL2
        have := RepTL.cons (tm := tm) (oss := oss) _ _ _ _ _ _ (RepT.cell _ _ _ hown) (RepTL.cons .any (.func (.func g) #[] #[]) [] [] [] [] (.any _) (.nil _))
        simpa using this
      · simp only [List.nil_append]
        exact List.nodup_cons.2 ⟨fun h => hnod.1 (hsub _ h), j2⟩
      · simp only [List.not_mem_nil, false_or, List.mem_cons] at hz
        refine ⟨.inl ?_, ?_⟩
        · rcases hz with rfl | hz
          · simp
          · simp [hsub z hz]
        · refine Nat.lt_of_lt_of_le ?_ hEx.size
          rcases hz with rfl | hz
          · exact hbz
          · exact hosl z (by simp [hsub z hz])
end
end Go.Abs

/- Loops whose tracked slots may hold aliases of one another. It holds over any program. -/
set_option linter.unusedSectionVars false
set_option linter.unusedVariables false
set_option linter.unusedSimpArgs false
namespace Go.Abs
variable [DrawK]
open Go.RowKit (Below)

theorem weak_ofA {W V : List Nat} {T : List (Nat × AV)} {S0 S : St} (h1 : Off W S0 S) (h2 : Trk S T) (h3 : Nb V T) (hV : ∀ i, i ∈ W → i ∉ V → (T.lookup i).isSome = true) (hVW : ∀ i ∈ V, i ∈ W) : Weak S (reset W T S0) := by
  intro P N G w0 a w h
  obtain ⟨F, oss, h⟩ := h
  let oss' : Nat → List Nat := fun i => if (T.lookup i).isNone && W.contains i then [] else oss i
  have hsub : ∀ i b, b ∈ oss' i → b ∈ oss i := fun i b hb => by
    simp only [oss'] at hb; split at hb
    · simp at hb
    · exact hb
  have hkV : ∀ s p u, ¬ s ∈ V → walkIn w (oss s) (tmo a s) p u → walkIn w (oss' s) (tmo a s) p u := by
    intro s p u hs k
    have : oss' s = oss s := by
      simp only [oss']
      refine if_neg ?_
      by_cases hw : s ∈ W
      · have := hV s hw hs
        cases hl : T.lookup s with
        | none => rw [hl] at this; simp at this
        | some v => simp
      · simp [hw]
    rw [this]; exact k
  have hk : ∀ s p u, ¬ s ∈ W → walkIn w (oss s) (tmo a s) p u → walkIn w (oss' s) (tmo a s) p u := fun s p u hs => hkV s p u fun h => hs (hVW s h)
  refine ⟨F, oss', { sz := h.sz, kp := h.kp, df := h.df, ext := h.ext, fB := h.fB, fN := h.fN, gw := h.gw, oG := fun i b hb => h.oG i b (hsub i b hb), xG := by simp, fw := h.fw, rep := fun i => ?_, own := fun i b hb => h.own i b (hsub i b hb), nd := fun i => ?_, dj := fun i j b hi hj => h.dj i j b (hsub i b hi) (hsub j b hj), xo := by simp, xn := List.nodup_nil, xd := by simp }⟩
  · show RepT P w F (tmo a) oss' (match T.lookup i with | some v => v | none => if W.contains i then .any else kl W (S0 i)) (tmo a i) (oss' i)
    split
    · rename_i v hl
      have e : oss' i = oss i := by simp only [oss']; rw [if_neg (by simp [hl])]
      rw [e]
      have := h.rep i
      rw [h2.lookup hl] at this
      have k := RepT.kl V (fun _ h => h) hkV this (fun _ _ => rfl)
      rwa [h3.lookup hl] at k
    · rename_i hl
      split
      · rename_i hc
        have e : oss' i = [] := by simp only [oss']; rw [if_pos (by simp [hl]; simpa using hc)]
        rw [e]; exact .any _
      · rename_i hc
        have e : oss' i = oss i := by simp only [oss']; rw [if_neg (by simp; intro _; simpa using hc)]
        rw [e, ← h1 i (by simpa using hc)]
        exact RepT.kl W (fun _ h => h) hk (h.rep i) (fun _ _ => rfl)
  · simp only [oss']; split
    · exact List.nodup_nil
    · exact h.nd i


def loopIA {α : Type} (W V : List Nat) (T : α → List (Nat × AV)) (inv : α → Prop) (μ : α → Nat) (x : α) (S0 : St) (Q : Exit → St → Prop) : Exit → St → Prop
  | .normal, S => ∃ y, inv y ∧ μ y < μ x ∧ Off W S0 S ∧ Trk S (T y) ∧ Nb V (T y)
  | e, S => Q e S
@[go_sem] theorem loopIA_normal {α : Type} (W V : List Nat) (T : α → List (Nat × AV)) (inv : α → Prop) (μ : α → Nat) (x : α) (S0 : St) (Q : Exit → St → Prop) (S : St) :
    loopIA W V T inv μ x S0 Q .normal S = ∃ y, inv y ∧ μ y < μ x ∧ Off W S0 S ∧ Trk S (T y) ∧ Nb V (T y) := rfl
@[go_sem] theorem loopIA_ret {α : Type} (W V : List Nat) (T : α → List (Nat × AV)) (inv : α → Prop) (μ : α → Nat) (x : α) (S0 : St) (Q : Exit → St → Prop) (S : St) :
    loopIA W V T inv μ x S0 Q .ret S = Q .ret S := rfl
@[go_sem] theorem loopIA_exit {α : Type} (W V : List Nat) (T : α → List (Nat × AV)) (inv : α → Prop) (μ : α → Nat) (x : α) (S0 : St) (Q : Exit → St → Prop) (S : St) (id : Nat) :
    loopIA W V T inv μ x S0 Q (.exit id) S = Q (.exit id) S := rfl
section
variable {P : Program} {N : Nat × List Nat}
/-- A LOOP whose tracked slots may hold aliases of tracked slots: V are the written slots that are not tracked. -/
theorem loop_invA {cf : Cfg} {b : Code} {Q : Exit → St → Prop} {S0 : St} {α : Type} (W V : List Nat) (T : α → List (Nat × AV)) (inv : α → Prop) (μ : α → Nat) (x0 : α)
    (hV : ∀ x i, i ∈ W → i ∉ V → ((T x).lookup i).isSome = true) (hVW : ∀ i ∈ V, i ∈ W)
    (h0 : inv x0) (h1 : Trk S0 (T x0)) (h2 : Nb V (T x0)) (h : ∀ x, inv x → vc P cf N b (loopIA W V T inv μ x S0 Q) (reset W (T x) S0)) : LoopVC (vc P cf N b) Q S0 := by
  refine ⟨fun n S => ∃ x, inv x ∧ n = μ x ∧ S = reset W (T x) S0, ⟨μ x0, _, weak_ofA (Off.refl W S0) h1 h2 (hV x0) hVW, x0, h0, rfl, rfl⟩, ?_⟩
  rintro n S ⟨x, hx, rfl, rfl⟩
  refine vc_mono (fun e S hq => ?_) (h x hx)
  cases e with
  | normal =>
    obtain ⟨y, y1, y2, y3, y4, y5⟩ := hq
    exact ⟨μ y, y2, _, weak_ofA y3 y4 y5 (hV y) hVW, y, y1, rfl, rfl⟩
  | _ => exact hq
end
end Go.Abs

/- slices.insertionSortCmpFunc at elements of one cell, as a contract of this layer. It holds over any program. -/
set_option linter.unusedSectionVars false
set_option linter.unusedVariables false
set_option linter.unusedSimpArgs false
namespace Go.Abs
variable [DrawK]
open Go.RowKit (Below)
open Go.Proofs Go.Sort Go.Shelf Go.RowKit Go.Lib
section
variable {P : Program} {ρ : Ren}
set_option maxHeartbeats 1000000 in
/-- slices.insertionSortCmpFunc: a row of cells of ours, sorted in place. -/
theorem inssort_mcon1 (L : SlLaysF.n20 P ρ) (hen : Enters P (ρ.f 20)) {β : Type} (B : β → AV) (cf : β → β → Int)
    (hO : SWO (ltOf cf)) (g : FuncId) (e : TypeId) (hce : P.cellsOf e = 1) (xs : List β) (hfr : freshL (xs.flatMap fun x => [B x]) = true)
    (hc : ∀ x ∈ xs, ∀ y ∈ xs, @Con ⟨1⟩ P g [frz (B x), frz (B y)] (.int (cf x y))) (hsz : xs.length < 4611686018427387904) :
    ∃ ys : List β, ys.Perm xs ∧ ys.Pairwise (fun x y => ¬ cf y x < 0) ∧ MCon P (ρ.f 20) [.own e xs.length (xs.flatMap fun x => [B x]), .val (.int .i64 0), .val (.int .i64 xs.length), .val (.func (.func g) #[] #[])] (.tup []) [.own e xs.length (ys.flatMap fun x => [B x]), .any, .any, .any] := by
  let A : β → List AV := fun x => [B x]
  let k : Nat := 1
  have hk : ∀ x ∈ xs, (A x).length = k := fun _ _ => rfl
  have inv : ∀ {w : World} {vs : List Value} {os : List Nat} {F : Nat → Prop}, [AV.own e xs.length (xs.flatMap A), .val (.int .i64 0), .val (.int .i64 xs.length), .val (.func (.func g) #[] #[])].length = vs.length →
      (∀ tm oss, RepTL P w F tm oss [AV.own e xs.length (xs.flatMap A), .val (.int .i64 0), .val (.int .i64 xs.length), .val (.func (.func g) #[] #[])] vs os) →
      ∃ v, vs = [v, .int .i64 0, .int .i64 xs.length, .func (.func g) #[] #[]] ∧ RepC P w F (.own e xs.length (xs.flatMap A)) v os := by
    intro w vs os F hl hrep
    have hr := hrep (fun _ => undef) (fun _ => [])
    obtain ⟨v1, v2, v3, v4, rfl⟩ : ∃ v1 v2 v3 v4, vs = [v1, v2, v3, v4] := by
      match vs, hl with
      | [a, b, c, d], _ => exact ⟨a, b, c, d, rfl⟩
    cases hr with
    | cons _ _ o1 _ _ o2 h1 h2 =>
      cases h2 with
      | cons _ _ o3 _ _ o4 h3 h4 =>
        cases h4 with
        | cons _ _ o5 _ _ o6 h5 h6 =>
          cases h6 with
          | cons _ _ o7 _ _ o8 h7 h8 =>
            cases h8
            have e3 : o3 = [] := h3.noOwn (by simp [hasOwn])
            have e5 : o5 = [] := h5.noOwn (by simp [hasOwn])
            have e7 : o7 = [] := h7.noOwn (by simp [hasOwn])
            subst e3 e5 e7
            rw [h3.val_eq, h5.val_eq, h7.val_eq]
            exact ⟨v1, rfl, by simpa using h1.ofKids (by simp [kids])⟩
  by_cases hx0 : xs = []
  · subst hx0
    refine ⟨[], List.Perm.refl _, List.Pairwise.nil, hen, ?_⟩
    intro w vs os hl hos hosl hrep
    obtain ⟨v, rfl, hv⟩ := inv hl hrep
    have key : ∃ p cap, v = .slice p 0 cap := by
      rcases hv.own_inv with ⟨_, _, h, _⟩ | ⟨b, cap, c, os', _, h, _⟩
      · exact ⟨none, 0, h⟩
      · exact ⟨_, cap, h⟩
    obtain ⟨p, cap, rfl⟩ := key
    refine (AnyF.insertionSortCmpFunc_none (P := P) (ρ := ρ) { L with } p cap (.func (.func g) #[] #[]) w).mono ?_
    rintro e' w' ⟨rfl, rfl⟩
    refine ⟨_, [], os, rfl, Ext.refl _ _, fun F tm oss => .tup [] [] [] rfl (.nil _), fun F tm oss => ?_, rfl, by simpa using hos, fun b hb => ?_⟩
    · have := RepTL.cons (tm := tm) (oss := oss) _ _ _ _ _ _ (RepT.cell _ _ _ (hv.fresh (F' := F) (by simp [freshOK, freshL]))) (RepTL.cons .any (.int .i64 0) [] _ _ _ (.any _) (RepTL.cons .any (.int .i64 0) [] _ _ _ (.any _) (RepTL.cons .any (.func (.func g) #[] #[]) [] [] [] [] (.any _) (.nil _))))
      simpa using this
    · simp at hb
      exact ⟨.inl hb, hosl b hb⟩
  · have hn0 : 0 < xs.length := List.length_pos_iff.2 hx0
    let inst : Inhabited (Fin xs.length) := ⟨⟨0, hn0⟩⟩
    let d : Array (Fin xs.length) := Array.ofFn id
    have hd : d.size = xs.length := by simp [d]
    have hdv : ∀ i : Nat, i < xs.length → (d[i]!).1 = i := fun i hi => by
      rw [getElem!_pos d i (by rw [hd]; exact hi)]; simp [d]
    let cf' : Fin xs.length → Fin xs.length → Int := fun i j => cf xs[i] xs[j]
    have hO' : SWO (ltOf cf') := ⟨fun x => hO.irrefl _, fun x y z => hO.trans _ _ _, fun x y z => hO.ntrans _ _ _⟩
    have hsort := insertionSort_holds (lt := ltOf cf') hO' d 0 d.size (Nat.zero_le _) (Nat.le_refl _)
    let d' := Sort.insertionSort (ltOf cf') d 0 d.size
    have hp : d'.toList.Perm d.toList := by
      have := hsort.1.2.2
      have e1 : d'.size = d.size := hsort.1.1
      have e2 : d'.extract 0 d.size = d' := by rw [← e1]; exact Array.extract_size
      have e3 : d.extract 0 d.size = d := Array.extract_size
      change (d'.extract 0 d.size).toList.Perm _ at this
      rw [e2, e3] at this
      exact this
    have hd' : d'.size = xs.length := hsort.1.1.trans hd
    have hnd : d.toList.Nodup := by
      refine List.pairwise_iff_getElem.2 fun i j hi hj hij => ?_
      simp [d, Fin.ext_iff]
      omega
    refine ⟨d'.toList.map fun i => xs[i], ?_, ?_, hen, ?_⟩
    · have e1 : d.toList.map (fun i => xs[i]) = xs := by
        simp only [d, Array.toList_ofFn]
        apply List.ext_getElem <;> simp
      have := hp.map (fun i : Fin xs.length => xs[i])
      rw [e1] at this
      exact this
    · rw [List.pairwise_map]
      refine List.pairwise_iff_getElem.2 fun i j hi hj hij => ?_
      have := hsort.2 i j (Nat.zero_le _) hij (by simpa [hd, hd'] using hj)
      have a1 : d'[i]! = d'.toList[i] := by rw [getElem!_pos d' i (by simpa using hi)]; simp
      have a2 : d'[j]! = d'.toList[j] := by rw [getElem!_pos d' j (by simpa using hj)]; simp
      change ltOf cf' d'[j]! d'[i]! = false at this
      rw [a1, a2] at this
      simpa [ltOf, cf'] using this
    · intro w vs os hl hos hosl hrep
      obtain ⟨v, rfl, hv⟩ := inv hl hrep
      rcases hv.own_inv with ⟨h0, _⟩ | ⟨b, cap, c, os', rfl, rfl, hb, hnc, hcs, hL⟩
      · omega
      rw [hce] at hcs
      have hle : xs.length * k ≤ c.size := Nat.le_trans (Nat.mul_le_mul_right k hnc) hcs
      have hnod := List.nodup_cons.1 hos
      obtain ⟨f, f1, f2, f3, f4⟩ := RepL.els A k hk hL hnod.2
      have hbz : b < w.heap.size := hosl b (by simp)
      let enc : Fin xs.length → List Value := fun i => (c.toList.drop (i.1 * k)).take k
      have hek : ∀ x, (enc x).length = k := fun i => by
        have e1 : i.1 * k + k ≤ xs.length * k := by
          have := Nat.mul_le_mul_right k (show i.1 + 1 ≤ xs.length from i.2)
          rw [Nat.add_mul, Nat.one_mul] at this
          exact this
        simp only [enc, List.length_take, List.length_drop, Array.length_toList]
        omega
      have he1 : ∀ x, ∀ v ∈ enc x, v.oneCell' = true := fun i v hv => by
        have h1 := (f1 i.1 i.2).oneCell v
        rw [hk _ (List.getElem_mem i.2)] at h1
        refine h1 ?_
        rw [List.take_take, Nat.min_self]
        exact hv
      let en1 : Fin xs.length → Value := fun i => c.toList[i.1]?.getD undef
      have hen1 : ∀ i, enc i = [en1 i] := fun i => by
        have hi : i.1 < c.toList.length := by
          have h0 := i.2
          have h1 : xs.length * 1 ≤ c.size := hle
          have h2 : c.toList.length = c.size := Array.length_toList
          omega
        show (c.toList.drop (i.1 * 1)).take 1 = [c.toList[i.1]?.getD undef]
        rw [Nat.mul_one, List.drop_eq_getElem_cons hi, List.getElem?_eq_getElem hi]
        rfl
      have hsw : ∀ m (dk : Array (Fin xs.length)) os2, sortWorld en1 w b 0 m dk os2 = sortWorldK enc k w b 0 m dk os2 := fun m dk os2 => by
        have e1 : enc = fun i => [en1 i] := funext hen1
        rw [e1]
        exact sortW1 en1 w b 0 m dk os2
      have h11 : OneCell en1 := fun i => he1 i (en1 i) (by rw [hen1]; simp)
      have hcmp : CmpLays1 P g #[] en1 cf' b 0 d.size w := by
        intro m os2 dk hdk x y
        rw [hsw]
        let W := sortWorldK enc k w b 0 m dk os2
        have hW : ∀ z, z < w.heap.size ∧ z ≠ b → W.heap[z]? = w.heap[z]? := fun z hz => sortW_heap enc k w b 0 m dk os2 hz.1 hz.2
        have hWs : w.heap.size ≤ W.heap.size := (Ext.sorted enc k w b m dk os2 (G := fun z => z < w.heap.size ∧ z ≠ b) (fun _ h => h)).size
        have hx : ∀ i : Fin xs.length, RepC P W (fun z => z < W.heap.size) (frz (B xs[i])) (en1 i) [] := fun i => by
          have h1 := (f1 i.1 i.2).frz (F' := fun z => z < w.heap.size ∧ z ≠ b) (fun z hz => ⟨hz.1, fun e => hz.2 (by simp [e])⟩)
            (fun z hz => ⟨hosl z (by simp [f2 _ z hz]), fun e => hnod.1 (e ▸ f2 _ z hz)⟩)
          have h2 := h1.mono (fun z hz => Nat.lt_of_lt_of_le hz.1 hWs) (fun z hz => by
            rcases hz with hz | hz
            · exact hW z hz
            · simp at hz)
          have e2 : (c.toList.drop (i.1 * k)).take k = [en1 i] := hen1 i
          rw [e2] at h2
          exact h2.one
        have hcc := (hc xs[x] (List.getElem_mem x.2) xs[y] (List.getElem_mem y.2)).2 W [en1 x, en1 y] rfl
          (fun tm oss => .cons _ _ [] _ _ [] (.cell _ _ _ (hx x)) (.cons _ _ [] _ _ [] (.cell _ _ _ (hx y)) (.nil _)))
        refine hcc.mono ?_
        rintro e' w' ⟨v, o, rfl, h1, h2, _⟩
        refine ⟨?_, @Ext.grown ⟨1⟩ _ _ rfl h1⟩
        rw [(h2 (fun _ => undef) (fun _ => [])).val_eq]
      have hH : HoldsK enc k w b 0 d := holdsK_cells hn0 k w b hb hle d hd hdv
      have hH1 : Holds en1 w b 0 d := fun j hj => by
        have h := hH j (by rw [size_flatK]; show j < d.size * 1; omega)
        have e1 : (flatK enc k d)[j]! = en1 d[j]! := by
          rw [get_flatK enc k d j (by show j < d.size * 1; omega), hen1]
          show [en1 d[j / 1]!][j % 1]! = _
          rw [Nat.div_one, Nat.mod_one]; rfl
        rw [e1] at h
        exact h
      have key := Any.insertionSortCmpFunc_s L en1 cf' g #[] b 0 cap 0 d.size d d w w (fun args w => run_callFunc (hc _ (List.getElem_mem hn0) _ (List.getElem_mem hn0)).1 args) hcmp ⟨h11, hH1, hbz⟩ rfl (SW.start hH1) (Nat.zero_le _) (Nat.le_refl _) (by rw [hd]; exact hsz)
      rw [hd] at key
      refine key.mono ?_
      rintro e' w' ⟨rfl, m, os2, hw'⟩
      rw [hsw] at hw'
      subst hw'
      have hd2 : Sort.insertionSort (ltOf cf') d 0 xs.length = d' := by simp only [d', hd]
      rw [hd2]
      have hnd' : d'.toList.Nodup := hp.nodup_iff.2 hnd
      obtain ⟨j1, j2⟩ := RepL.join (P := P) (w := w) A k hk (by simpa using hle) f1 f3 f4 d'.toList hnd'
      have hEx := Ext.sorted enc k w b m d' os2 (G := fun z => z < w.heap.size ∧ z ∉ b :: os') (fun z hz => ⟨hz.1, fun e => hz.2 (by simp [e])⟩)
      have hsub : ∀ z, z ∈ d'.toList.flatMap (fun i => f i.1) → z ∈ os' := fun z hz => by
        obtain ⟨i, _, h⟩ := List.mem_flatMap.1 hz
        exact f2 _ z h
      refine ⟨_, [], b :: d'.toList.flatMap (fun i => f i.1), rfl, hEx, fun F tm oss => .tup [] [] [] rfl (.nil _), fun F tm oss => ?_, rfl, ?_, fun z hz => ?_⟩
      · have hcells : (putCells id 0 (flatK enc k d') c).toList.take (xs.length * k) = d'.toList.flatMap enc := by
          apply List.ext_getElem?
          intro j
          by_cases hj : j < xs.length * k
          · rw [flatMap_get enc k hek _ _ (by simpa [hd'] using hj)]
            have hjc : j < c.size := by omega
            rw [List.getElem?_take_of_lt hj]
            have g1 := get_flatK enc k d' j (by rw [hd']; exact hj)
            rw [getElem!_pos _ j (by rw [size_flatK, hd']; exact hj)] at g1
            have k0 : 0 < k := Nat.one_pos
            have hq : j / k < d'.size := by rw [hd']; exact Nat.div_lt_of_lt_mul (by rw [Nat.mul_comm]; exact hj)
            rw [getElem!_pos d' (j / k) hq] at g1
            simp [putCells, hjc, hd', hj, hq]
            simpa [Array.getElem?_eq_getElem hq] using g1
          · rw [List.getElem?_eq_none (by simp; omega), List.getElem?_eq_none]
            rw [flatMap_len enc k hek, Array.length_toList, hd']
            omega
        have hL2 : RepL P (sortWorldK enc k w b 0 m d' os2) F ((d'.toList.map fun i => xs[i]).flatMap A) (putCells id 0 (flatK enc k d') c).toList (d'.toList.flatMap fun i => f i.1) := by
          refine RepL.of_take (k := xs.length * k) ?_
          rw [hcells]
          have j3 : freshL ((d'.toList.map fun i => xs[i]).flatMap A) = true := by
            refine freshL_mem.2 fun c hc => ?_
            obtain ⟨x, hx, h⟩ := List.mem_flatMap.1 hc
            obtain ⟨i, _, rfl⟩ := List.mem_map.1 hx
            exact freshL_mem.1 hfr c (List.mem_flatMap.2 ⟨_, List.getElem_mem i.2, h⟩)
          refine (RepL.mono (F := fun z => z < w.heap.size ∧ z ∉ b :: os') (fun _ h => h) j1 (fun z hz => ?_)).fresh j3
          rcases hz with hz | hz
          · exact hEx.block z hz
          · exact sortW_heap enc k w b 0 m d' os2 (hosl z (by simp [hsub z hz])) (fun e => hnod.1 (e ▸ hsub z hz))
        have hown : RepC P (sortWorldK enc k w b 0 m d' os2) F (.own e xs.length ((d'.toList.map fun i => xs[i]).flatMap A)) (.slice (some ⟨b, 0, none⟩) xs.length cap) (b :: d'.toList.flatMap fun i => f i.1) :=
          .own b e xs.length cap _ _ _ (sortW_blk enc k w b 0 m d' os2 hb) hnc (by rw [hce]; simpa [putCells] using hcs) hL2
        have := RepTL.cons (tm := tm) (oss := oss) _ _ _ _ _ _ (RepT.cell _ _ _ hown) (RepTL.cons .any (.int .i64 0) [] _ _ _ (.any _) (RepTL.cons .any (.int .i64 xs.length) [] _ _ _ (.any _) (RepTL.cons .any (.func (.func g) #[] #[]) [] [] [] [] (.any _) (.nil _))))
        simpa using this
      · simp only [List.nil_append]
        exact List.nodup_cons.2 ⟨fun h => hnod.1 (hsub _ h), j2⟩
      · simp only [List.not_mem_nil, false_or, List.mem_cons] at hz
        refine ⟨.inl ?_, ?_⟩
        · rcases hz with rfl | hz
          · simp
          · simp [hsub z hz]
        · refine Nat.lt_of_lt_of_le ?_ hEx.size
          rcases hz with rfl | hz
          · exact hbz
          · exact hosl z (by simp [hsub z hz])
end
end Go.Abs
