/- The relation between an abstract frame and a Go function's frame and world, and the moves that keep it. It holds over any program. -/
import Derived.Test.YtdhnnpohpfjaiaaAbsB
set_option linter.unusedVariables false
set_option linter.unusedSimpArgs false
namespace Go.Abs
open Go.RowKit (Below)

def tmo (a : Act) : Nat → Value := fun i => a.tmps.getD i undef
def ins (oss : Nat → List Nat) (d : Nat) (od : List Nat) : Nat → List Nat := fun i => if i = d then od else oss i

/-- What the call may not turn: the blocks of G; the streams. -/
structure Ext (G : Nat → Prop) (w w' : World) : Prop where
  os : w'.os = w.os
  tape : w'.tape = w.tape
  output : w'.output = w.output
  size : w.heap.size ≤ w'.heap.size
  block : ∀ k, G k → w'.heap[k]? = w.heap[k]?

theorem Ext.refl (G : Nat → Prop) (w : World) : Ext G w w := ⟨rfl, rfl, rfl, Nat.le_refl _, fun _ _ => rfl⟩
theorem Ext.trans {G : Nat → Prop} {a b c : World} (h : Ext G a b) (k : Ext G b c) : Ext G a c :=
  ⟨k.os.trans h.os, k.tape.trans h.tape, k.output.trans h.output, Nat.le_trans h.size k.size, fun i hi => (k.block i hi).trans (h.block i hi)⟩
theorem Ext.below {w w' : World} (h : Ext (fun b => b < w.heap.size) w w') : Below w.heap.size w w' := ⟨h.os, h.tape, h.output, h.size, h.block⟩

/-- A slot that may be written: in the frame, and not kept. -/
def OkD (N : Nat × List Nat) (d : Nat) : Prop := d < N.1 ∧ d ∉ N.2
instance (N : Nat × List Nat) (d : Nat) : Decidable (OkD N d) := inferInstanceAs (Decidable (_ ∧ _))

/-- F: blocks that nobody writes (all that were there when the call began, and what was frozen since); oss i: the blocks that are ours through slot i; X: blocks of ours that no slot holds. -/
structure Core (P : Program) (N : Nat × List Nat) (G : Nat → Prop) (w0 : World × (Nat → Value)) (S : St) (a : Act) (w : World) (F : Nat → Prop) (oss : Nat → List Nat) (X : List Nat) : Prop where
  sz : a.tmps.size = N.1
  kp : ∀ i, i ∈ N.2 → tmo a i = w0.2 i
  df : a.defers = []
  ext : Ext G w0.1 w
  fB : ∀ b, G b → F b
  fw : ∀ b, F b → b < w.heap.size
  rep : ∀ i, RepT P w F (tmo a) oss (S i) (tmo a i) (oss i)
  own : ∀ i b, b ∈ oss i → ¬ F b ∧ b < w.heap.size
  nd : ∀ i, (oss i).Nodup
  dj : ∀ i j b, b ∈ oss i → b ∈ oss j → i = j
  xo : ∀ b, b ∈ X → ¬ F b ∧ b < w.heap.size
  xn : X.Nodup
  xd : ∀ i b, b ∈ X → b ∈ oss i → False

def StRel (P : Program) (N : Nat × List Nat) (G : Nat → Prop) (w0 : World × (Nat → Value)) (S : St) (a : Act) (w : World) : Prop := ∃ F oss, Core P N G w0 S a w F oss []

section
variable {P : Program} {N : Nat × List Nat} {G : Nat → Prop} {w0 : World × (Nat → Value)} {w w' : World} {S : St} {a : Act} {F F' : Nat → Prop} {oss : Nat → List Nat} {X X' : List Nat}

theorem Core.st (h : Core P N G w0 S a w F oss X) : StRel P N G w0 S a w :=
  ⟨F, oss, { h with xo := by simp, xn := by simp, xd := by simp }⟩

theorem walkIn_oss {s : Nat} (h : Core P N G w0 S a w F oss X) (hw : ∀ b, b < w.heap.size → b ∉ X → w'.heap[b]? = w.heap[b]?) {p : List Nat} {v u : Value}
    (k : walkIn w (oss s) v p u) : walkIn w' (oss s) v p u :=
  walkIn_mono (fun _ h => h) (fun b hb => hw b (h.own s b hb).2 (fun hx => h.xd s b hx hb)) k

/-- The world goes on; of what was there only blocks of X are written; blocks of X and new ones may be frozen. -/
theorem Core.world (h : Core P N G w0 S a w F oss X) (ho : w'.os = w.os) (ht : w'.tape = w.tape) (hp : w'.output = w.output) (hs : w.heap.size ≤ w'.heap.size)
    (hw : ∀ b, b < w.heap.size → b ∉ X → w'.heap[b]? = w.heap[b]?) (hF : ∀ b, F b → F' b) (hF' : ∀ b, F' b → F b ∨ ((b ∈ X ∨ w.heap.size ≤ b) ∧ b < w'.heap.size))
    (hX : ∀ b, b ∈ X' → (b ∈ X ∨ w.heap.size ≤ b) ∧ b < w'.heap.size ∧ ¬ F' b) (hn : X'.Nodup) : Core P N G w0 S a w' F' oss X' where
  sz := h.sz
  kp := h.kp
  df := h.df
  ext := h.ext.trans ⟨ho, ht, hp, hs, fun b hb => by
    have hF := h.fB b hb
    exact hw b (h.fw b hF) (fun hx => (h.xo b hx).1 hF)⟩
  fB := fun b hb => hF b (h.fB b hb)
  fw := fun b hb => by
    rcases hF' b hb with h1 | h1
    · have := h.fw b h1; omega
    · exact h1.2
  rep := fun i => RepT.mono hF (fun s p u k => walkIn_oss h hw k) (h.rep i) (fun b hb => by
    rcases hb with hb | hb
    · exact hw b (h.fw b hb) (fun hx => (h.xo b hx).1 hb)
    · exact hw b (h.own i b hb).2 (fun hx => h.xd i b hx hb))
  own := fun i b hb => ⟨fun hf => by
    rcases hF' b hf with h1 | ⟨h1 | h1, _⟩
    · exact (h.own i b hb).1 h1
    · exact h.xd i b h1 hb
    · have := (h.own i b hb).2; omega, by have := (h.own i b hb).2; omega⟩
  nd := h.nd
  dj := h.dj
  xo := fun b hb => ⟨(hX b hb).2.2, (hX b hb).2.1⟩
  xn := hn
  xd := fun i b hx hb => by
    rcases (hX b hx).1 with h1 | h1
    · exact h.xd i b h1 hb
    · have := (h.own i b hb).2; omega

/-- A slot is written: with a thing whose blocks come out of X. -/
theorem Core.put' (h : Core P N G w0 S a w F oss X) {d : Nat} (hd : d < N.1) {v : Value} (hd2 : d ∉ N.2 ∨ v = tmo a d) {c : AV} {od : List Nat} (hr : RepT P w F (tmo a) oss c v od)
    (ho : ∀ b, b ∈ od → b ∈ X) (hn : od.Nodup) (hX : ∀ b, b ∈ X' → b ∈ X ∧ b ∉ od) (hn' : X'.Nodup) :
    Core P N G w0 (upd d c S) (a.put (some d) v) w F (ins oss d od) X' where
  sz := by simp [Act.put, h.sz]
  kp := fun i hi => by
    by_cases e : i = d
    · subst e
      have hv : v = tmo a i := hd2.resolve_left (fun h => h hi)
      have hl : i < a.tmps.size := by rw [h.sz]; exact hd
      rw [← h.kp i hi, ← hv]
      simp [tmo, Act.put, hl]
    · rw [← h.kp i hi]
      simp [tmo, Act.put, Array.getElem?_setIfInBounds_ne (Ne.symm e)]
  df := h.df
  ext := h.ext
  fB := h.fB
  fw := h.fw
  rep := fun i => by
    have key : ∀ s p u, ¬ s ∈ [d] → walkIn w (oss s) (tmo a s) p u → walkIn w (ins oss d od s) (tmo (a.put (some d) v) s) p u := by
      intro s p u hs k
      have hs : s ≠ d := by simpa using hs
      have e1 : ins oss d od s = oss s := by simp [ins, hs]
      have e2 : tmo (a.put (some d) v) s = tmo a s := by
        simp [tmo, Act.put, Array.getElem?_setIfInBounds_ne (Ne.symm hs)]
      rw [e1, e2]; exact k
    by_cases hi : i = d
    · subst hi
      have e1 : ins oss i od i = od := by simp [ins]
      have e2 : tmo (a.put (some i) v) i = v := by
        have : i < a.tmps.size := by rw [h.sz]; exact hd
        simp [tmo, Act.put, this]
      rw [e1, e2]
      show RepT P w F _ _ (kl [i] (if i = i then c else _)) v od
      rw [if_pos rfl]
      exact RepT.kl [i] (fun _ h => h) key hr (fun _ _ => rfl)
    · have e1 : ins oss d od i = oss i := by simp [ins, hi]
      have e2 : tmo (a.put (some d) v) i = tmo a i := by
        simp [tmo, Act.put, Array.getElem?_setIfInBounds_ne (Ne.symm hi)]
      rw [e1, e2]
      show RepT P w F _ _ (kl [d] (if i = d then c else S i)) _ _
      rw [if_neg hi]
      exact RepT.kl [d] (fun _ h => h) key (h.rep i) (fun _ _ => rfl)
  own := fun i b hb => by
    unfold ins at hb; split at hb
    · exact h.xo b (ho b hb)
    · exact h.own i b hb
  nd := fun i => by unfold ins; split; exact hn; exact h.nd i
  dj := fun i j b hi hj => by
    unfold ins at hi hj
    split at hi <;> split at hj
    · omega
    · exact (h.xd j b (ho b hi) hj).elim
    · exact (h.xd i b (ho b hj) hi).elim
    · exact h.dj i j b hi hj
  xo := fun b hb => h.xo b (hX b hb).1
  xn := hn'
  xd := fun i b hx hb => by
    unfold ins at hb; split at hb
    · exact (hX b hx).2 hb
    · exact h.xd i b (hX b hx).1 hb

theorem Core.put (h : Core P N G w0 S a w F oss X) {d : Nat} (hd : OkD N d) {c : AV} {v : Value} {od : List Nat} (hr : RepT P w F (tmo a) oss c v od)
    (ho : ∀ b, b ∈ od → b ∈ X) (hn : od.Nodup) (hX : ∀ b, b ∈ X' → b ∈ X ∧ b ∉ od) (hn' : X'.Nodup) :
    Core P N G w0 (upd d c S) (a.put (some d) v) w F (ins oss d od) X' := h.put' hd.1 (.inl hd.2) hr ho hn hX hn'

/-- A slot is given up: what it held stands beside. -/
theorem Core.take (h : Core P N G w0 S a w F oss X) (t : Nat) :
    Core P N G w0 (upd t .any S) a w F (ins oss t []) (oss t ++ X) ∧ RepT P w F (tmo a) (ins oss t []) (kl [t] (S t)) (tmo a t) (oss t) := by
  have key : ∀ s p u, ¬ s ∈ [t] → walkIn w (oss s) (tmo a s) p u → walkIn w (ins oss t [] s) (tmo a s) p u := by
    intro s p u hs k
    have hs : s ≠ t := by simpa using hs
    have e1 : ins oss t [] s = oss s := by simp [ins, hs]
    rw [e1]; exact k
  refine ⟨{ sz := h.sz, kp := h.kp, df := h.df, ext := h.ext, fB := h.fB, fw := h.fw, rep := fun i => ?_, own := fun i b hb => ?_, nd := fun i => ?_, dj := fun i j b hi hj => ?_, xo := fun b hb => ?_, xn := ?_, xd := fun i b hx hb => ?_ }, ?_⟩
  · show RepT P w F _ _ (kl [t] (if i = t then .any else S i)) _ (if i = t then [] else oss i)
    split
    · exact .any _
    · exact RepT.kl [t] (fun _ h => h) key (h.rep i) (fun _ _ => rfl)
  · unfold ins at hb; split at hb
    · simp at hb
    · exact h.own i b hb
  · unfold ins; split; exact List.nodup_nil; exact h.nd i
  · unfold ins at hi hj
    split at hi
    · simp at hi
    · split at hj
      · simp at hj
      · exact h.dj i j b hi hj
  · rcases List.mem_append.1 hb with hb | hb
    · exact h.own t b hb
    · exact h.xo b hb
  · exact List.nodup_append.2 ⟨h.nd t, h.xn, fun x hx y hy e => h.xd t x (e ▸ hy) hx⟩
  · unfold ins at hb; split at hb
    · simp at hb
    · rename_i hne
      rcases List.mem_append.1 hx with hx | hx
      · exact hne (h.dj i t b hb hx)
      · exact h.xd i b hx hb
  · exact RepT.kl [t] (fun _ h => h) key (h.rep t) (fun _ _ => rfl)

theorem RepT.ofKids {c : AV} {v : Value} {os : List Nat} {tm : Nat → Value} (h : RepT P w F tm oss c v os) (hk : kids c ≠ none) : RepC P w F c v os := by
  cases h with
  | cell c v os h => exact h
  | _ => simp [kids] at hk

/-- What a slot leads to is looked into at a path, and may be written there: the world may turn at the part's own blocks and at X. -/
theorem Core.inplace (h : Core P N G w0 S a w F oss X) {s : Nat} {p : List Nat} {c' : AV} (hk : kids (S s) ≠ none) (hg : getP (S s) p = some c') :
    ∃ u o1 ou o2, walkIn w (oss s) (tmo a s) p u ∧ RepC P w F c' u ou ∧ oss s = o1 ++ (ou ++ o2) ∧ (∀ b, b ∈ ou → ¬ F b ∧ b < w.heap.size ∧ b ∉ X) ∧ ou.Nodup ∧
      ∀ (w' : World) (F' : Nat → Prop) c'' ou'' X', w'.os = w.os → w'.tape = w.tape → w'.output = w.output → w.heap.size ≤ w'.heap.size →
        (∀ b, b < w.heap.size → b ∉ X → b ∉ ou → w'.heap[b]? = w.heap[b]?) → (∀ b, F b → F' b) →
        (∀ b, F' b → F b ∨ ((b ∈ X ∨ b ∈ ou ∨ w.heap.size ≤ b) ∧ b < w'.heap.size)) →
        RepC P w' F' c'' u ou'' → (∀ b, b ∈ ou'' → (b ∈ X ∨ b ∈ ou ∨ w.heap.size ≤ b) ∧ b < w'.heap.size ∧ ¬ F' b) → ou''.Nodup →
        (∀ b, b ∈ X' → (b ∈ X ∨ b ∈ ou ∨ w.heap.size ≤ b) ∧ b < w'.heap.size ∧ ¬ F' b ∧ b ∉ ou'') → X'.Nodup →
        Core P N G w0 (updn s (putP (S s) p c'') S) a w' F' (ins oss s (o1 ++ (ou'' ++ o2))) X' := by
  have hr := (h.rep s).ofKids hk
  obtain ⟨u, o1, ou, o2, k1, k2, k3, k4⟩ := RepC.at hr hg
  have hnd := h.nd s
  rw [k3] at hnd
  have n1 := List.nodup_append.1 hnd
  have n2 := List.nodup_append.1 n1.2.1
  have hou : ∀ b, b ∈ ou → b ∈ oss s := fun b hb => by rw [k3]; simp [hb]
  have ho1 : ∀ b, b ∈ o1 → b ∈ oss s := fun b hb => by rw [k3]; simp [hb]
  have ho2 : ∀ b, b ∈ o2 → b ∈ oss s := fun b hb => by rw [k3]; simp [hb]
  refine ⟨u, o1, ou, o2, k1, k2, k3, fun b hb => ⟨(h.own s b (hou b hb)).1, (h.own s b (hou b hb)).2, fun hx => h.xd s b hx (hou b hb)⟩, n2.1, ?_⟩
  intro w' F' c'' ou'' X' ho ht hp hs hw hF hF' hc ho'' hn'' hX hXn
  have hother : ∀ i b, i ≠ s → b ∈ oss i → w'.heap[b]? = w.heap[b]? := fun i b hi hb =>
    hw b (h.own i b hb).2 (fun hx => h.xd i b hx hb) (fun hx => hi (h.dj i s b hb (hou b hx)))
  have hFF : ∀ b, F b → w'.heap[b]? = w.heap[b]? := fun b hb =>
    hw b (h.fw b hb) (fun hx => (h.xo b hx).1 hb) (fun hx => (h.own s b (hou b hx)).1 hb)
  have h12 : ∀ b, b ∈ o1 ∨ b ∈ o2 → w'.heap[b]? = w.heap[b]? := fun b hb => by
    have hbs : b ∈ oss s := hb.elim (ho1 b) (ho2 b)
    refine hw b (h.own s b hbs).2 (fun hx => h.xd s b hx hbs) (fun hx => ?_)
    rcases hb with hb | hb
    · exact n1.2.2 b hb b (by simp [hx]) rfl
    · exact n2.2.2 b hx b hb rfl
  have hnot : ∀ i b, b ∈ oss i → (i ≠ s ∨ b ∈ o1 ∨ b ∈ o2) → ¬ (b ∈ X ∨ b ∈ ou ∨ w.heap.size ≤ b) := by
    intro i b hb hc hx
    rcases hx with hx | hx | hx
    · exact h.xd i b hx hb
    · rcases hc with hc | hc | hc
      · exact hc (h.dj i s b hb (hou b hx))
      · exact n1.2.2 b hc b (by simp [hx]) rfl
      · exact n2.2.2 b hx b hc rfl
    · have := (h.own i b hb).2; omega
  have hown : ∀ i b, b ∈ oss i → (i ≠ s ∨ b ∈ o1 ∨ b ∈ o2) → ¬ F' b ∧ b < w'.heap.size := by
    intro i b hb hc
    refine ⟨fun hf => ?_, by have := (h.own i b hb).2; omega⟩
    rcases hF' b hf with h1 | ⟨h1, _⟩
    · exact (h.own i b hb).1 h1
    · exact hnot i b hb hc h1
  refine { sz := h.sz, kp := h.kp, df := h.df, ext := ?_, fB := fun b hb => hF b (h.fB b hb), fw := fun b hb => ?_, rep := fun i => ?_, own := fun i b hb => ?_, nd := fun i => ?_, dj := fun i j b hi hj => ?_, xo := fun b hb => ⟨(hX b hb).2.2.1, (hX b hb).2.1⟩, xn := hXn, xd := fun i b hx hb => ?_ }
  · exact h.ext.trans ⟨ho, ht, hp, hs, fun b hb => hFF b (h.fB b hb)⟩
  · rcases hF' b hb with h1 | h1
    · have := h.fw b h1; omega
    · exact h1.2
  · show RepT P w' F' _ _ (if i = s then putP (S s) p c'' else kn s (S i)) _ (if i = s then _ else oss i)
    have key : ∀ s' p' u', (s' ≠ s ∨ p' = []) → walkIn w (oss s') (tmo a s') p' u' → walkIn w' (ins oss s (o1 ++ (ou'' ++ o2)) s') (tmo a s') p' u' := by
      intro s' p' u' hc k
      by_cases e : s' = s
      · rcases hc with hc | rfl
        · exact (hc e).elim
        · exact k
      · have e1 : ins oss s (o1 ++ (ou'' ++ o2)) s' = oss s' := by simp [ins, e]
        rw [e1]
        exact walkIn_mono (fun _ h => h) (fun b hb => hother s' b e hb) k
    split
    · rename_i e; subst e
      exact .cell _ _ _ (k4 w' F' c'' ou'' hF (fun x hx => by
        rcases hx with hx | hx
        · exact hFF x hx
        · exact h12 x hx) hc)
    · rename_i e
      exact RepT.kn s hF key (h.rep i) (fun b hb => by
        rcases hb with hb | hb
        · exact hFF b hb
        · exact hother i b e hb)
  · unfold ins at hb; split at hb
    · rename_i e; subst e
      rcases List.mem_append.1 hb with hb | hb
      · exact hown i b (ho1 b hb) (.inr (.inl hb))
      · rcases List.mem_append.1 hb with hb | hb
        · exact ⟨(ho'' b hb).2.2, (ho'' b hb).2.1⟩
        · exact hown i b (ho2 b hb) (.inr (.inr hb))
    · rename_i e
      exact hown i b hb (.inl e)
  · unfold ins; split
    · refine List.nodup_append.2 ⟨n1.1, List.nodup_append.2 ⟨hn'', n2.2.1, fun x hx y hy e => ?_⟩, fun x hx y hy e => ?_⟩
      · subst e; exact hnot s x (ho2 x hy) (.inr (.inr hy)) (ho'' x hx).1
      · subst e
        rcases List.mem_append.1 hy with hy | hy
        · exact hnot s x (ho1 x hx) (.inr (.inl hx)) (ho'' x hy).1
        · exact n1.2.2 x hx x (by simp [hy]) rfl
    · exact h.nd i
  · have old : ∀ b, b ∈ o1 ++ (ou'' ++ o2) → (b ∈ oss s ∧ (b ∈ o1 ∨ b ∈ o2)) ∨ b ∈ ou'' := fun b hb => by
      rcases List.mem_append.1 hb with hb | hb
      · exact .inl ⟨ho1 b hb, .inl hb⟩
      · rcases List.mem_append.1 hb with hb | hb
        · exact .inr hb
        · exact .inl ⟨ho2 b hb, .inr hb⟩
    unfold ins at hi hj
    split at hi <;> split at hj
    · omega
    · rename_i e1 e2
      rcases old b hi with ⟨h1, _⟩ | h1
      · exact (e2 (h.dj j s b hj h1)).elim
      · exact (hnot j b hj (.inl e2) (ho'' b h1).1).elim
    · rename_i e1 e2
      rcases old b hj with ⟨h1, _⟩ | h1
      · exact (e1 (h.dj i s b hi h1)).elim
      · exact (hnot i b hi (.inl e1) (ho'' b h1).1).elim
    · exact h.dj i j b hi hj
  · unfold ins at hb; split at hb
    · rcases List.mem_append.1 hb with hb | hb
      · exact hnot s b (ho1 b hb) (.inr (.inl hb)) (hX b hx).1
      · rcases List.mem_append.1 hb with hb | hb
        · exact (hX b hx).2.2.2 hb
        · exact hnot s b (ho2 b hb) (.inr (.inr hb)) (hX b hx).1
    · rename_i e
      exact hnot i b hb (.inl e) (hX b hx).1

/-- A part is taken out. -/
theorem Core.takeP (h : Core P N G w0 S a w F oss X) {s : Nat} {p : List Nat} {c' : AV} (hk : kids (S s) ≠ none) (hg : getP (S s) p = some c') :
    ∃ u ou oss', walkIn w (oss s) (tmo a s) p u ∧ RepC P w F c' u ou ∧ Core P N G w0 (updn s (putP (S s) p .any) S) a w F oss' (ou ++ X) := by
  obtain ⟨u, o1, ou, o2, k1, k2, k3, k4, k5, k6⟩ := h.inplace hk hg
  exact ⟨u, ou, _, k1, k2, k6 w F .any [] (ou ++ X) rfl rfl rfl (Nat.le_refl _) (fun _ _ _ _ => rfl) (fun _ h => h) (fun _ h => .inl h) (.any _ k2.oneCell) (by simp) List.nodup_nil
    (fun b hb => by
      rcases List.mem_append.1 hb with hb | hb
      · exact ⟨.inr (.inl hb), (k4 b hb).2.1, (k4 b hb).1, by simp⟩
      · exact ⟨.inl hb, (h.xo b hb).2, (h.xo b hb).1, by simp⟩)
    (List.nodup_append.2 ⟨k5, h.xn, fun x hx y hy e => (k4 x hx).2.2 (e ▸ hy)⟩)⟩

/-- A part is frozen. -/
theorem Core.frzP (h : Core P N G w0 S a w F oss X) {s : Nat} {p : List Nat} {c' : AV} (hk : kids (S s) ≠ none) (hg : getP (S s) p = some c') :
    ∃ (u : Value) (ou : List Nat) (F' : Nat → Prop) (oss' : Nat → List Nat), walkIn w (oss s) (tmo a s) p u ∧ RepC P w F' (frz c') u [] ∧ (∀ b, F b → F' b) ∧ (∀ b, b ∈ ou → F' b) ∧ Core P N G w0 (updn s (putP (S s) p (frz c')) S) a w F' oss' X := by
  obtain ⟨u, o1, ou, o2, k1, k2, k3, k4, k5, k6⟩ := h.inplace hk hg
  have hf : RepC P w (fun b => F b ∨ b ∈ ou) (frz c') u [] := k2.frz (fun _ h => .inl h) (fun _ h => .inr h)
  exact ⟨u, ou, fun b => F b ∨ b ∈ ou, _, k1, hf, fun _ h => .inl h, fun _ h => .inr h,
    k6 w (fun b => F b ∨ b ∈ ou) (frz c') [] X rfl rfl rfl (Nat.le_refl _) (fun _ _ _ _ => rfl) (fun _ h => .inl h) (fun b h => h.imp id (fun h => ⟨.inr (.inl h), (k4 b h).2.1⟩)) hf (by simp) List.nodup_nil
    (fun b hb => ⟨.inl hb, (h.xo b hb).2, fun hx => hx.elim (h.xo b hb).1 (fun hx => (k4 b hx).2.2 hb), by simp⟩) h.xn⟩
end
end Go.Abs
