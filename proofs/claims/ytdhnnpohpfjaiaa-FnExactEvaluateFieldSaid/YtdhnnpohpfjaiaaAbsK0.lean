/- Calls that write into what they are handed. It holds over any program. -/
import Derived.Test.YtdhnnpohpfjaiaaAbsJ
set_option linter.unusedVariables false
set_option linter.unusedSimpArgs false
namespace Go.Abs
open Go.RowKit (Below)

/-- A call that may write into the things of args (all that is ours in them); outs: what they hold behind it. -/
def MCalls (P : Program) (f : FuncId) (args : List AV) (r : AV) (outs : List AV) : Prop :=
  ∀ (w : World) (vs : List Value) (os : List Nat), args.length = vs.length → os.Nodup → (∀ b ∈ os, b < w.heap.size) →
    (∀ tm oss, RepTL P w (fun b => b < w.heap.size ∧ b ∉ os) tm oss args vs os) →
    Calls P f vs.toArray w fun e w' => ∃ v orr oo, e = .returned v ∧ Ext (fun b => b < w.heap.size ∧ b ∉ os) w w' ∧
      (∀ F tm oss, RepT P w' F tm oss r v orr) ∧ (∀ F tm oss, RepTL P w' F tm oss outs vs oo) ∧ outs.length = vs.length ∧ (orr ++ oo).Nodup ∧
      ∀ b, b ∈ orr ∨ b ∈ oo → (b ∈ os ∨ w.heap.size ≤ b) ∧ b < w'.heap.size

abbrev Loc := Nat × List Nat

def locB : AV → List Loc
  | .bor s p => [(s, p)]
  | _ => []
/-- Of an operand's value: the places of what is ours, in order. -/
def locs (t : Nat) : AV → List Loc
  | .bor s p => [(s, p)]
  | .own _ _ _ => [(t, [])]
  | .box _ _ => [(t, [])]
  | .mp _ => [(t, [])]
  | .agg cs => cs.flatMap locB
  | _ => []
/-- The value with the things themselves in their places. -/
def fillB : List AV → List AV → Option (List AV × List AV)
  | [], l => some ([], l)
  | .bor _ _ :: cs, c :: l => match fillB cs l with
    | some (ds, l') => some (c :: ds, l')
    | none => none
  | .val v :: cs, l => match fillB cs l with
    | some (ds, l') => some (.val v :: ds, l')
    | none => none
  | .sl n xs :: cs, l => match fillB cs l with
    | some (ds, l') => some (.sl n xs :: ds, l')
    | none => none
  | _, _ => none
def fillA : AV → List AV → Option (AV × List AV)
  | .bor _ _, c :: l => some (c, l)
  | .own _ _ _, c :: l => some (c, l)
  | .box _ _, c :: l => some (c, l)
  | .mp _, c :: l => some (c, l)
  | .fmp c, l => some (.fmp c, l)
  | .fptr c, l => some (.fptr c, l)
  | .val (.slice none 0 0), l => some (.sl 0 [], l)
  | .val v, l => some (.val v, l)
  | .sl n cs, l => some (.sl n cs, l)
  | .agg cs, l => match fillB cs l with
    | some (ds, l') => some (.agg ds, l')
    | none => none
  | _, _ => none
/-- The arguments, out of the operands. -/
def fillArgs (S : St) : List Operand → List AV → Option (List AV)
  | [], [] => some []
  | x :: xs, l => match fillA (aop S x) l with
    | some (d, l') => match fillArgs S xs l' with
      | some ds => some (d :: ds)
      | none => none
    | none => none
  | _, _ => none
def locArgs (S : St) : List Operand → List Loc
  | [] => []
  | .tmp t :: xs => locs t (S t) ++ locArgs S xs
  | _ :: xs => locArgs S xs
/-- The things out of a value of the same shape. -/
def leafB : List AV → List AV → Option (List AV)
  | [], _ => some []
  | .bor _ _ :: cs, d :: ds => match leafB cs ds with
    | some l => if isOB d then some (d :: l) else none
    | none => none
  | _ :: cs, _ :: ds => leafB cs ds
  | _ :: _, [] => none
def leafA : AV → AV → Option (List AV)
  | .bor _ _, d => if isOB d then some [d] else none
  | .own _ _ _, d => if isOB d then some [d] else none
  | .box _ _, d => if isOB d then some [d] else none
  | .mp _, d => if isOB d then some [d] else none
  | .agg cs, .agg ds => leafB cs ds
  | .agg _, _ => none
  | _, _ => some []
def leafArgs (S : St) : List Operand → List AV → Option (List AV)
  | [], _ => some []
  | x :: xs, d :: ds => match leafA (aop S x) d, leafArgs S xs ds with
    | some a, some b => some (a ++ b)
    | _, _ => none
  | _ :: _, [] => none

mutual
/-- Whatever borrows from deep inside of slot d is forgotten. -/
def kn1 (d : Nat) : AV → AV
  | .bor s p => if s = d && decide (2 ≤ p.length) then .any else .bor s p
  | .ptr s p o => if s = d && decide (2 ≤ p.length) then .any else .ptr s p o
  | .slp s p o n => if s = d && decide (2 ≤ p.length) then .any else .slp s p o n
  | .agg cs => .agg (kn1L d cs)
  | .tup cs => .tup (kn1L d cs)
  | .fn f cs => .fn f (kn1L d cs)
  | .any => .any
  | .val v => .val v
  | .sl n cs => .sl n cs
  | .own e n cs => .own e n cs
  | .box e cs => .box e cs
  | .fptr cs => .fptr cs
  | .mp c => .mp c
  | .fmp c => .fmp c
  | .it l es => .it l es
def kn1L (d : Nat) : List AV → List AV
  | [] => []
  | c :: cs => kn1 d c :: kn1L d cs
end
def updn1 (d : Nat) (v : AV) (S : St) : St := fun i => if i = d then v else kn1 d (S i)
section
variable {P : Program} {w : World} {F F' : Nat → Prop} {oss oss' : Nat → List Nat} {tm : Nat → Value}
theorem kn1L_len (d : Nat) : ∀ cs : List AV, (kn1L d cs).length = cs.length
  | [] => rfl
  | c :: cs => by simp [kn1L, kn1L_len d cs]
mutual
theorem RepT.kn1 (d : Nat) (hF : ∀ b, F b → F' b) (hk : ∀ s p u, (s ≠ d ∨ p.length < 2) → walkIn w (oss s) (tm s) p u → walkIn w (oss' s) (tm s) p u)
    {c : AV} {v : Value} {os : List Nat} (h : RepT P w F tm oss c v os) : RepT P w F' tm oss' (kn1 d c) v os := by
  cases h with
  | any v => exact .any v
  | cell c v os h =>
    have := RepC.mono (w' := w) hF h (fun _ _ => rfl)
    cases h <;> exact .cell _ _ _ this
  | agg cs vs os hl h => exact .agg _ vs os (by rw [kn1L_len]; exact hl) (RepTL.kn1 d hF hk h)
  | tup cs vs os hl h => exact .tup _ vs os (by rw [kn1L_len]; exact hl) (RepTL.kn1 d hF hk h)
  | fn f cs vs os hl h => exact .fn f _ vs os (by rw [kn1L_len]; exact hl) (RepTL.kn1 d hF hk h)
  | bor s p v h =>
    rw [Abs.kn1]
    by_cases hs : (s = d && decide (2 ≤ p.length)) = true
    · rw [if_pos hs]; exact .any _
    · rw [if_neg hs]; exact .bor s p v (hk s p v (by
        by_cases e : s = d
        · right; simp [e] at hs; omega
        · exact .inl e) h)
  | ptr s p off u b h hb =>
    rw [Abs.kn1]
    by_cases hs : (s = d && decide (2 ≤ p.length)) = true
    · rw [if_pos hs]; exact .any _
    · rw [if_neg hs]; exact .ptr s p off u b (hk s p u (by
        by_cases e : s = d
        · right; simp [e] at hs; omega
        · exact .inl e) h) hb
  | slp s p off n cap u b h hb hn =>
    rw [Abs.kn1]
    by_cases hs : (s = d && decide (2 ≤ p.length)) = true
    · rw [if_pos hs]; exact .any _
    · rw [if_neg hs]; exact .slp s p off n cap u b (hk s p u (by
        by_cases e : s = d
        · right; simp [e] at hs; omega
        · exact .inl e) h) hb hn
theorem RepTL.kn1 (d : Nat) (hF : ∀ b, F b → F' b) (hk : ∀ s p u, (s ≠ d ∨ p.length < 2) → walkIn w (oss s) (tm s) p u → walkIn w (oss' s) (tm s) p u)
    {cs : List AV} {vs : List Value} {os : List Nat} (h : RepTL P w F tm oss cs vs os) : RepTL P w F' tm oss' (kn1L d cs) vs os := by
  cases h with
  | nil vs => exact .nil vs
  | cons c v os cs vs os' h t => exact .cons _ _ _ _ _ _ (RepT.kn1 d hF hk h) (RepTL.kn1 d hF hk t)
end
end
/-- The things at these places are taken out, one after the other. -/
def tkLs : St → List Loc → Option (List AV × St)
  | S, [] => some ([], S)
  | S, (s, p) :: ls => match ctn S s p with
    | some (c, _) => match tkLs (updn s (putP (S s) p .any) S) ls with
      | some (cs, S') => some (c :: cs, S')
      | none => none
    | none => none

/-- The same for a call that writes: beside a place in a row the other places stay known. -/
def tkLm : St → List Loc → Option (List AV × St)
  | S, [] => some ([], S)
  | S, (s, []) :: ls => match ctn S s [] with
    | some (c, _) => match tkLm (updn s .any S) ls with
      | some (cs, S') => some (c :: cs, S')
      | none => none
    | none => none
  | S, (s, [i]) :: ls => match ctn S s [i] with
    | some (c, _) => match tkLm (updn1 s (putP (S s) [i] .any) S) ls with
      | some (cs, S') => some (c :: cs, S')
      | none => none
    | none => none
  | _, _ => none
/-- And put back. -/
def ptLs : St → List Loc → List AV → Option St
  | S, [], _ => some S
  | S, (s, []) :: ls, c :: cs => ptLs (upd s c S) ls cs
  | S, (s, i :: p) :: ls, c :: cs => match kids (S s), getP (S s) (i :: p) with
    | some _, some .any => ptLs (updn1 s (putP (S s) (i :: p) c) S) ls cs
    | _, _ => none
  | _, _ :: _, [] => none

section
variable {P : Program} {N : Nat × List Nat} {G : Nat → Prop} {w0 : World × (Nat → Value)} {w w' : World} {S : St} {a : Act} {F : Nat → Prop} {oss : Nat → List Nat} {X : List Nat}

/-- Things at places: of each its value, and where it is. -/
inductive At (P : Program) (w : World) (F : Nat → Prop) (tm : Nat → Value) : List Loc → List AV → List Value → List Nat → Prop
  | nil : At P w F tm [] [] [] []
  | cons (s : Nat) (p : List Nat) (c : AV) (u : Value) (o : List Nat) (ls : List Loc) (cs : List AV) (us : List Value) (os : List Nat) (Y : List Nat)
      (hw : walkIn w Y (tm s) p u) (hr : RepC P w F c u o) (t : At P w F tm ls cs us os) : At P w F tm ((s, p) :: ls) (c :: cs) (u :: us) (o ++ os)

theorem kids_base {c : AV} {v : Value} {os : List Nat} {b : Nat} (h : RepC P w F c v os) (hk : kids c ≠ none) (hb : baseOf v = some b) : b ∈ os := by
  cases h with
  | own b' _ _ _ _ _ _ _ _ _ _ => simp [baseOf] at hb; subst hb; simp
  | box b' _ _ _ _ _ _ => simp [baseOf] at hb; subst hb; simp
  | own0 => simp [baseOf] at hb
  | mp => simp [baseOf] at hb
  | it => simp [baseOf] at hb; subst hb; simp
  | _ => simp [kids] at hk


/-- A change at a place of slot s that leaves memory as it is: what is known of the places beside it stays. -/
theorem Core.gentle (h : Core P N G w0 S a w F oss X) {s : Nat} {c : AV} {F' : Nat → Prop} {oss' : Nat → List Nat} {X' : List Nat} (h2 : Core P N G w0 (updn s c S) a w F' oss' X') (hF : ∀ b, F b → F' b)
    (he : ∀ i, i ≠ s → oss' i = oss i) (hk : kids c ≠ none) : Core P N G w0 (updn1 s c S) a w F' oss' X' := by
  refine { h2 with rep := fun i => ?_ }
  show RepT P w F' (tmo a) oss' (if i = s then c else kn1 s (S i)) (tmo a i) (oss' i)
  have hs := h2.rep s
  have es : updn s c S s = c := by simp [updn]
  rw [es] at hs
  split
  · rename_i e; subst e; exact hs
  · rename_i e
    rw [he i e]
    refine RepT.kn1 s hF (fun s' p' u' hc k => ?_) (h.rep i)
    by_cases e' : s' = s
    · subst e'
      rcases hc with hc | hc
      · exact (hc rfl).elim
      · match p', hc with
        | [], _ => exact k
        | [j], _ =>
          obtain ⟨b, cc, ee, fr, v', b1, b2, b3, b4, b5⟩ := k
          exact ⟨b, cc, ee, fr, v', b1, kids_base (hs.ofKids hk) hk b1, b3, b4, b5⟩
    · rw [he s' e']; exact k
theorem Core.tkLs : ∀ {ls : List Loc} {S : St} {oss : Nat → List Nat} {X : List Nat} (_ : Core P N G w0 S a w F oss X) {cs : List AV} {S' : St}, tkLs S ls = some (cs, S') →
    ∃ us oc oss', Core P N G w0 S' a w F oss' (oc ++ X) ∧ At P w F (tmo a) ls cs us oc
  | [], S, oss, X, h, cs, S', hc => by
    simp [Abs.tkLs] at hc; obtain ⟨rfl, rfl⟩ := hc
    exact ⟨[], [], oss, h, .nil⟩
  | (s, p) :: ls, S, oss, X, h, cs, S', hc => by
    rw [Abs.tkLs] at hc
    split at hc
    · rename_i c cc hct
      obtain ⟨hk, hg, hkc⟩ := ctn_some hct
      split at hc
      · rename_i cs1 S1 h1
        simp only [Option.some.injEq, Prod.mk.injEq] at hc; obtain ⟨rfl, rfl⟩ := hc
        obtain ⟨u, ou, oss1, k1, k2, k3⟩ := h.takeP hk hg
        obtain ⟨us, oc, oss2, m1, m2⟩ := Core.tkLs k3 h1
        refine ⟨u :: us, ou ++ oc, oss2, ?_, .cons s p c u ou ls cs1 us oc _ k1 k2 m2⟩
        refine m1.sub (fun b hb => ?_) ?_
        · simp only [List.mem_append] at hb ⊢
          rcases hb with (hb | hb) | hb
          · exact .inr (.inl hb)
          · exact .inl hb
          · exact .inr (.inr hb)
        · have := m1.xn
          simp only [List.nodup_append, List.mem_append] at this ⊢
          obtain ⟨n1, ⟨n2, n3, n4⟩, n5⟩ := this
          refine ⟨⟨n2, n1, fun x hx y hy e => n5 y hy x (.inl hx) e.symm⟩, n3, fun x hx y hy => ?_⟩
          rcases hx with hx | hx
          · exact n4 x hx y hy
          · exact n5 x hx y (.inr hy)
      · simp at hc
    · simp at hc

theorem kids_putP {c d : AV} {i : Nat} {p : List Nat} (h : kids c ≠ none) : kids (putP c (i :: p) d) ≠ none := by
  simp only [putP]
  split
  · split
    · cases c <;> simp_all [kids, setKids]
    · exact h
  · exact h
theorem Core.tkLm : ∀ {ls : List Loc} {S : St} {oss : Nat → List Nat} {X : List Nat} (_ : Core P N G w0 S a w F oss X) {cs : List AV} {S' : St}, tkLm S ls = some (cs, S') →
    ∃ us oc oss', Core P N G w0 S' a w F oss' (oc ++ X) ∧ At P w F (tmo a) ls cs us oc
  | [], S, oss, X, h, cs, S', hc => by
    simp [Abs.tkLm] at hc; obtain ⟨rfl, rfl⟩ := hc
    exact ⟨[], [], oss, h, .nil⟩
  | (s, p) :: ls, S, oss, X, h, cs, S', hc => by
    have fin : ∀ {c cc : List AV} {c0 : AV} {S1 S2 : St} {cs1 : List AV} {u : Value} {ou : List Nat} {oss1 : Nat → List Nat}, walkIn w (oss s) (tmo a s) p u → RepC P w F c0 u ou → Core P N G w0 S1 a w F oss1 (ou ++ X) →
        Abs.tkLm S1 ls = some (cs1, S2) → ∃ us oc oss', Core P N G w0 S2 a w F oss' (oc ++ X) ∧ At P w F (tmo a) ((s, p) :: ls) (c0 :: cs1) us oc := by
      intro c cc c0 S1 S2 cs1 u ou oss1 k1 k2 k3 h1
      obtain ⟨us, oc, oss2, m1, m2⟩ := Core.tkLm k3 h1
      refine ⟨u :: us, ou ++ oc, oss2, ?_, .cons s p c0 u ou ls cs1 us oc _ k1 k2 m2⟩
      refine m1.sub (fun b hb => ?_) ?_
      · simp only [List.mem_append] at hb ⊢
        rcases hb with (hb | hb) | hb
        · exact .inr (.inl hb)
        · exact .inl hb
        · exact .inr (.inr hb)
      · have := m1.xn
        simp only [List.nodup_append, List.mem_append] at this ⊢
        obtain ⟨n1, ⟨n2, n3, n4⟩, n5⟩ := this
        refine ⟨⟨n2, n1, fun x hx y hy e => n5 y hy x (.inl hx) e.symm⟩, n3, fun x hx y hy => ?_⟩
        rcases hx with hx | hx
        · exact n4 x hx y hy
        · exact n5 x hx y (.inr hy)
    match p, hc, @fin with
    | [], hc, fin =>
      rw [Abs.tkLm] at hc
      split at hc
      · rename_i c cc hct
        obtain ⟨hk, hg, hkc⟩ := ctn_some hct
        split at hc
        · rename_i cs1 S1 h1
          simp only [Option.some.injEq, Prod.mk.injEq] at hc; obtain ⟨rfl, rfl⟩ := hc
          obtain ⟨u, ou, oss1, k1, k2, k3⟩ := h.takeP hk hg
          exact fin (c := []) (cc := []) k1 k2 k3 h1
        · simp at hc
      · simp at hc
    | [i], hc, fin =>
      rw [Abs.tkLm] at hc
      split at hc
      · rename_i c cc hct
        obtain ⟨hk, hg, hkc⟩ := ctn_some hct
        split at hc
        · rename_i cs1 S1 h1
          simp only [Option.some.injEq, Prod.mk.injEq] at hc; obtain ⟨rfl, rfl⟩ := hc
          obtain ⟨u, o1, ou, o2, k1, k2, k3, k4, k5, k6⟩ := h.inplace hk hg
          have k7 := k6 w F .any [] (ou ++ X) rfl rfl rfl (Nat.le_refl _) (fun _ _ _ _ => rfl) (fun _ h => h) (fun _ h => .inl h) (.any _ k2.oneCell) (by simp) List.nodup_nil
            (fun b hb => by
              rcases List.mem_append.1 hb with hb | hb
              · exact ⟨.inr (.inl hb), (k4 b hb).2.1, (k4 b hb).1, by simp⟩
              · exact ⟨.inl hb, (h.xo b hb).2, (h.xo b hb).1, by simp⟩)
            (List.nodup_append.2 ⟨k5, h.xn, fun x hx y hy e => (k4 x hx).2.2 (e ▸ hy)⟩)
          exact fin (c := []) (cc := []) k1 k2 (h.gentle k7 (fun _ h => h) (fun j hj => by simp [ins, hj]) (kids_putP hk)) h1
        · simp at hc
      · simp at hc
    | _ :: _ :: _, hc, fin => simp [Abs.tkLm] at hc

/-- Things with their values, to be put back. -/
inductive Bk (P : Program) (w : World) (F : Nat → Prop) (tm : Nat → Value) : List Loc → List AV → List Nat → Prop
  | nil : Bk P w F tm [] [] []
  | cons (s : Nat) (p : List Nat) (c : AV) (u : Value) (o : List Nat) (ls : List Loc) (cs : List AV) (os : List Nat) (Y : List Nat)
      (hw : walkIn w Y (tm s) p u) (hr : RepC P w F c u o) (t : Bk P w F tm ls cs os) : Bk P w F tm ((s, p) :: ls) (c :: cs) (o ++ os)

theorem Core.ptLs : ∀ {ls : List Loc} {S : St} {oss : Nat → List Nat} {cs : List AV} {oc : List Nat} {X : List Nat} (_ : Core P N G w0 S a w F oss (oc ++ X)) (_ : Bk P w F (tmo a) ls cs oc) (_ : ∀ l ∈ ls, l.1 < N.1)
    {S' : St}, ptLs S ls cs = some S' → ∃ oss', Core P N G w0 S' a w F oss' X
  | [], S, oss, cs, oc, X, h, hb, hN, S', hc => by
    simp [Abs.ptLs] at hc; subst hc
    cases hb; exact ⟨oss, h⟩
  | (s, []) :: ls, S, oss, cs, oc, X, h, hb, hN, S', hc => by
    cases hb with
    | cons _ _ c u o _ cs os Y hw hr t =>
      rw [Abs.ptLs] at hc
      have hu : u = tmo a s := hw
      subst hu
      have hx := h.xn
      have e1 : ∀ b, b ∈ os ++ X → b ∉ o := by
        intro b hb hbo
        rw [List.append_assoc] at hx
        exact (List.nodup_append.1 hx).2.2 b hbo b hb rfl
      rw [List.append_assoc] at hx
      have := h.reput (t := s) (hN (s, []) (by simp)) (.cell _ _ _ hr) (fun b hb => by simp [hb]) (List.nodup_append.1 hx).1 (X' := os ++ X)
        (fun b hb => ⟨by simp only [List.mem_append] at hb ⊢; rcases hb with hb | hb <;> simp [hb], e1 b hb⟩) (List.nodup_append.1 hx).2.1
      exact Core.ptLs this t (fun l hl => hN l (by simp [hl])) hc
  | (s, i :: p) :: ls, S, oss, cs, oc, X, h, hb, hN, S', hc => by
    cases hb with
    | cons _ _ c u o _ cs os Y hw hr t =>
      rw [Abs.ptLs] at hc
      split at hc
      · rename_i k hk hg
        obtain ⟨u', o1, ou, o2, k1, k2, k3, k4, k5, k6⟩ := h.inplace (by simp [hk]) hg
        have := walkIn_fun hw k1; subst this
        have hx := h.xn
        rw [List.append_assoc] at hx
        have hx1 := List.nodup_append.1 hx
        have := k6 w F c o (os ++ X) rfl rfl rfl (Nat.le_refl _) (fun _ _ _ _ => rfl) (fun _ h => h) (fun _ h => .inl h) hr
          (fun b hb => by have hm : b ∈ (o ++ os) ++ X := by simp [hb]
                          exact ⟨.inl hm, (h.xo b hm).2, (h.xo b hm).1⟩) hx1.1
          (fun b hb => by have hm : b ∈ (o ++ os) ++ X := by simp only [List.mem_append] at hb ⊢; rcases hb with hb | hb <;> simp [hb]
                          exact ⟨.inl hm, (h.xo b hm).2, (h.xo b hm).1, fun ho => hx1.2.2 b ho b hb rfl⟩) hx1.2.1
        exact Core.ptLs (h.gentle this (fun _ h => h) (fun j hj => by simp [ins, hj]) (kids_putP (by simp [hk]))) t (fun l hl => hN l (by simp [hl])) hc
      · simp at hc

theorem At.append {ls ls' : List Loc} {cs cs' : List AV} {us us' : List Value} {os os' : List Nat} {tm : Nat → Value} (h : At P w F tm ls cs us os) (k : At P w F tm ls' cs' us' os') :
    At P w F tm (ls ++ ls') (cs ++ cs') (us ++ us') (os ++ os') := by
  induction h with
  | nil => exact k
  | cons s p c u o ls cs us os Y hw hr t ih => simpa using At.cons s p c u o _ _ _ _ Y hw hr ih

theorem At.split {tm : Nat → Value} : ∀ {ls ls' : List Loc} {cs : List AV} {us : List Value} {os : List Nat}, At P w F tm (ls ++ ls') cs us os →
    ∃ c1 c2 u1 u2 o1 o2, cs = c1 ++ c2 ∧ us = u1 ++ u2 ∧ os = o1 ++ o2 ∧ At P w F tm ls c1 u1 o1 ∧ At P w F tm ls' c2 u2 o2
  | [], ls', cs, us, os, h => ⟨[], cs, [], us, [], os, rfl, rfl, rfl, .nil, h⟩
  | l :: ls, ls', cs, us, os, h => by
    cases h with
    | cons s p c u o ls cs us os Y hw hr t =>
      obtain ⟨c1, c2, u1, u2, o1, o2, rfl, rfl, rfl, h1, h2⟩ := At.split t
      exact ⟨c :: c1, c2, u :: u1, u2, o ++ o1, o2, rfl, rfl, by simp, .cons s p c u o ls c1 u1 o1 Y hw hr h1, h2⟩

theorem fillB_rep {F0 : Nat → Prop} (hF : ∀ b, F b → F0 b) {tm : Nat → Value} : ∀ {cs ds : List AV} {vs : List Value} {os : List Nat} (_ : RepTL P w F tm oss cs vs os)
    {lf l' : List AV} {us : List Value} {oc : List Nat} (_ : At P w F tm (cs.flatMap locB) lf us oc) (_ : fillB cs (lf ++ l') = some (ds, l')), (∀ tm' oss', RepTL P w F0 tm' oss' ds vs oc) ∧ ds.length = cs.length
  | [], ds, vs, os, h, lf, l', us, oc, ha, hf => by
    cases ha
    simp [fillB] at hf; subst hf
    exact ⟨fun _ _ => .nil _, rfl⟩
  | c :: cs, ds, vs, os, h, lf, l', us, oc, ha, hf => by
    cases h with
    | cons _ v o1 _ vs o2 hc ht =>
      rw [List.flatMap_cons] at ha
      obtain ⟨c1, c2, u1, u2, q1, q2, rfl, rfl, rfl, h1, h2⟩ := At.split ha
      rw [List.append_assoc] at hf
      have main : ∀ d, (∀ tm' oss', RepT P w F0 tm' oss' d v q1) → (match fillB cs (c2 ++ l') with | some (ds, l') => some (d :: ds, l') | none => none) = some (ds, l') →
          (∀ tm' oss', RepTL P w F0 tm' oss' ds (v :: vs) (q1 ++ q2)) ∧ ds.length = (c :: cs).length := by
        intro d hd hm
        split at hm
        · rename_i ds1 l1 h3
          simp only [Option.some.injEq, Prod.mk.injEq] at hm; obtain ⟨rfl, rfl⟩ := hm
          obtain ⟨k1, k2⟩ := fillB_rep hF ht h2 h3
          exact ⟨fun tm' oss' => .cons _ _ _ _ _ _ (hd tm' oss') (k1 tm' oss'), by simp [k2]⟩
        · simp at hm
      cases c with
      | bor s p =>
        cases h1 with
        | cons _ _ c u o ls cs' us' os' Y hw hr t =>
          cases t
          simp only [List.cons_append, List.nil_append, fillB] at hf
          refine main c (fun tm' oss' => ?_) hf
          cases hc with
          | cell _ _ _ hc => cases hc
          | bor _ _ _ h =>
            have := walkIn_fun hw h; subst this
            simpa using RepT.cell _ _ _ (hr.mono hF (fun _ _ => rfl))
      | val x =>
        cases h1
        simp only [List.nil_append, fillB] at hf
        refine main _ (fun tm' oss' => ?_) hf
        cases hc with
        | cell _ _ _ hc => cases hc with | val _ hv => exact .cell _ _ _ (.val _ hv)
      | sl n xs =>
        cases h1
        simp only [List.nil_append, fillB] at hf
        refine main _ (fun tm' oss' => ?_) hf
        have := hc.noOwn rfl
        subst this
        cases hc with
        | cell _ _ _ hc => exact .cell _ _ _ (hc.mono hF (fun _ _ => rfl))
      | _ => simp [fillB] at hf

/-- The value with the things in it, as the callee is handed it. -/
theorem fillA_rep {F0 : Nat → Prop} (hF : ∀ b, F b → F0 b) {tm : Nat → Value} {t : Nat} {c d : AV} {v : Value} {os : List Nat} (h : RepT P w F tm oss c v os) (hv : isOB c = true → v = tm t)
    {lf l' : List AV} {us : List Value} {oc : List Nat} (ha : At P w F tm (locs t c) lf us oc) (hf : fillA c (lf ++ l') = some (d, l')) : ∀ tm' oss', RepT P w F0 tm' oss' d v oc := by
  intro tm' oss'
  have own : isOB c = true → locs t c = [(t, [])] → fillA c (lf ++ l') = some (d, l') → (∀ x l, fillA c (x :: l) = some (x, l)) → RepT P w F0 tm' oss' d v oc := by
    intro ho hl hf hx
    rw [hl] at ha
    cases ha with
    | cons s p c u o ls cs us os Y hw hr t =>
      cases t
      rw [List.cons_append, List.nil_append, hx] at hf
      simp only [Option.some.injEq, Prod.mk.injEq] at hf; obtain ⟨rfl, _⟩ := hf
      have hw : u = tm _ := hw
      rw [← hv ho] at hw; subst hw
      simpa using RepT.cell _ _ _ (hr.mono hF (fun _ _ => rfl))
  cases c with
  | any => simp [fillA] at hf
  | val x =>
    cases ha
    have h2 : RepT P w F0 tm' oss' (.val x) v [] := by
      cases h with
      | cell _ _ _ hc => cases hc with | val _ hv => exact .cell _ _ _ (.val _ hv)
    rw [fillA.eq_def] at hf
    split at hf <;> simp_all
    · subst hf
      cases h with
      | cell _ _ _ hc => cases hc with | val _ hv => exact .cell _ _ _ (.sl0 _ _)
  | sl n xs =>
    cases ha
    simp [fillA] at hf; subst hf
    have := h.noOwn rfl
    subst this
    cases h with
    | cell _ _ _ hc => exact .cell _ _ _ (hc.mono hF (fun _ _ => rfl))
  | own e n cs => exact own rfl rfl hf (fun _ _ => rfl)
  | box e cs => exact own rfl rfl hf (fun _ _ => rfl)
  | mp c => exact own rfl rfl hf (fun _ _ => rfl)
  | it l es => simp [fillA] at hf
  | slp s p o n => simp [fillA] at hf
  | fmp c =>
    cases ha
    simp [fillA] at hf; subst hf
    have := h.noOwn rfl
    subst this
    cases h with
    | cell _ _ _ hc => exact .cell _ _ _ (hc.mono hF (fun _ _ => rfl))
  | agg cs =>
    cases h with
    | cell _ _ _ hc => cases hc
    | agg _ vs os hl h =>
      simp only [fillA] at hf
      split at hf
      · rename_i ds l'' hds
        simp only [Option.some.injEq, Prod.mk.injEq] at hf; obtain ⟨rfl, rfl⟩ := hf
        obtain ⟨k1, k2⟩ := fillB_rep hF h ha hds
        exact .agg ds vs oc (k2.trans hl) (k1 tm' oss')
      · simp at hf
  | tup cs => simp [fillA] at hf
  | fn f cs => simp [fillA] at hf
  | bor s p =>
    cases ha with
    | cons _ _ c u o ls cs us os Y hw hr t =>
      cases t
      simp [fillA] at hf; subst hf
      cases h with
      | cell _ _ _ hc => cases hc
      | bor _ _ _ h =>
        have := walkIn_fun hw h; subst this
        simpa using RepT.cell _ _ _ (hr.mono hF (fun _ _ => rfl))
  | ptr => simp [fillA] at hf
  | fptr cs =>
    cases ha
    simp [fillA] at hf; subst hf
    have := h.noOwn rfl
    subst this
    cases h with
    | cell _ _ _ hc => exact .cell _ _ _ (hc.mono hF (fun _ _ => rfl))

theorem Core.opOwn (h : Core P N G w0 S a w F oss X) {x : Operand} (hx : ∀ t, x ≠ .tmp t) : isOB (aop S x) = false := by
  cases x with
  | tmp t => exact (hx t rfl).elim
  | const v => simp only [aop]; unfold cv; split <;> rfl
  | global g => rfl
  | func f => rfl

theorem fillB_len : ∀ {cs ds l l' : List AV}, fillB cs l = some (ds, l') → ∃ lf, l = lf ++ l' ∧ lf.length = (cs.flatMap locB).length
  | [], ds, l, l', h => by simp [fillB] at h; obtain ⟨_, rfl⟩ := h; exact ⟨[], rfl, rfl⟩
  | c :: cs, ds, l, l', h => by
    have plain : (match fillB cs l with | some (ds, l') => some ((default : AV) :: ds, l') | none => none).isSome = true → locB c = [] → ∀ d, (match fillB cs l with | some (ds, l') => some (d :: ds, l') | none => none) = some (ds, l') →
        ∃ lf, l = lf ++ l' ∧ lf.length = ((c :: cs).flatMap locB).length := by
      intro _ hl d hm
      split at hm
      · rename_i ds1 l1 h3
        simp only [Option.some.injEq, Prod.mk.injEq] at hm; obtain ⟨_, rfl⟩ := hm
        obtain ⟨lf, e1, e2⟩ := fillB_len h3
        exact ⟨lf, e1, by simp [hl, e2]⟩
      · simp at hm
    cases c with
    | bor s p =>
      cases l with
      | nil => simp [fillB] at h
      | cons x l =>
        simp only [fillB] at h
        split at h
        · rename_i ds1 l1 h3
          simp only [Option.some.injEq, Prod.mk.injEq] at h; obtain ⟨_, rfl⟩ := h
          obtain ⟨lf, e1, e2⟩ := fillB_len h3
          exact ⟨x :: lf, by simp [e1], by simp [locB, e2]⟩
        · simp at h
    | val v => exact plain (by simp only [fillB] at h; split at h <;> simp_all) rfl _ (by simpa only [fillB] using h)
    | sl n xs => exact plain (by simp only [fillB] at h; split at h <;> simp_all) rfl _ (by simpa only [fillB] using h)
    | _ => simp [fillB] at h

theorem fillA_len {c d : AV} {l l' : List AV} (h : fillA c l = some (d, l')) (t : Nat) : ∃ lf, l = lf ++ l' ∧ lf.length = (locs t c).length := by
  cases c with
  | any => simp [fillA] at h
  | val x =>
    refine ⟨[], ?_, rfl⟩
    rw [fillA.eq_def] at h
    split at h <;> simp_all
  | sl n xs => simp [fillA] at h; exact ⟨[], by simp [h.2], rfl⟩
  | own e n cs => cases l with
    | nil => simp [fillA] at h
    | cons x l => simp [fillA] at h; exact ⟨[x], by simp [h.2], rfl⟩
  | box e cs => cases l with
    | nil => simp [fillA] at h
    | cons x l => simp [fillA] at h; exact ⟨[x], by simp [h.2], rfl⟩
  | bor s p => cases l with
    | nil => simp [fillA] at h
    | cons x l => simp [fillA] at h; exact ⟨[x], by simp [h.2], rfl⟩
  | agg cs =>
    simp only [fillA] at h
    split at h
    · rename_i ds l1 h3
      simp only [Option.some.injEq, Prod.mk.injEq] at h; obtain ⟨_, rfl⟩ := h
      exact fillB_len h3
    · simp at h
  | tup cs => simp [fillA] at h
  | fn f cs => simp [fillA] at h
  | ptr => simp [fillA] at h
  | fptr cs => simp [fillA] at h; exact ⟨[], by simp [h.2], rfl⟩
  | fmp c => simp [fillA] at h; exact ⟨[], by simp [h.2], rfl⟩
  | it => simp [fillA] at h
  | slp => simp [fillA] at h
  | mp c => cases l with
    | nil => simp [fillA] at h
    | cons x l => simp [fillA] at h; exact ⟨[x], by simp [h.2], rfl⟩

theorem At.len {tm : Nat → Value} {ls : List Loc} {cs : List AV} {us : List Value} {os : List Nat} (h : At P w F tm ls cs us os) : cs.length = ls.length := by
  induction h with
  | nil => rfl
  | cons => simpa

theorem Core.margs {F0 : Nat → Prop} (h : Core P N G w0 S a w F oss X) (hF : ∀ b, F b → F0 b) : ∀ {xs : List Operand} {ds lf : List AV} {us : List Value} {oc : List Nat}, At P w F (tmo a) (locArgs S xs) lf us oc →
    fillArgs S xs lf = some ds → (∀ tm' oss', RepTL P w F0 tm' oss' ds (xs.map a.eval) oc) ∧ ds.length = xs.length
  | [], ds, lf, us, oc, ha, hf => by
    cases ha
    simp [fillArgs] at hf; subst hf
    exact ⟨fun _ _ => .nil _, rfl⟩
  | x :: xs, ds, lf, us, oc, ha, hf => by
    have key : ∀ {l0 : List Loc} {c1 c2 : List AV} {u1 u2 : List Value} {q1 q2 : List Nat} (t : Nat), locs t (aop S x) = l0 → (isOB (aop S x) = true → a.eval x = tmo a t) → At P w F (tmo a) l0 c1 u1 q1 →
        At P w F (tmo a) (locArgs S xs) c2 u2 q2 → fillArgs S (x :: xs) (c1 ++ c2) = some ds → (∀ tm' oss', RepTL P w F0 tm' oss' ds ((x :: xs).map a.eval) (q1 ++ q2)) ∧ ds.length = (x :: xs).length := by
      intro l0 c1 c2 u1 u2 q1 q2 t hl hv h1 h2 hf
      rw [fillArgs.eq_def] at hf
      simp only at hf
      split at hf
      · rename_i d l' hfa
        split at hf
        · rename_i ds1 hfs
          injection hf with hf; subst hf
          obtain ⟨lf1, e1, e2⟩ := fillA_len hfa t
          have : l' = c2 ∧ lf1 = c1 := by
            have hlen : lf1.length = c1.length := by rw [e2, hl, ← h1.len]
            have := List.append_inj e1 hlen.symm
            exact ⟨this.2.symm, this.1.symm⟩
          obtain ⟨rfl, rfl⟩ := this
          obtain ⟨os, ho, _⟩ := h.op x
          subst hl
          obtain ⟨k1, k2⟩ := Core.margs h hF h2 hfs
          exact ⟨fun tm' oss' => .cons _ _ _ _ _ _ (fillA_rep hF ho hv h1 hfa tm' oss') (k1 tm' oss'), by simp [k2]⟩
        · simp at hf
      · simp at hf
    cases x with
    | tmp t =>
      obtain ⟨c1, c2, u1, u2, q1, q2, rfl, rfl, rfl, h1, h2⟩ := At.split (by simpa only [locArgs] using ha)
      exact key t rfl (fun _ => rfl) h1 h2 hf
    | const v => exact key (c1 := []) (q1 := []) (u1 := []) 0 (by simp only [aop]; unfold cv; split <;> rfl) (fun ho => by rw [h.opOwn (by simp)] at ho; simp at ho) .nil (by simpa only [locArgs] using ha) hf
    | global g => simp [fillArgs, aop, fillA] at hf
    | func f => exact key (c1 := []) (q1 := []) (u1 := []) 0 rfl (fun ho => by rw [h.opOwn (by simp)] at ho; simp at ho) .nil (by simpa only [locArgs] using ha) hf

theorem Bk.append {ls ls' : List Loc} {cs cs' : List AV} {os os' : List Nat} {tm : Nat → Value} (h : Bk P w F tm ls cs os) (k : Bk P w F tm ls' cs' os') :
    Bk P w F tm (ls ++ ls') (cs ++ cs') (os ++ os') := by
  induction h with
  | nil => exact k
  | cons s p c u o ls cs os Y hw hr t ih => simpa using Bk.cons s p c u o _ _ _ Y hw hr ih

theorem isOB_cell {tm : Nat → Value} {d : AV} {v : Value} {os : List Nat} (h : RepT P w F tm oss d v os) (ho : isOB d = true) : RepC P w F d v os := h.ofKids (isOB_kids ho)

theorem leafB_bk {F' : Nat → Prop} {tm tm' : Nat → Value} {oss' : Nat → List Nat} : ∀ {cs outs lf : List AV} {vs : List Value} {os oo : List Nat}, RepTL P w F tm oss cs vs os → RepTL P w' F' tm' oss' outs vs oo →
    (∀ l ∈ cs.flatMap locB, ∀ v, walkIn w (oss l.1) (tm l.1) l.2 v → ∃ Y, walkIn w' Y (tm l.1) l.2 v) → leafB cs outs = some lf → ∃ o', Bk P w' F' tm (cs.flatMap locB) lf o' ∧ (∀ b, b ∈ o' → b ∈ oo) ∧ (oo.Nodup → o'.Nodup)
  | [], outs, lf, vs, os, oo, h, k, hT, hl => by simp [leafB] at hl; subst hl; exact ⟨[], .nil, by simp, fun _ => List.nodup_nil⟩
  | c :: cs, [], lf, vs, os, oo, h, k, hT, hl => by cases c <;> simp [leafB] at hl
  | c :: cs, d :: outs, lf, vs, os, oo, h, k, hT, hl => by
    cases h with
    | cons _ v o1 _ vs o2 hc ht =>
      cases k with
      | cons _ _ p1 _ _ p2 kc kt =>
        have hT2 : ∀ l ∈ cs.flatMap locB, ∀ v, walkIn w (oss l.1) (tm l.1) l.2 v → ∃ Y, walkIn w' Y (tm l.1) l.2 v := fun l hl => hT l (by rw [List.flatMap_cons]; simp [hl])
        have plain : locB c = [] → leafB cs outs = some lf → ∃ o', Bk P w' F' tm ((c :: cs).flatMap locB) lf o' ∧ (∀ b, b ∈ o' → b ∈ p1 ++ p2) ∧ ((p1 ++ p2).Nodup → o'.Nodup) := by
          intro e1 e2
          obtain ⟨o', q1, q2, q3⟩ := leafB_bk ht kt hT2 e2
          exact ⟨o', by rw [List.flatMap_cons, e1]; exact q1, fun b hb => by simp [q2 b hb], fun hn => q3 (List.nodup_append.1 hn).2.1⟩
        cases c with
        | bor s p =>
          simp only [leafB] at hl
          split at hl
          · rename_i l h3
            split at hl
            · rename_i hob
              injection hl with hl; subst hl
              obtain ⟨o', q1, q2, q3⟩ := leafB_bk ht kt hT2 h3
              have hw : walkIn w (oss s) (tm s) p v := by
                cases hc with
                | cell _ _ _ hc => cases hc
                | bor _ _ _ h => exact h
              obtain ⟨Y, hY⟩ := hT (s, p) (by simp [locB]) v hw
              refine ⟨p1 ++ o', .cons s p d v p1 _ _ o' Y hY (isOB_cell kc hob) q1, fun b hb => ?_, fun hn => ?_⟩
              · rcases List.mem_append.1 hb with hb | hb
                · simp [hb]
                · simp [q2 b hb]
              · have := List.nodup_append.1 hn
                exact List.nodup_append.2 ⟨this.1, q3 this.2.1, fun x hx y hy => this.2.2 x hx y (q2 y hy)⟩
            · simp at hl
          · simp at hl
        | _ => exact plain rfl (by simpa only [leafB] using hl)

theorem leafA_bk {F' : Nat → Prop} {tm tm' : Nat → Value} {oss' : Nat → List Nat} {t : Nat} {c d : AV} {v : Value} {os oo : List Nat} (h : RepT P w F tm oss c v os) (hv : isOB c = true → v = tm t) (k : RepT P w' F' tm' oss' d v oo)
    (hT : ∀ l ∈ locs t c, ∀ v, walkIn w (oss l.1) (tm l.1) l.2 v → ∃ Y, walkIn w' Y (tm l.1) l.2 v) {lf : List AV} (hl : leafA c d = some lf) : ∃ o', Bk P w' F' tm (locs t c) lf o' ∧ (∀ b, b ∈ o' → b ∈ oo) ∧ (oo.Nodup → o'.Nodup) := by
  have own : isOB c = true → locs t c = [(t, [])] → (if isOB d then some [d] else none) = some lf → ∃ o', Bk P w' F' tm (locs t c) lf o' ∧ (∀ b, b ∈ o' → b ∈ oo) ∧ (oo.Nodup → o'.Nodup) := by
    intro ho e1 e2
    split at e2
    · rename_i hob
      injection e2 with e2; subst e2
      rw [e1]
      exact ⟨oo ++ [], .cons t [] d v oo _ _ [] [] (hv ho) (isOB_cell k hob) .nil, by simp, by simp⟩
    · simp at e2
  have plain : locs t c = [] → some ([] : List AV) = some lf → ∃ o', Bk P w' F' tm (locs t c) lf o' ∧ (∀ b, b ∈ o' → b ∈ oo) ∧ (oo.Nodup → o'.Nodup) := by
    intro e1 e2
    injection e2 with e2; subst e2
    rw [e1]; exact ⟨[], .nil, by simp, fun _ => List.nodup_nil⟩
  cases c with
  | own e n cs => exact own rfl rfl hl
  | box e cs => exact own rfl rfl hl
  | mp c => exact own rfl rfl hl
  | bor s p =>
    simp only [leafA] at hl
    split at hl
    · rename_i hob
      injection hl with hl; subst hl
      have hw : walkIn w (oss s) (tm s) p v := by
        cases h with
        | cell _ _ _ hc => cases hc
        | bor _ _ _ h => exact h
      obtain ⟨Y, hY⟩ := hT (s, p) (by simp [locs]) v hw
      exact ⟨oo ++ [], .cons s p d v oo _ _ [] Y hY (isOB_cell k hob) .nil, by simp, by simp⟩
    · simp at hl
  | agg cs =>
    cases d with
    | agg ds =>
      generalize hvv : v = vv at k
      cases h with
      | cell _ _ _ hc => cases hc
      | agg _ vs os hl' hL =>
        cases k with
        | cell _ _ _ hc => cases hc
        | agg _ vs' oo hl'' kL =>
          have : vs = vs' := by injection hvv with h; simpa using h
          subst this
          exact leafB_bk hL kL hT hl
    | _ => simp [leafA] at hl
  | any => exact plain rfl hl
  | val => exact plain rfl hl
  | sl => exact plain rfl hl
  | tup => exact plain rfl hl
  | fn f => exact plain rfl hl
  | ptr => exact plain rfl hl
  | fptr => exact plain rfl hl
  | fmp => exact plain rfl hl
  | it => exact plain rfl hl
  | slp => exact plain rfl hl

theorem Core.mouts {F' : Nat → Prop} {tm' : Nat → Value} {oss' : Nat → List Nat} (h : Core P N G w0 S a w F oss X) : ∀ {xs : List Operand} {outs lf : List AV} {oo : List Nat}, RepTL P w' F' tm' oss' outs (xs.map a.eval) oo →
    (∀ l ∈ locArgs S xs, ∀ v, walkIn w (oss l.1) (tmo a l.1) l.2 v → ∃ Y, walkIn w' Y (tmo a l.1) l.2 v) → leafArgs S xs outs = some lf →
    ∃ o', Bk P w' F' (tmo a) (locArgs S xs) lf o' ∧ (∀ b, b ∈ o' → b ∈ oo) ∧ (oo.Nodup → o'.Nodup)
  | [], outs, lf, oo, k, hT, hl => by simp [leafArgs] at hl; subst hl; exact ⟨[], .nil, by simp, fun _ => List.nodup_nil⟩
  | x :: xs, [], lf, oo, k, hT, hl => by simp [leafArgs] at hl
  | x :: xs, d :: outs, lf, oo, k, hT, hl => by
    cases k with
    | cons _ _ p1 _ _ p2 kc kt =>
      simp only [leafArgs] at hl
      split at hl
      · rename_i l1 l2 h1 h2
        injection hl with hl; subst hl
        obtain ⟨os, ho, _⟩ := h.op x
        have fin : ∀ {t : Nat}, (isOB (aop S x) = true → a.eval x = tmo a t) → locArgs S (x :: xs) = locs t (aop S x) ++ locArgs S xs →
            ∃ o', Bk P w' F' (tmo a) (locArgs S (x :: xs)) (l1 ++ l2) o' ∧ (∀ b, b ∈ o' → b ∈ p1 ++ p2) ∧ ((p1 ++ p2).Nodup → o'.Nodup) := by
          intro t hv e1
          rw [e1] at hT ⊢
          obtain ⟨o1, q1, q2, q3⟩ := leafA_bk ho hv kc (fun l hl => hT l (by simp [hl])) h1
          obtain ⟨o2, r1, r2, r3⟩ := Core.mouts h kt (fun l hl => hT l (by simp [hl])) h2
          refine ⟨o1 ++ o2, q1.append r1, fun b hb => ?_, fun hn => ?_⟩
          · rcases List.mem_append.1 hb with hb | hb
            · simp [q2 b hb]
            · simp [r2 b hb]
          · have := List.nodup_append.1 hn
            exact List.nodup_append.2 ⟨q3 this.1, r3 this.2.1, fun x hx y hy => this.2.2 x (q2 x hx) y (r2 y hy)⟩
        cases x with
        | tmp t => exact fin (fun _ => rfl) rfl
        | const v => exact fin (t := 0) (fun ho => by rw [h.opOwn (by simp)] at ho; simp at ho) (by simp only [aop, locArgs]; unfold cv; split <;> rfl)
        | global g => exact fin (t := 0) (fun ho => by simp [aop, isOB] at ho) rfl
        | func f => exact fin (t := 0) (fun ho => by simp [aop, isOB] at ho) rfl
      · simp at hl
end
end Go.Abs
