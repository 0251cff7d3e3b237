/- Abstract frames: what each slot of a Go function's frame holds, in a world; blocks that are ours are ours once. It holds over any program. -/
import Derived.Test.YtdhnnpohpfjaiaaAbsA
set_option linter.unusedVariables false
set_option linter.unusedSimpArgs false
namespace Go.Abs
open Go.RowKit (Below)

mutual
/-- Whatever borrows from a slot of W is forgotten. -/
def kl (W : List Nat) : AV → AV
  | .bor s p => if W.contains s then .any else .bor s p
  | .ptr s p o => if W.contains s then .any else .ptr s p o
  | .slp s p o n => if W.contains s then .any else .slp s p o n
  | .agg cs => .agg (klL W cs)
  | .tup cs => .tup (klL W cs)
  | .fn f cs => .fn f (klL W cs)
  | .any => .any
  | .val v => .val v
  | .sl n cs => .sl n cs
  | .own e n cs => .own e n cs
  | .box e cs => .box e cs
  | .fptr cs => .fptr cs
  | .mp c => .mp c
  | .fmp c => .fmp c
  | .it l es => .it l es
def klL (W : List Nat) : List AV → List AV
  | [] => []
  | c :: cs => kl W c :: klL W cs
end
mutual
/-- Whatever borrows from the inside of slot d is forgotten. -/
def kn (d : Nat) : AV → AV
  | .bor s p => if s = d && !p.isEmpty then .any else .bor s p
  | .ptr s p o => if s = d && !p.isEmpty then .any else .ptr s p o
  | .slp s p o n => if s = d && !p.isEmpty then .any else .slp s p o n
  | .agg cs => .agg (knL d cs)
  | .tup cs => .tup (knL d cs)
  | .fn f cs => .fn f (knL d cs)
  | .any => .any
  | .val v => .val v
  | .sl n cs => .sl n cs
  | .own e n cs => .own e n cs
  | .box e cs => .box e cs
  | .fptr cs => .fptr cs
  | .mp c => .mp c
  | .fmp c => .fmp c
  | .it l es => .it l es
def knL (d : Nat) : List AV → List AV
  | [] => []
  | c :: cs => kn d c :: knL d cs
end

/-- Slot d is written anew. -/
def upd (d : Nat) (v : AV) (S : St) : St := fun i => kl [d] (if i = d then v else S i)
/-- What slot d leads to is written; the slot's own value stays. -/
def updn (d : Nat) (v : AV) (S : St) : St := fun i => if i = d then v else kn d (S i)

def baseOf : Value → Option Nat
  | .slice (some ⟨b, 0, none⟩) _ _ => some b
  | .pointer (some ⟨b, 0, none⟩) => some b
  | _ => none

/-- From value v the path leads to u, through blocks of X. -/
def walkIn (w : World) (X : List Nat) : Value → List Nat → Value → Prop
  | v, [], u => u = v
  | v, i :: p, u => ∃ b c e fr v', baseOf v = some b ∧ b ∈ X ∧ w.heap[b]? = some (.cells c e fr) ∧ c[i]? = some v' ∧ walkIn w X v' p u

theorem walkIn_fun {w : World} {X Y : List Nat} {p : List Nat} : ∀ {v u u' : Value}, walkIn w X v p u → walkIn w Y v p u' → u = u' := by
  induction p with
  | nil => intro v u u' h k; exact h.trans k.symm
  | cons i p ih =>
    intro v u u' h k
    obtain ⟨b, c, e, fr, v', h1, h2, h3, h4, h5⟩ := h
    obtain ⟨b', c', e', fr', v'', k1, k2, k3, k4, k5⟩ := k
    rw [h1] at k1; injection k1 with k1; subst k1
    rw [h3] at k3; injection k3 with k3; injection k3 with k3; subst k3
    rw [h4] at k4; injection k4 with k4; subst k4
    exact ih h5 k5

theorem walkIn_mono {w w' : World} {X Y : List Nat} {p : List Nat} (hXY : ∀ b ∈ X, b ∈ Y) (hw : ∀ b ∈ X, w'.heap[b]? = w.heap[b]?) :
    ∀ {v u : Value}, walkIn w X v p u → walkIn w' Y v p u := by
  induction p with
  | nil => intro v u h; exact h
  | cons i p ih =>
    intro v u h
    obtain ⟨b, c, e, fr, v', h1, h2, h3, h4, h5⟩ := h
    exact ⟨b, c, e, fr, v', h1, hXY b h2, (hw b h2).trans h3, h4, ih h5⟩

def kids : AV → Option (List AV)
  | .own _ _ cs => some cs
  | .box _ cs => some cs
  | .mp _ => some []
  | .it _ _ => some []
  | _ => none
def setKids : AV → List AV → AV
  | .own e n _, cs => .own e n cs
  | .box e _, cs => .box e cs
  | c, _ => c
/-- What lies at a path. -/
def getP : AV → List Nat → Option AV
  | c, [] => some c
  | c, i :: p => match kids c with
    | some cs => match cs[i]? with
      | some c' => getP c' p
      | none => none
    | none => none
/-- The same with another thing at the path. -/
def putP : AV → List Nat → AV → AV
  | _, [], d => d
  | c, i :: p, d => match kids c with
    | some cs => match cs[i]? with
      | some c' => setKids c (cs.set i (putP c' p d))
      | none => c
    | none => c

mutual
/-- What a slot holds. -/
inductive RepT (P : Program) (w : World) (F : Nat → Prop) (tm : Nat → Value) (oss : Nat → List Nat) : AV → Value → List Nat → Prop
  | any (v : Value) : RepT P w F tm oss .any v []
  | cell (c : AV) (v : Value) (os : List Nat) (h : RepC P w F c v os) : RepT P w F tm oss c v os
  | agg (cs : List AV) (vs : List Value) (os : List Nat) (hl : cs.length = vs.length) (h : RepTL P w F tm oss cs vs os) : RepT P w F tm oss (.agg cs) (.agg vs.toArray) os
  | tup (cs : List AV) (vs : List Value) (os : List Nat) (hl : cs.length = vs.length) (h : RepTL P w F tm oss cs vs os) : RepT P w F tm oss (.tup cs) (.tuple vs.toArray) os
  | fn (f : FuncId) (cs : List AV) (vs : List Value) (os : List Nat) (hl : cs.length = vs.length) (h : RepTL P w F tm oss cs vs os) : RepT P w F tm oss (.fn f cs) (.func (.func f) #[] vs.toArray) os
  | bor (s : Nat) (p : List Nat) (v : Value) (h : walkIn w (oss s) (tm s) p v) : RepT P w F tm oss (.bor s p) v []
  | ptr (s : Nat) (p : List Nat) (off : Nat) (u : Value) (b : Nat) (h : walkIn w (oss s) (tm s) p u) (hb : baseOf u = some b) :
      RepT P w F tm oss (.ptr s p off) (.pointer (some ⟨b, off, none⟩)) []
  | slp (s : Nat) (p : List Nat) (off n cap : Nat) (u : Value) (b : Nat) (h : walkIn w (oss s) (tm s) p u) (hb : baseOf u = some b) (hn : n ≤ cap) :
      RepT P w F tm oss (.slp s p off n) (.slice (some ⟨b, off, none⟩) n cap) []
inductive RepTL (P : Program) (w : World) (F : Nat → Prop) (tm : Nat → Value) (oss : Nat → List Nat) : List AV → List Value → List Nat → Prop
  | nil (vs : List Value) : RepTL P w F tm oss [] vs []
  | cons (c : AV) (v : Value) (os : List Nat) (cs : List AV) (vs : List Value) (os' : List Nat) (h : RepT P w F tm oss c v os) (t : RepTL P w F tm oss cs vs os') :
      RepTL P w F tm oss (c :: cs) (v :: vs) (os ++ os')
end

section
variable {P : Program} {w w' : World} {F F' : Nat → Prop} {tm tm' : Nat → Value} {oss oss' : Nat → List Nat}

mutual
theorem RepT.kl (W : List Nat) (hF : ∀ b, F b → F' b) (hk : ∀ s p u, ¬ s ∈ W → walkIn w (oss s) (tm s) p u → walkIn w' (oss' s) (tm' s) p u)
    {c : AV} {v : Value} {os : List Nat} (h : RepT P w F tm oss c v os) (hw : ∀ b, F b ∨ b ∈ os → w'.heap[b]? = w.heap[b]?) :
    RepT P w' F' tm' oss' (kl W c) v os := by
  cases h with
  | any v => exact .any v
  | cell c v os h => 
    have := RepC.mono hF h hw
    cases h <;> exact .cell _ _ _ this
  | agg cs vs os hl h => exact .agg _ vs os (by rw [← hl]; clear h; induction cs generalizing vs with | nil => rfl | cons c cs ih => cases vs with | nil => simp at hl | cons v vs => simpa [Abs.klL] using ih vs (by simpa using hl)) (RepTL.kl W hF hk h hw)
  | tup cs vs os hl h => exact .tup _ vs os (by rw [← hl]; clear h; induction cs generalizing vs with | nil => rfl | cons c cs ih => cases vs with | nil => simp at hl | cons v vs => simpa [Abs.klL] using ih vs (by simpa using hl)) (RepTL.kl W hF hk h hw)
  | fn f cs vs os hl h => exact .fn f _ vs os (by rw [← hl]; clear h; induction cs generalizing vs with | nil => rfl | cons c cs ih => cases vs with | nil => simp at hl | cons v vs => simpa [Abs.klL] using ih vs (by simpa using hl)) (RepTL.kl W hF hk h hw)
  | bor s p v h =>
    rw [Abs.kl]
    by_cases hs : s ∈ W
    · rw [if_pos (by simpa using hs)]; exact .any _
    · rw [if_neg (by simpa using hs)]; exact .bor s p v (hk s p v hs h)
  | ptr s p off u b h hb =>
    rw [Abs.kl]
    by_cases hs : s ∈ W
    · rw [if_pos (by simpa using hs)]; exact .any _
    · rw [if_neg (by simpa using hs)]; exact .ptr s p off u b (hk s p u hs h) hb
  | slp s p off n cap u b h hb hn =>
    rw [Abs.kl]
    by_cases hs : s ∈ W
    · rw [if_pos (by simpa using hs)]; exact .any _
    · rw [if_neg (by simpa using hs)]; exact .slp s p off n cap u b (hk s p u hs h) hb hn
theorem RepTL.kl (W : List Nat) (hF : ∀ b, F b → F' b) (hk : ∀ s p u, ¬ s ∈ W → walkIn w (oss s) (tm s) p u → walkIn w' (oss' s) (tm' s) p u)
    {cs : List AV} {vs : List Value} {os : List Nat} (h : RepTL P w F tm oss cs vs os) (hw : ∀ b, F b ∨ b ∈ os → w'.heap[b]? = w.heap[b]?) :
    RepTL P w' F' tm' oss' (klL W cs) vs os := by
  cases h with
  | nil vs => exact .nil vs
  | cons c v os cs vs os' h t =>
    exact .cons _ v os _ vs os' (RepT.kl W hF hk h (fun x hx => hw x (hx.imp id (fun h => by simp [h])))) (RepTL.kl W hF hk t (fun x hx => hw x (hx.imp id (fun h => by simp [h]))))
end

mutual
theorem RepT.kn (d : Nat) (hF : ∀ b, F b → F' b) (hk : ∀ s p u, (s ≠ d ∨ p = []) → walkIn w (oss s) (tm s) p u → walkIn w' (oss' s) (tm' s) p u)
    {c : AV} {v : Value} {os : List Nat} (h : RepT P w F tm oss c v os) (hw : ∀ b, F b ∨ b ∈ os → w'.heap[b]? = w.heap[b]?) :
    RepT P w' F' tm' oss' (kn d c) v os := by
  cases h with
  | any v => exact .any v
  | cell c v os h => 
    have := RepC.mono hF h hw
    cases h <;> exact .cell _ _ _ this
  | agg cs vs os hl h => exact .agg _ vs os (by rw [← hl]; clear h; induction cs generalizing vs with | nil => rfl | cons c cs ih => cases vs with | nil => simp at hl | cons v vs => simpa [Abs.knL] using ih vs (by simpa using hl)) (RepTL.kn d hF hk h hw)
  | tup cs vs os hl h => exact .tup _ vs os (by rw [← hl]; clear h; induction cs generalizing vs with | nil => rfl | cons c cs ih => cases vs with | nil => simp at hl | cons v vs => simpa [Abs.knL] using ih vs (by simpa using hl)) (RepTL.kn d hF hk h hw)
  | fn f cs vs os hl h => exact .fn f _ vs os (by rw [← hl]; clear h; induction cs generalizing vs with | nil => rfl | cons c cs ih => cases vs with | nil => simp at hl | cons v vs => simpa [Abs.knL] using ih vs (by simpa using hl)) (RepTL.kn d hF hk h hw)
  | bor s p v h =>
    rw [Abs.kn]
    by_cases hs : (s = d && !p.isEmpty) = true
    · rw [if_pos hs]; exact .any _
    · rw [if_neg hs]; exact .bor s p v (hk s p v (by
        by_cases e : s = d
        · right; simpa [e] using hs
        · exact .inl e) h)
  | ptr s p off u b h hb =>
    rw [Abs.kn]
    by_cases hs : (s = d && !p.isEmpty) = true
    · rw [if_pos hs]; exact .any _
    · rw [if_neg hs]; exact .ptr s p off u b (hk s p u (by
        by_cases e : s = d
        · right; simpa [e] using hs
        · exact .inl e) h) hb
  | slp s p off n cap u b h hb hn =>
    rw [Abs.kn]
    by_cases hs : (s = d && !p.isEmpty) = true
    · rw [if_pos hs]; exact .any _
    · rw [if_neg hs]; exact .slp s p off n cap u b (hk s p u (by
        by_cases e : s = d
        · right; simpa [e] using hs
        · exact .inl e) h) hb hn
theorem RepTL.kn (d : Nat) (hF : ∀ b, F b → F' b) (hk : ∀ s p u, (s ≠ d ∨ p = []) → walkIn w (oss s) (tm s) p u → walkIn w' (oss' s) (tm' s) p u)
    {cs : List AV} {vs : List Value} {os : List Nat} (h : RepTL P w F tm oss cs vs os) (hw : ∀ b, F b ∨ b ∈ os → w'.heap[b]? = w.heap[b]?) :
    RepTL P w' F' tm' oss' (knL d cs) vs os := by
  cases h with
  | nil vs => exact .nil vs
  | cons c v os cs vs os' h t =>
    exact .cons _ v os _ vs os' (RepT.kn d hF hk h (fun x hx => hw x (hx.imp id (fun h => by simp [h])))) (RepTL.kn d hF hk t (fun x hx => hw x (hx.imp id (fun h => by simp [h]))))
end

mutual
theorem kl_nil : ∀ c : AV, kl [] c = c
  | .bor s p => by simp [kl]
  | .ptr s p o => by simp [kl]
  | .slp s p o n => by simp [kl]
  | .agg cs => by rw [kl, klL_nil cs]
  | .tup cs => by rw [kl, klL_nil cs]
  | .fn f cs => by rw [kl, klL_nil cs]
  | .any => rfl
  | .val v => rfl
  | .sl n cs => rfl
  | .own e n cs => rfl
  | .box e cs => rfl
  | .fptr cs => rfl
  | .mp c => rfl
  | .fmp c => rfl
  | .it l es => rfl
theorem klL_nil : ∀ cs : List AV, klL [] cs = cs
  | [] => rfl
  | c :: cs => by rw [klL, kl_nil c, klL_nil cs]
end

theorem RepT.mono (hF : ∀ b, F b → F' b) (hk : ∀ s p u, walkIn w (oss s) (tm s) p u → walkIn w' (oss' s) (tm' s) p u)
    {c : AV} {v : Value} {os : List Nat} (h : RepT P w F tm oss c v os) (hw : ∀ b, F b ∨ b ∈ os → w'.heap[b]? = w.heap[b]?) : RepT P w' F' tm' oss' c v os := by
  have := RepT.kl [] hF (fun s p u _ => hk s p u) h hw
  rwa [kl_nil] at this

theorem List.set_getElem?_self' {α : Type} {l : List α} {i : Nat} {v : α} (h : l[i]? = some v) : l.set i v = l := by
  apply List.ext_getElem?; intro j; rw [List.getElem?_set]; split
  · rename_i e; subst e; split
    · exact h.symm
    · rename_i hl; simp at hl; simp [List.getElem?_eq_none hl] at h
  · rfl

/-- The part at a path, of something that is ours; and the whole again with another part there. -/
theorem RepC.at {c : AV} {p : List Nat} : ∀ {v : Value} {os : List Nat} {c' : AV}, RepC P w F c v os → getP c p = some c' →
    ∃ u o1 ou o2, walkIn w os v p u ∧ RepC P w F c' u ou ∧ os = o1 ++ (ou ++ o2) ∧
      (∀ (w' : World) (F' : Nat → Prop) c'' ou'', (∀ b, F b → F' b) → (∀ x, F x ∨ x ∈ o1 ∨ x ∈ o2 → w'.heap[x]? = w.heap[x]?) → RepC P w' F' c'' u ou'' →
        RepC P w' F' (putP c p c'') v (o1 ++ (ou'' ++ o2))) := by
  induction p generalizing c with
  | nil =>
    intro v os c' h hg
    simp [getP] at hg; subst hg
    exact ⟨v, [], os, [], rfl, h, by simp, fun w' F' c'' ou'' _ _ h => by simpa [putP] using h⟩
  | cons i p ih =>
    intro v os c' h hg
    simp only [getP] at hg
    cases hk : kids c with
    | none => simp [hk] at hg
    | some cs =>
      cases hi : cs[i]? with
      | none => simp [hk, hi] at hg
      | some ci =>
        simp only [hk, hi] at hg
        -- the row
        have key : ∃ b e cc ol, baseOf v = some b ∧ os = b :: ol ∧ w.heap[b]? = some (.cells cc e (0, 0)) ∧ RepL P w F cs cc.toList ol ∧
            (∀ (w' : World) (F' : Nat → Prop) cs' ol', w'.heap[b]? = w.heap[b]? → RepL P w' F' cs' cc.toList ol' → RepC P w' F' (setKids c cs') v (b :: ol')) := by
          cases h with
          | own b e n cap cc cs0 ol hb hn hc hl => 
            simp [kids] at hk; subst hk
            exact ⟨b, e, cc, ol, rfl, rfl, hb, hl, fun w' F' cs' ol' hh hl' => .own b e n cap cc cs' ol' (hh.trans hb) hn hc hl'⟩
          | box b e cc cs0 ol hb hl => 
            simp [kids] at hk; subst hk
            exact ⟨b, e, cc, ol, rfl, rfl, hb, hl, fun w' F' cs' ol' hh hl' => .box b e cc cs' ol' (hh.trans hb) hl'⟩
          | own0 e => simp [kids] at hk; subst hk; simp at hi
          | mp => simp [kids] at hk; subst hk; simp at hi
          | it => simp [kids] at hk; subst hk; simp at hi
          | _ => simp [kids] at hk
        obtain ⟨b, e, cc, ol, kb, rfl, kh, kl, kset⟩ := key
        obtain ⟨vi, l1, lu, l2, e1, e2, e3, e4⟩ := RepL.get kl hi
        obtain ⟨u, o1, ou, o2, f1, f2, f3, f4⟩ := ih e2 hg
        refine ⟨u, b :: (l1 ++ o1), ou, o2 ++ l2, ⟨b, cc, e, (0, 0), vi, kb, by simp, kh, by simpa using e1, walkIn_mono (fun x hx => by simp [e3, hx]) (fun _ _ => rfl) f1⟩, f2, by simp [e3, f3], ?_⟩
        intro w' F' c'' ou'' hF hw hr
        have g := f4 w' F' c'' ou'' hF (fun x hx => hw x (by rcases hx with h | h | h <;> simp [h])) hr
        have kl' : RepL P w' F' (cs.set i (putP ci p c'')) cc.toList (l1 ++ ((o1 ++ (ou'' ++ o2)) ++ l2)) := by
          have := e4 w' F' (putP ci p c'') (o1 ++ (ou'' ++ o2)) vi hF (fun x hx => hw x (by rcases hx with h | h | h <;> simp [h])) g
          rwa [List.set_getElem?_self' e1] at this
        have := kset w' F' _ _ (hw b (by simp)) kl'
        simpa [putP, hk, hi] using this
end
end Go.Abs
