/- Loops over abstract frames. It holds over any program. -/
import Derived.Test.YtdhnnpohpfjaiaaAbsL
set_option linter.unusedVariables false
set_option linter.unusedSimpArgs false
namespace Go.Abs
open Go.RowKit (Below)

/-- The frame at a loop's head: the slots of T as listed, the other slots of W forgotten. -/
def reset (W : List Nat) (T : List (Nat × AV)) (S : St) : St := fun i => match T.lookup i with
  | some v => v
  | none => if W.contains i then .any else kl W (S i)
/-- Outside W nothing has turned. -/
def Off (W : List Nat) (S0 S : St) : Prop := ∀ i, i ∉ W → kl W (S i) = kl W (S0 i)
def Trk (S : St) : List (Nat × AV) → Prop
  | [] => True
  | (d, v) :: T => S d = v ∧ Trk S T
def Nb (W : List Nat) : List (Nat × AV) → Prop
  | [] => True
  | (_, v) :: T => kl W v = v ∧ Nb W T

mutual
theorem kl_comp {W V : List Nat} (h : ∀ x ∈ V, x ∈ W) : ∀ c : AV, kl W (kl V c) = kl W c
  | .bor s p => by
    by_cases hv : s ∈ V
    · have := h s hv; simp [kl, hv, this]
    · simp [kl, hv]
  | .ptr s p o => by
    by_cases hv : s ∈ V
    · have := h s hv; simp [kl, hv, this]
    · simp [kl, hv]
  | .slp s p o n => by
    by_cases hv : s ∈ V
    · have := h s hv; simp [kl, hv, this]
    · simp [kl, hv]
  | .agg cs => by simp [kl, klL_comp h cs]
  | .tup cs => by simp [kl, klL_comp h cs]
  | .fn f cs => by simp [kl, klL_comp h cs]
  | .any => rfl
  | .val v => rfl
  | .sl n cs => rfl
  | .own e n cs => rfl
  | .box e cs => rfl
  | .fptr cs => rfl
  | .mp c => rfl
  | .fmp c => rfl
  | .it l es => rfl
theorem klL_comp {W V : List Nat} (h : ∀ x ∈ V, x ∈ W) : ∀ cs : List AV, klL W (klL V cs) = klL W cs
  | [] => rfl
  | c :: cs => by simp [klL, kl_comp h c, klL_comp h cs]
end
mutual
theorem kl_kn {W : List Nat} {d : Nat} (h : d ∈ W) : ∀ c : AV, kl W (kn d c) = kl W c
  | .bor s p => by
    by_cases hv : s = d
    · subst hv; cases p <;> simp [kl, kn, h]
    · simp [kl, kn, hv]
  | .ptr s p o => by
    by_cases hv : s = d
    · subst hv; cases p <;> simp [kl, kn, h]
    · simp [kl, kn, hv]
  | .slp s p o n => by
    by_cases hv : s = d
    · subst hv; cases p <;> simp [kl, kn, h]
    · simp [kl, kn, hv]
  | .agg cs => by simp [kl, kn, klL_knL h cs]
  | .tup cs => by simp [kl, kn, klL_knL h cs]
  | .fn f cs => by simp [kl, kn, klL_knL h cs]
  | .any => rfl
  | .val v => rfl
  | .sl n cs => rfl
  | .own e n cs => rfl
  | .box e cs => rfl
  | .fptr cs => rfl
  | .mp c => rfl
  | .fmp c => rfl
  | .it l es => rfl
theorem klL_knL {W : List Nat} {d : Nat} (h : d ∈ W) : ∀ cs : List AV, klL W (knL d cs) = klL W cs
  | [] => rfl
  | c :: cs => by simp [klL, knL, kl_kn h c, klL_knL h cs]
end

mutual
theorem kl_kn1 {W : List Nat} {d : Nat} (h : d ∈ W) : ∀ c : AV, kl W (kn1 d c) = kl W c
  | .bor s p => by
    by_cases hv : s = d
    · subst hv
      by_cases hp : 2 ≤ p.length <;> simp [kl, kn1, h, hp]
    · simp [kl, kn1, hv]
  | .ptr s p o => by
    by_cases hv : s = d
    · subst hv
      by_cases hp : 2 ≤ p.length <;> simp [kl, kn1, h, hp]
    · simp [kl, kn1, hv]
  | .slp s p o n => by
    by_cases hv : s = d
    · subst hv
      by_cases hp : 2 ≤ p.length <;> simp [kl, kn1, h, hp]
    · simp [kl, kn1, hv]
  | .agg cs => by simp [kl, kn1, klL_kn1L h cs]
  | .tup cs => by simp [kl, kn1, klL_kn1L h cs]
  | .fn f cs => by simp [kl, kn1, klL_kn1L h cs]
  | .any => rfl
  | .val v => rfl
  | .sl n cs => rfl
  | .own e n cs => rfl
  | .box e cs => rfl
  | .fptr cs => rfl
  | .mp c => rfl
  | .fmp c => rfl
  | .it l es => rfl
theorem klL_kn1L {W : List Nat} {d : Nat} (h : d ∈ W) : ∀ cs : List AV, klL W (kn1L d cs) = klL W cs
  | [] => rfl
  | c :: cs => by simp [klL, kn1L, kl_kn1 h c, klL_kn1L h cs]
end

theorem Off.refl (W : List Nat) (S : St) : Off W S S := fun _ _ => rfl
theorem Off.upd {W : List Nat} {S0 S : St} {d : Nat} {v : AV} (hd : d ∈ W) (h : Off W S0 S) : Off W S0 (upd d v S) := fun i hi => by
  have hne : i ≠ d := fun e => hi (e ▸ hd)
  show kl W (kl [d] (if i = d then v else S i)) = _
  rw [if_neg hne, kl_comp (by simpa using hd)]
  exact h i hi
theorem Off.updn {W : List Nat} {S0 S : St} {d : Nat} {v : AV} (hd : d ∈ W) (h : Off W S0 S) : Off W S0 (updn d v S) := fun i hi => by
  have hne : i ≠ d := fun e => hi (e ▸ hd)
  show kl W (if i = d then v else kn d (S i)) = _
  rw [if_neg hne, kl_kn hd]
  exact h i hi
theorem Off.updn1 {W : List Nat} {S0 S : St} {d : Nat} {v : AV} (hd : d ∈ W) (h : Off W S0 S) : Off W S0 (updn1 d v S) := fun i hi => by
  have hne : i ≠ d := fun e => hi (e ▸ hd)
  show kl W (if i = d then v else kn1 d (S i)) = _
  rw [if_neg hne, kl_kn1 hd]
  exact h i hi
theorem Off.reset {W V : List Nat} {T : List (Nat × AV)} {S0 S : St} (hV : ∀ x ∈ V, x ∈ W) (hT : ∀ p ∈ T, p.1 ∈ W) (h : Off W S0 S) : Off W S0 (reset V T S) := fun i hi => by
  unfold Abs.reset
  split
  · rename_i v hl
    have : ∃ p ∈ T, p.1 = i := by
      clear h hV
      induction T with
      | nil => simp at hl
      | cons p T ih =>
        obtain ⟨d, u⟩ := p
        rw [List.lookup_cons] at hl
        split at hl
        · rename_i e; exact ⟨(d, u), by simp, by simpa using Eq.symm (by simpa using e)⟩
        · obtain ⟨q, h1, h2⟩ := ih (fun p hp => hT p (by simp [hp])) hl
          exact ⟨q, by simp [h1], h2⟩
    obtain ⟨p, hp, e⟩ := this
    exact (hi (e ▸ hT p hp)).elim
  · rename_i hl
    split
    · rename_i hc
      exact (hi (hV i (by simpa using hc))).elim
    · rw [kl_comp hV]; exact h i hi

theorem off_upd {W : List Nat} {S0 S : St} {d : Nat} {v : AV} : (d ∈ W ∧ Off W S0 S) → Off W S0 (upd d v S) := fun h => h.2.upd h.1

section
variable {P : Program} {N : Nat × List Nat} {G : Nat → Prop} {w0 : World × (Nat → Value)} {w w' : World} {S : St} {a : Act} {F : Nat → Prop} {oss : Nat → List Nat} {X : List Nat}

theorem Trk.lookup {S : St} : ∀ {T : List (Nat × AV)}, Trk S T → ∀ {i v}, T.lookup i = some v → S i = v
  | [], _, i, v, h => by simp at h
  | (d, u) :: T, ht, i, v, h => by
    rw [List.lookup_cons] at h
    split at h
    · rename_i e
      have e : i = d := by simpa using e
      injection h with h
      rw [e, ← h]; exact ht.1
    · exact Trk.lookup ht.2 h
theorem Nb.lookup {W : List Nat} : ∀ {T : List (Nat × AV)}, Nb W T → ∀ {i v}, T.lookup i = some v → kl W v = v
  | [], _, i, v, h => by simp at h
  | (d, u) :: T, ht, i, v, h => by
    rw [List.lookup_cons] at h
    split at h
    · injection h with h
      rw [← h]; exact ht.1
    · exact Nb.lookup ht.2 h

theorem weak_of {W : List Nat} {T : List (Nat × AV)} {S0 S : St} (h1 : Off W S0 S) (h2 : Trk S T) (h3 : Nb W T) : Weak S (reset W T S0) := by
  intro P N G w0 a w h
  obtain ⟨F, oss, h⟩ := h
  let oss' : Nat → List Nat := fun i => if (T.lookup i).isNone && W.contains i then [] else oss i
  have hsub : ∀ i b, b ∈ oss' i → b ∈ oss i := fun i b hb => by
    simp only [oss'] at hb; split at hb
    · simp at hb
    · exact hb
  have hk : ∀ s p u, ¬ s ∈ W → walkIn w (oss s) (tmo a s) p u → walkIn w (oss' s) (tmo a s) p u := by
    intro s p u hs k
    have : oss' s = oss s := by simp only [oss']; rw [if_neg (by simp [hs])]
    rw [this]; exact k
  refine ⟨F, oss', { sz := h.sz, kp := h.kp, df := h.df, ext := h.ext, fB := h.fB, fw := h.fw, rep := fun i => ?_, own := fun i b hb => h.own i b (hsub i b hb), nd := fun i => ?_, dj := fun i j b hi hj => h.dj i j b (hsub i b hi) (hsub j b hj), xo := by simp, xn := List.nodup_nil, xd := by simp }⟩
  · show RepT P w F (tmo a) oss' (match T.lookup i with | some v => v | none => if W.contains i then .any else kl W (S0 i)) (tmo a i) (oss' i)
    split
    · rename_i v hl
      have e : oss' i = oss i := by simp only [oss']; rw [if_neg (by simp [hl])]
      rw [e]
      have := h.rep i
      rw [h2.lookup hl] at this
      have k := RepT.kl W (fun _ h => h) hk this (fun _ _ => rfl)
      rwa [h3.lookup hl] at k
    · rename_i hl
      split
      · rename_i hc
        have e : oss' i = [] := by simp only [oss']; rw [if_pos (by simp [hl]; simpa using hc)]
        rw [e]; exact .any _
      · rename_i hc
        have e : oss' i = oss i := by simp only [oss']; rw [if_neg (by simp; intro _; simpa using hc)]
        rw [e, ← h1 i (by simpa using hc)]
        exact RepT.kl W (fun _ h => h) hk (h.rep i) (fun _ _ => rfl)
  · simp only [oss']; split
    · exact List.nodup_nil
    · exact h.nd i

/-- What is asked at a round's end. -/
def loopI {α : Type} (W : List Nat) (T : α → List (Nat × AV)) (inv : α → Prop) (μ : α → Nat) (x : α) (S0 : St) (Q : Exit → St → Prop) : Exit → St → Prop
  | .normal, S => ∃ y, inv y ∧ μ y < μ x ∧ Off W S0 S ∧ Trk S (T y) ∧ Nb W (T y)
  | e, S => Q e S
@[go_sem] theorem loopI_normal {α : Type} (W : List Nat) (T : α → List (Nat × AV)) (inv : α → Prop) (μ : α → Nat) (x : α) (S0 : St) (Q : Exit → St → Prop) (S : St) :
    loopI W T inv μ x S0 Q .normal S = ∃ y, inv y ∧ μ y < μ x ∧ Off W S0 S ∧ Trk S (T y) ∧ Nb W (T y) := rfl
@[go_sem] theorem loopI_ret {α : Type} (W : List Nat) (T : α → List (Nat × AV)) (inv : α → Prop) (μ : α → Nat) (x : α) (S0 : St) (Q : Exit → St → Prop) (S : St) :
    loopI W T inv μ x S0 Q .ret S = Q .ret S := rfl
@[go_sem] theorem loopI_exit {α : Type} (W : List Nat) (T : α → List (Nat × AV)) (inv : α → Prop) (μ : α → Nat) (x : α) (S0 : St) (Q : Exit → St → Prop) (S : St) (id : Nat) :
    loopI W T inv μ x S0 Q (.exit id) S = Q (.exit id) S := rfl

theorem vc_mono {cf : Cfg} : ∀ {c : Code} {Q Q' : Exit → St → Prop} {S : St}, (∀ e S, Q e S → Q' e S) → vc P cf N c Q S → vc P cf N c Q' S := by
  have ops : ∀ (os : Array Oper) (l : List Oper) (K K' : St → Prop) (S : St), (∀ S, K S → K' S) → vcOps P cf N os l K S → vcOps P cf N os l K' S := by
    have op : ∀ (o : Oper) (K K' : St → Prop) (S : St), (∀ S, K S → K' S) → vcOp P cf N o K S → vcOp P cf N o K' S := by
      intro o K K' S hK h
      unfold vcOp at h ⊢
      split at h
      · split at h
        · rename_i hmu
          rw [if_pos hmu]
          unfold MVC at h ⊢
          split at h
          · split at h
            · obtain ⟨h1, r, outs, hc, h2⟩ := h
              refine ⟨h1, r, outs, hc, ?_⟩
              split at h2
              · split at h2
                · split at h2
                  · exact ⟨h2.1, hK _ h2.2⟩
                  · exact hK _ h2
                · exact h2
              · exact h2
            · exact h
          · exact h
        · rename_i hmu
          rw [if_neg hmu]
          split at h
          · obtain ⟨r, hc, h2⟩ := h
            refine ⟨r, hc, ?_⟩
            split at h2
            · exact ⟨h2.1, hK _ h2.2⟩
            · exact hK _ h2
          · exact h
      · split at h
        · split at h
          · obtain ⟨r, hc, h2⟩ := h
            refine ⟨r, hc, ?_⟩
            split at h2
            · exact ⟨h2.1, hK _ h2.2⟩
            · exact hK _ h2
          · exact h
        · split at h
          · exact ⟨h.1, fun es he => hK _ (h.2 es he)⟩
          · split at h
            · exact ⟨h.1, fun e => hK _ (h.2.1 e), fun l1 k x l2 e => hK _ (h.2.2 l1 k x l2 e)⟩
            · split at h
              · exact ⟨h.1, hK _ h.2⟩
              · exact h
    intro os l
    induction l with
    | nil => intro K K' S hK h; exact hK S h
    | cons o l ih =>
      intro K K' S hK h
      unfold vcOps at h ⊢
      split at h
      · exact op o _ _ S (fun S h => ih K K' S hK h) h
      · split at h
        · split at h
          · refine ⟨h.1, fun hc => op o _ _ _ (fun S h => ih K K' S hK h) (h.2.1 hc), fun hc => ?_⟩
            exact ih K K' _ hK (h.2.2 hc)
          · exact ih K K' _ hK h
          · exact h
        · exact h
  have drawH : ∀ (os : Array Oper) {Q Q' : Exit → St → Prop} (_ : ∀ e S, Q e S → Q' e S) (l : List Oper) (i : Nat) (tr : List Ent) (S : St), vcD P cf N os i l (Q .normal) tr S → vcD P cf N os i l (Q' .normal) tr S := by
    intro os Q Q' hQ l
    induction l with
    | nil => intro i tr S h; exact ⟨h.1, hQ _ _ h.2⟩
    | cons o l ih =>
      have run : ∀ (i : Nat) (G : List Nat) (tr : List Ent) (S : St), runD P cf N i o G (vcD P cf N os (i + 1) l (Q .normal)) tr S → runD P cf N i o G (vcD P cf N os (i + 1) l (Q' .normal)) tr S := by
        intro i G tr S h
        unfold runD at h ⊢
        split at h
        · split at h
          · exact h.elim
          · rename_i hmu
            rw [if_neg hmu]
            split at h
            · obtain ⟨h1, r, h2, h3, h4⟩ := h
              refine ⟨h1, r, h2, h3, ?_⟩
              split at h4
              · exact ⟨h4.1, ih _ _ _ h4.2⟩
              · exact ih _ _ _ h4
            · exact h
        · split at h
          · exact ⟨h.1, h.2.1, ih _ _ _ h.2.2⟩
          · exact h
      intro i tr S h
      unfold vcD at h ⊢
      split at h
      · exact run _ _ _ _ h
      · split at h
        · unfold GuardD at h ⊢
          split at h
          · exact ⟨h.1, fun hc => run _ _ _ _ (h.2.1 hc), fun hc => ⟨(h.2.2 hc).1, ih _ _ _ (h.2.2 hc).2⟩⟩
          · exact ⟨h.1, ih _ _ _ h.2⟩
          · exact h
        · exact h
  intro c
  induction c with
  | skip => intro Q Q' S hQ h; exact hQ _ _ h
  | region id os draw =>
    intro Q Q' S hQ h
    simp only [vc] at h ⊢
    split at h
    · rename_i hd; rw [if_pos hd]; exact ⟨h.1, drawH os hQ _ _ _ _ h.2⟩
    · rename_i hd; rw [if_neg hd]; exact ops _ _ _ _ _ (fun S h => hQ _ _ h) h
  | seq x y ihx ihy =>
    intro Q Q' S hQ h
    refine ihx (fun e S h => ?_) h
    cases e <;> first | exact ihy hQ h | exact hQ _ _ h
  | cond c x y ihx ihy =>
    intro Q Q' S hQ h
    simp only [vc] at h ⊢
    split at h
    · exact ⟨fun ht => ihx hQ (h.1 ht), fun ht => ihy hQ (h.2 ht)⟩
    · exact h
  | block id b ih =>
    intro Q Q' S hQ h
    refine ih (fun e S h => ?_) h
    cases e <;> first | exact hQ _ _ h | skip
    simp only [blockQ] at h ⊢
    split at h
    · rename_i e; rw [if_pos e]; exact hQ _ _ h
    · rename_i e; rw [if_neg e]; exact hQ _ _ h
  | loop b ih =>
    intro Q Q' S hQ h
    obtain ⟨I, h1, h2⟩ := h
    refine ⟨I, h1, fun n S hI => ih (fun e S h => ?_) (h2 n S hI)⟩
    cases e <;> first | exact h | exact hQ _ _ h
  | exit id => intro Q Q' S hQ h; exact hQ _ _ h
  | ret => intro Q Q' S hQ h; exact hQ _ _ h
  | _ => intro Q Q' S hQ h; exact h.elim

/-- A LOOP: what the tracked slots hold at each head (T), what is known besides (inv), and a number that goes down (μ). -/
theorem loop_inv {cf : Cfg} {b : Code} {Q : Exit → St → Prop} {S0 : St} {α : Type} (W : List Nat) (T : α → List (Nat × AV)) (inv : α → Prop) (μ : α → Nat) (x0 : α)
    (h0 : inv x0) (h1 : Trk S0 (T x0)) (h2 : Nb W (T x0)) (h : ∀ x, inv x → vc P cf N b (loopI W T inv μ x S0 Q) (reset W (T x) S0)) : LoopVC (vc P cf N b) Q S0 := by
  refine ⟨fun n S => ∃ x, inv x ∧ n = μ x ∧ S = reset W (T x) S0, ⟨μ x0, _, weak_of (Off.refl W S0) h1 h2, x0, h0, rfl, rfl⟩, ?_⟩
  rintro n S ⟨x, hx, rfl, rfl⟩
  refine vc_mono (fun e S hq => ?_) (h x hx)
  cases e with
  | normal =>
    obtain ⟨y, y1, y2, y3, y4, y5⟩ := hq
    exact ⟨μ y, y2, _, weak_of y3 y4 y5, y, y1, rfl, rfl⟩
  | _ => exact hq
end
@[go_sem] theorem reset_app (W : List Nat) (T : List (Nat × AV)) (S : St) (i : Nat) : reset W T S i = (match T.lookup i with
  | some v => v
  | none => if W.contains i then .any else kl W (S i)) := rfl
@[go_sem] theorem Trk_nil (S : St) : Trk S [] = True := rfl
@[go_sem] theorem Trk_cons (S : St) (d : Nat) (v : AV) (T : List (Nat × AV)) : Trk S ((d, v) :: T) = (S d = v ∧ Trk S T) := rfl
@[go_sem] theorem Nb_nil (W : List Nat) : Nb W [] = True := rfl
@[go_sem] theorem Nb_cons (W : List Nat) (d : Nat) (v : AV) (T : List (Nat × AV)) : Nb W ((d, v) :: T) = (kl W v = v ∧ Nb W T) := rfl
theorem Off_upd (W : List Nat) (S0 S : St) (d : Nat) (v : AV) (hd : d ∈ W) : Off W S0 (upd d v S) ↔ Off W S0 S := by
  constructor
  · intro h i hi
    have hne : i ≠ d := fun e => hi (e ▸ hd)
    have := h i hi
    rw [show upd d v S i = kl [d] (if i = d then v else S i) from rfl, if_neg hne, kl_comp (by simpa using hd)] at this
    exact this
  · exact Off.upd hd
theorem Off_updn (W : List Nat) (S0 S : St) (d : Nat) (v : AV) (hd : d ∈ W) : Off W S0 (updn d v S) ↔ Off W S0 S := by
  constructor
  · intro h i hi
    have hne : i ≠ d := fun e => hi (e ▸ hd)
    have := h i hi
    rw [show updn d v S i = (if i = d then v else kn d (S i)) from rfl, if_neg hne, kl_kn hd] at this
    exact this
  · exact Off.updn hd
theorem Off_updn1 (W : List Nat) (S0 S : St) (d : Nat) (v : AV) (hd : d ∈ W) : Off W S0 (updn1 d v S) ↔ Off W S0 S := by
  constructor
  · intro h i hi
    have hne : i ≠ d := fun e => hi (e ▸ hd)
    have := h i hi
    rw [show updn1 d v S i = (if i = d then v else kn1 d (S i)) from rfl, if_neg hne, kl_kn1 hd] at this
    exact this
  · exact Off.updn1 hd
attribute [go_sem] Off_upd Off_updn Off_updn1
theorem Off_reset (W : List Nat) (T : List (Nat × AV)) (S0 : St) (hT : ∀ p ∈ T, p.1 ∈ W) : Off W S0 (reset W T S0) := Off.reset (fun _ h => h) hT (Off.refl W S0)
end Go.Abs
