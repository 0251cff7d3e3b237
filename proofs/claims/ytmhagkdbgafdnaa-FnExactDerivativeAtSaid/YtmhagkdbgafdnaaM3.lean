/- Texts of the own layer and contracts, part 3: AbsN AbsP AbsQ AbsM. -/
import Derived.Below
import Derived.ChangeSame
import Derived.OpenShut
import Derived.ReadAgain
import Derived.ChangeBears
import Derived.Lib.SmallJoins
import Derived.Test.YtmhagkdbgafdnaaM2
/- Loops over abstract frames. It holds over any program. -/
set_option linter.unusedVariables false
set_option linter.unusedSimpArgs false
namespace Go.Abs
open Go.RowKit (Below)

/-- The frame at a loop's head: the slots of T as listed, the other slots of W forgotten. -/
def reset (W : List Nat) (T : List (Nat × AV)) (S : St) : St := fun i => match T.lookup i with
  | some v => v
  | none => if W.contains i then .any else kl W (S i)
/-- Outside W nothing has turned. -/
def Off (W : List Nat) (S0 S : St) : Prop := ∀ i, i ∉ W → kl W (S i) = kl W (S0 i)
def Trk (S : St) : List (Nat × AV) → Prop
  | [] => True
  | (d, v) :: T => S d = v ∧ Trk S T
def Nb (W : List Nat) : List (Nat × AV) → Prop
  | [] => True
  | (_, v) :: T => kl W v = v ∧ Nb W T

mutual
theorem kl_comp {W V : List Nat} (h : ∀ x ∈ V, x ∈ W) : ∀ c : AV, kl W (kl V c) = kl W c
  | .bor s p => by
    by_cases hv : s ∈ V
    · have := h s hv; simp [kl, hv, this]
    · simp [kl, hv]
  | .ptr s p o => by
    by_cases hv : s ∈ V
    · have := h s hv; simp [kl, hv, this]
    · simp [kl, hv]
  | .slp s p o n => by
    by_cases hv : s ∈ V
    · have := h s hv; simp [kl, hv, this]
    · simp [kl, hv]
  | .agg cs => by simp [kl, klL_comp h cs]
  | .tup cs => by simp [kl, klL_comp h cs]
  | .fn f cs => by simp [kl, klL_comp h cs]
  | .any => rfl
  | .val v => rfl
  | .sl n cs => rfl
  | .own e n cs => rfl
  | .box e cs => rfl
  | .fptr cs => rfl
  | .mp c => rfl
  | .fmp c => rfl
  | .it l es => rfl
theorem klL_comp {W V : List Nat} (h : ∀ x ∈ V, x ∈ W) : ∀ cs : List AV, klL W (klL V cs) = klL W cs
  | [] => rfl
  | c :: cs => by simp [klL, kl_comp h c, klL_comp h cs]
end
mutual
theorem kl_kn {W : List Nat} {d : Nat} (h : d ∈ W) : ∀ c : AV, kl W (kn d c) = kl W c
  | .bor s p => by
    by_cases hv : s = d
    · subst hv; cases p <;> simp [kl, kn, h]
    · simp [kl, kn, hv]
  | .ptr s p o => by
    by_cases hv : s = d
    · subst hv; cases p <;> simp [kl, kn, h]
    · simp [kl, kn, hv]
  | .slp s p o n => by
    by_cases hv : s = d
    · subst hv; cases p <;> simp [kl, kn, h]
    · simp [kl, kn, hv]
  | .agg cs => by simp [kl, kn, klL_knL h cs]
  | .tup cs => by simp [kl, kn, klL_knL h cs]
  | .fn f cs => by simp [kl, kn, klL_knL h cs]
  | .any => rfl
  | .val v => rfl
  | .sl n cs => rfl
  | .own e n cs => rfl
  | .box e cs => rfl
  | .fptr cs => rfl
  | .mp c => rfl
  | .fmp c => rfl
  | .it l es => rfl
theorem klL_knL {W : List Nat} {d : Nat} (h : d ∈ W) : ∀ cs : List AV, klL W (knL d cs) = klL W cs
  | [] => rfl
  | c :: cs => by simp [klL, knL, kl_kn h c, klL_knL h cs]
end

mutual
theorem kl_kn1 {W : List Nat} {d : Nat} (h : d ∈ W) : ∀ c : AV, kl W (kn1 d c) = kl W c
  | .bor s p => by
    by_cases hv : s = d
    · subst hv
      by_cases hp : 2 ≤ p.length <;> simp [kl, kn1, h, hp]
    · simp [kl, kn1, hv]
  | .ptr s p o => by
    by_cases hv : s = d
    · subst hv
      by_cases hp : 2 ≤ p.length <;> simp [kl, kn1, h, hp]
    · simp [kl, kn1, hv]
  | .slp s p o n => by
    by_cases hv : s = d
    · subst hv
      by_cases hp : 2 ≤ p.length <;> simp [kl, kn1, h, hp]
    · simp [kl, kn1, hv]
  | .agg cs => by simp [kl, kn1, klL_kn1L h cs]
  | .tup cs => by simp [kl, kn1, klL_kn1L h cs]
  | .fn f cs => by simp [kl, kn1, klL_kn1L h cs]
  | .any => rfl
  | .val v => rfl
  | .sl n cs => rfl
  | .own e n cs => rfl
  | .box e cs => rfl
  | .fptr cs => rfl
  | .mp c => rfl
  | .fmp c => rfl
  | .it l es => rfl
theorem klL_kn1L {W : List Nat} {d : Nat} (h : d ∈ W) : ∀ cs : List AV, klL W (kn1L d cs) = klL W cs
  | [] => rfl
  | c :: cs => by simp [klL, kn1L, kl_kn1 h c, klL_kn1L h cs]
end

theorem Off.refl (W : List Nat) (S : St) : Off W S S := fun _ _ => rfl
theorem Off.upd {W : List Nat} {S0 S : St} {d : Nat} {v : AV} (hd : d ∈ W) (h : Off W S0 S) : Off W S0 (upd d v S) := fun i hi => by
  have hne : i ≠ d := fun e => hi (e ▸ hd)
  show kl W (kl [d] (if i = d then v else S i)) = _
  rw [if_neg hne, kl_comp (by simpa using hd)]
  exact h i hi
theorem Off.updn {W : List Nat} {S0 S : St} {d : Nat} {v : AV} (hd : d ∈ W) (h : Off W S0 S) : Off W S0 (updn d v S) := fun i hi => by
  have hne : i ≠ d := fun e => hi (e ▸ hd)
  show kl W (if i = d then v else kn d (S i)) = _
  rw [if_neg hne, kl_kn hd]
  exact h i hi
theorem Off.updn1 {W : List Nat} {S0 S : St} {d : Nat} {v : AV} (hd : d ∈ W) (h : Off W S0 S) : Off W S0 (updn1 d v S) := fun i hi => by
  have hne : i ≠ d := fun e => hi (e ▸ hd)
  show kl W (if i = d then v else kn1 d (S i)) = _
  rw [if_neg hne, kl_kn1 hd]
  exact h i hi
theorem Off.reset {W V : List Nat} {T : List (Nat × AV)} {S0 S : St} (hV : ∀ x ∈ V, x ∈ W) (hT : ∀ p ∈ T, p.1 ∈ W) (h : Off W S0 S) : Off W S0 (reset V T S) := fun i hi => by
  unfold Abs.reset
  split
  · rename_i v hl
    have : ∃ p ∈ T, p.1 = i := by
      clear h hV
      induction T with
      | nil => simp at hl
      | cons p T ih =>
        obtain ⟨d, u⟩ := p
        rw [List.lookup_cons] at hl
        split at hl
        · rename_i e; exact ⟨(d, u), by simp, by simpa using Eq.symm (by simpa using e)⟩
        · obtain ⟨q, h1, h2⟩ := ih (fun p hp => hT p (by simp [hp])) hl
          exact ⟨q, by simp [h1], h2⟩
    obtain ⟨p, hp, e⟩ := this
    exact (hi (e ▸ hT p hp)).elim
  · rename_i hl
    split
    · rename_i hc
      exact (hi (hV i (by simpa using hc))).elim
    · rw [kl_comp hV]; exact h i hi

theorem off_upd {W : List Nat} {S0 S : St} {d : Nat} {v : AV} : (d ∈ W ∧ Off W S0 S) → Off W S0 (upd d v S) := fun h => h.2.upd h.1

section
variable {P : Program} {N : Nat × List Nat} {G : Nat → Prop} {w0 : World × (Nat → Value)} {w w' : World} {S : St} {a : Act} {F : Nat → Prop} {oss : Nat → List Nat} {X : List Nat}

theorem Trk.lookup {S : St} : ∀ {T : List (Nat × AV)}, Trk S T → ∀ {i v}, T.lookup i = some v → S i = v
  | [], _, i, v, h => by simp at h
  | (d, u) :: T, ht, i, v, h => by
    rw [List.lookup_cons] at h
    split at h
    · rename_i e
      have e : i = d := by simpa using e
      injection h with h
      rw [e, ← h]; exact ht.1
    · exact Trk.lookup ht.2 h
theorem Nb.lookup {W : List Nat} : ∀ {T : List (Nat × AV)}, Nb W T → ∀ {i v}, T.lookup i = some v → kl W v = v
  | [], _, i, v, h => by simp at h
  | (d, u) :: T, ht, i, v, h => by
    rw [List.lookup_cons] at h
    split at h
    · injection h with h
      rw [← h]; exact ht.1
    · exact Nb.lookup ht.2 h

theorem weak_of {W : List Nat} {T : List (Nat × AV)} {S0 S : St} (h1 : Off W S0 S) (h2 : Trk S T) (h3 : Nb W T) : Weak S (reset W T S0) := by
  intro P N G w0 a w h
  obtain ⟨F, oss, h⟩ := h
  let oss' : Nat → List Nat := fun i => if (T.lookup i).isNone && W.contains i then [] else oss i
  have hsub : ∀ i b, b ∈ oss' i → b ∈ oss i := fun i b hb => by
    simp only [oss'] at hb; split at hb
    · simp at hb
    · exact hb
  have hk : ∀ s p u, ¬ s ∈ W → walkIn w (oss s) (tmo a s) p u → walkIn w (oss' s) (tmo a s) p u := by
    intro s p u hs k
    have : oss' s = oss s := by simp only [oss']; rw [if_neg (by simp [hs])]
    rw [this]; exact k
  refine ⟨F, oss', { sz := h.sz, kp := h.kp, df := h.df, ext := h.ext, fB := h.fB, fw := h.fw, rep := fun i => ?_, own := fun i b hb => h.own i b (hsub i b hb), nd := fun i => ?_, dj := fun i j b hi hj => h.dj i j b (hsub i b hi) (hsub j b hj), xo := by simp, xn := List.nodup_nil, xd := by simp }⟩
  · show RepT P w F (tmo a) oss' (match T.lookup i with | some v => v | none => if W.contains i then .any else kl W (S0 i)) (tmo a i) (oss' i)
    split
    · rename_i v hl
      have e : oss' i = oss i := by simp only [oss']; rw [if_neg (by simp [hl])]
      rw [e]
      have := h.rep i
      rw [h2.lookup hl] at this
      have k := RepT.kl W (fun _ h => h) hk this (fun _ _ => rfl)
      rwa [h3.lookup hl] at k
    · rename_i hl
      split
      · rename_i hc
        have e : oss' i = [] := by simp only [oss']; rw [if_pos (by simp [hl]; simpa using hc)]
        rw [e]; exact .any _
      · rename_i hc
        have e : oss' i = oss i := by simp only [oss']; rw [if_neg (by simp; intro _; simpa using hc)]
        rw [e, ← h1 i (by simpa using hc)]
        exact RepT.kl W (fun _ h => h) hk (h.rep i) (fun _ _ => rfl)
  · simp only [oss']; split
    · exact List.nodup_nil
    · exact h.nd i

/-- What is asked at a round's end. -/
def loopI {α : Type} (W : List Nat) (T : α → List (Nat × AV)) (inv : α → Prop) (μ : α → Nat) (x : α) (S0 : St) (Q : Exit → St → Prop) : Exit → St → Prop
  | .normal, S => ∃ y, inv y ∧ μ y < μ x ∧ Off W S0 S ∧ Trk S (T y) ∧ Nb W (T y)
  | e, S => Q e S
@[go_sem] theorem loopI_normal {α : Type} (W : List Nat) (T : α → List (Nat × AV)) (inv : α → Prop) (μ : α → Nat) (x : α) (S0 : St) (Q : Exit → St → Prop) (S : St) :
    loopI W T inv μ x S0 Q .normal S = ∃ y, inv y ∧ μ y < μ x ∧ Off W S0 S ∧ Trk S (T y) ∧ Nb W (T y) := rfl
@[go_sem] theorem loopI_ret {α : Type} (W : List Nat) (T : α → List (Nat × AV)) (inv : α → Prop) (μ : α → Nat) (x : α) (S0 : St) (Q : Exit → St → Prop) (S : St) :
    loopI W T inv μ x S0 Q .ret S = Q .ret S := rfl
@[go_sem] theorem loopI_exit {α : Type} (W : List Nat) (T : α → List (Nat × AV)) (inv : α → Prop) (μ : α → Nat) (x : α) (S0 : St) (Q : Exit → St → Prop) (S : St) (id : Nat) :
    loopI W T inv μ x S0 Q (.exit id) S = Q (.exit id) S := rfl

theorem vc_mono {cf : Cfg} : ∀ {c : Code} {Q Q' : Exit → St → Prop} {S : St}, (∀ e S, Q e S → Q' e S) → vc P cf N c Q S → vc P cf N c Q' S := by
  have ops : ∀ (os : Array Oper) (l : List Oper) (K K' : St → Prop) (S : St), (∀ S, K S → K' S) → vcOps P cf N os l K S → vcOps P cf N os l K' S := by
    have op : ∀ (o : Oper) (K K' : St → Prop) (S : St), (∀ S, K S → K' S) → vcOp P cf N o K S → vcOp P cf N o K' S := by
      intro o K K' S hK h
      unfold vcOp at h ⊢
      split at h
      · split at h
        · rename_i hmu
          rw [if_pos hmu]
          unfold MVC at h ⊢
          split at h
          · split at h
            · obtain ⟨h1, r, outs, hc, h2⟩ := h
              refine ⟨h1, r, outs, hc, ?_⟩
              split at h2
              · split at h2
                · split at h2
                  · exact ⟨h2.1, hK _ h2.2⟩
                  · exact hK _ h2
                · exact h2
              · exact h2
            · exact h
          · exact h
        · rename_i hmu
          rw [if_neg hmu]
          split at h
          · obtain ⟨r, hc, h2⟩ := h
            refine ⟨r, hc, ?_⟩
            split at h2
            · exact ⟨h2.1, hK _ h2.2⟩
            · exact hK _ h2
          · exact h
      · split at h
        · split at h
          · obtain ⟨r, hc, h2⟩ := h
            refine ⟨r, hc, ?_⟩
            split at h2
            · exact ⟨h2.1, hK _ h2.2⟩
            · exact hK _ h2
          · exact h
        · split at h
          · exact ⟨h.1, fun es he => hK _ (h.2 es he)⟩
          · split at h
            · exact ⟨h.1, fun e => hK _ (h.2.1 e), fun l1 k x l2 e => hK _ (h.2.2 l1 k x l2 e)⟩
            · split at h
              · exact ⟨h.1, hK _ h.2⟩
              · exact h
    intro os l
    induction l with
    | nil => intro K K' S hK h; exact hK S h
    | cons o l ih =>
      intro K K' S hK h
      unfold vcOps at h ⊢
      split at h
      · exact op o _ _ S (fun S h => ih K K' S hK h) h
      · split at h
        · split at h
          · refine ⟨h.1, fun hc => op o _ _ _ (fun S h => ih K K' S hK h) (h.2.1 hc), fun hc => ?_⟩
            exact ih K K' _ hK (h.2.2 hc)
          · exact ih K K' _ hK h
          · exact h
        · exact h
  have drawH : ∀ (os : Array Oper) {Q Q' : Exit → St → Prop} (_ : ∀ e S, Q e S → Q' e S) (l : List Oper) (i : Nat) (tr : List Ent) (S : St), vcD P cf N os i l (Q .normal) tr S → vcD P cf N os i l (Q' .normal) tr S := by
    intro os Q Q' hQ l
    induction l with
    | nil => intro i tr S h; exact ⟨h.1, hQ _ _ h.2⟩
    | cons o l ih =>
      have run : ∀ (i : Nat) (G : List Nat) (tr : List Ent) (S : St), runD P cf N i o G (vcD P cf N os (i + 1) l (Q .normal)) tr S → runD P cf N i o G (vcD P cf N os (i + 1) l (Q' .normal)) tr S := by
        intro i G tr S h
        unfold runD at h ⊢
        split at h
        · split at h
          · exact h.elim
          · rename_i hmu
            rw [if_neg hmu]
            split at h
            · obtain ⟨h1, r, h2, h3, h4⟩ := h
              refine ⟨h1, r, h2, h3, ?_⟩
              split at h4
              · exact ⟨h4.1, ih _ _ _ h4.2⟩
              · exact ih _ _ _ h4
            · exact h
        · split at h
          · exact ⟨h.1, h.2.1, ih _ _ _ h.2.2⟩
          · exact h
      intro i tr S h
      unfold vcD at h ⊢
      split at h
      · exact run _ _ _ _ h
      · split at h
        · unfold GuardD at h ⊢
          split at h
          · exact ⟨h.1, fun hc => run _ _ _ _ (h.2.1 hc), fun hc => ⟨(h.2.2 hc).1, ih _ _ _ (h.2.2 hc).2⟩⟩
          · exact ⟨h.1, ih _ _ _ h.2⟩
          · exact h
        · exact h
  intro c
  induction c with
  | skip => intro Q Q' S hQ h; exact hQ _ _ h
  | region id os draw =>
    intro Q Q' S hQ h
    simp only [vc] at h ⊢
    split at h
    · rename_i hd; rw [if_pos hd]; exact ⟨h.1, drawH os hQ _ _ _ _ h.2⟩
    · rename_i hd; rw [if_neg hd]; exact ops _ _ _ _ _ (fun S h => hQ _ _ h) h
  | seq x y ihx ihy =>
    intro Q Q' S hQ h
    refine ihx (fun e S h => ?_) h
    cases e <;> first | exact ihy hQ h | exact hQ _ _ h
  | cond c x y ihx ihy =>
    intro Q Q' S hQ h
    simp only [vc] at h ⊢
    split at h
    · exact ⟨fun ht => ihx hQ (h.1 ht), fun ht => ihy hQ (h.2 ht)⟩
    · exact h
  | block id b ih =>
    intro Q Q' S hQ h
    refine ih (fun e S h => ?_) h
    cases e <;> first | exact hQ _ _ h | skip
    simp only [blockQ] at h ⊢
    split at h
    · rename_i e; rw [if_pos e]; exact hQ _ _ h
    · rename_i e; rw [if_neg e]; exact hQ _ _ h
  | loop b ih =>
    intro Q Q' S hQ h
    obtain ⟨I, h1, h2⟩ := h
    refine ⟨I, h1, fun n S hI => ih (fun e S h => ?_) (h2 n S hI)⟩
    cases e <;> first | exact h | exact hQ _ _ h
  | exit id => intro Q Q' S hQ h; exact hQ _ _ h
  | ret => intro Q Q' S hQ h; exact hQ _ _ h
  | _ => intro Q Q' S hQ h; exact h.elim

/-- A LOOP: what the tracked slots hold at each head (T), what is known besides (inv), and a number that goes down (μ). -/
theorem loop_inv {cf : Cfg} {b : Code} {Q : Exit → St → Prop} {S0 : St} {α : Type} (W : List Nat) (T : α → List (Nat × AV)) (inv : α → Prop) (μ : α → Nat) (x0 : α)
    (h0 : inv x0) (h1 : Trk S0 (T x0)) (h2 : Nb W (T x0)) (h : ∀ x, inv x → vc P cf N b (loopI W T inv μ x S0 Q) (reset W (T x) S0)) : LoopVC (vc P cf N b) Q S0 := by
  refine ⟨fun n S => ∃ x, inv x ∧ n = μ x ∧ S = reset W (T x) S0, ⟨μ x0, _, weak_of (Off.refl W S0) h1 h2, x0, h0, rfl, rfl⟩, ?_⟩
  rintro n S ⟨x, hx, rfl, rfl⟩
  refine vc_mono (fun e S hq => ?_) (h x hx)
  cases e with
  | normal =>
    obtain ⟨y, y1, y2, y3, y4, y5⟩ := hq
    exact ⟨μ y, y2, _, weak_of y3 y4 y5, y, y1, rfl, rfl⟩
  | _ => exact hq
end
@[go_sem] theorem reset_app (W : List Nat) (T : List (Nat × AV)) (S : St) (i : Nat) : reset W T S i = (match T.lookup i with
  | some v => v
  | none => if W.contains i then .any else kl W (S i)) := rfl
@[go_sem] theorem Trk_nil (S : St) : Trk S [] = True := rfl
@[go_sem] theorem Trk_cons (S : St) (d : Nat) (v : AV) (T : List (Nat × AV)) : Trk S ((d, v) :: T) = (S d = v ∧ Trk S T) := rfl
@[go_sem] theorem Nb_nil (W : List Nat) : Nb W [] = True := rfl
@[go_sem] theorem Nb_cons (W : List Nat) (d : Nat) (v : AV) (T : List (Nat × AV)) : Nb W ((d, v) :: T) = (kl W v = v ∧ Nb W T) := rfl
theorem Off_upd (W : List Nat) (S0 S : St) (d : Nat) (v : AV) (hd : d ∈ W) : Off W S0 (upd d v S) ↔ Off W S0 S := by
  constructor
  · intro h i hi
    have hne : i ≠ d := fun e => hi (e ▸ hd)
    have := h i hi
    rw [show upd d v S i = kl [d] (if i = d then v else S i) from rfl, if_neg hne, kl_comp (by simpa using hd)] at this
    exact this
  · exact Off.upd hd
theorem Off_updn (W : List Nat) (S0 S : St) (d : Nat) (v : AV) (hd : d ∈ W) : Off W S0 (updn d v S) ↔ Off W S0 S := by
  constructor
  · intro h i hi
    have hne : i ≠ d := fun e => hi (e ▸ hd)
    have := h i hi
    rw [show updn d v S i = (if i = d then v else kn d (S i)) from rfl, if_neg hne, kl_kn hd] at this
    exact this
  · exact Off.updn hd
theorem Off_updn1 (W : List Nat) (S0 S : St) (d : Nat) (v : AV) (hd : d ∈ W) : Off W S0 (updn1 d v S) ↔ Off W S0 S := by
  constructor
  · intro h i hi
    have hne : i ≠ d := fun e => hi (e ▸ hd)
    have := h i hi
    rw [show updn1 d v S i = (if i = d then v else kn1 d (S i)) from rfl, if_neg hne, kl_kn1 hd] at this
    exact this
  · exact Off.updn1 hd
attribute [go_sem] Off_upd Off_updn Off_updn1
theorem Off_reset (W : List Nat) (T : List (Nat × AV)) (S0 : St) (hT : ∀ p ∈ T, p.1 ∈ W) : Off W S0 (reset W T S0) := Off.reset (fun _ h => h) hT (Off.refl W S0)
end Go.Abs

/- From a contract to what a row asks of the call. It holds over any program. (post_of_below is the guide's lemma of that name, turned to this place.) -/
set_option linter.unusedVariables false
set_option linter.unusedSimpArgs false
namespace Go.Abs
open Go.RowKit Go.WideShapes Go.ChangeShapes
theorem RepT.val_eq {P : Program} {w : World} {F : Nat → Prop} {tm : Nat → Value} {oss : Nat → List Nat} {u v : Value} {os : List Nat} (h : RepT P w F tm oss (.val u) v os) : v = u := by
  generalize hc : AV.val u = c at h
  cases h with
  | cell c v os h => subst hc; cases h; rfl
  | _ => simp at hc

/-- A function that answers true, called. -/
theorem Con.calls {P : Program} {f : FuncId} {args : List AV} (h : Con P f args (.bool true)) {vs : List Value} (hl : args.length = vs.length) {w : World}
    (ha : ∀ tm oss, RepTL P w (fun b => b < w.heap.size) tm oss args vs []) :
    Calls P f vs.toArray w fun e w' => e = .returned (.bool true) ∧ Below w.heap.size w w' :=
  (h.2 w vs hl ha).mono fun e w' ⟨v, os, he, hb, hr, _⟩ => ⟨by rw [he, (hr (fun _ => undef) (fun _ => [])).val_eq], hb⟩

theorem RepTL.valS {P : Program} {w : World} {F : Nat → Prop} {tm : Nat → Value} {oss : Nat → List Nat} : ∀ {vs : List Value}, (∀ v ∈ vs, v.oneCell' = true) → RepTL P w F tm oss (vs.map .val) vs []
  | [], _ => .nil _
  | v :: vs, h => .cons _ _ [] _ _ [] (.cell _ _ _ (.val _ (h v (by simp)))) (RepTL.valS (fun v hv => h v (by simp [hv])))

/-- A nil slice is an empty one of ours. -/
theorem RepT.nil_own {P : Program} {w : World} {F : Nat → Prop} {tm : Nat → Value} {oss : Nat → List Nat} {v : Value} {os : List Nat} (e : TypeId) (h : RepT P w F tm oss (.val (.slice none 0 0)) v os) : RepT P w F tm oss (.own e 0 []) v os := by
  generalize hc : AV.val (.slice none 0 0) = c at h
  cases h with
  | cell c v os h => subst hc; cases h; exact .cell _ _ _ (.own0 e)
  | _ => simp at hc
/-- ds tells what cs tells, nil slices as empty ones of ours. -/
inductive WkL : List AV → List AV → Prop
  | nil : WkL [] []
  | same (c : AV) (cs ds : List AV) (h : WkL cs ds) : WkL (c :: cs) (c :: ds)
  | own (e : TypeId) (cs ds : List AV) (h : WkL cs ds) : WkL (.val (.slice none 0 0) :: cs) (.own e 0 [] :: ds)
theorem WkL.len {cs ds : List AV} (h : WkL cs ds) : cs.length = ds.length := by
  induction h with
  | nil => rfl
  | same => simpa
  | own => simpa
theorem WkL.rep {P : Program} {w : World} {F : Nat → Prop} {tm : Nat → Value} {oss : Nat → List Nat} {cs ds : List AV} (h : WkL cs ds) : ∀ {vs : List Value} {os : List Nat}, RepTL P w F tm oss cs vs os → RepTL P w F tm oss ds vs os := by
  induction h with
  | nil => intro vs os h; exact h
  | same c cs ds h ih =>
    intro vs os k
    cases k with
    | cons _ v o1 _ vs o2 k1 k2 => exact .cons _ _ _ _ _ _ k1 (ih k2)
  | own e cs ds h ih =>
    intro vs os k
    cases k with
    | cons _ v o1 _ vs o2 k1 k2 => exact .cons _ _ _ _ _ _ (k1.nil_own e) (ih k2)
theorem Con.wk {P : Program} {f : FuncId} {args cs ds : List AV} (h : Con P f args (.tup cs)) (hw : WkL cs ds) : Con P f args (.tup ds) := by
  refine ⟨h.1, fun w vs hl ha => (h.2 w vs hl ha).mono ?_⟩
  rintro e w' ⟨v, os, he, hb, hr, hn, ho⟩
  refine ⟨v, os, he, hb, fun tm oss => ?_, hn, ho⟩
  have := hr tm oss
  generalize hc : AV.tup cs = c at this
  cases this with
  | cell c v os h => subst hc; cases h
  | tup cs' vs os hl h =>
    injection hc with hc; subst hc
    exact .tup _ _ _ (by rw [← hl, hw.len]) (hw.rep h)
  | _ => simp at hc
theorem Con.n1 {P : Program} {f : FuncId} {args : List AV} {x : AV} (e : TypeId) (h : Con P f args (.tup [.val (.slice none 0 0), x])) : Con P f args (.tup [.own e 0 [], x]) :=
  h.wk (.own e _ _ (.same _ _ _ .nil))
theorem Con.n2 {P : Program} {f : FuncId} {args : List AV} {x : AV} (e e' : TypeId) (h : Con P f args (.tup [.val (.slice none 0 0), .val (.slice none 0 0), x])) : Con P f args (.tup [.own e 0 [], .own e' 0 [], x]) :=
  h.wk (.own e _ _ (.own e' _ _ (.same _ _ _ .nil)))

section
variable {H : Type} {enc : TypeId × Value → H} {P : Program}
theorem post_of_below {f : Func} {s : ChangeSpec} {apart fresh handsOn again : Bool} {W W' : World} {args : Array Value} {v : Value} {ds gs : List (DataW H)} {before pa pv : List MemPlace}
    (hW : DataW.Whole enc P f.params.toList s.vars apart W args.toList ds gs before)
    (hres : ∀ (b : Nat) (sp : Nat → Bool) (hd : Bool), DataW.TrodAll enc P W' b sp hd f.resultTypes.toList (v.resultList f.resultTypes.size) (s.fn H (ds ++ gs)).results [])
    (hargs : ∀ sp : Nat → Bool, (∀ p ∈ before, sp p.block = true) → DataW.TrodAll enc P W' 0 sp true f.params.toList args.toList (s.fn H (ds ++ gs)).args pa)
    (hvars : ∀ sp : Nat → Bool, (∀ p ∈ before, sp p.block = true) → DataW.TrodVars enc P W' sp s.vars (s.fn H (ds ++ gs)).vars pv)
    (hps : before = pa ++ pv) (hb : Below W.heap.size W W')
    (hok : ∀ (j : Nat) (t : TypeId) (r : Value), f.resultTypes[j]? = some t → (v.resultList f.resultTypes.size)[j]? = some r → Value.okWide P W' .any 0 t r) :
    s.post enc P f apart fresh handsOn again W args v W' := by
  have hlt : ∀ p ∈ before, p.block < W.heap.size := fun p hp => hW.lt p hp
  have hold : ∀ p ∈ before, (fun b => decide (b < W.heap.size)) p.block = true := fun p hp => by simpa using hlt p hp
  refine ⟨ds, gs, before, [], pa, pv, hW, hres _ _ _, hargs _ hold, hvars _ hold, World.keptBut_mono (fun p hp => ⟨hp, ?_⟩) (hb.frame (· ∈ before)), fun _ => ?_⟩
  · rw [hps, List.mem_append] at hp
    exact Or.inr hp
  · obtain ⟨_, _, _, _, _, hz, hn⟩ := hW
    refine ⟨hok, _, _, ([] ++ pa) ++ pv, ⟨[] ++ pa, pv, trodAll_append (hargs _ (fun _ _ => rfl)) (hres _ _ _), hvars _ (fun _ _ => rfl), rfl, ?_, ?_⟩, ?_⟩
    · intro b off hp
      have hin : MemPlace.cell b off ∈ before := by rw [hps]; simpa using hp
      rw [hb.frozen (hlt _ hin)]
      exact hz b off hin
    · intro ha
      have := hn ha
      rw [hps] at this
      simpa using this
    · intro p hp _
      rw [hps]
      simpa using hp
end
end Go.Abs

/- What comes in as data, as the walks see it; what goes out reads as it did. It holds over any program. -/
set_option linter.unusedVariables false
set_option linter.unusedSimpArgs false
namespace Go.Abs
open Go.RowKit Go.WideShapes Go.ChangeShapes Go.Deep
section
variable {H : Type} {enc : TypeId × Value → H} {P : Program} {w : World} {sp : Nat → Bool} {held : Bool} {base : Nat}

/-- A slice's elements, one after the other. -/
theorem rows_rep {F : Nat → Prop} {c : Array Value} {e0 : TypeId} {fr : Nat × Nat} {b off s : Nat} (hb : w.heap[b]? = some (.cells c e0 fr)) {α : Type} {f : α → List AV} (hf : ∀ a, (f a).length = s) :
    ∀ (as : List α) (i0 : Nat), (∀ (i : Nat) a, as[i]? = some a → ∃ vs, vs.length = s ∧ (∀ j, j < s → c[off + (i0 + i) * s + j]? = vs[j]?) ∧ RepL P w F (f a) vs []) → RepL P w F (as.flatMap f) (c.toList.drop (off + i0 * s)) []
  | [], i0, _ => .nil _
  | a :: as, i0, h => by
    obtain ⟨vs, h1, h2, h3⟩ := h 0 a rfl
    have ih := rows_rep hb hf as (i0 + 1) (fun i a hi => by
      have := h (i + 1) a (by simpa using hi)
      rw [show i0 + (i + 1) = i0 + 1 + i by omega] at this
      exact this)
    rw [List.flatMap_cons]
    refine RepL.of_get (fun j cc hj => ?_)
    by_cases hjs : j < s
    · rw [List.getElem?_append_left (by rw [hf]; exact hjs)] at hj
      obtain ⟨v, hv, hr⟩ := h3.get0 hj
      refine ⟨v, ?_, hr⟩
      rw [List.getElem?_drop, Array.getElem?_toList, ← hv, ← h2 j hjs]
      simp
    · rw [List.getElem?_append_right (by rw [hf]; omega), hf] at hj
      obtain ⟨v, hv, hr⟩ := ih.get0 hj
      refine ⟨v, ?_, hr⟩
      rw [List.getElem?_drop] at hv ⊢
      rw [← hv]
      congr 1
      rw [Nat.add_mul]; omega

/-- A slice that comes in. -/
theorem open_sl {t e : TypeId} (ht : P.underlying t = some (.slice e)) {s : Nat} (hs : P.cellsOf e = s) (hpos : 0 < s) {α : Type} {f : α → List AV} (hf : ∀ a, (f a).length = s) {Good : α → Prop}
    (hel : ∀ n cs y, DataW.trod enc P w base sp held n e cs = some y → ∃ a, Good a ∧ RepL P w (fun b => b < w.heap.size) (f a) cs [])
    {n : Nat} {cs : List Value} {x : DataW H × List MemPlace} (h : DataW.trod enc P w base sp held n t cs = some x) :
    ∃ as : List α, (∀ a ∈ as, Good a) ∧ as.length ≤ 9223372036854775807 ∧ RepL P w (fun b => b < w.heap.size) [.sl as.length (as.flatMap f)] cs [] ∧ cs.length = 1 := by
  rcases DataW.trod_slice ht h with ⟨rfl, _⟩ | ⟨a, len, cap, elems, rest, m, _, rfl, _, hb, hl, hm, hlen, hel2, _, _⟩
  · exact ⟨[], by simp, by simp, .cons _ _ [] _ _ [] (.sl0 none 0) (.nil _), rfl⟩
  · have hmax : maxLen ≤ 9223372036854775807 := by decide
    -- each element
    have each : ∀ i, i < len → ∃ (vs : List Value) (q : α), w.cells? base (a.add (i * s)) s = some vs ∧ Good q ∧ RepL P w (fun b => b < w.heap.size) (f q) vs [] := by
      intro i hi
      have h1 := hel2 i hi
      rw [hs] at h1
      have h2 : elems[i]? = some (elems[i]'(by omega)) := List.getElem?_eq_getElem _
      rw [h2, Option.bind_eq_some_iff] at h1
      obtain ⟨vs, h3, h4⟩ := h1
      obtain ⟨q, h5, h6⟩ := hel _ _ _ h4
      exact ⟨vs, q, h3, h5, h6⟩
    have mk : ∀ k, k ≤ len → ∃ as : List α, as.length = k ∧ (∀ a ∈ as, Good a) ∧ ∀ i q, as[i]? = some q → ∃ vs, w.cells? base (a.add (i * s)) s = some vs ∧ RepL P w (fun b => b < w.heap.size) (f q) vs [] := by
      intro k
      induction k with
      | zero => intro _; exact ⟨[], rfl, by simp, by simp⟩
      | succ k ih =>
        intro hk
        obtain ⟨as, k1, k2, k3⟩ := ih (by omega)
        obtain ⟨vs, q, h1, h2, h3⟩ := each k (by omega)
        refine ⟨as ++ [q], by simp [k1], ?_, ?_⟩
        · intro z hz
          rcases List.mem_append.1 hz with hz | hz
          · exact k2 z hz
          · simp at hz; subst hz; exact h2
        · intro i z hz
          by_cases hi : i < as.length
          · rw [List.getElem?_append_left hi] at hz; exact k3 i z hz
          · rw [List.getElem?_append_right (by omega)] at hz
            have hi0 : i - as.length = 0 := by
              have := (List.getElem?_eq_some_iff.1 hz).1
              simp at this; omega
            rw [hi0] at hz
            simp at hz; subst hz
            have : i = k := by omega
            subst this
            exact ⟨vs, h1, h3⟩
    obtain ⟨as, k1, k2, k3⟩ := mk len (Nat.le_refl _)
    refine ⟨as, k2, by omega, ?_, rfl⟩
    rw [k1]
    by_cases h0 : len = 0
    · subst h0
      have : as = [] := List.eq_nil_of_length_eq_zero k1
      subst this
      exact .cons _ _ [] _ _ [] (.sl0 _ _) (.nil _)
    · -- the block
      obtain ⟨vs, q, h1, _, _⟩ := each 0 (by omega)
      obtain ⟨g1, g2, g3⟩ := World.cells?_some h1
      have c0 := g3 0 hpos
      have hv0 : ∃ v, vs[0]? = some v := ⟨vs[0]'(by omega), List.getElem?_eq_getElem _⟩
      obtain ⟨v0, hv0⟩ := hv0
      rw [hv0] at c0
      have ea : (a.add (0 * s)).add 0 = a := by simp [Addr.add]
      rw [ea] at c0
      obtain ⟨b, off, spot⟩ := a
      unfold World.cell? at c0
      simp only at c0
      cases hbk : w.heap[b]? with
      | none => simp [hbk] at c0
      | some o =>
        cases o with
        | cells c et fr =>
          simp only [hbk] at c0
          cases spot with
          | some z => simp at c0
          | none =>
            refine .cons _ _ [] _ _ [] (.sl b off len cap c et fr _ ?_ hbk ?_ hl) (.nil _)
            · rcases Nat.lt_or_ge b w.heap.size with hlt | hge
              · exact hlt
              · simp [Array.getElem?_eq_none hge] at hbk
            · have := rows_rep (P := P) (F := fun b => b < w.heap.size) (off := off) hbk hf as 0 (fun i q hi => by
                obtain ⟨vs, m1, m2⟩ := k3 i q hi
                obtain ⟨p1, p2, p3⟩ := World.cells?_some m1
                refine ⟨vs, p2, fun j hj => ?_, m2⟩
                rw [← p3 j hj]
                rw [Nat.zero_add]
                have e1 : ((⟨b, off, none⟩ : Addr).add (i * s)).add j = ⟨b, off + i * s + j, none⟩ := by
                  unfold Addr.add; split <;> split <;> simp_all <;> omega
                rw [e1, cell_of hbk])
              simpa using this
        | _ => simp [hbk] at c0

/-- A whole number that comes in. -/
theorem open_i {t : TypeId} {k : IntKind} (ht : P.underlying t = some (.int k)) {F : Nat → Prop} {n : Nat} {cs : List Value} {y : DataW H × List MemPlace} (h : DataW.trod enc P w base sp held n t cs = some y) :
    ∃ z : Int, (Lit.int k z).wf = true ∧ RepL P w F [.val (.int k z)] cs [] ∧ cs.length = 1 := by
  obtain ⟨z, rfl, _, hw⟩ := DataW.trod_int ht h
  exact ⟨z, hw, .cons _ _ [] _ _ [] (.val _ rfl) (.nil _), rfl⟩

/-- A struct of two cells that comes in. -/
theorem open_st2 {t : TypeId} {f0 f1 : Field} (ht : P.underlying t = some (.struct #[f0, f1])) (hone : oneCellFields P #[f0, f1] = true) (hC : P.cellsOf t = 2) {n : Nat} {cs : List Value} {y : DataW H × List MemPlace} (h : DataW.trod enc P w base sp held n t cs = some y) :
    ∃ c0 c1 y0 y1 m, cs = [c0, c1] ∧ DataW.trod enc P w base sp held m f0.type [c0] = some y0 ∧ DataW.trod enc P w base sp held m f1.type [c1] = some y1 := by
  obtain ⟨y0, y1, m, hx, hl, h0, h1⟩ := trod_struct2 ht h
  rw [hC] at hl
  match cs, hl with
  | [c0, c1], _ =>
    obtain ⟨o0, k0⟩ := hone_of hone 0 f0 rfl
    obtain ⟨o1, k1⟩ := hone_of hone 1 f1 rfl
    exact ⟨c0, c1, y0, y1, m, rfl, by simpa [o0, k0] using h0, by simpa [o1, k1] using h1⟩

theorem RepL.two {F : Nat → Prop} {a b : AV} {u v : Value} (h : RepL P w F [a] [u] []) (k : RepL P w F [b] [v] []) : RepL P w F [a, b] [u, v] [] := by
  obtain ⟨u', h1, h2⟩ := h.get0 (i := 0) rfl
  obtain ⟨v', k1, k2⟩ := k.get0 (i := 0) rfl
  simp at h1 k1; subst h1; subst k1
  exact .cons _ _ [] _ _ [] h2 (.cons _ _ [] _ _ [] k2 (.nil _))
theorem RepL.one {F : Nat → Prop} {a : AV} {v : Value} (h : RepL P w F [a] [v] []) : RepC P w F a v [] := by
  obtain ⟨v', h1, h2⟩ := h.get0 (i := 0) rfl
  simp at h1; subst h1; exact h2

/-- What came in reads behind the call as it did. -/
theorem trodAll_carry {w' : World} : ∀ {ts : List TypeId} {vs : List Value} {ds : List (DataW H)} {ps : List MemPlace}, DataW.TrodAll enc P w base sp held ts vs ds ps → (∀ p ∈ ps, w.sameAt w' p) → DataW.TrodAll enc P w' base sp held ts vs ds ps
  | [], [], [], _, h, _ => h
  | _ :: _, _ :: _, _ :: _, _, ⟨p, q, ⟨n, h1⟩, h2, e⟩, hs => ⟨p, q, ⟨n, DataW.trod_carry n _ _ _ h1 (fun x hx => hs x (by rw [e]; exact List.mem_append_left _ hx))⟩, trodAll_carry h2 (fun x hx => hs x (by rw [e]; exact List.mem_append_right _ hx)), e⟩
theorem args_again {W W' : World} {ts : List TypeId} (K : Kids P (· < P.types.size)) (hz : ∀ t e, t < P.types.size → P.underlying t = some (.slice e) → 0 < P.cellsOf e) (hts : ts.all (fun t => decide (t < P.types.size)) = true) (hb : Below W.heap.size W W')
    {vs : List Value} {ds : List (DataW H)} {ps : List MemPlace} (h : DataW.TrodAll enc P W 0 (fun _ => true) true ts vs ds ps) (hlt : ∀ p ∈ ps, p.block < W.heap.size) {s : Nat → Bool} (hs : ∀ p ∈ ps, s p.block = true) :
    DataW.TrodAll enc P W' 0 s true ts vs ds ps :=
  (trodAll_carry h (fun p hp => hb.same (hlt p hp))).respare K hz (fun t ht => of_decide_eq_true (List.all_eq_true.1 hts t ht)) hs
end
end Go.Abs

/- The rules by which the conditions of a walk are reckoned out. -/
set_option linter.unusedVariables false
set_option linter.unusedSimpArgs false
namespace Go.Abs

@[go_sem] theorem upd_app (d : Nat) (v : AV) (S : St) (i : Nat) : upd d v S i = kl [d] (if i = d then v else S i) := rfl
@[go_sem] theorem updn_app (d : Nat) (v : AV) (S : St) (i : Nat) : updn d v S i = if i = d then v else kn d (S i) := rfl
@[go_sem] theorem kl_any (W : List Nat) : kl W .any = .any := rfl
@[go_sem] theorem kl_val (W : List Nat) (v : Value) : kl W (.val v) = .val v := rfl
@[go_sem] theorem kl_sl (W : List Nat) (n : Nat) (cs : List AV) : kl W (.sl n cs) = .sl n cs := rfl
@[go_sem] theorem kl_own (W : List Nat) (e n : Nat) (cs : List AV) : kl W (.own e n cs) = .own e n cs := rfl
@[go_sem] theorem kl_box (W : List Nat) (e : Nat) (cs : List AV) : kl W (.box e cs) = .box e cs := rfl
@[go_sem] theorem kl_fptr (W : List Nat) (cs : List AV) : kl W (.fptr cs) = .fptr cs := rfl
@[go_sem] theorem kl_agg (W : List Nat) (cs : List AV) : kl W (.agg cs) = .agg (klL W cs) := by rw [kl]
@[go_sem] theorem kl_tup (W : List Nat) (cs : List AV) : kl W (.tup cs) = .tup (klL W cs) := by rw [kl]
@[go_sem] theorem kl_fn (W : List Nat) (f : FuncId) (cs : List AV) : kl W (.fn f cs) = .fn f (klL W cs) := by rw [kl]
@[go_sem] theorem klL_nil' (W : List Nat) : klL W [] = [] := rfl
@[go_sem] theorem klL_cons (W : List Nat) (c : AV) (cs : List AV) : klL W (c :: cs) = kl W c :: klL W cs := by rw [klL]
@[go_sem] theorem kl_bor (d s : Nat) (p : List Nat) : kl [d] (.bor s p) = if s = d then .any else .bor s p := by
  rw [kl]; by_cases h : s = d <;> simp [h]
@[go_sem] theorem kl_ptr (d s : Nat) (p : List Nat) (o : Nat) : kl [d] (.ptr s p o) = if s = d then .any else .ptr s p o := by
  rw [kl]; by_cases h : s = d <;> simp [h]
@[go_sem] theorem kn_any (d : Nat) : kn d .any = .any := rfl
@[go_sem] theorem kn_val (d : Nat) (v : Value) : kn d (.val v) = .val v := rfl
@[go_sem] theorem kn_sl (d : Nat) (n : Nat) (cs : List AV) : kn d (.sl n cs) = .sl n cs := rfl
@[go_sem] theorem kn_own (d : Nat) (e n : Nat) (cs : List AV) : kn d (.own e n cs) = .own e n cs := rfl
@[go_sem] theorem kn_box (d : Nat) (e : Nat) (cs : List AV) : kn d (.box e cs) = .box e cs := rfl
@[go_sem] theorem kn_fptr (d : Nat) (cs : List AV) : kn d (.fptr cs) = .fptr cs := rfl
@[go_sem] theorem kn_agg (d : Nat) (cs : List AV) : kn d (.agg cs) = .agg (knL d cs) := by rw [kn]
@[go_sem] theorem kn_tup (d : Nat) (cs : List AV) : kn d (.tup cs) = .tup (knL d cs) := by rw [kn]
@[go_sem] theorem kn_fn (d : Nat) (f : FuncId) (cs : List AV) : kn d (.fn f cs) = .fn f (knL d cs) := by rw [kn]
@[go_sem] theorem knL_nil' (d : Nat) : knL d [] = [] := rfl
@[go_sem] theorem knL_cons (d : Nat) (c : AV) (cs : List AV) : knL d (c :: cs) = kn d c :: knL d cs := by rw [knL]
@[go_sem] theorem kn_bor0 (d s : Nat) : kn d (.bor s []) = .bor s [] := by rw [kn]; simp
@[go_sem] theorem kn_bor1 (d s i : Nat) (p : List Nat) : kn d (.bor s (i :: p)) = if s = d then .any else .bor s (i :: p) := by
  rw [kn]; by_cases h : s = d <;> simp [h]
@[go_sem] theorem kn_ptr0 (d s o : Nat) : kn d (.ptr s [] o) = .ptr s [] o := by rw [kn]; simp
@[go_sem] theorem kn_ptr1 (d s i : Nat) (p : List Nat) (o : Nat) : kn d (.ptr s (i :: p) o) = if s = d then .any else .ptr s (i :: p) o := by
  rw [kn]; by_cases h : s = d <;> simp [h]

@[go_sem] theorem kn1_any (d : Nat) : kn1 d .any = .any := rfl
@[go_sem] theorem kn1_val (d : Nat) (v : Value) : kn1 d (.val v) = .val v := rfl
@[go_sem] theorem kn1_sl (d : Nat) (n : Nat) (cs : List AV) : kn1 d (.sl n cs) = .sl n cs := rfl
@[go_sem] theorem kn1_own (d : Nat) (e n : Nat) (cs : List AV) : kn1 d (.own e n cs) = .own e n cs := rfl
@[go_sem] theorem kn1_box (d : Nat) (e : Nat) (cs : List AV) : kn1 d (.box e cs) = .box e cs := rfl
@[go_sem] theorem kn1_fptr (d : Nat) (cs : List AV) : kn1 d (.fptr cs) = .fptr cs := rfl
@[go_sem] theorem kn1_agg (d : Nat) (cs : List AV) : kn1 d (.agg cs) = .agg (kn1L d cs) := by rw [kn1]
@[go_sem] theorem kn1_tup (d : Nat) (cs : List AV) : kn1 d (.tup cs) = .tup (kn1L d cs) := by rw [kn1]
@[go_sem] theorem kn1_fn (d : Nat) (f : FuncId) (cs : List AV) : kn1 d (.fn f cs) = .fn f (kn1L d cs) := by rw [kn1]
@[go_sem] theorem kn1L_nil' (d : Nat) : kn1L d [] = [] := rfl
@[go_sem] theorem kn1L_cons (d : Nat) (c : AV) (cs : List AV) : kn1L d (c :: cs) = kn1 d c :: kn1L d cs := by rw [kn1L]
@[go_sem] theorem kn1_bor (d s : Nat) (p : List Nat) : kn1 d (.bor s p) = if s = d ∧ 2 ≤ p.length then .any else .bor s p := by rw [kn1]; simp
@[go_sem] theorem kn1_ptr (d s : Nat) (p : List Nat) (o : Nat) : kn1 d (.ptr s p o) = if s = d ∧ 2 ≤ p.length then .any else .ptr s p o := by rw [kn1]; simp
@[go_sem] theorem updn1_app (d : Nat) (v : AV) (S : St) (i : Nat) : updn1 d v S i = if i = d then v else kn1 d (S i) := rfl

@[go_sem] theorem kl_mp (W : List Nat) (c : Key → Option Int) : kl W (.mp c) = .mp c := rfl
@[go_sem] theorem kl_fmp (W : List Nat) (c : Key → Option Int) : kl W (.fmp c) = .fmp c := rfl
@[go_sem] theorem kl_it (W : List Nat) (l : Option (Key × Int)) (es : List (Key × Int)) : kl W (.it l es) = .it l es := rfl
@[go_sem] theorem kl_slp (d s : Nat) (p : List Nat) (o n : Nat) : kl [d] (.slp s p o n) = if s = d then .any else .slp s p o n := by
  rw [kl]; by_cases h : s = d <;> simp [h]
@[go_sem] theorem kn_mp (d : Nat) (c : Key → Option Int) : kn d (.mp c) = .mp c := rfl
@[go_sem] theorem kn_fmp (d : Nat) (c : Key → Option Int) : kn d (.fmp c) = .fmp c := rfl
@[go_sem] theorem kn_it (d : Nat) (l : Option (Key × Int)) (es : List (Key × Int)) : kn d (.it l es) = .it l es := rfl
@[go_sem] theorem kn_slp0 (d s o n : Nat) : kn d (.slp s [] o n) = .slp s [] o n := by rw [kn]; simp
@[go_sem] theorem kn_slp1 (d s i : Nat) (p : List Nat) (o n : Nat) : kn d (.slp s (i :: p) o n) = if s = d then .any else .slp s (i :: p) o n := by
  rw [kn]; by_cases h : s = d <;> simp [h]
@[go_sem] theorem kn1_mp (d : Nat) (c : Key → Option Int) : kn1 d (.mp c) = .mp c := rfl
@[go_sem] theorem kn1_fmp (d : Nat) (c : Key → Option Int) : kn1 d (.fmp c) = .fmp c := rfl
@[go_sem] theorem kn1_it (d : Nat) (l : Option (Key × Int)) (es : List (Key × Int)) : kn1 d (.it l es) = .it l es := rfl
@[go_sem] theorem kn1_slp (d s : Nat) (p : List Nat) (o n : Nat) : kn1 d (.slp s p o n) = if s = d ∧ 2 ≤ p.length then .any else .slp s p o n := by rw [kn1]; simp
@[go_sem] theorem kl_keyAV (W : List Nat) (k : Key) : kl W (keyAV k) = keyAV k := rfl
@[go_sem] theorem kn_keyAV (d : Nat) (k : Key) : kn d (keyAV k) = keyAV k := rfl
@[go_sem] theorem kn1_keyAV (d : Nat) (k : Key) : kn1 d (keyAV k) = keyAV k := rfl
@[go_sem] theorem cv_nilmap : cv (.map none) = .val (.map none) := rfl
@[go_sem] theorem hasOwn_keyAV (k : Key) : hasOwn (keyAV k) = false := rfl
@[go_sem] theorem keyA_keyAV (k : Key) : keyA (keyAV k) = some k := rfl
@[go_sem] theorem frz_keyAV (k : Key) : frz (keyAV k) = keyAV k := rfl
@[go_sem] theorem initS_app (args : List AV) (i : Nat) : initS args i = (match args[i]? with | some c => c | none => .any) := rfl
@[go_sem] theorem aop_tmp (S : St) (t : Nat) : aop S (.tmp t) = S t := rfl
@[go_sem] theorem aop_const (S : St) (v : Value) : aop S (.const v) = cv v := rfl
@[go_sem] theorem aop_func (S : St) (f : FuncId) : aop S (.func f) = .val (.func (.func f) #[] #[]) := rfl
@[go_sem] theorem cv_nil : cv (.slice none 0 0) = .val (.slice none 0 0) := rfl
@[go_sem] theorem cv_int (k : IntKind) (n : Int) : cv (.int k n) = .val (.int k n) := rfl
@[go_sem] theorem cv_bool (b : Bool) : cv (.bool b) = .val (.bool b) := rfl
@[go_sem] theorem cv_string (s : ByteArray) : cv (.string s) = .val (.string s) := rfl

@[go_sem] theorem lookup_nil' (i : Nat) : List.lookup i ([] : List (Nat × AV)) = none := rfl
@[go_sem] theorem lookup_cons' (i d : Nat) (v : AV) (T : List (Nat × AV)) : List.lookup i ((d, v) :: T) = if i = d then some v else List.lookup i T := by
  rw [List.lookup_cons]
  by_cases h : i = d
  · simp [h]
  · have : (i == d) = false := by simpa using h
    simp [h, this]

attribute [go_sem] rangeOf nextOf ixR ixA ivS fdS ptS bnd bndSl prS poS slS plc srcC cpS bdS plTs putAll b0S b1S blS mmS mapA keyA lkS mplc muS enS RangeVC NextVC tkLm callV cap1 caps mfS bxS faS alS stAS ldAS takeA tkU ldCs ldC cellB cellsB valsB setMany app TestVC_true TestVC_false callOf stepO withD mvR mvS mvT valR ldR stR hasOwn hasOwnL isOB roots rootsL binI unI cnI
  ld1S ld1A adr ctn kids setKids getP putP ldC IntKind.signed slotsOf ixS mkS isV st1S apS els isSome2 tk tkP tks bsS idxOk lnS exS rsvArgs rsv rsvL frz frzL gslot skipU retAV retOf inK_i64
section
variable (P : Program) (cf : Cfg) (N : Nat × List Nat) (ops : Array Oper) (K : St → Prop) (Q : Exit → St → Prop) (S : St)
@[go_sem] theorem vcOps_nil : vcOps P cf N ops [] K S = K S := rfl
@[go_sem] theorem vcOps_plain (dst : Option Tmp) (op : Op) (ty : TypeId) (pos : String) (after : Array Edge) (l : List Oper) :
    vcOps P cf N ops (⟨dst, op, ty, pos, after, none⟩ :: l) K S = vcOp P cf N ⟨dst, op, ty, pos, after, none⟩ (vcOps P cf N ops l K) S := rfl
/-- A guarded operation. -/
def GuardVC (g : Nat) (b : Bool) (A B : St → Prop) (S : St) : Prop :=
  match S g with
  | .val (.bool c) => g < N.1 ∧ TestVC (c == b) A B (upd g (.val (.bool b)) S) (upd g (.val (.bool !b)) S)
  | .tup [] => B S
  | _ => False
@[go_sem] theorem vcOps_guard (dst : Option Tmp) (op : Op) (ty : TypeId) (pos : String) (after : Array Edge) (j : Nat) (b : Bool) (l : List Oper) :
    vcOps P cf N ops (⟨dst, op, ty, pos, after, some (j, b)⟩ :: l) K S = (match gslot ops j with
      | some g => GuardVC N g b (vcOp P cf N ⟨dst, op, ty, pos, after, some (j, b)⟩ (vcOps P cf N ops l K)) (skipK ⟨dst, op, ty, pos, after, some (j, b)⟩ (vcOps P cf N ops l K)) S
      | none => False) := rfl
@[go_sem] theorem GuardVC_app (g : Nat) (b : Bool) (A B : St → Prop) : GuardVC N g b A B S = (match S g with
  | .val (.bool c) => g < N.1 ∧ TestVC (c == b) A B (upd g (.val (.bool b)) S) (upd g (.val (.bool !b)) S)
  | .tup [] => B S
  | _ => False) := rfl
@[go_sem] theorem vcOp_app (o : Oper) : vcOp P cf N o K S = (match callOf o.op with
  | some (f, xs) => if cf.mu.contains f then MVC P N f xs o.dst K S else match rsvArgs S xs with
    | some as => CallVC P cf N f as o.dst K S
    | none => False
  | none => match callV S o.op with
    | some (f, xs, cs) => match rsvArgs S xs, rsvL S cs with
      | some as, some bs => CallVC P cf N f (as ++ bs) o.dst K S
      | _, _ => False
    | none => match rangeOf P S o.op, o.dst with
      | some c, some d => RangeVC N c d K S
      | _, _ => match nextOf S o.op, o.dst with
        | some (t, rem), some d => NextVC N t rem d K S
        | _, _ => match stepO P cf N S o.op o.dst with
          | some (p, _, U) => p ∧ K (app U S)
          | none => False) := rfl
@[go_sem] theorem skipK_app (o : Oper) : skipK o K S = K (app (skipU o) S) := rfl
@[go_sem] theorem vc_skip : vc P cf N .skip Q S = Q .normal S := rfl
@[go_sem] theorem vc_region (id : Nat) : vc P cf N (.region id ops false) Q S = vcOps P cf N ops ops.toList (Q .normal) S := rfl
@[go_sem] theorem vc_draw (id : Nat) : vc P cf N (.region id ops true) Q S = DrawVC P cf N ops (Q .normal) S := rfl
@[go_sem] theorem vcD_nil (i : Nat) (tr : List Ent) : vcD P cf N ops i [] K tr S = doneD ops K tr S := rfl
@[go_sem] theorem vcD_plain (i : Nat) (tr : List Ent) (dst : Option Tmp) (op : Op) (ty : TypeId) (pos : String) (after : Array Edge) (l : List Oper) :
    vcD P cf N ops i (⟨dst, op, ty, pos, after, none⟩ :: l) K tr S = runD P cf N i ⟨dst, op, ty, pos, after, none⟩ [] (vcD P cf N ops (i + 1) l K) tr S := rfl
@[go_sem] theorem vcD_guard (i : Nat) (tr : List Ent) (dst : Option Tmp) (op : Op) (ty : TypeId) (pos : String) (after : Array Edge) (j : Nat) (b : Bool) (l : List Oper) :
    vcD P cf N ops i (⟨dst, op, ty, pos, after, some (j, b)⟩ :: l) K tr S = (match gslot ops j with
      | some g => GuardD N g b (runD P cf N i ⟨dst, op, ty, pos, after, some (j, b)⟩ [g] (vcD P cf N ops (i + 1) l K)) (skipD i ⟨dst, op, ty, pos, after, some (j, b)⟩ [g] (vcD P cf N ops (i + 1) l K)) tr S
      | none => False) := rfl
@[go_sem] theorem runD_app (i : Nat) (o : Oper) (G : List Nat) (C : List Ent → St → Prop) (tr : List Ent) : runD P cf N i o G C tr S = (match callOf o.op with
  | some (f, xs) => if cf.mu.contains f then False else match rsvArgs S xs with
    | some as => closedB (G ++ (opsD S o.op).flatMap (rdO S)) S = true ∧ CallD P cf N f as o.dst i (G ++ (opsD S o.op).flatMap (rdO S)) C tr S
    | none => False
  | none => match stepO P cf N S o.op o.dst with
    | some (p, _, U) => (closedB (G ++ (opsD S o.op).flatMap (rdO S)) S && inB (rts U) (G ++ (opsD S o.op).flatMap (rdO S))) = true ∧ p ∧ C (⟨i, G ++ (opsD S o.op).flatMap (rdO S), wrs U⟩ :: tr) (app U S)
    | none => False) := rfl
@[go_sem] theorem skipD_app (i : Nat) (o : Oper) (G : List Nat) (C : List Ent → St → Prop) (tr : List Ent) : skipD i o G C tr S = (closedB G S = true ∧ C (⟨i, G, wrs (skipU o)⟩ :: tr) (app (skipU o) S)) := rfl
@[go_sem] theorem GuardD_app (g : Nat) (b : Bool) (A B : List Ent → St → Prop) (tr : List Ent) : GuardD N g b A B tr S = (match S g with
  | .val (.bool c) => g < N.1 ∧ DTest (c == b) A B tr S
  | .tup [] => B tr S
  | _ => False) := rfl
@[go_sem] theorem DTest_true (A B : List Ent → St → Prop) (tr : List Ent) : DTest true A B tr S = A tr S := by simp [DTest]
@[go_sem] theorem DTest_false (A B : List Ent → St → Prop) (tr : List Ent) : DTest false A B tr S = B tr S := by simp [DTest]
@[go_sem] theorem DrawVC_app : DrawVC P cf N ops K S = (edgesOk ops = true ∧ vcD P cf N ops 0 ops.toList K [] S) := rfl
@[go_sem] theorem vc_seq (x y : Code) : vc P cf N (.seq x y) Q S = vc P cf N x (thenQ (vc P cf N y Q) Q) S := rfl
@[go_sem] theorem vc_cond (c : Operand) (x y : Code) : vc P cf N (.cond c x y) Q S = (match aop S c with
    | .val (.bool t) => TestVC t (vc P cf N x Q) (vc P cf N y Q) S S
    | _ => False) := rfl
@[go_sem] theorem vc_block (id : Nat) (b : Code) : vc P cf N (.block id b) Q S = vc P cf N b (blockQ id Q) S := rfl
@[go_sem] theorem vc_loop (b : Code) : vc P cf N (.loop b) Q S = LoopVC (vc P cf N b) Q S := rfl
@[go_sem] theorem vc_exit (id : Nat) : vc P cf N (.exit id) Q S = Q (.exit id) S := rfl
@[go_sem] theorem vc_ret : vc P cf N .ret Q S = Q .ret S := rfl
@[go_sem] theorem thenQ_normal : thenQ K Q .normal S = K S := rfl
@[go_sem] theorem thenQ_ret : thenQ K Q .ret S = Q .ret S := rfl
@[go_sem] theorem thenQ_exit (id : Nat) : thenQ K Q (.exit id) S = Q (.exit id) S := rfl
@[go_sem] theorem blockQ_normal (id : Nat) : blockQ id Q .normal S = Q .normal S := rfl
@[go_sem] theorem blockQ_ret (id : Nat) : blockQ id Q .ret S = Q .ret S := rfl
@[go_sem] theorem blockQ_exit (id id' : Nat) : blockQ id Q (.exit id') S = if id' = id then Q .normal S else Q (.exit id') S := rfl
@[go_sem] theorem loopQ_ret (I : Nat → St → Prop) (n : Nat) : loopQ I n Q .ret S = Q .ret S := rfl
@[go_sem] theorem loopQ_exit (I : Nat → St → Prop) (n id : Nat) : loopQ I n Q (.exit id) S = Q (.exit id) S := rfl
@[go_sem] theorem retQ_ret (rs : List ResultVar) (r : AV) : retQ P rs r .ret S = ∃ cs, retAV P S rs = some cs ∧ retOf cs = r := rfl
@[go_sem] theorem retQ_normal (rs : List ResultVar) (r : AV) : retQ P rs r .normal S = ∃ cs, retAV P S rs = some cs ∧ retOf cs = r := rfl
@[go_sem] theorem retM_ret (rs : List ResultVar) (kp : List Nat) (n : Nat) (r : AV) (outs : List AV) : retM P rs kp n r outs .ret S = ∃ cs, retAV P S (rs ++ kp.map .tmp) = some cs ∧ retOf (cs.take rs.length) = r ∧ outsOf kp (cs.drop rs.length) n = outs ∧ freshL cs = true := rfl
end
attribute [go_sem] opsD closedB inB wrs rts rdO af afL Op.operands Call.operands OkD MVC locs locB locArgs fillA fillB fillArgs leafA leafB leafArgs tkLs ptLs locOk outsOf freshOK freshL
end Go.Abs
