/- What an operation's outcome hangs on: locality, for regions that draw their order. It holds over any program. -/
import Derived.Test.YtdhnnpohpfjaiaaAbsK
set_option linter.unusedVariables false
set_option linter.unusedSimpArgs false
namespace Go.Abs
open Go.RowKit (Below)

/-- The slots that an operand's reading looks at. -/
def rdO (S : St) (x : Operand) : List Nat := slotsOf x ++ roots (aop S x)

def Agree (D : List Nat) (S S' : St) : Prop := ∀ t, t ∈ D → S' t = S t

section
variable {P : Program} {D : List Nat} {S S' : St}

theorem Agree.aop (h : Agree D S S') {x : Operand} (hx : ∀ t ∈ slotsOf x, t ∈ D) : aop S' x = aop S x := by
  cases x with
  | tmp t => exact h t (hx t (by simp [slotsOf]))
  | _ => rfl

theorem Agree.ctn (h : Agree D S S') {s : Nat} (hs : s ∈ D) (p : List Nat) : ctn S' s p = ctn S s p := by
  unfold Abs.ctn; rw [h s hs]

theorem Agree.upd (h : Agree D S S') (d : Nat) (v : AV) : Agree D (upd d v S) (upd d v S') := fun t ht => by
  simp only [Abs.upd]; rw [h t ht]
theorem Agree.updn (h : Agree D S S') (d : Nat) (v : AV) : Agree D (updn d v S) (updn d v S') := fun t ht => by
  simp only [Abs.updn]; rw [h t ht]
theorem Agree.app' (h : Agree D S S') (U : List Upd) : Agree D (Abs.app U S) (Abs.app U S') := by
  induction U generalizing S S' with
  | nil => exact h
  | cons u U ih => cases u with
    | w d v => exact ih (h.upd d v)
    | n d v => exact ih (h.updn d v)

/-- D holds all that an operand's reading looks at. -/
def Cov (D : List Nat) (S : St) (x : Operand) : Prop := ∀ t ∈ rdO S x, t ∈ D
theorem Cov.slots {x : Operand} (h : Cov D S x) : ∀ t ∈ slotsOf x, t ∈ D := fun t ht => h t (by simp [rdO, ht])
theorem Cov.root {x : Operand} (h : Cov D S x) {s : Nat} (hs : s ∈ roots (aop S x)) : s ∈ D := h s (by simp [rdO, hs])

mutual
theorem roots_kl {W : List Nat} : ∀ c : AV, ∀ s ∈ roots (kl W c), s ∈ roots c
  | .bor s p, t, ht => by rw [kl] at ht; split at ht <;> simp_all [roots]
  | .ptr s p o, t, ht => by rw [kl] at ht; split at ht <;> simp_all [roots]
  | .slp s p o n, t, ht => by rw [kl] at ht; split at ht <;> simp_all [roots]
  | .agg cs, t, ht => by rw [kl, roots] at ht; exact rootsL_kl cs t ht
  | .tup cs, t, ht => by rw [kl, roots] at ht; exact rootsL_kl cs t ht
  | .fn f cs, t, ht => by rw [kl, roots] at ht; exact rootsL_kl cs t ht
  | .any, t, ht => ht
  | .val v, t, ht => ht
  | .sl n cs, t, ht => ht
  | .own e n cs, t, ht => ht
  | .box e cs, t, ht => ht
  | .fptr cs, t, ht => ht
  | .mp c, t, ht => ht
  | .fmp c, t, ht => ht
  | .it l es, t, ht => ht
theorem rootsL_kl {W : List Nat} : ∀ cs : List AV, ∀ s ∈ rootsL (klL W cs), s ∈ rootsL cs
  | [], t, ht => ht
  | c :: cs, t, ht => by
    rw [klL, rootsL, List.mem_append] at ht
    rw [rootsL, List.mem_append]
    exact ht.imp (roots_kl c t) (rootsL_kl cs t)
end
mutual
theorem roots_kn {d : Nat} : ∀ c : AV, ∀ s ∈ roots (kn d c), s ∈ roots c
  | .bor s p, t, ht => by rw [kn] at ht; split at ht <;> simp_all [roots]
  | .ptr s p o, t, ht => by rw [kn] at ht; split at ht <;> simp_all [roots]
  | .slp s p o n, t, ht => by rw [kn] at ht; split at ht <;> simp_all [roots]
  | .agg cs, t, ht => by rw [kn, roots] at ht; exact rootsL_kn cs t ht
  | .tup cs, t, ht => by rw [kn, roots] at ht; exact rootsL_kn cs t ht
  | .fn f cs, t, ht => by rw [kn, roots] at ht; exact rootsL_kn cs t ht
  | .any, t, ht => ht
  | .val v, t, ht => ht
  | .sl n cs, t, ht => ht
  | .own e n cs, t, ht => ht
  | .box e cs, t, ht => ht
  | .fptr cs, t, ht => ht
  | .mp c, t, ht => ht
  | .fmp c, t, ht => ht
  | .it l es, t, ht => ht
theorem rootsL_kn {d : Nat} : ∀ cs : List AV, ∀ s ∈ rootsL (knL d cs), s ∈ rootsL cs
  | [], t, ht => ht
  | c :: cs, t, ht => by
    rw [knL, rootsL, List.mem_append] at ht
    rw [rootsL, List.mem_append]
    exact ht.imp (roots_kn c t) (rootsL_kn cs t)
end

/-- The updates hold no root outside D. -/
def UIn (D : List Nat) : List Upd → Prop
  | [] => True
  | .w _ v :: U => (∀ s ∈ roots v, s ∈ D) ∧ UIn D U
  | .n _ v :: U => (∀ s ∈ roots v, s ∈ D) ∧ UIn D U

theorem Cov.app {x : Operand} (h : Cov D S x) : ∀ {U : List Upd}, UIn D U → Cov D (app U S) x := by
  intro U
  induction U generalizing S with
  | nil => intro _; exact h
  | cons u U ih =>
    have key : ∀ (d : Nat) (v : AV) (S2 : St), (∀ s ∈ roots v, s ∈ D) → (∀ t, S2 t = (if t = d then v else S t) ∨ (∃ W, S2 t = kl W (if t = d then v else S t)) ∨ (∃ e, S2 t = if t = d then v else kn e (S t))) → Cov D S2 x := by
      intro d v S2 hv h2 t ht
      unfold rdO at ht
      rcases List.mem_append.1 ht with ht | ht
      · exact h.slots t ht
      · cases x with
        | tmp i =>
          simp only [aop] at ht
          have hr : ∀ s ∈ roots (if i = d then v else S i), s ∈ D := by
            intro s hs
            split at hs
            · exact hv s hs
            · exact h.root (x := .tmp i) hs
          rcases h2 i with e | ⟨W, e⟩ | ⟨e0, e⟩
          · rw [e] at ht; exact hr t ht
          · rw [e] at ht; exact hr t (roots_kl _ t ht)
          · rw [e] at ht
            split at ht
            · exact hv t ht
            · rename_i hne
              have := roots_kn _ t ht
              exact h.root (x := .tmp i) this
        | _ => exact h.root ht
    cases u with
    | w d v =>
      intro hU
      exact ih (key d v _ hU.1 (fun t => .inr (.inl ⟨[d], rfl⟩))) hU.2
    | n d v =>
      intro hU
      exact ih (key d v _ hU.1 (fun t => .inr (.inr ⟨d, rfl⟩))) hU.2

theorem loc_mvT {cf : Cfg} {d t : Nat} {c : AV} : mvT cf d t c = mvT cf d t c := rfl

theorem loc_mvS (h : Agree D S S') {cf : Cfg} {d : Nat} {x : Operand} (hx : Cov D S x) : mvS cf S' d x = mvS cf S d x := by
  have e := h.aop hx.slots
  cases x with
  | tmp t => simp only [mvS]; simp only [aop] at e; rw [e]
  | _ => simp only [mvS]; rw [e]

theorem loc_adr (h : Agree D S S') {x : Operand} (hx : Cov D S x) : adr S' x = adr S x := by
  have e := h.aop hx.slots
  cases x with
  | tmp t =>
    simp only [adr]; simp only [aop] at e; rw [e]
    cases hS : S t with
    | bor s p => simp only; rw [h.ctn (hx.root (by simp [aop, hS, roots]))]
    | _ => rfl
  | _ => rfl

theorem adr_root {x : Operand} {s : Nat} {p : List Nat} {off : Nat} (h : adr S x = some (s, p, off)) : s ∈ slotsOf x ∨ s ∈ roots (aop S x) := by
  cases x with
  | tmp t =>
    simp only [adr] at h
    cases hS : S t with
    | bor s' p' =>
      rw [hS] at h
      simp only at h
      split at h
      · simp at h; obtain ⟨rfl, rfl, rfl⟩ := h; exact .inr (by simp [aop, hS, roots])
      · simp at h
    | ptr s' p' o' => rw [hS] at h; simp at h; obtain ⟨rfl, rfl, rfl⟩ := h; exact .inr (by simp [aop, hS, roots])
    | box e cs => rw [hS] at h; simp at h; obtain ⟨rfl, rfl, rfl⟩ := h; exact .inl (by simp [slotsOf])
    | _ => rw [hS] at h; simp at h
  | _ => simp [adr] at h

theorem Cov.adr {x : Operand} (hx : Cov D S x) {s : Nat} {p : List Nat} {off : Nat} (h : Abs.adr S x = some (s, p, off)) : s ∈ D := by
  rcases adr_root h with h | h
  · exact hx.slots s h
  · exact hx.root h

theorem loc_ld1S (h : Agree D S S') {d : Nat} {x : Operand} (hx : Cov D S x) : ld1S S' d x = ld1S S d x := by
  unfold ld1S
  rw [loc_adr h hx, h.aop hx.slots]
  cases ha : adr S x with
  | none => rfl
  | some q => obtain ⟨s, p, off⟩ := q; simp only [ld1A]; rw [h.ctn (hx.adr ha)]

theorem loc_ixS (h : Agree D S S') {d : Nat} {T : TypeId} {x i : Operand} (hx : Cov D S x) (hi : Cov D S i) : ixS P S' d T x i = ixS P S d T x i := by
  unfold ixS
  rw [h.aop hi.slots, h.aop hx.slots]
  have hb : ∀ s p, aop S x = .bor s p → ctn S' s p = ctn S s p := fun s p e => h.ctn (hx.root (by rw [e]; simp [roots])) p
  generalize hX : aop S x = c at hb ⊢
  cases x with
  | tmp t =>
    cases c with
    | bor s p => simp only [hb s p rfl]
    | _ => rfl
  | _ => rfl

theorem loc_ixA (h : Agree D S S') {d : Nat} {T : TypeId} {x i : Operand} (hx : Cov D S x) (hi : Cov D S i) : ixA P S' d T x i = ixA P S d T x i := by
  unfold ixA
  rw [h.aop hi.slots, h.aop hx.slots, loc_adr h hx]
  cases ha : adr S x with
  | none => rfl
  | some q =>
    obtain ⟨s, p, off⟩ := q
    simp only
    rw [h.ctn (hx.adr ha)]
theorem loc_ixR (h : Agree D S S') {d : Nat} {T : TypeId} {x i : Operand} (hx : Cov D S x) (hi : Cov D S i) : ixR P S' d T x i = ixR P S d T x i := by
  unfold ixR
  rw [loc_ixS h hx hi, loc_ixA h hx hi]
theorem loc_ptS (h : Agree D S S') {N : Nat × List Nat} {d t i : Nat} (hx : Cov D S (.tmp t)) : ptS S' N d t i = ptS S N d t i := by
  unfold ptS
  rw [h t (hx.slots t (by simp [slotsOf]))]
theorem loc_ivS (h : Agree D S S') {N : Nat × List Nat} {d : Nat} {T : TypeId} {x i : Operand} (hx : Cov D S x) (hi : Cov D S i) : ivS P S' N d T x i = ivS P S N d T x i := by
  unfold ivS
  rw [h.aop hi.slots]
  cases x with
  | tmp t =>
    have e : ∀ n, ptS S' N d t n = ptS S N d t n := fun n => loc_ptS h hx
    simp only [e]
  | _ => rfl
theorem loc_fdS (h : Agree D S S') {N : Nat × List Nat} {d i : Nat} {T : TypeId} {x : Operand} (hx : Cov D S x) : fdS P S' N d T x i = fdS P S N d T x i := by
  unfold fdS
  cases x with
  | tmp t =>
    have e : ∀ n, ptS S' N d t n = ptS S N d t n := fun n => loc_ptS h hx
    simp only [e]
  | _ => rfl
theorem loc_bnd (h : Agree D S S') {x : Option Operand} (hx : ∀ y ∈ x, Cov D S y) (z : Int) : bnd S' x z = bnd S x z := by
  cases x with
  | none => rfl
  | some y => simp only [bnd]; rw [h.aop (hx y (by simp)).slots]
theorem loc_prS (h : Agree D S S') {d es : Nat} {rd : List Nat} {s : Nat} {p : List Nat} {o m : Nat} {lo hi : Option Operand} (hl : ∀ y ∈ lo, Cov D S y) (hh : ∀ y ∈ hi, Cov D S y) : prS S' d es rd s p o m lo hi = prS S d es rd s p o m lo hi := by
  unfold prS
  rw [loc_bnd h hl, loc_bnd h hh]
theorem loc_tkP (h : Agree D S S') {fz : Bool} {s : Nat} (hs : s ∈ D) (p : List Nat) : tkP fz s p S' = tkP fz s p S := by
  unfold tkP; rw [h s hs]

theorem loc_poS (h : Agree D S S') {d es : Nat} {rd : List Nat} {s : Nat} (hs : s ∈ D) {p : List Nat} {lo hi : Option Operand} (hl : ∀ y ∈ lo, Cov D S y) (hh : ∀ y ∈ hi, Cov D S y) : poS S' d es rd s p lo hi = poS S d es rd s p lo hi := by
  unfold poS
  rw [loc_tkP h hs]
  have e : ∀ z, bnd S' lo z = bnd S lo z := fun z => loc_bnd h hl z
  have e2 : ∀ z, bnd S' hi z = bnd S hi z := fun z => loc_bnd h hh z
  simp only [e, e2]
theorem loc_slS (h : Agree D S S') {cf : Cfg} {d : Nat} {T : TypeId} {x : Operand} {lo hi : Option Operand} (hx : Cov D S x) (hl : ∀ y ∈ lo, Cov D S y) (hh : ∀ y ∈ hi, Cov D S y) : slS P cf S' d T x lo hi = slS P cf S d T x lo hi := by
  unfold slS
  rw [loc_adr h hx]
  have e : ∀ z, bnd S' lo z = bnd S lo z := fun z => loc_bnd h hl z
  have e2 : ∀ z, bnd S' hi z = bnd S hi z := fun z => loc_bnd h hh z
  have e3 : ∀ es rd s p o m, prS S' d es rd s p o m lo hi = prS S d es rd s p o m lo hi := fun es rd s p o m => loc_prS h hl hh
  cases hT : elemT P T with
  | some e0 =>
    simp only
    cases infoT P e0 with
    | none => rfl
    | some q =>
      obtain ⟨es, by_, zs⟩ := q
      cases x with
      | tmp t =>
        have ht : t ∈ D := hx.slots t (by simp [slotsOf])
        have e4 : ∀ es rd, poS S' d es rd t [] lo hi = poS S d es rd t [] lo hi := fun es rd => loc_poS h ht hl hh
        simp only [h t ht]
        cases hS : S t with
        | bor s p =>
          have hs : s ∈ D := hx.root (x := .tmp t) (by simp only [aop]; rw [hS]; simp [roots])
          have e5 : ∀ es rd, poS S' d es rd s p lo hi = poS S d es rd s p lo hi := fun es rd => loc_poS h hs hl hh
          simp only [e3, e5, h.ctn hs]
        | own e1 m cs => simp only [e3, e4]
        | sl m cs => simp only [e, e2]
        | slp s p o m => simp only [e3]
        | _ => rfl
      | _ => rfl
  | none =>
    simp only
    cases ha : adr S x with
    | none => rfl
    | some q =>
      obtain ⟨s, p, off⟩ := q
      simp only
      rw [h.ctn (hx.adr ha)]
      simp only [e3]
theorem loc_tk (h : Agree D S S') {cf : Cfg} {x : Operand} (hx : Cov D S x) : tk cf S' x = tk cf S x := by
  have e := h.aop hx.slots
  cases x with
  | tmp t =>
    unfold tk
    rw [e]
    have ht : t ∈ D := hx.slots t (by simp [slotsOf])
    cases hX : aop S (.tmp t) with
    | own => simp only; rw [loc_tkP h ht]
    | box => simp only; rw [loc_tkP h ht]
    | mp => simp only; rw [loc_tkP h ht]
    | it => simp only; rw [loc_tkP h ht]
    | bor s p => simp only; rw [loc_tkP h (hx.root (by rw [hX]; simp [roots]))]
    | _ => rfl
  | _ => unfold tk; rw [e]; generalize aop S _ = c; cases c <;> rfl

mutual
theorem roots_frz : ∀ c : AV, ∀ s ∈ roots (frz c), s ∈ roots c
  | .agg cs, t, ht => by rw [frz, roots] at ht; exact rootsL_frz cs t ht
  | .tup cs, t, ht => by rw [frz, roots] at ht; exact rootsL_frz cs t ht
  | .fn f cs, t, ht => by rw [frz, roots] at ht; exact rootsL_frz cs t ht
  | .bor s p, t, ht => ht
  | .ptr s p o, t, ht => ht
  | .slp s p o n, t, ht => ht
  | .any, t, ht => ht
  | .val v, t, ht => ht
  | .sl n cs, t, ht => ht
  | .own e n cs, t, ht => by simp [frz, roots] at ht
  | .box e cs, t, ht => by simp [frz, roots] at ht
  | .fptr cs, t, ht => ht
  | .mp c, t, ht => ht
  | .fmp c, t, ht => ht
  | .it l es, t, ht => ht
theorem rootsL_frz : ∀ cs : List AV, ∀ s ∈ rootsL (frzL cs), s ∈ rootsL cs
  | [], t, ht => ht
  | c :: cs, t, ht => by
    rw [frzL, rootsL, List.mem_append] at ht
    rw [rootsL, List.mem_append]
    exact ht.imp (roots_frz c t) (rootsL_frz cs t)
end

theorem roots_setKids (c : AV) (cs : List AV) (h : isOB c = true ∨ kids c ≠ none) : roots (setKids c cs) = [] := by cases c <;> simp_all [isOB, setKids, roots, kids]
theorem roots_putP {c : AV} {p : List Nat} {d : AV} (hk : kids c ≠ none) : ∀ s ∈ roots (putP c p d), s ∈ roots d := by
  intro s hs
  cases p with
  | nil => exact hs
  | cons i p =>
    simp only [putP] at hs
    split at hs
    · split at hs
      · rw [roots_setKids _ _ (.inr hk)] at hs; simp at hs
      · cases c <;> simp_all [kids, roots]
    · cases c <;> simp_all [kids, roots]

theorem tkP_in {fz : Bool} {s : Nat} {p : List Nat} {c : AV} {U : List Upd} (h : tkP fz s p S = some (c, U)) : UIn D U ∧ roots c = [] := by
  unfold tkP at h
  split at h
  · rename_i x c' hk hg
    split at h
    · rename_i hob
      have hr : roots (frz c') = [] := by cases c' <;> simp [isOB] at hob <;> simp [frz, roots]
      have hr' : roots c' = [] := by cases c' <;> simp [isOB] at hob <;> simp [roots]
      split at h
      · simp only [Option.some.injEq, Prod.mk.injEq] at h; obtain ⟨rfl, rfl⟩ := h
        exact ⟨⟨fun t ht => by have := roots_putP (by simp [hk]) t ht; rw [hr] at this; simp at this, trivial⟩, hr⟩
      · split at h
        · simp only [Option.some.injEq, Prod.mk.injEq] at h; obtain ⟨rfl, rfl⟩ := h
          exact ⟨⟨by simp [roots], trivial⟩, hr'⟩
        · simp only [Option.some.injEq, Prod.mk.injEq] at h; obtain ⟨rfl, rfl⟩ := h
          exact ⟨⟨fun t ht => by have := roots_putP (by simp [hk]) t ht; simp [roots] at this, trivial⟩, hr'⟩
    · simp at h
  · simp at h

theorem tk_in {cf : Cfg} {x : Operand} {c : AV} {U : List Upd} (h : tk cf S x = some (c, U)) : UIn D U ∧ roots c = [] := by
  unfold tk at h
  split at h
  · simp only [Option.some.injEq, Prod.mk.injEq] at h; obtain ⟨rfl, rfl⟩ := h; exact ⟨trivial, rfl⟩
  · simp only [Option.some.injEq, Prod.mk.injEq] at h; obtain ⟨rfl, rfl⟩ := h; exact ⟨trivial, rfl⟩
  · simp only [Option.some.injEq, Prod.mk.injEq] at h; obtain ⟨rfl, rfl⟩ := h; exact ⟨trivial, rfl⟩
  · simp only [Option.some.injEq, Prod.mk.injEq] at h; obtain ⟨rfl, rfl⟩ := h; exact ⟨trivial, rfl⟩
  · exact tkP_in h
  · exact tkP_in h
  · exact tkP_in h
  · exact tkP_in h
  · exact tkP_in h
  · simp at h

theorem loc_tks {cf : Cfg} : ∀ {xs : List Operand} {S S' : St}, Agree D S S' → (∀ x ∈ xs, Cov D S x) → tks cf S' xs = tks cf S xs
  | [], S, S', h, hx => rfl
  | x :: xs, S, S', h, hx => by
    simp only [tks]
    rw [loc_tk h (hx x (by simp))]
    cases ht : tk cf S x with
    | none => rfl
    | some q =>
      obtain ⟨c, U⟩ := q
      simp only
      rw [loc_tks (h.app' U) (fun y hy => (hx y (by simp [hy])).app (tk_in ht).1)]

theorem loc_bsS (h : Agree D S S') {cf : Cfg} {d : Nat} {T : TypeId} {len : Nat} {parts : List (Nat × Operand)} (hx : ∀ x ∈ parts.map (·.2), Cov D S x) : bsS P cf S' d T len parts = bsS P cf S d T len parts := by
  unfold bsS; rw [loc_tks h hx]

theorem loc_mkS (h : Agree D S S') {d : Nat} {T : TypeId} {x i : Operand} (hx : Cov D S x) (hi : Cov D S i) : mkS P S' d T x i = mkS P S d T x i := by
  unfold mkS; rw [h.aop hi.slots, h.aop hx.slots]

theorem loc_st1S (h : Agree D S S') {cf : Cfg} {T : TypeId} {x y : Operand} (hx : Cov D S x) (hy : Cov D S y) : st1S P cf S' T x y = st1S P cf S T x y := by
  unfold st1S
  rw [loc_tk h hy]
  cases ht : tk cf S y with
  | none => rfl
  | some q =>
    obtain ⟨c, U⟩ := q
    simp only
    have h2 := h.app' U
    have hx2 := hx.app (tk_in ht).1
    rw [loc_adr h2 hx2]
    cases ha : adr (app U S) x with
    | none => rfl
    | some q =>
      obtain ⟨s, p, off⟩ := q
      simp only
      have hs := hx2.adr ha
      rw [h2.ctn hs, h2 s hs]

theorem loc_els (h : Agree D S S') {y : Operand} (hy : Cov D S y) : els S' y = els S y := by
  unfold els
  rw [h.aop hy.slots]
  cases hX : aop S y with
  | val v =>
    cases v with
    | slice b n c => cases b <;> cases n <;> cases c <;> cases y <;> rfl
    | _ => cases y <;> rfl
  | bor s p =>
    cases y with
    | tmp t => simp only; rw [h.ctn (hy.root (by rw [hX]; simp [roots]))]
    | _ => rfl
  | _ => cases y <;> rfl

theorem loc_apS (h : Agree D S S') {d : Nat} {T : TypeId} {x y : Operand} (hx : Cov D S x) (hy : Cov D S y) : apS P S' d T x y = apS P S d T x y := by
  unfold apS
  rw [loc_tk h hx]
  cases ht : tk { nv := 0 } S x with
  | none => rfl
  | some q =>
    obtain ⟨c, U⟩ := q
    have h2 := h.app' U
    have hy2 := hy.app (tk_in ht).1
    have hU : ∀ e e' n cs U1, isSome2 e (some (c, U)) = some (e', n, cs, U1) → U1 = U := by
      intro e e' n cs U1 hh
      rcases isSome2_own hh with h | ⟨h, _, _⟩ <;> (injection h with h; injection h with _ h; exact h.symm)
    split
    · rename_i e he
      split
      · split
        · rename_i e' n cs U1 hi
          have := hU _ _ _ _ _ hi
          subst this
          rw [loc_els h2 hy2]
        · rfl
      · rfl
    · rfl

theorem loc_lnS (h : Agree D S S') {d : Nat} {T : TypeId} {x : Operand} (hx : Cov D S x) : lnS P S' d T x = lnS P S d T x := by
  unfold lnS
  rw [h.aop hx.slots]
  have hb : ∀ s p, aop S x = .bor s p → ctn S' s p = ctn S s p := fun s p e => h.ctn (hx.root (by rw [e]; simp [roots])) p
  generalize hX : aop S x = c at hb ⊢
  cases x with
  | tmp t =>
    cases c with
    | bor s p => simp only [hb s p rfl]
    | val v =>
      cases v with
      | slice b n c => cases b <;> cases n <;> cases c <;> rfl
      | _ => rfl
    | _ => rfl
  | _ =>
    cases c with
    | val v =>
      cases v with
      | slice b n c => cases b <;> cases n <;> cases c <;> rfl
      | _ => rfl
    | _ => rfl

theorem loc_exS (h : Agree D S S') {N : Nat × List Nat} {d : Nat} {x : Operand} {i : Nat} (hx : Cov D S x) : exS S' N d x i = exS S N d x i := by
  have e := h.aop hx.slots
  cases x with
  | tmp t => simp only [exS]; simp only [aop] at e; rw [e]
  | _ => rfl

theorem locB_root (c : AV) : ∀ l ∈ locB c, l.1 ∈ roots c := by
  intro l hl
  cases c <;> simp [locB] at hl
  subst hl; simp [roots]
theorem locBs_root : ∀ (cs : List AV), ∀ l ∈ cs.flatMap locB, l.1 ∈ rootsL cs
  | [], l, hl => by simp at hl
  | c :: cs, l, hl => by
    simp only [List.flatMap_cons, List.mem_append, rootsL] at hl ⊢
    exact hl.imp (locB_root c l) (locBs_root cs l)
theorem loc_tkU : ∀ {ls : List Loc} {S S' : St}, Agree D S S' → (∀ l ∈ ls, l.1 ∈ D) → tkU S' ls = tkU S ls
  | [], S, S', h, hl => rfl
  | (s, p) :: ls, S, S', h, hl => by
    have hs : s ∈ D := hl (s, p) (by simp)
    simp only [tkU]
    rw [h.ctn hs, h s hs, loc_tkU (h.updn s (putP (S s) p .any)) (fun l hl' => hl l (by simp [hl']))]
theorem tkU_in : ∀ {ls : List Loc} {S : St} {cs : List AV} {U : List Upd}, tkU S ls = some (cs, U) → UIn D U
  | [], S, cs, U, h => by simp [tkU] at h; obtain ⟨rfl, rfl⟩ := h; trivial
  | (s, p) :: ls, S, cs, U, h => by
    rw [tkU] at h
    split at h
    · rename_i c cc hc
      split at h
      · rename_i cs' U' h'
        injection h with h; obtain ⟨rfl, rfl⟩ := Prod.mk.injEq .. ▸ h
        exact ⟨fun t ht => by have := roots_putP (ctn_some hc).1 t ht; simp [roots] at this, tkU_in h'⟩
      · simp at h
    · simp at h
theorem loc_takeA (h : Agree D S S') {t : Nat} (ht : t ∈ D) (hr : ∀ s ∈ roots (S t), s ∈ D) : takeA S' t = takeA S t := by
  unfold takeA
  rw [h t ht]
  cases hS : S t with
  | agg cs => simp only; rw [loc_tkU h (fun l hl => hr l.1 (by rw [hS]; simpa [roots] using locBs_root cs l hl))]
  | _ => rfl
theorem takeA_in {t : Nat} {es : List AV} {U : List Upd} (h : takeA S t = some (es, U)) : UIn D U := by
  unfold takeA at h
  split at h
  · split at h
    · split at h
      · injection h with h; obtain ⟨rfl, rfl⟩ := Prod.mk.injEq .. ▸ h
        exact ⟨by simp [roots], trivial⟩
      · simp at h
    · split at h
      · rename_i lf U1 h1
        split at h
        · injection h with h; obtain ⟨rfl, rfl⟩ := Prod.mk.injEq .. ▸ h
          exact tkU_in h1
        · simp at h
      · simp at h
  · simp at h
theorem Cov.takeA (h : Agree D S S') {t : Nat} (hx : Cov D S (.tmp t)) : takeA S' t = takeA S t :=
  loc_takeA h (hx.slots t (by simp [slotsOf])) (fun s hs => hx.root hs)
theorem loc_bxS (h : Agree D S S') {cf : Cfg} {N : Nat × List Nat} {d : Nat} {T : TypeId} {x : Operand} (hx : Cov D S x) : bxS cf N S' d T x = bxS cf N S d T x := by
  unfold bxS
  rw [h.aop hx.slots, loc_tk h hx]
  cases x with
  | tmp t =>
    have e := Cov.takeA h hx
    generalize aop S (.tmp t) = v
    cases v with
    | agg cs => simp only [e]
    | _ => rfl
  | _ => rfl
theorem loc_faS (h : Agree D S S') {d i : Nat} {T : TypeId} {x : Operand} (hx : Cov D S x) : faS P S' d T x i = faS P S d T x i := by
  unfold faS
  rw [loc_adr h hx, h.aop hx.slots]
  cases ha : adr S x with
  | none => rfl
  | some q =>
    obtain ⟨s, p, off⟩ := q
    simp only
    rw [h.ctn (hx.adr ha)]
theorem loc_ldAS (h : Agree D S S') {d m : Nat} {x : Operand} (hx : Cov D S x) : ldAS S' d m x = ldAS S d m x := by
  unfold ldAS
  rw [loc_adr h hx, h.aop hx.slots]
  cases ha : adr S x with
  | none => rfl
  | some q =>
    obtain ⟨s, p, off⟩ := q
    simp only
    rw [h.ctn (hx.adr ha)]
theorem loc_stAS (h : Agree D S S') {T : TypeId} {x y : Operand} (hx : Cov D S x) (hy : Cov D S y) : stAS P S' T x y = stAS P S T x y := by
  unfold stAS
  cases y with
  | tmp t =>
    simp only
    rw [Cov.takeA h hy]
    cases ht : takeA S t with
    | none => rfl
    | some q =>
      obtain ⟨es, U⟩ := q
      simp only
      have h2 := h.app' U
      have hx2 := hx.app (takeA_in ht)
      rw [loc_adr h2 hx2]
      cases ha : adr (app U S) x with
      | none => rfl
      | some q =>
        obtain ⟨s, p, off⟩ := q
        simp only
        have hs := hx2.adr ha
        rw [h2.ctn hs, h2 s hs]
  | _ => rfl
theorem loc_caps (h : Agree D S S') : ∀ {xs : List Operand}, (∀ x ∈ xs, Cov D S x) → caps S' xs = caps S xs
  | [], hx => rfl
  | x :: xs, hx => by
    simp only [caps]
    rw [loc_caps h (fun y hy => hx y (by simp [hy]))]
    have e : cap1 S' x = cap1 S x := by unfold cap1; rw [h.aop (hx x (by simp)).slots]
    rw [e]
theorem loc_bdS (h : Agree D S S') {cf : Cfg} {d : Nat} {T : TypeId} {parts : List (Nat × Operand)} (hx : ∀ x ∈ parts.map (·.2), Cov D S x) : bdS P cf S' d T parts = bdS P cf S d T parts := by
  unfold bdS; rw [loc_tks h hx]
theorem loc_b1S (h : Agree D S S') {d : Nat} {T : TypeId} {len : Nat} {parts : List (Nat × Operand)} (hx : ∀ x ∈ parts.map (·.2), Cov D S x) : b1S P S' d T len parts = b1S P S d T len parts := by
  unfold b1S
  split
  · rename_i e t hT
    have := Cov.takeA h (hx (.tmp t) (by simp))
    simp only [this]
  · rfl
theorem loc_blS (h : Agree D S S') {cf : Cfg} {d : Nat} {T : TypeId} {len : Nat} {parts : List (Nat × Operand)} (hx : ∀ x ∈ parts.map (·.2), Cov D S x) : blS P cf S' d T len parts = blS P cf S d T len parts := by
  unfold blS
  rw [loc_bsS h hx, loc_b1S h hx]
theorem loc_plc (h : Agree D S S') {x : Operand} (hx : Cov D S x) : plc S' x = plc S x := by
  unfold plc
  rw [h.aop hx.slots]
  cases x with
  | tmp t =>
    cases hS : aop S (.tmp t) with
    | bor s p =>
      have hs : s ∈ D := hx.root (by rw [hS]; simp [roots])
      simp only [h.ctn hs]
    | _ => rfl
  | _ => rfl
theorem plc_root {x : Operand} {s : Nat} {p : List Nat} {o n : Nat} (h : plc S x = some (s, p, o, n)) : s ∈ slotsOf x ∨ s ∈ roots (aop S x) := by
  unfold plc at h
  split at h
  · simp only [Option.some.injEq, Prod.mk.injEq] at h; obtain ⟨rfl, rfl, rfl, rfl⟩ := h; exact .inl (by simp [slotsOf])
  · rename_i t s' p' o' n' hS
    simp only [Option.some.injEq, Prod.mk.injEq] at h; obtain ⟨rfl, rfl, rfl, rfl⟩ := h
    exact .inr (by rw [hS]; simp [roots])
  · rename_i t s' p' hS
    split at h
    · simp only [Option.some.injEq, Prod.mk.injEq] at h; obtain ⟨rfl, rfl, rfl, rfl⟩ := h
      exact .inr (by rw [hS]; simp [roots])
    · simp at h
  · simp at h
theorem loc_srcC (h : Agree D S S') {y : Operand} (hy : Cov D S y) : srcC S' y = srcC S y := by
  unfold srcC
  rw [h.aop hy.slots]
  cases y with
  | tmp t =>
    cases hS : aop S (.tmp t) with
    | bor s p =>
      have hs : s ∈ D := hy.root (by rw [hS]; simp [roots])
      simp only [h.ctn hs]
    | slp s p o n =>
      have hs : s ∈ D := hy.root (by rw [hS]; simp [roots])
      simp only [h.ctn hs]
    | val v => cases v with
      | slice b n c => cases b <;> cases n <;> cases c <;> rfl
      | _ => rfl
    | _ => rfl
  | _ =>
    generalize aop S _ = v
    cases v with
    | val v => cases v with
      | slice b n c => cases b <;> cases n <;> cases c <;> rfl
      | _ => rfl
    | _ => rfl
theorem loc_cpS (h : Agree D S S') {d : Nat} {T : TypeId} {x y : Operand} (hx : Cov D S x) (hy : Cov D S y) : cpS P S' d T x y = cpS P S d T x y := by
  unfold cpS
  rw [loc_plc h hx, loc_srcC h hy]
  cases hp : plc S x with
  | none => rfl
  | some q =>
    obtain ⟨s, p, o, n⟩ := q
    have hs : s ∈ D := by
      rcases plc_root hp with h1 | h1
      · exact hx.slots s h1
      · exact hx.root h1
    cases srcC S y with
    | none => rfl
    | some q2 =>
      obtain ⟨m, ds⟩ := q2
      simp only [h.ctn hs, h s hs]
theorem loc_mapA (h : Agree D S S') {x : Operand} (hx : Cov D S x) : mapA S' x = mapA S x := by
  unfold mapA
  rw [h.aop hx.slots]
  cases x with
  | tmp t =>
    cases hS : aop S (.tmp t) with
    | bor s p =>
      have hs : s ∈ D := hx.root (by rw [hS]; simp [roots])
      simp only [h s hs]
    | _ => rfl
  | _ =>
    generalize aop S _ = v
    cases v <;> rfl
theorem loc_lkS (h : Agree D S S') {d : Nat} {T : TypeId} {x i : Operand} {ok : Bool} (hx : Cov D S x) (hi : Cov D S i) : lkS P S' d T x i ok = lkS P S d T x i ok := by
  unfold lkS
  rw [loc_mapA h hx, h.aop hi.slots]
theorem loc_mplc (h : Agree D S S') {x : Operand} (hx : Cov D S x) : mplc S' x = mplc S x := by
  unfold mplc
  cases x with
  | tmp t =>
    simp only [h t (hx.slots t (by simp [slotsOf]))]
    cases hS : S t with
    | bor s p =>
      have hs : s ∈ D := hx.root (x := .tmp t) (by simp only [aop]; rw [hS]; simp [roots])
      simp only [h s hs]
    | _ => rfl
  | _ => rfl
theorem mplc_root {x : Operand} {s : Nat} {p : List Nat} {c : Key → Option Int} (h : mplc S x = some (s, p, c)) : s ∈ slotsOf x ∨ s ∈ roots (aop S x) := by
  unfold mplc at h
  split at h
  · split at h
    · simp only [Option.some.injEq, Prod.mk.injEq] at h; obtain ⟨rfl, rfl, rfl⟩ := h; exact .inl (by simp [slotsOf])
    · rename_i s' p' hS
      split at h
      · simp only [Option.some.injEq, Prod.mk.injEq] at h; obtain ⟨rfl, rfl, rfl⟩ := h
        exact .inr (by simp only [aop]; rw [hS]; simp [roots])
      · simp at h
    · simp at h
  · simp at h
theorem loc_muS (h : Agree D S S') {T : TypeId} {x i y : Operand} (hx : Cov D S x) (hi : Cov D S i) (hy : Cov D S y) : muS P S' T x i y = muS P S T x i y := by
  unfold muS
  rw [loc_mplc h hx, h.aop hi.slots, h.aop hy.slots]
  cases hp : mplc S x with
  | none => rfl
  | some q =>
    obtain ⟨s, p, c⟩ := q
    have hs : s ∈ D := by
      rcases mplc_root hp with h1 | h1
      · exact hx.slots s h1
      · exact hx.root h1
    cases keyA (aop S i) with
    | none => rfl
    | some k =>
      generalize aop S y = v
      cases v with
      | val v => cases v with
        | int k' n => cases k' <;> first | rfl | simp only [h s hs]
        | _ => rfl
      | _ => rfl
theorem loc_enS (h : Agree D S S') {d : Nat} {x : Operand} (hx : Cov D S x) : enS S' d x = enS S d x := by
  unfold enS
  cases x with
  | tmp t => simp only [h t (hx.slots t (by simp [slotsOf]))]
  | _ => rfl
theorem loc_stepO (h : Agree D S S') {cf : Cfg} {N : Nat × List Nat} {op : Op} {dst : Option Nat} (hx : ∀ x ∈ op.operands.toList, Cov D S x) : stepO P cf N S' op dst = stepO P cf N S op dst := by
  unfold stepO
  split
  · rename_i x d; simp only [mvR]; rw [loc_mvS h (hx x (by simp [Op.operands]))]
  · rename_i x d; simp only [mvR]; rw [loc_mvS h (hx x (by simp [Op.operands]))]
  · rename_i c x y d
    rw [h.aop (hx c (by simp [Op.operands])).slots]
    simp only [mvR]
    rw [loc_mvS h (hx x (by simp [Op.operands])), loc_mvS h (hx y (by simp [Op.operands]))]
  · rename_i bo t x y t' d
    rw [h.aop (hx x (by simp [Op.operands])).slots, h.aop (hx y (by simp [Op.operands])).slots]
  · rename_i uo t x d; rw [h.aop (hx x (by simp [Op.operands])).slots]
  · rename_i s t x d; rw [h.aop (hx x (by simp [Op.operands])).slots]
  · rename_i T x d; simp only [ldR]; rw [loc_ld1S h (hx x (by simp [Op.operands]))]; split <;> first | rfl | (rw [loc_ldAS h (hx x (by simp [Op.operands]))])
  · rename_i T x y; simp only [stR]; rw [loc_st1S h (hx x (by simp [Op.operands])) (hx y (by simp [Op.operands]))]; split <;> first | rfl | (rw [loc_stAS h (hx x (by simp [Op.operands])) (hx y (by simp [Op.operands]))])
  · rename_i f xs d; simp only [mfS]; rw [loc_caps h (fun x hx' => hx x (by simpa [Op.operands] using hx'))]
  · rfl
  · rename_i T x d; rw [loc_bxS h (hx x (by simp [Op.operands]))]
  · rename_i T x i d; rw [loc_faS h (hx x (by simp [Op.operands]))]
  · rename_i T x i d; rw [loc_ixR h (hx x (by simp [Op.operands])) (hx i (by simp [Op.operands]))]
  · rename_i T x i d; rw [loc_ivS h (hx x (by simp [Op.operands])) (hx i (by simp [Op.operands]))]
  · rename_i T x i d; rw [loc_fdS h (hx x (by simp [Op.operands]))]
  · rename_i T x lo hi d; rw [loc_slS h (hx x (by simp [Op.operands])) (fun y hy => hx y (by cases hy; simp [Op.operands])) (fun y hy => hx y (by cases hy; simp [Op.operands]))]
  · rename_i T parts d; rw [loc_bdS h (fun x hx' => hx x (by simpa [Op.operands] using hx'))]
  · rfl
  · rename_i T x i ok d; rw [loc_lkS h (hx x (by simp [Op.operands])) (hx i (by simp [Op.operands]))]
  · rename_i T x i y; rw [loc_muS h (hx x (by simp [Op.operands])) (hx i (by simp [Op.operands])) (hx y (by simp [Op.operands]))]
  · rename_i T x i y; rw [loc_muS h (hx x (by simp [Op.operands])) (hx i (by simp [Op.operands])) (hx y (by simp [Op.operands]))]
  · rename_i x d; rw [loc_enS h (hx x (by simp [Op.operands]))]
  · rename_i t i d; rw [loc_exS h (hx t (by simp [Op.operands]))]
  · rename_i T len parts d; rw [loc_blS h (fun x hx' => hx x (by simpa [Op.operands] using hx'))]
  · rename_i T l c d; rw [loc_mkS h (hx l (by simp [Op.operands])) (hx c (by simp [Op.operands]))]
  · rename_i x y T T' d; rw [loc_apS h (hx x (by simp [Op.operands, Call.operands])) (hx y (by simp [Op.operands, Call.operands]))]
  · rename_i x T d; rw [loc_lnS h (hx x (by simp [Op.operands, Call.operands]))]
  · rename_i x y T T' d; rw [loc_cpS h (hx x (by simp [Op.operands, Call.operands])) (hx y (by simp [Op.operands, Call.operands]))]
  · rfl

mutual
theorem loc_rsv (h : Agree D S S') : ∀ c : AV, (∀ s ∈ roots c, s ∈ D) → rsv S' c = rsv S c
  | .bor s p, hr => by simp only [rsv]; rw [h s (hr s (by simp [roots]))]
  | .val v, hr => by
    rw [rsv.eq_def, rsv.eq_def]
    cases v with
    | slice b n c => cases b <;> cases n <;> cases c <;> rfl
    | _ => rfl
  | .sl n cs, hr => by simp only [rsv]
  | .own e n cs, hr => by simp only [rsv]
  | .box e cs, hr => by simp only [rsv]
  | .fptr cs, hr => by simp only [rsv]
  | .mp c, hr => by simp only [rsv]
  | .fmp c, hr => by simp only [rsv]
  | .it l es, hr => by simp only [rsv]
  | .agg cs, hr => by simp only [rsv]; rw [loc_rsvL h cs (by simpa [roots] using hr)]
  | .any, hr => by simp only [rsv]
  | .tup cs, hr => by simp only [rsv]
  | .fn f cs, hr => by simp only [rsv]; rw [loc_rsvL h cs (by simpa [roots] using hr)]
  | .ptr s p o, hr => by simp only [rsv]
  | .slp s p o n, hr => by simp only [rsv]; rw [h s (hr s (by simp [roots]))]
theorem loc_rsvL (h : Agree D S S') : ∀ cs : List AV, (∀ s ∈ rootsL cs, s ∈ D) → rsvL S' cs = rsvL S cs
  | [], hr => by simp only [rsvL]
  | c :: cs, hr => by
    simp only [rsvL]
    rw [loc_rsv h c (fun s hs => hr s (by simp [rootsL, hs])), loc_rsvL h cs (fun s hs => hr s (by simp [rootsL, hs]))]
end

theorem loc_rsvArgs (h : Agree D S S') : ∀ {xs : List Operand}, (∀ x ∈ xs, Cov D S x) → rsvArgs S' xs = rsvArgs S xs
  | [], hx => rfl
  | x :: xs, hx => by
    simp only [rsvArgs]
    rw [h.aop (hx x (by simp)).slots, loc_rsv h _ (fun s hs => (hx x (by simp)).root hs), loc_rsvArgs h (fun y hy => hx y (by simp [hy]))]
end
end Go.Abs
