/- Regions that draw their order: the conditions in the text's order suffice, where what the order leaves open does not touch the same slots. It holds over any program. -/
import Derived.Test.YtdhnnpohpfjaiaaAbsD2
set_option linter.unusedVariables false
set_option linter.unusedSimpArgs false
namespace Go.Abs
open Go.RowKit (Below)

mutual
/-- Nothing unknown at the top. -/
def af : AV → Bool
  | .any => false
  | .agg cs => afL cs
  | .tup cs => afL cs
  | .fn f cs => afL cs
  | _ => true
def afL : List AV → Bool
  | [] => true
  | c :: cs => af c && afL cs
end

mutual
theorem af_kl {W : List Nat} : ∀ c : AV, af (kl W c) = true → kl W c = c
  | .bor s p, h => by rw [kl] at h ⊢; split at h <;> simp_all [af]
  | .ptr s p o, h => by rw [kl] at h ⊢; split at h <;> simp_all [af]
  | .slp s p o n, h => by rw [kl] at h ⊢; split at h <;> simp_all [af]
  | .agg cs, h => by rw [kl, af] at h; rw [kl, afL_kl cs h]
  | .tup cs, h => by rw [kl, af] at h; rw [kl, afL_kl cs h]
  | .fn f cs, h => by rw [kl, af] at h; rw [kl, afL_kl cs h]
  | .any, h => rfl
  | .val v, h => rfl
  | .sl n cs, h => rfl
  | .own e n cs, h => rfl
  | .box e cs, h => rfl
  | .fptr cs, h => rfl
  | .mp c, h => rfl
  | .fmp c, h => rfl
  | .it l es, h => rfl
theorem afL_kl {W : List Nat} : ∀ cs : List AV, afL (klL W cs) = true → klL W cs = cs
  | [], h => rfl
  | c :: cs, h => by
    rw [klL, afL, Bool.and_eq_true] at h
    rw [klL, af_kl c h.1, afL_kl cs h.2]
end
mutual
theorem af_kn {d : Nat} : ∀ c : AV, af (kn d c) = true → kn d c = c
  | .bor s p, h => by rw [kn] at h ⊢; split at h <;> simp_all [af]
  | .ptr s p o, h => by rw [kn] at h ⊢; split at h <;> simp_all [af]
  | .slp s p o n, h => by rw [kn] at h ⊢; split at h <;> simp_all [af]
  | .agg cs, h => by rw [kn, af] at h; rw [kn, afL_kn cs h]
  | .tup cs, h => by rw [kn, af] at h; rw [kn, afL_kn cs h]
  | .fn f cs, h => by rw [kn, af] at h; rw [kn, afL_kn cs h]
  | .any, h => rfl
  | .val v, h => rfl
  | .sl n cs, h => rfl
  | .own e n cs, h => rfl
  | .box e cs, h => rfl
  | .fptr cs, h => rfl
  | .mp c, h => rfl
  | .fmp c, h => rfl
  | .it l es, h => rfl
theorem afL_kn {d : Nat} : ∀ cs : List AV, afL (knL d cs) = true → knL d cs = cs
  | [], h => rfl
  | c :: cs, h => by
    rw [knL, afL, Bool.and_eq_true] at h
    rw [knL, af_kn c h.1, afL_kn cs h.2]
end
mutual
theorem kl_noroot {W : List Nat} : ∀ c : AV, (∀ s ∈ roots c, s ∉ W) → kl W c = c
  | .bor s p, h => by rw [kl, if_neg (by simpa using h s (by simp [roots]))]
  | .ptr s p o, h => by rw [kl, if_neg (by simpa using h s (by simp [roots]))]
  | .slp s p o n, h => by rw [kl, if_neg (by simpa using h s (by simp [roots]))]
  | .agg cs, h => by rw [kl, klL_noroot cs (by simpa [roots] using h)]
  | .tup cs, h => by rw [kl, klL_noroot cs (by simpa [roots] using h)]
  | .fn f cs, h => by rw [kl, klL_noroot cs (by simpa [roots] using h)]
  | .any, h => rfl
  | .val v, h => rfl
  | .sl n cs, h => rfl
  | .own e n cs, h => rfl
  | .box e cs, h => rfl
  | .fptr cs, h => rfl
  | .mp c, h => rfl
  | .fmp c, h => rfl
  | .it l es, h => rfl
theorem klL_noroot {W : List Nat} : ∀ cs : List AV, (∀ s ∈ rootsL cs, s ∉ W) → klL W cs = cs
  | [], h => rfl
  | c :: cs, h => by rw [klL, kl_noroot c (fun s hs => h s (by simp [rootsL, hs])), klL_noroot cs (fun s hs => h s (by simp [rootsL, hs]))]
end
mutual
theorem kn_noroot {d : Nat} : ∀ c : AV, (∀ s ∈ roots c, s ≠ d) → kn d c = c
  | .bor s p, h => by have := h s (by simp [roots]); simp [kn, this]
  | .ptr s p o, h => by have := h s (by simp [roots]); simp [kn, this]
  | .slp s p o n, h => by have := h s (by simp [roots]); simp [kn, this]
  | .agg cs, h => by rw [kn, knL_noroot cs (by simpa [roots] using h)]
  | .tup cs, h => by rw [kn, knL_noroot cs (by simpa [roots] using h)]
  | .fn f cs, h => by rw [kn, knL_noroot cs (by simpa [roots] using h)]
  | .any, h => rfl
  | .val v, h => rfl
  | .sl n cs, h => rfl
  | .own e n cs, h => rfl
  | .box e cs, h => rfl
  | .fptr cs, h => rfl
  | .mp c, h => rfl
  | .fmp c, h => rfl
  | .it l es, h => rfl
theorem knL_noroot {d : Nat} : ∀ cs : List AV, (∀ s ∈ rootsL cs, s ≠ d) → knL d cs = cs
  | [], h => rfl
  | c :: cs, h => by rw [knL, kn_noroot c (fun s hs => h s (by simp [rootsL, hs])), knL_noroot cs (fun s hs => h s (by simp [rootsL, hs]))]
end
mutual
theorem kl_kl_comm {W V : List Nat} : ∀ c : AV, kl W (kl V c) = kl V (kl W c)
  | .bor s p => by by_cases h : s ∈ W <;> by_cases k : s ∈ V <;> simp [kl, h, k]
  | .ptr s p o => by by_cases h : s ∈ W <;> by_cases k : s ∈ V <;> simp [kl, h, k]
  | .slp s p o n => by by_cases h : s ∈ W <;> by_cases k : s ∈ V <;> simp [kl, h, k]
  | .agg cs => by simp [kl, klL_klL_comm cs]
  | .tup cs => by simp [kl, klL_klL_comm cs]
  | .fn f cs => by simp [kl, klL_klL_comm cs]
  | .any => rfl
  | .val v => rfl
  | .sl n cs => rfl
  | .own e n cs => rfl
  | .box e cs => rfl
  | .fptr cs => rfl
  | .mp c => rfl
  | .fmp c => rfl
  | .it l es => rfl
theorem klL_klL_comm {W V : List Nat} : ∀ cs : List AV, klL W (klL V cs) = klL V (klL W cs)
  | [] => rfl
  | c :: cs => by simp [klL, kl_kl_comm c, klL_klL_comm cs]
end
mutual
theorem kl_kn_comm {W : List Nat} {d : Nat} : ∀ c : AV, kl W (kn d c) = kn d (kl W c)
  | .bor s p => by cases p <;> by_cases h : s ∈ W <;> (by_cases k : s = d) <;> first | (subst k; simp [kl, kn, h]; done) | simp [kl, kn, h, k]
  | .ptr s p o => by cases p <;> by_cases h : s ∈ W <;> (by_cases k : s = d) <;> first | (subst k; simp [kl, kn, h]; done) | simp [kl, kn, h, k]
  | .slp s p o n => by cases p <;> by_cases h : s ∈ W <;> (by_cases k : s = d) <;> first | (subst k; simp [kl, kn, h]; done) | simp [kl, kn, h, k]
  | .agg cs => by simp [kl, kn, klL_knL_comm cs]
  | .tup cs => by simp [kl, kn, klL_knL_comm cs]
  | .fn f cs => by simp [kl, kn, klL_knL_comm cs]
  | .any => rfl
  | .val v => rfl
  | .sl n cs => rfl
  | .own e n cs => rfl
  | .box e cs => rfl
  | .fptr cs => rfl
  | .mp c => rfl
  | .fmp c => rfl
  | .it l es => rfl
theorem klL_knL_comm {W : List Nat} {d : Nat} : ∀ cs : List AV, klL W (knL d cs) = knL d (klL W cs)
  | [] => rfl
  | c :: cs => by simp [klL, knL, kl_kn_comm c, klL_knL_comm cs]
end
mutual
theorem kn_kn_comm {d e : Nat} : ∀ c : AV, kn d (kn e c) = kn e (kn d c)
  | .bor s p => by cases p <;> (by_cases h : s = d) <;> (by_cases k : s = e) <;> first | (subst h; subst k; simp [kn]; done) | (subst h; simp [kn, k]; done) | (subst k; simp [kn, h]; done) | simp [kn, h, k]
  | .ptr s p o => by cases p <;> (by_cases h : s = d) <;> (by_cases k : s = e) <;> first | (subst h; subst k; simp [kn]; done) | (subst h; simp [kn, k]; done) | (subst k; simp [kn, h]; done) | simp [kn, h, k]
  | .slp s p o n => by cases p <;> (by_cases h : s = d) <;> (by_cases k : s = e) <;> first | (subst h; subst k; simp [kn]; done) | (subst h; simp [kn, k]; done) | (subst k; simp [kn, h]; done) | simp [kn, h, k]
  | .agg cs => by simp [kn, knL_knL_comm cs]
  | .tup cs => by simp [kn, knL_knL_comm cs]
  | .fn f cs => by simp [kn, knL_knL_comm cs]
  | .any => rfl
  | .val v => rfl
  | .sl n cs => rfl
  | .own e n cs => rfl
  | .box e cs => rfl
  | .fptr cs => rfl
  | .mp c => rfl
  | .fmp c => rfl
  | .it l es => rfl
theorem knL_knL_comm {d e : Nat} : ∀ cs : List AV, knL d (knL e cs) = knL e (knL d cs)
  | [] => rfl
  | c :: cs => by simp [knL, kn_kn_comm c, knL_knL_comm cs]
end

def wrs : List Upd → List Nat
  | [] => []
  | .w d _ :: U => d :: wrs U
  | .n d _ :: U => d :: wrs U
def rts : List Upd → List Nat
  | [] => []
  | .w _ v :: U => roots v ++ rts U
  | .n _ v :: U => roots v ++ rts U

def appU : Upd → St → St
  | .w d v, S => upd d v S
  | .n d v, S => updn d v S
def dU : Upd → Nat
  | .w d _ => d
  | .n d _ => d
def vU : Upd → AV
  | .w _ v => v
  | .n _ v => v

theorem appU_comm {u u' : Upd} (h : dU u ≠ dU u') (h1 : dU u ∉ roots (vU u')) (h2 : dU u' ∉ roots (vU u)) (S : St) : appU u (appU u' S) = appU u' (appU u S) := by
  funext i
  cases u with
  | w d v =>
    cases u' with
    | w e x =>
      simp only [dU, vU] at h h1 h2
      simp only [appU, upd]
      by_cases hd : i = d
      · subst hd
        rw [if_pos rfl, if_neg h, if_pos rfl, kl_noroot (W := [e]) (kl [i] v) (fun s hs e1 => by have := roots_kl _ s hs; simp at e1; subst e1; exact h2 this)]
      · rw [if_neg hd, if_neg hd]
        by_cases he : i = e
        · subst he
          rw [if_pos rfl, if_pos rfl, kl_noroot (W := [d]) (kl [i] x) (fun s hs e1 => by have := roots_kl _ s hs; simp at e1; subst e1; exact h1 this)]
        · rw [if_neg he, if_neg he, kl_kl_comm]
    | n e x =>
      simp only [dU, vU] at h h1 h2
      simp only [appU, upd, updn]
      by_cases hd : i = d
      · subst hd
        rw [if_pos rfl, if_neg h, if_pos rfl, kn_noroot (kl [i] v) (fun s hs e1 => by have := roots_kl _ s hs; subst e1; exact h2 this)]
      · rw [if_neg hd, if_neg hd]
        by_cases he : i = e
        · subst he
          rw [if_pos rfl, if_pos rfl, kl_noroot (W := [d]) x (fun s hs e1 => by simp at e1; subst e1; exact h1 hs)]
        · rw [if_neg he, if_neg he, kl_kn_comm]
  | n d v =>
    cases u' with
    | w e x =>
      simp only [dU, vU] at h h1 h2
      simp only [appU, upd, updn]
      by_cases hd : i = d
      · subst hd
        rw [if_pos rfl, if_neg h, if_pos rfl, kl_noroot (W := [e]) v (fun s hs e1 => by simp at e1; subst e1; exact h2 hs)]
      · rw [if_neg hd, if_neg hd]
        by_cases he : i = e
        · subst he
          rw [if_pos rfl, if_pos rfl, kn_noroot (kl [i] x) (fun s hs e1 => by have := roots_kl _ s hs; subst e1; exact h1 this)]
        · rw [if_neg he, if_neg he, kl_kn_comm]
    | n e x =>
      simp only [dU, vU] at h h1 h2
      simp only [appU, updn]
      by_cases hd : i = d
      · subst hd
        rw [if_pos rfl, if_neg h, if_pos rfl, kn_noroot v (fun s hs e1 => by subst e1; exact h2 hs)]
      · rw [if_neg hd, if_neg hd]
        by_cases he : i = e
        · subst he
          rw [if_pos rfl, if_pos rfl, kn_noroot x (fun s hs e1 => by subst e1; exact h1 hs)]
        · rw [if_neg he, if_neg he, kn_kn_comm]

theorem app_cons (u : Upd) (U : List Upd) (S : St) : app (u :: U) S = app U (appU u S) := by cases u <;> rfl

def Disj (a b : List Nat) : Prop := ∀ x, x ∈ a → x ∉ b

theorem app_one_comm {u : Upd} : ∀ {U : List Upd}, dU u ∉ wrs U → dU u ∉ rts U → Disj (wrs U) (roots (vU u)) → ∀ S, app U (appU u S) = appU u (app U S)
  | [], _, _, _, S => rfl
  | u' :: U, h1, h2, h3, S => by
    rw [app_cons, app_cons]
    have e1 : dU u ≠ dU u' := by cases u' <;> simp [wrs, dU] at h1 ⊢ <;> exact h1.1
    have e2 : dU u ∉ roots (vU u') := by cases u' <;> simp [rts, vU] at h2 ⊢ <;> exact h2.1
    have e3 : dU u' ∉ roots (vU u) := by cases u' <;> exact h3 _ (by simp [wrs, dU])
    rw [← appU_comm e1 e2 e3]
    exact app_one_comm (by cases u' <;> simp [wrs] at h1 ⊢ <;> exact h1.2) (by cases u' <;> simp [rts] at h2 ⊢ <;> exact h2.2) (fun x hx => h3 x (by cases u' <;> simp [wrs, hx])) _

theorem app_comm : ∀ {U V : List Upd}, Disj (wrs U) (wrs V) → Disj (wrs U) (rts V) → Disj (wrs V) (rts U) → ∀ S, app U (app V S) = app V (app U S)
  | [], V, _, _, _, S => rfl
  | u :: U, V, h1, h2, h3, S => by
    rw [app_cons, app_cons]
    have d1 : dU u ∈ wrs (u :: U) := by cases u <;> simp [wrs, dU]
    rw [← app_one_comm (h1 _ d1) (h2 _ d1) (fun x hx hx' => h3 x hx (by cases u <;> simp [rts, vU] at hx' ⊢ <;> exact .inl hx'))]
    exact app_comm (fun x hx => h1 x (by cases u <;> simp [wrs, hx])) (fun x hx => h2 x (by cases u <;> simp [wrs, hx])) (fun x hx hx' => h3 x hx (by cases u <;> simp [rts, hx'])) _

/-- What is not written is not turned, but for what borrows. -/
theorem app_af : ∀ {U : List Upd} {S : St} {t : Nat}, t ∉ wrs U → af (app U S t) = true → app U S t = S t
  | [], S, t, _, _ => rfl
  | u :: U, S, t, h, ha => by
    rw [app_cons] at ha ⊢
    have e1 : t ≠ dU u := by cases u <;> simp [wrs, dU] at h ⊢ <;> exact h.1
    have h2 : t ∉ wrs U := by cases u <;> simp [wrs] at h ⊢ <;> exact h.2
    have := app_af h2 ha
    rw [this] at ha ⊢
    cases u with
    | w d v =>
      simp only [appU, upd, dU] at ha e1 ⊢
      rw [if_neg e1] at ha ⊢
      exact af_kl _ ha
    | n d v =>
      simp only [appU, updn, dU] at ha e1 ⊢
      rw [if_neg e1] at ha ⊢
      exact af_kn _ ha
theorem app_noroot : ∀ {U : List Upd} {S : St} {t : Nat}, t ∉ wrs U → (∀ s ∈ roots (S t), s ∉ wrs U) → app U S t = S t
  | [], S, t, _, _ => rfl
  | u :: U, S, t, h, hr => by
    rw [app_cons]
    have e1 : t ≠ dU u := by cases u <;> simp [wrs, dU] at h ⊢ <;> exact h.1
    have h2 : t ∉ wrs U := by cases u <;> simp [wrs] at h ⊢ <;> exact h.2
    have e2 : appU u S t = S t := by
      cases u with
      | w d v =>
        simp only [appU, upd, dU] at e1 ⊢
        rw [if_neg e1]
        exact kl_noroot _ (fun s hs e => hr s hs (by simp at e; subst e; simp [wrs]))
      | n d v =>
        simp only [appU, updn, dU] at e1 ⊢
        rw [if_neg e1]
        exact kn_noroot _ (fun s hs e => hr s hs (by subst e; simp [wrs]))
    rw [app_noroot h2 (by rw [e2]; intro s hs hx; exact hr s hs (by cases u <;> simp [wrs, hx])), e2]
end Go.Abs
