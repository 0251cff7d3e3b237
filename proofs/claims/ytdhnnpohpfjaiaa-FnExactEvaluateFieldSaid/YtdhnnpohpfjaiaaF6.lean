/- Fields: the sum over a map's entries, in whatever order, is the sum over the part. -/
import Derived.Test.YtdhnnpohpfjaiaaF5
namespace Go.Proofs.Ytdhnnpohpfjaiaa
open Go.Abs
set_option linter.unusedVariables false
set_option linter.unusedSimpArgs false
set_option maxHeartbeats 1000000
theorem ltL_irr : ∀ a : List Int, ltL a a = false
  | [] => rfl
  | x :: a => by simp [ltL, ltL_irr a]
theorem ltL_trans : ∀ {a b c : List Int}, ltL a b = true → ltL b c = true → ltL a c = true
  | _, [], _, h, _ => by simp [ltL] at h
  | _, _ :: _, [], _, h => by simp [ltL] at h
  | [], _ :: _, _ :: _, _, _ => rfl
  | x :: a, y :: b, z :: c, h1, h2 => by
    simp only [ltL] at h1 h2 ⊢
    split at h1
    · rename_i e; subst e
      split at h2
      · rename_i e; subst e; rw [if_pos rfl]; exact ltL_trans h1 h2
      · rename_i e; rw [if_neg e]; exact h2
    · rename_i e1
      simp only [decide_eq_true_eq] at h1
      split at h2
      · rename_i e; subst e; rw [if_neg e1]; simpa using h1
      · rename_i e
        simp only [decide_eq_true_eq] at h2
        rw [if_neg (by omega)]; simp; omega
theorem chain_lt {z : Int} {p : List Mon} (h : partB z p = true) {i : Nat} : ∀ {j : Nat}, i < j → j < p.length → ltL (p[i]?.getD (0, [])).2 (p[j]?.getD (0, [])).2 = true
  | 0, h1, _ => by omega
  | j + 1, h1, h2 => by
    have hs := (partB_at h h2).2 (by omega)
    rw [Nat.add_sub_cancel] at hs
    rcases Nat.lt_or_ge i j with hl | hg
    · exact ltL_trans (chain_lt h hl (by omega)) hs
    · have : i = j := by omega
      subst this; exact hs
theorem keyOf_inj {a b : List Int} (hl : a.length = b.length) (h3 : a.length ≤ 3) (h : keyOf a = keyOf b) : a = b := by
  match a, b, hl, h3 with
  | [], [], _, _ => rfl
  | [x], [y], _, _ => simp [keyOf] at h; rw [h]
  | [x, x'], [y, y'], _, _ => simp [keyOf] at h; rw [h.1, h.2]
  | [x, x', x''], [y, y', y''], _, _ => simp [keyOf] at h; rw [h.1, h.2.1, h.2.2]
def keyM (m : Mon) : Key × Int := (keyOf m.2, m.1)
theorem keys_nd {z : Int} {p : List Mon} (hz : z ≤ 3) (h : partB z p = true) : p.Pairwise (fun a b => keyOf a.2 ≠ keyOf b.2) := by
  rw [List.pairwise_iff_getElem]
  intro i j hi hj hij he
  have hl := chain_lt h hij hj
  have m1 := (partB_at h hi).1.len
  have m2 := (partB_at h hj).1.len
  simp only [List.getElem?_eq_getElem hi, List.getElem?_eq_getElem hj, Option.getD_some] at hl m1 m2
  have := keyOf_inj (by omega) (by omega) he
  rw [this, ltL_irr] at hl
  simp at hl
theorem polG_out : ∀ (p : List Mon) (c : Key → Option Int) (k : Key), (∀ m ∈ p, keyOf m.2 ≠ k) → polG c p k = c k
  | [], c, k, _ => rfl
  | m :: p, c, k, h => by
    rw [polG, polG_out p _ k (fun a ha => h a (by simp [ha]))]
    have := h m (by simp)
    simp [mset, Ne.symm this]
theorem polG_in : ∀ (p : List Mon) (c : Key → Option Int), p.Pairwise (fun a b => keyOf a.2 ≠ keyOf b.2) → ∀ m ∈ p, polG c p (keyOf m.2) = some m.1
  | [], _, _, m, hm => by simp at hm
  | a :: p, c, h, m, hm => by
    obtain ⟨h1, h2⟩ := List.pairwise_cons.1 h
    rw [polG]
    rcases List.mem_cons.1 hm with rfl | hm
    · rw [polG_out p _ _ (fun b hb => Ne.symm (h1 b hb))]; simp [mset]
    · exact polG_in p _ h2 m hm
theorem polF_some {p : List Mon} (h : p.Pairwise (fun a b => keyOf a.2 ≠ keyOf b.2)) {k : Key} {x : Int} : polF p k = some x ↔ (k, x) ∈ p.map keyM := by
  constructor
  · intro hk
    by_cases hin : ∃ m ∈ p, keyOf m.2 = k
    · obtain ⟨m, hm, rfl⟩ := hin
      rw [polF, polG_in p _ h m hm] at hk
      injection hk with hk; subst hk
      exact List.mem_map.2 ⟨m, hm, rfl⟩
    · rw [polF, polG_out p _ k (fun m hm he => hin ⟨m, hm, he⟩)] at hk
      simp [mzero] at hk
  · intro hm
    obtain ⟨m, hm, he⟩ := List.mem_map.1 hm
    simp only [keyM, Prod.mk.injEq] at he
    rw [← he.1, ← he.2]
    exact polG_in p _ h m hm
theorem rest_perm (y : List Int) {a b : List (Key × Int)} (h : a.Perm b) : rest y a = rest y b := by
  induction h with
  | nil => rfl
  | cons x _ ih => simp [rest, ih]
  | swap x z l => simp [rest]; omega
  | trans _ _ i1 i2 => rw [i1, i2]
theorem nodup_of_key {α β : Type} {f : α → β} {l : List α} (h : l.Pairwise (fun a b => f a ≠ f b)) : l.Nodup := h.imp (fun hn e => hn (by rw [e]))
theorem enum_perm {p : List Mon} (h : p.Pairwise (fun a b => keyOf a.2 ≠ keyOf b.2)) {es : List (Key × Int)} (he : Enum (polF p) es) : es.Perm (p.map keyM) := by
  refine (List.perm_ext_iff_of_nodup (nodup_of_key (f := Prod.fst) he.nd) ?_).2 (fun e => ?_)
  · rw [List.Nodup, List.pairwise_map]
    exact h.imp (fun hn e => hn (congrArg Prod.fst e))
  · obtain ⟨k, x⟩ := e
    rw [← polF_some h]
    constructor
    · intro hm; exact he.val _ hm
    · intro hk
      by_cases hin : ∃ q ∈ es, q.1 = k
      · obtain ⟨⟨k', x'⟩, hq, hqk⟩ := hin
        simp only at hqk; subst hqk
        have := he.val _ hq
        simp only at this
        rw [hk] at this
        injection this with this; subst this
        exact hq
      · have := he.out k (fun q hq e => hin ⟨q, hq, e⟩)
        rw [hk] at this; simp at this
theorem tmF_congr {y e e' : List Int} {x : Int} : ∀ {n : Nat}, (∀ i, i < n → e[i]?.getD 0 = e'[i]?.getD 0) → tmF y e x n = tmF y e' x n
  | 0, _ => rfl
  | n + 1, h => by rw [tmF, tmF, tmF_congr (fun i hi => h i (by omega)), h n (by omega)]
theorem tmK_of {y : List Int} (hl : y.length ≤ 3) (m : Mon) : tmK y (keyOf m.2) m.1 = tmF y m.2 m.1 y.length := by
  refine tmF_congr (fun i hi => ?_)
  have : i = 0 ∨ i = 1 ∨ i = 2 := by omega
  rcases this with rfl | rfl | rfl <;> simp [keyOf]
theorem rest_map {y : List Int} (hl : y.length ≤ 3) : ∀ p : List Mon, rest y (p.map keyM) = vsum y p
  | [] => rfl
  | m :: p => by
    rw [List.map_cons, rest, vsum, rest_map hl p]
    show tmK y (keyOf m.2) m.1 + vsum y p = _
    rw [tmK_of hl]
theorem vsum_le (y : List Int) : ∀ p : List Mon, (∀ m ∈ p, isN m.1) → vsum y p ≤ 10006 * p.length
  | [], _ => by simp [vsum]
  | m :: p, h => by
    have h1 := vsum_le y p (fun a ha => h a (by simp [ha]))
    have h2 := (tmF_N (y := y) (e := m.2) (h m (by simp)) y.length).2
    simp only [vsum, List.length_cons]; omega
theorem part_entries {z : Int} {p : List Mon} (hz : z ≤ 3) (h : partB z p = true) {k : Key} {x : Int} (hk : polF p k = some x) : EOk (k, x) := by
  obtain ⟨m, hm, he⟩ := List.mem_map.1 ((polF_some (keys_nd hz h)).1 hk)
  simp only [keyM, Prod.mk.injEq] at he
  obtain ⟨rfl, rfl⟩ := he
  have ho := partB_mem h hm
  have g0 := ho.get 0
  have g1 := ho.get 1
  have g2 := ho.get 2
  have l1 := ho.lo
  have l2 := ho.hi
  unfold EOk isN keyOf
  simp only
  refine ⟨⟨by omega, by omega⟩, by omega, by omega, by omega, by omega, by omega, by omega⟩
end Go.Proofs.Ytdhnnpohpfjaiaa
