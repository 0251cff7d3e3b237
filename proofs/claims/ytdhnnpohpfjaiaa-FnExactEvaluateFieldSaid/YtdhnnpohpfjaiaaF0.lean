/- Fields: how they lie; their sizes. -/
import Derived.Test.YtdhnnpohpfjaiaaC12
namespace Go.Proofs.Ytdhnnpohpfjaiaa
open Go.Abs
set_option linter.unusedVariables false
set_option linter.unusedSimpArgs false
set_option maxHeartbeats 1000000
abbrev Mon := Int × List Int
def mons (p : List Mon) : List AV := p.flatMap fun m => [.int m.1, .sl m.2.length (avs m.2)]
def omons (p : List Mon) : List AV := p.flatMap fun m => [.int m.1, .own 2 m.2.length (avs m.2)]
def prt (f : List (List Mon)) : List AV := f.map fun p => .sl p.length (mons p)
def oprt (f : List (List Mon)) : List AV := f.map fun p => .own 109 p.length (omons p)
theorem mons_cons (m : Mon) (p : List Mon) : mons (m :: p) = .int m.1 :: .sl m.2.length (avs m.2) :: mons p := rfl
theorem omons_cons (m : Mon) (p : List Mon) : omons (m :: p) = .int m.1 :: .own 2 m.2.length (avs m.2) :: omons p := rfl
@[simp] theorem mons_nil : mons [] = [] := rfl
@[simp] theorem omons_nil : omons [] = [] := rfl
@[simp] theorem mons_len : ∀ p : List Mon, (mons p).length = p.length * 2
  | [] => rfl
  | m :: p => by rw [mons_cons]; simp [mons_len p]; omega
@[simp] theorem omons_len : ∀ p : List Mon, (omons p).length = p.length * 2
  | [] => rfl
  | m :: p => by rw [omons_cons]; simp [omons_len p]; omega
@[simp] theorem mons_ne {p : List Mon} : (mons p = []) = (p = []) := by cases p <;> simp [mons_cons]
@[simp] theorem prt_len (f : List (List Mon)) : (prt f).length = f.length := by simp [prt]
@[simp] theorem oprt_len (f : List (List Mon)) : (oprt f).length = f.length := by simp [oprt]
@[simp] theorem prt_ne {f : List (List Mon)} : (prt f = []) = (f = []) := by cases f <;> simp [prt]
@[simp] theorem omons_frz : ∀ p : List Mon, frzL (omons p) = mons p
  | [] => rfl
  | m :: p => by rw [omons_cons, mons_cons]; simp [frzL, frz, omons_frz p]
@[simp] theorem mons_frz : ∀ p : List Mon, frzL (mons p) = mons p
  | [] => rfl
  | m :: p => by rw [mons_cons]; simp [frzL, frz, mons_frz p]
@[simp] theorem omons_fresh : ∀ p : List Mon, freshL (omons p) = true
  | [] => rfl
  | m :: p => by rw [omons_cons]; simp [freshL, freshOK, omons_fresh p]
@[simp] theorem oprt_frz : ∀ f : List (List Mon), frzL (oprt f) = prt f
  | [] => rfl
  | p :: f => by have := oprt_frz f; simp only [oprt, prt, List.map_cons, frzL] at this ⊢; rw [this]; simp [frz]
@[simp] theorem oprt_fresh : ∀ f : List (List Mon), freshL (oprt f) = true
  | [] => rfl
  | p :: f => by have := oprt_fresh f; simp only [oprt, List.map_cons, freshL] at this ⊢; rw [this]; simp [freshOK]
theorem mons_drop : ∀ {p : List Mon} {k : Nat}, k < p.length → (mons p).drop (k * 2) = .val (.int .i64 (p[k]?.getD (0, [])).1) :: .sl (p[k]?.getD (0, [])).2.length (avs (p[k]?.getD (0, [])).2) :: mons (p.drop (k + 1))
  | m :: p, 0, _ => rfl
  | m :: p, k + 1, h => by
    have := mons_drop (p := p) (k := k) (by simpa using h)
    rw [mons_cons, show (k + 1) * 2 = k * 2 + 1 + 1 by omega]
    simpa using this
theorem prt_drop {f : List (List Mon)} {k : Nat} (h : k < f.length) : (prt f).drop k = .sl (f[k]?.getD []).length (mons (f[k]?.getD [])) :: prt (f.drop (k + 1)) := by
  rw [prt, ← List.map_drop, List.drop_eq_getElem_cons h, List.map_cons]; simp [h, prt]
/-- What is left behind a list. -/
def szG {α : Type} (g : Int → α → Int) : Int → List α → Int
  | left, [] => left
  | left, a :: l => if g left a < 0 then -1 else szG g (g left a) l
def szA {α : Type} (g : Int → α → Int) (left : Int) (l : List α) : Int := if left - l.length < 0 then -1 else szG g (left - l.length) l
def sumC {α : Type} (c : α → Nat) : List α → Nat
  | [] => 0
  | a :: l => c a + sumC c l
structure SzOk {α : Type} (g : Int → α → Int) (c : α → Nat) : Prop where
  lo : ∀ l a, -1 ≤ g l a
  hi : ∀ l a, 0 ≤ l → g l a ≤ l
  ok : ∀ l a, 0 ≤ l → 0 ≤ g l a → (c a : Int) ≤ l - g l a
theorem szG_lo {α : Type} {g : Int → α → Int} {c : α → Nat} (h : SzOk g c) : ∀ (l : List α) (left : Int), 0 ≤ left → -1 ≤ szG g left l ∧ szG g left l ≤ left ∧ (0 ≤ szG g left l → (sumC c l : Int) ≤ left - szG g left l)
  | [], left, h0 => by simp [szG, sumC]; omega
  | a :: l, left, h0 => by
    rw [szG]
    have h1 := h.hi left a h0
    split
    · exact ⟨by omega, by omega, by omega⟩
    · rename_i h2
      have := szG_lo h l (g left a) (by omega)
      refine ⟨this.1, by omega, fun h3 => ?_⟩
      have h4 := this.2.2 h3
      have h5 := h.ok left a h0 (by omega)
      rw [sumC]; omega
theorem szA_ok {α : Type} {g : Int → α → Int} {c : α → Nat} (h : SzOk g c) : SzOk (szA g) (fun l => l.length + sumC c l) := by
  refine ⟨fun l a => ?_, fun l a h0 => ?_, fun l a h0 h1 => ?_⟩ <;> unfold szA at * <;> split
  · omega
  · exact (szG_lo h a _ (by omega)).1
  · omega
  · have := (szG_lo h a (l - a.length) (by omega)).2.1; omega
  · rename_i h2; rw [if_pos h2] at h1; omega
  · rename_i h2
    rw [if_neg h2] at h1
    have := (szG_lo h a (l - a.length) (by omega)).2.2 h1
    push_cast; omega
theorem szR_ok : SzOk (fun l (m : Mon) => szR l m.2.length) (fun m => m.2.length) := by
  refine ⟨fun l a => szR_ge _ _, fun l a h0 => szR_le (by omega) (by omega), fun l a h0 h1 => ?_⟩
  unfold szR at h1 ⊢
  split at h1
  · omega
  · rename_i h2; rw [if_neg h2]; omega
theorem sumC_mem {α : Type} (c : α → Nat) : ∀ {l : List α} {a : α}, a ∈ l → c a ≤ sumC c l
  | b :: l, a, h => by
    rw [sumC]
    rcases List.mem_cons.1 h with rfl | h
    · omega
    · have := sumC_mem c h; omega
def cM (m : Mon) : Nat := m.2.length
def cP (p : List Mon) : Nat := p.length + sumC cM p
def cF (f : List (List Mon)) : Nat := f.length + sumC cP f
def szMn (l : Int) (m : Mon) : Int := szR l m.2.length
def szP : Int → List Mon → Int := szA szMn
def szF : Int → List (List Mon) → Int := szA szP
theorem szMn_ok : SzOk szMn cM := szR_ok
theorem szP_ok : SzOk szP cP := szA_ok szMn_ok
theorem szF_ok : SzOk szF cF := szA_ok szP_ok
theorem szMonomial_c (m : Mon) (left : Int) (hn : m.2.length ≤ 9223372036854775807) (h0 : 0 ≤ left) (h1 : left ≤ 9223372036854775807) :
    Con Try.prog 129 [.agg [.int m.1, .sl m.2.length (avs m.2)], .int left] (.int (szMn left m)) := by
  refine con_of_vc Try.mixed ⟨5, [], [], []⟩ Try.func129 (by decide) rfl (by simp) (by decide) (by simp [freshOK, freshL, go_sem]) ?_
  rw [Try.ntmps129]
  simp [go_sem]
  refine CallVC.of (szInt64S_c _ _ left hn (by omega) h1) (by decide) ?_
  simp [go_sem]
  have := szR_ge left m.2.length
  unfold szMn
  by_cases h2 : szR left m.2.length < 0
  · simp [go_sem, h2]
    omega
  · simp [go_sem, h2]
theorem szMonomialS_c (p : List Mon) (left : Int) (hn : p.length ≤ 9223372036854775807) (hr : ∀ m ∈ p, m.2.length ≤ 9223372036854775807) (h0 : 0 ≤ left) (h1 : left ≤ 9223372036854775807) :
    Con Try.prog 101 [.sl p.length (mons p), .int left] (.int (szP left p)) := by
  refine con_of_vc Try.mixed ⟨6, [], [], []⟩ Try.func101 (by decide) rfl (by simp) (by decide) (by simp [freshOK, freshL, go_sem]) ?_
  rw [Try.ntmps101]
  simp [go_sem]
  refine ⟨by omega, fun h => ?_, fun h => ?_⟩ <;> simp at h <;> simp [go_sem]
  · unfold szP szA; rw [if_pos (by omega)]
  have e1 : szP left p = szG szMn (left - p.length) p := by unfold szP szA; rw [if_neg (by omega)]
  refine loop_inv (1 :: List.range' 4 30) (fun x : Nat × Int => [(1, .int x.2), (5, .int x.1)]) (fun x => x.1 ≤ p.length ∧ 0 ≤ x.2 ∧ x.2 ≤ left ∧ szG szMn x.2 (p.drop x.1) = szP left p) (fun x => p.length - x.1) (0, left - p.length) (by simp; omega) (by simp [go_sem]) (by simp [go_sem]) ?_
  rintro ⟨i, l⟩ ⟨hi, hl0, hl1, he⟩
  simp only at hi hl0 hl1 he
  simp [go_sem]
  refine ⟨fun h => ?_, fun h => ?_⟩ <;> simp at h
  · have hx : p[i]?.getD (0, []) ∈ p := by simp [h]
    have hd : p.drop i = p[i]?.getD (0, []) :: p.drop (i + 1) := by rw [List.drop_eq_getElem_cons h]; simp [h]
    have hm := hr _ hx
    simp [go_sem, mons_drop h]
    refine ⟨⟨h, by rintro rfl; simp at h⟩, ?_⟩
    try refine ⟨by omega, ?_⟩
    refine CallVC.of (szMonomial_c _ _ hm hl0 (by omega)) (by decide) ?_
    simp [go_sem]
    have k1 := szMn_ok.lo l (p[i]?.getD (0, []))
    have k2 := szMn_ok.hi l (p[i]?.getD (0, [])) hl0
    rw [hd, szG] at he
    refine ⟨fun h2 => ?_, fun h2 => ?_⟩ <;> simp at h2 <;> simp [go_sem]
    · rw [if_pos h2] at he; exact he
    · rw [if_neg (by omega)] at he
      refine ⟨by omega, i + 1, _, ⟨by omega, h2, by omega, he⟩, by omega, Off_reset _ _ _ (by simp), rfl, by omega⟩
  · simp [go_sem]
    rw [List.drop_eq_nil_of_le h] at he
    exact he

theorem szMonomialSS_c (p : List (List Mon)) (left : Int) (hn : p.length ≤ 9223372036854775807) (hr : ∀ m ∈ p, m.length ≤ 9223372036854775807 ∧ ∀ q ∈ m, q.2.length ≤ 9223372036854775807) (h0 : 0 ≤ left) (h1 : left ≤ 9223372036854775807) :
    Con Try.prog 63 [.sl p.length (prt p), .int left] (.int (szF left p)) := by
  refine con_of_vc Try.mixed ⟨6, [], [], []⟩ Try.func63 (by decide) rfl (by simp) (by decide) (by simp [freshOK, freshL, go_sem]) ?_
  rw [Try.ntmps63]
  simp [go_sem]
  refine ⟨by omega, fun h => ?_, fun h => ?_⟩ <;> simp at h <;> simp [go_sem]
  · unfold szF szA; rw [if_pos (by omega)]
  have e1 : szF left p = szG szP (left - p.length) p := by unfold szF szA; rw [if_neg (by omega)]
  refine loop_inv (1 :: List.range' 4 30) (fun x : Nat × Int => [(1, .int x.2), (5, .int x.1)]) (fun x => x.1 ≤ p.length ∧ 0 ≤ x.2 ∧ x.2 ≤ left ∧ szG szP x.2 (p.drop x.1) = szF left p) (fun x => p.length - x.1) (0, left - p.length) (by simp; omega) (by simp [go_sem]) (by simp [go_sem]) ?_
  rintro ⟨i, l⟩ ⟨hi, hl0, hl1, he⟩
  simp only at hi hl0 hl1 he
  simp [go_sem]
  refine ⟨fun h => ?_, fun h => ?_⟩ <;> simp at h
  · have hx : p[i]?.getD [] ∈ p := by simp [h]
    have hd : p.drop i = p[i]?.getD [] :: p.drop (i + 1) := by rw [List.drop_eq_getElem_cons h]; simp [h]
    have hm := hr _ hx
    simp [go_sem, prt_drop h]
    refine ⟨⟨h, by rintro rfl; simp at h⟩, ?_⟩
    refine CallVC.of (szMonomialS_c _ _ hm.1 hm.2 hl0 (by omega)) (by decide) ?_
    simp [go_sem]
    have k1 := szP_ok.lo l (p[i]?.getD [])
    have k2 := szP_ok.hi l (p[i]?.getD []) hl0
    rw [hd, szG] at he
    refine ⟨fun h2 => ?_, fun h2 => ?_⟩ <;> simp at h2 <;> simp [go_sem]
    · rw [if_pos h2] at he; exact he
    · rw [if_neg (by omega)] at he
      refine ⟨by omega, i + 1, _, ⟨by omega, h2, by omega, he⟩, by omega, Off_reset _ _ _ (by simp), rfl, by omega⟩
  · simp [go_sem]
    rw [List.drop_eq_nil_of_le h] at he
    exact he

/-- That a field's lengths fit. -/
def Fit (f : List (List Mon)) : Prop := f.length ≤ 9223372036854775807 ∧ ∀ p ∈ f, p.length ≤ 9223372036854775807 ∧ ∀ q ∈ p, q.2.length ≤ 9223372036854775807
theorem szField_c (z : Int) (f : List (List Mon)) (left : Int) (hf : Fit f) (h0 : 0 ≤ left) (h1 : left ≤ 9223372036854775807) :
    Con Try.prog 28 [.agg [.int z, .sl f.length (prt f)], .int left] (.int (szF left f)) := by
  refine con_of_vc Try.mixed ⟨5, [], [], []⟩ Try.func28 (by decide) rfl (by simp) (by decide) (by simp [freshOK, freshL, go_sem]) ?_
  rw [Try.ntmps28]
  simp [go_sem]
  refine CallVC.of (szMonomialSS_c f left hf.1 hf.2 h0 h1) (by decide) ?_
  simp [go_sem]
  have := szF_ok.lo left f
  by_cases h2 : szF left f < 0
  · simp [go_sem, h2]
    omega
  · simp [go_sem, h2]
end Go.Proofs.Ytdhnnpohpfjaiaa
