/- Texts of the own layer and contracts, part 7: Q42 V14 Q10 Q11 Q12 Q13 Q14 W31 V13 W32 W33 V15 C14 W17 Q41 Q43 B0 B1 B10 B11 B12 B13 E8 B2 B3 C3 B4 B5 B6 B7 B8 B9 B14 B15 B16 R1 R2 R3 R7 R8 R9 E9 E11 N8 Q15 Q16 Q17 Q18 Q19 Q20 Q21 Q22 Q23 Q24 Q25 Q26 Q30 Q31 Q32 Q33 Q44 W34 W35 L41. -/
import Derived.Test.YtbeekabpflaihaaGreatM6
namespace Go.Proofs.YtbeekabpflaihaaGreat
open Go.Abs
set_option linter.unusedSectionVars false
set_option linter.unusedVariables false
set_option linter.unusedSimpArgs false
set_option maxHeartbeats 1000000
theorem rev_ind {α : Type} {P : List α → Prop} (h0 : P []) (h1 : ∀ l a, P l → P (l ++ [a])) (l : List α) : P l := by
  rw [← List.reverse_reverse l]
  induction l.reverse with
  | nil => exact h0
  | cons a l ih => rw [List.reverse_cons]; exact h1 _ _ ih
def atL (p : List Int) : List (List Int) → Nat
  | [] => 0
  | s :: S => if ltL s p = true then 0 else atL p S + 1
theorem atL_le (p : List Int) : ∀ S, atL p S ≤ S.length
  | [] => by simp [atL]
  | s :: S => by have := atL_le p S; rw [atL]; split <;> simp; omega
def insL (p : List Int) (S : List (List Int)) : List (List Int) := S.take (atL p S) ++ p :: S.drop (atL p S)
@[simp] theorem insL_len (p : List Int) (S : List (List Int)) : (insL p S).length = S.length + 1 := by have := atL_le p S; simp [insL]; omega
theorem insL_mem {p x : List Int} {S : List (List Int)} (h : x ∈ insL p S) : x = p ∨ x ∈ S := by
  rcases List.mem_append.1 h with h | h
  · exact .inr (List.mem_of_mem_take h)
  · rcases List.mem_cons.1 h with h | h
    · exact .inl h
    · exact .inr (List.mem_of_mem_drop h)
theorem sumL_ins (p : List Int) (S : List (List Int)) : sumL (insL p S) = sumL S + p.length := by
  have h := congrArg sumL (List.take_append_drop (atL p S) S)
  rw [sumL_app] at h
  rw [insL, sumL_app, sumL]
  omega
def rootL (S : List (List Int)) : List Int := 0 :: S.flatMap fun b => b.map (· + 1)
theorem rootL_len (S : List (List Int)) : (rootL S).length = sumL S + 1 := by
  have : ∀ S : List (List Int), (S.flatMap fun b => b.map (· + 1)).length = sumL S := by
    intro S
    induction S with
    | nil => rfl
    | cons b S ih => simp [sumL, ih]
  rw [rootL, List.length_cons, this]
def canF : Nat → List Int → List Int
  | 0, _ => []
  | n + 1, t => rootL ((brs t).foldl (fun S b => insL (canF n b) S) [])
def insA (n : Nat) (bs : List (List Int)) : List (List Int) := bs.foldl (fun S b => insL (canF n b) S) []
theorem insA_snoc (n : Nat) (bs : List (List Int)) (b : List Int) : insA n (bs ++ [b]) = insL (canF n b) (insA n bs) := by simp [insA]
theorem insA_mem {n : Nat} {bs : List (List Int)} : ∀ {x : List Int}, x ∈ insA n bs → ∃ b ∈ bs, x = canF n b := by
  refine rev_ind (P := fun bs => ∀ {x : List Int}, x ∈ insA n bs → ∃ b ∈ bs, x = canF n b) ?_ ?_ bs
  · intro x hx; simp [insA] at hx
  · intro l b ih x hx
    rw [insA_snoc] at hx
    rcases insL_mem hx with h | h
    · exact ⟨b, by simp, h⟩
    · obtain ⟨c, hc, e⟩ := ih h
      exact ⟨c, by simp [hc], e⟩
theorem insA_len_le (n : Nat) (bs : List (List Int)) (k : Nat) (h : bs.length ≤ k) : (insA n bs).length ≤ k := by
  have : ∀ bs : List (List Int), (insA n bs).length = bs.length := rev_ind rfl (fun l b ih => by rw [insA_snoc, insL_len, ih]; simp)
  rw [this]; exact h
theorem canF_val (n : Nat) : ∀ (t : List Int), ∀ x ∈ canF n t, 0 ≤ x ∧ x ≤ n := by
  induction n with
  | zero => intro t x hx; simp [canF] at hx
  | succ n ih =>
    intro t x hx
    rw [canF] at hx
    rcases List.mem_cons.1 hx with rfl | hx
    · omega
    · obtain ⟨b, hb, hx⟩ := List.mem_flatMap.1 hx
      obtain ⟨y, hy, rfl⟩ := List.mem_map.1 hx
      obtain ⟨c, hc, rfl⟩ := insA_mem (n := n) (bs := brs t) hb
      have := ih c y hy
      omega
theorem sumL_set {A : List (List Int)} {k : Nat} (h : k < A.length) (v : List Int) : sumL (A.set k v) + (A[k]?.getD []).length = sumL A + v.length := by
  induction A generalizing k with
  | nil => simp at h
  | cons r A ih =>
    cases k with
    | zero => simp [sumL]; omega
    | succ k => have := ih (k := k) (by simpa using h); simp [sumL] at this ⊢; omega
theorem brStep_sum {out : List (List Int)} {x : Int} (h : out ≠ [] ∨ x = 1) : sumL (brStep out x) = sumL out + 1 := by
  unfold brStep
  simp only
  have ho : (if x = 1 then out ++ [[]] else out) ≠ [] := by
    split
    · simp
    · rcases h with h | h
      · exact h
      · contradiction
  have hs : sumL (if x = 1 then out ++ [[]] else out) = sumL out := by
    split
    · rw [sumL_app]; simp [sumL]
    · rfl
  generalize (if x = 1 then out ++ [[]] else out) = o at *
  have hl : o.length - 1 < o.length := by have := List.length_pos_iff.2 ho; omega
  have := sumL_set hl (o[o.length - 1]?.getD [] ++ [x - 1])
  simp at this
  omega
theorem brs_sum {t : List Int} (h : Lv t) : ∀ i, 1 ≤ i → i ≤ t.length → sumL (brs (t.take i)) + 1 = i ∧ (2 ≤ i → brs (t.take i) ≠ [])
  | 0, h1, _ => by omega
  | 1, _, _ => by
    have : brs (t.take 1) = [] := by
      unfold brs
      rw [List.drop_eq_nil_of_le (by simp; omega)]; rfl
    rw [this]
    exact ⟨rfl, by omega⟩
  | i + 2, h1, h2 => by
    have ih := brs_sum h (i + 1) (by omega) (by omega)
    rw [brs_take (by omega) (by omega)]
    have hne : brs (t.take (i + 1)) ≠ [] ∨ t[i + 1]?.getD 0 = 1 := by
      by_cases e : i = 0
      · subst e
        have h3 := h.2.2 1 (by omega) (by omega)
        rw [show 1 - 1 = 0 by omega, h.2.1] at h3
        exact .inr (by show t[1]?.getD 0 = 1; omega)
      · exact .inl (ih.2 (by omega))
    rw [brStep_sum hne]
    refine ⟨by omega, fun _ e => ?_⟩
    have := brStep_sum hne
    rw [e] at this
    simp [sumL] at this
theorem brs_total {t : List Int} (h : Lv t) : sumL (brs t) + 1 = t.length := by
  have := (brs_sum h t.length h.1 (Nat.le_refl _)).1
  rwa [List.take_length] at this
theorem canF_len : ∀ (n : Nat) (t : List Int), Lv t → t.length ≤ n → (canF n t).length = t.length
  | 0, t, h, hl => by have := h.1; omega
  | n + 1, t, h, hl => by
    have gen : ∀ bs : List (List Int), (∀ b ∈ bs, (canF n b).length = b.length) → sumL (insA n bs) = sumL bs := by
      intro bs
      refine rev_ind (P := fun bs => (∀ b ∈ bs, (canF n b).length = b.length) → sumL (insA n bs) = sumL bs) (fun _ => rfl) ?_ bs
      intro l b ih hb
      rw [insA_snoc, sumL_ins, sumL_app, ih (fun c hc => hb c (by simp [hc])), hb b (by simp)]
      simp [sumL]
    have e : (brs t).foldl (fun S b => insL (canF n b) S) [] = insA n (brs t) := rfl
    rw [canF, rootL_len, e, gen (brs t) (fun b hb => by
      have := brs_ok h hb
      exact canF_len n b this.1 (by have := this.2; omega)), brs_total h]
theorem mat_app (A C : List (List Int)) : mat (A ++ C) = mat A ++ mat C := by simp [mat]
theorem mat_dropL (A : List (List Int)) (k : Nat) : (mat A).drop k = mat (A.drop k) := by simp [mat]
theorem mat_takeL (A : List (List Int)) (k : Nat) : (mat A).take k = mat (A.take k) := by simp [mat, List.map_take]
theorem mat_noown : ∀ A : List (List Int), hasOwnL (mat A) = false
  | [] => rfl
  | r :: A => by
    have := mat_noown A
    simp only [mat, List.map_cons] at this ⊢
    rw [hasOwnL, this]; rfl
theorem sumL_ge {A : List (List Int)} {b : List Int} (h : b ∈ A) : b.length ≤ sumL A := by
  induction A with
  | nil => simp at h
  | cons r A ih =>
    rcases List.mem_cons.1 h with rfl | h
    · simp [sumL]
    · have := ih h; simp only [sumL]; omega
set_option maxRecDepth 100000 in
theorem l03Canon_c : ∀ (n : Nat) (t : List Int), n ≤ 1000 → Lv t → t.length ≤ n → Con Tryz.prog 211 [.sl t.length (avs t)] (.own 2 t.length (avs (canF n t)))
  | 0, t, _, h, hl => by have := h.1; omega
  | n + 1, t, hn, h, hl => by
    have hcl := canF_len (n + 1) t h hl
    have cP := l03Parts_c t (by omega) h
    have bt := brs_total h
    have ih := fun b hb => l03Canon_c n b (by omega) (brs_ok h hb).1 (by have := (brs_ok h hb).2; omega)
    have hce : canF (n + 1) t = rootL (insA n (brs t)) := rfl
    rw [hce]
    have blen := fun b (hb : b ∈ brs t) => canF_len n b (brs_ok h hb).1 (by have := (brs_ok h hb).2; omega)
    have bvalid := fun b (hb : b ∈ brs t) => brs_ok h hb
    have bm := brs_many h h.1 (Nat.le_refl _)
    rw [List.take_length] at bm
    generalize brs t = bs at *
    refine con_of_vc Tryz.mixed ⟨12, [13, 25, 14, 53], [], []⟩ Tryz.func211 (by decide) rfl (by simp) (by decide) (by simp [freshOK, freshL, go_sem]) ?_
    rw [Tryz.ntmps211]
    simp [go_sem]
    refine CallVC.of (cP) (by decide) ?_
    simp [go_sem]
    refine loop_inv (4 :: 5 :: 6 :: 7 :: 8 :: List.range' 15 39) (fun i : Nat => [(4, .sl (insA n (bs.take i)).length (mat (insA n (bs.take i)))), (5, .int i)]) (fun i => i ≤ bs.length) (fun i => bs.length - i) 0 (by simp) (by simp [go_sem, insA, mat]) (by simp [go_sem]) ?_
    intro i hi
    simp [go_sem]
    refine ⟨fun h => ?_, fun h => ?_⟩ <;> simp at h
    · have hif : i < bs.length := by omega
      have hb := memD [] hif
      have ht : insA n (bs.take (i + 1)) = insL (canF n (bs[i]?.getD [])) (insA n (bs.take i)) := by
        rw [List.take_add_one, List.getElem?_eq_getElem hif, Option.toList_some, insA_snoc]; rfl
      have c1 := ih _ hb
      have l1 := blen _ hb
      have s1 := sumL_ge hb
      have sl : ∀ s ∈ insA n (bs.take i), s.length ≤ 1000 := fun s hs => by
        obtain ⟨b, hb2, rfl⟩ := insA_mem hs
        have hb3 := List.mem_of_mem_take hb2
        have := sumL_ge hb3
        rw [blen b hb3]; omega
      have il : (insA n (bs.take i)).length ≤ i := insA_len_le n _ _ (by simp; omega)
      generalize hN : insA n (bs.take (i + 1)) = S2 at *
      generalize insA n (bs.take i) = S at *
      simp [go_sem, mat_drop hif]
      refine ⟨⟨hif, by rintro rfl; simp at hif⟩, ?_⟩
      refine CallVC.of (c1) (by decide) ?_
      simp [go_sem]
      rw [← l1]
      generalize canF n (bs[i]?.getD []) = p at *
      refine loop_inv (7 :: List.range' 26 15) (fun a : Nat => [(7, .int a)]) (fun a => a ≤ S.length ∧ atL p S = a + atL p (S.drop a)) (fun a => S.length - a) 0 (by simp) (by simp [go_sem]) (by simp [go_sem]) ?_
      rintro a ⟨ha, hat⟩
      by_cases has : a < S.length
      · have has' : (a : Int) < S.length := by omega
        have hd : S.drop a = S[a]?.getD [] :: S.drop (a + 1) := by rw [List.drop_eq_getElem_cons has]; simp [has]
        rw [hd, atL] at hat
        have hg := mat_drop has
        have hsl := sl _ (memD [] has)
        have cL := l01Less_c (S[a]?.getD []) p (by omega) (by omega)
        by_cases hlt : ltL (S[a]?.getD []) p = true
        · rw [if_pos hlt] at hat
          rw [hlt] at cL
          have hS2 : S2 = S.take a ++ p :: S.drop a := by rw [ht, insL, hat, Nat.add_zero]
          simp [go_sem, has', hg]
          refine ⟨by rintro rfl; simp at has, ?_⟩
          refine CallVC.of (cL) (by decide) ?_
          simp [go_sem]
          simp [go_sem, mat_dropL, mat_takeL, mat_noown]
          refine ⟨by omega, ⟨by omega, by omega⟩, by omega, ⟨by omega, by omega, by omega⟩, ⟨by omega, by omega, by omega, by omega⟩, ⟨by omega, by omega⟩, i + 1, by omega, by omega, (by repeat (first | exact Off_reset _ _ _ (by simp) | (refine Off.reset (by intro x hx; simp at hx ⊢; omega) (by simp) ?_; simp -failIfUnchanged [go_sem, Off_reset]))), ?_, by omega⟩
          rw [hN, hS2]
          have em : frzL (mat (S.take a) ++ AV.sl p.length (avs p) :: mat ((S.drop a).take (S.length - a))) = mat (S.take a ++ p :: S.drop a) := by rw [show (S.drop a).take (S.length - a) = S.drop a from List.take_of_length_le (by simp), ← mat_frz (S.take a ++ p :: S.drop a), mat_app]; rfl
          exact ⟨by simp; omega, em⟩
        · rw [if_neg hlt] at hat
          have hlf : ltL (S[a]?.getD []) p = false := by simpa using hlt
          rw [hlf] at cL
          simp [go_sem, has', hg]
          refine ⟨by rintro rfl; simp at has, ?_⟩
          refine CallVC.of (cL) (by decide) ?_
          simp [go_sem]
          exact ⟨by omega, a + 1, ⟨by omega, by omega⟩, by omega, Off_reset _ _ _ (by simp), by omega⟩
      · have has' : ¬ (a : Int) < S.length := by omega
        have hd : S.drop a = [] := List.drop_eq_nil_of_le (by omega)
        rw [hd, atL] at hat
        have hS2 : S2 = S.take a ++ p :: S.drop a := by rw [ht, insL, hat, Nat.add_zero]
        simp [go_sem, has', mat_dropL, mat_takeL, mat_noown]
        refine ⟨by omega, ⟨by omega, by omega⟩, by omega, ⟨by omega, by omega, by omega⟩, ⟨by omega, by omega, by omega, by omega⟩, ⟨by omega, by omega⟩, i + 1, by omega, by omega, (by repeat (first | exact Off_reset _ _ _ (by simp) | (refine Off.reset (by intro x hx; simp at hx ⊢; omega) (by simp) ?_; simp -failIfUnchanged [go_sem, Off_reset]))), ?_, by omega⟩
        rw [hN, hS2]
        have em : frzL (mat (S.take a) ++ AV.sl p.length (avs p) :: mat ((S.drop a).take (S.length - a))) = mat (S.take a ++ p :: S.drop a) := by rw [show (S.drop a).take (S.length - a) = S.drop a from List.take_of_length_le (by simp), ← mat_frz (S.take a ++ p :: S.drop a), mat_app]; rfl
        exact ⟨by simp; omega, em⟩
    · have e : i = bs.length := by omega
      subst e
      rw [List.take_length]
      have tot : (rootL (insA n bs)).length = t.length := by rw [← hce, hcl]
      rw [rootL_len] at tot
      have val : ∀ x ∈ rootL (insA n bs), 0 ≤ x ∧ x ≤ (n + 1 : Nat) := fun x hx => by rw [← hce] at hx; exact canF_val (n + 1) t x hx
      have sval : ∀ s ∈ insA n bs, ∀ x ∈ s, 0 ≤ x ∧ x ≤ n := fun s hs x hx => by
        obtain ⟨b, _, rfl⟩ := insA_mem hs
        exact canF_val n b x hx
      clear hce hcl
      have Sl : (insA n bs).length ≤ bs.length := insA_len_le n bs _ (Nat.le_refl _)
      generalize insA n bs = S at *
      simp [go_sem]
      refine loop_inv (9 :: 10 :: 11 :: List.range' 55 26) (fun i : Nat => [(9, .own 2 (sumL (S.take i) + 1) (avs (rootL (S.take i)))), (10, .int i)]) (fun i => i ≤ S.length) (fun i => S.length - i) 0 (by simp) (by simp [go_sem, rootL, sumL, avs]) (by simp [go_sem]) ?_
      intro i hi
      simp [go_sem]
      refine ⟨fun h => ?_, fun h => ?_⟩ <;> simp at h
      · have hif : i < S.length := by omega
        have hs := memD [] hif
        have sv := sval _ hs
        have st := sumL_take hif
        have sle := sumL_le S (i + 1)
        have rr : rootL (S.take (i + 1)) = rootL (S.take i) ++ (S[i]?.getD []).map (· + 1) := by
          rw [rootL, List.take_add_one, List.getElem?_eq_getElem hif, Option.toList_some, List.flatMap_append, List.flatMap_singleton]; rfl
        generalize hR : S[i]?.getD [] = b at *
        simp [go_sem]
        refine loop_inv (9 :: 11 :: List.range' 61 20) (fun k : Nat => [(9, .own 2 (sumL (S.take i) + 1 + k) (avs (rootL (S.take i) ++ (b.take k).map (· + 1)))), (11, .int k)]) (fun k => k ≤ b.length) (fun k => b.length - k) 0 (by simp) (by simp [go_sem]) (by simp [go_sem]) ?_
        intro k hk
        simp [go_sem, mat_drop hif, hR]
        refine ⟨⟨hif, by rintro rfl; simp at hif⟩, ?_⟩
        refine ⟨fun h => ?_, fun h => ?_⟩ <;> simp at h
        · have hkb : k < b.length := by omega
          have hv := sv _ (memD 0 hkb)
          simp [go_sem, mat_drop hif, hR, avs_drop hkb]
          have rl := rootL_len (S.take i)
          refine ⟨⟨hif, by rintro rfl; simp at hif⟩, ⟨hkb, by rintro rfl; simp at hkb⟩, ⟨by omega, by omega⟩, ⟨by omega, by omega, by omega⟩, ⟨by omega, by omega⟩, k + 1, by omega, by omega, Off_reset _ _ _ (by simp), ?_, by omega⟩
          rw [List.take_add_one, List.getElem?_eq_getElem hkb]
          refine ⟨by omega, ?_⟩
          rw [avs_app, avs_app, List.append_assoc]
          simp [hkb, avs]
        · have e : k = b.length := by omega
          subst e
          simp [go_sem]
          refine ⟨by omega, i + 1, by omega, by omega, (Off.reset (by intro x hx; simp at hx ⊢; omega) (by simp) (by simp [go_sem, Off_reset])), ?_, by omega⟩
          rw [rr, show (b.map (· + 1)).take b.length = b.map (· + 1) from List.take_of_length_le (by simp)]; exact ⟨by omega, rfl⟩
      · have e : i = S.length := by omega
        subst e
        rw [List.take_length]
        simp [go_sem]
        omega
end Go.Proofs.YtbeekabpflaihaaGreat


namespace Go.Proofs.YtbeekabpflaihaaGreat
open Go.Abs Go.Shelf Go.Sort
set_option linter.unusedSectionVars false
set_option linter.unusedVariables false
set_option linter.unusedSimpArgs false
set_option maxHeartbeats 1000000
theorem ltL_asym {a b : List Int} (h : ltL a b = true) : ltL b a = false := by
  cases h2 : ltL b a with
  | false => rfl
  | true => have := ltL_trans h h2; rw [ltL_irr] at this; simp at this
theorem insL_perm (p : List Int) (S : List (List Int)) : (insL p S).Perm (p :: S) := by
  unfold insL
  exact List.perm_middle.trans (by rw [List.take_append_drop])
theorem insL_cons (p s : List Int) (S : List (List Int)) : insL p (s :: S) = if ltL s p = true then p :: s :: S else s :: insL p S := by
  unfold insL
  rw [atL]
  split <;> simp
theorem insL_dsc (p : List Int) : ∀ {S : List (List Int)}, S.Pairwise (fun a b => ltL a b = false) → (insL p S).Pairwise (fun a b => ltL a b = false)
  | [], _ => by simp [insL, atL]
  | s :: S, h => by
    obtain ⟨h1, h2⟩ := List.pairwise_cons.1 h
    rw [insL_cons]
    split
    · rename_i hs
      refine List.pairwise_cons.2 ⟨fun y hy => ?_, h⟩
      rcases List.mem_cons.1 hy with rfl | hy
      · exact ltL_asym hs
      · cases hp : ltL p y with
        | false => rfl
        | true => have := h1 y hy; rw [ltL_trans hs hp] at this; exact this
    · rename_i hs
      refine List.pairwise_cons.2 ⟨fun y hy => ?_, insL_dsc p h2⟩
      rcases insL_mem hy with rfl | hy
      · simpa using hs
      · exact h1 y hy
theorem insA_dsc (n : Nat) (bs : List (List Int)) : (insA n bs).Pairwise (fun a b => ltL a b = false) :=
  rev_ind (P := fun bs => (insA n bs).Pairwise (fun a b => ltL a b = false)) List.Pairwise.nil (fun l a h => by rw [insA_snoc]; exact insL_dsc _ h) bs
theorem insA_perm (n : Nat) (bs : List (List Int)) : (insA n bs).Perm (bs.map (canF n)) :=
  rev_ind (P := fun bs => (insA n bs).Perm (bs.map (canF n))) (List.Perm.refl _) (fun l a h => by
    rw [insA_snoc, List.map_append]
    refine (insL_perm _ _).trans ((h.cons _).trans ?_)
    exact (List.perm_append_comm (l₁ := [canF n a]) (l₂ := l.map (canF n)))) bs
theorem dsc_unique {X L : List (List Int)} (hp : X.Perm L) (hX : X.Pairwise (fun a b => ltL a b = false)) (hL : L.Pairwise (fun a b => ltL a b = false)) : X = L :=
  hp.eq_of_pairwise (fun a b _ _ h1 h2 => by
    by_cases e : a = b
    · exact e
    · have := ltL_tot e h1; rw [h2] at this; simp at this) hX hL
theorem canonical1_c [DrawK] (a b : List Int) (ha : a.length ≤ 1000000) (hb : b.length ≤ 1000000) : Con Tryz.prog 176 [.sl a.length (avs a), .sl b.length (avs b)] (.int (cmpL b a)) := by
  refine con_of_vc Tryz.mixed ⟨5, [], [], []⟩ Tryz.func176 (by decide) rfl (by simp) (by decide) (by simp [freshOK, freshL, go_sem]) ?_
  rw [Tryz.ntmps176]
  simp [go_sem]
  refine CallVC.of (Compare_c b a (by omega) (by omega)) (by decide) ?_
  simp [go_sem]
theorem swo_dsc : SWO (Go.Proofs.ltOf fun a b : List Int => cmpL b a) := by
  have e : (Go.Proofs.ltOf fun a b : List Int => cmpL b a) = fun a b => ltL b a := by
    funext a b; exact cmpL_neg _ _
  rw [e]
  refine ⟨fun m => ltL_irr _, fun x y z h1 h2 => ltL_trans h2 h1, fun x y z h1 h2 => ?_⟩
  cases h3 : ltL z x with
  | false => rfl
  | true =>
    by_cases e : x = y
    · rw [e] at h3; rw [h3] at h2; exact h2
    · have h4 := ltL_tot (fun x => e x.symm) h1
      have := ltL_trans h3 h4
      rw [this] at h2; exact h2
theorem omat_flat (X : List (List Int)) : (X.flatMap fun x => [AV.own 2 x.length (avs x)]) = omat X := by
  induction X with
  | nil => rfl
  | cons x X ih => simp only [List.flatMap_cons, ih, omat, List.map_cons, List.singleton_append]
theorem sortTrees_c (X L : List (List Int)) (hX : X.Perm L) (hS : L.Pairwise (fun a b => ltL a b = false)) (hl : ∀ m ∈ L, m.length ≤ 1000000) (hn : L.length ≤ 1048576) :
    MCon Tryz.prog 175 [.own 22 X.length (omat X), .val (.func (.func 176) #[] #[])] (.tup []) [.own 22 X.length (omat L), .any] := by
  have hxl := hX.length_eq
  have hm : ∀ m ∈ X, m.length ≤ 1000000 := fun m hm => hl m (hX.mem_iff.1 hm)
  obtain ⟨ys, h1, h2, h3⟩ := sort_mcon1 Tryz.sortTrees ⟨_, Tryz.func175, by decide, rfl⟩ (fun m : List Int => .own 2 m.length (avs m)) (fun m n => cmpL n m) swo_dsc 176 22 (by kernel_rfl) X (by rw [omat_flat]; exact omat_fresh X)
    (fun x hx y hy => by simpa [frz] using @canonical1_c ⟨1⟩ x y (hm x hx) (hm y hy)) (by omega)
  have e : ys = L := dsc_unique (h1.trans hX) (h2.imp fun {a b} h => by
    have := cmpL_neg a b
    rw [← this]; simpa using h) hS
  subst e
  rw [omat_flat, omat_flat] at h3
  exact h3
set_option maxRecDepth 100000 in
theorem rootOn_c (S : List (List Int)) (hl : S.length ≤ 1000) (hr : ∀ b ∈ S, b.length ≤ 1000 ∧ ∀ x ∈ b, 0 ≤ x ∧ x ≤ 1000) : Con Tryz.prog 177 [.sl S.length (mat S)] (.own 2 (rootL S).length (avs (rootL S))) := by
  have bl : ∀ i, (rootL (S.take i)).length ≤ 1 + i * 1000 := fun i => by
    rw [rootL_len]
    have : ∀ T : List (List Int), (∀ b ∈ T, b.length ≤ 1000) → sumL T ≤ T.length * 1000 := by
      intro T
      induction T with
      | nil => intro _; simp [sumL]
      | cons b T ih => intro h; have := h b (by simp); have := ih (fun c hc => h c (by simp [hc])); simp only [sumL, List.length_cons]; omega
    have h1 := this (S.take i) (fun b hb => (hr b (List.mem_of_mem_take hb)).1)
    have h2 : (S.take i).length ≤ i := by rw [List.length_take]; omega
    have := Nat.mul_le_mul_right 1000 h2
    omega
  refine con_of_vc Tryz.mixed ⟨8, [], [], []⟩ Tryz.func177 (by decide) rfl (by simp) (by decide) (by simp [freshOK, freshL, go_sem]) ?_
  rw [Tryz.ntmps177]
  simp [go_sem]
  refine loop_inv (3 :: 5 :: 7 :: List.range' 11 17) (fun i : Nat => [(3, .own 2 (rootL (S.take i)).length (avs (rootL (S.take i)))), (11, .int i)]) (fun i => i ≤ S.length) (fun i => S.length - i) 0 (by simp) (by simp [go_sem, rootL, avs]) (by simp [go_sem]) ?_
  intro i hi
  by_cases hiS : i < S.length
  · have hii : (i : Int) < S.length := by omega
    have ne : ¬ S = [] := by rintro rfl; simp at hiS
    have md := mat_drop hiS
    obtain ⟨b1, b2⟩ := hr _ (show S[i]?.getD [] ∈ S by simp [hiS])
    have sn : rootL (S.take (i + 1)) = rootL (S.take i) ++ (S[i]?.getD []).map (· + 1) := by
      unfold rootL
      rw [List.take_add_one, List.flatMap_append, List.getElem?_eq_getElem hiS]; simp
    have bli := bl i
    generalize S[i]?.getD [] = b at *
    generalize rootL (S.take i) = R at *
    simp [go_sem, hii, md]
    refine ⟨ne, ?_⟩
    refine loop_inv (3 :: 7 :: List.range' 17 10) (fun k : Nat => [(3, .own 2 (R.length + k) (avs (R ++ (b.map (· + 1)).take k))), (17, .int k)]) (fun k => k ≤ b.length) (fun k => b.length - k) 0 (by simp) (by simp [go_sem]) (by simp [go_sem]) ?_
    intro k hk
    by_cases hkb : k < b.length
    · have hki : (k : Int) < b.length := by omega
      have nb : ¬ b = [] := by rintro rfl; simp at hkb
      have ad := avs_drop hkb
      have bx := b2 _ (show b[k]?.getD 0 ∈ b by simp [hkb])
      have tk : (b.map (· + 1)).take (k + 1) = (b.map (· + 1)).take k ++ [b[k]?.getD 0 + 1] := by
        rw [List.take_add_one]; simp [hkb]
      rw [List.getD_eq_getElem?_getD] at ad
      generalize b[k]?.getD 0 = x at *
      simp [go_sem, hki, ad]
      exact ⟨nb, ⟨by omega, by omega⟩, ⟨by omega, by omega, by omega⟩, ⟨by omega, by omega⟩, k + 1, by omega, by omega, Off_reset _ _ _ (by simp), ⟨by omega, by rw [tk, ← List.append_assoc, avs_snoc]⟩, by omega⟩
    · have e : k = b.length := by omega
      subst e
      have hki : ¬ (b.length : Int) < b.length := by omega
      have tk : (b.map (· + 1)).take b.length = b.map (· + 1) := List.take_of_length_le (by simp)
      simp [go_sem, hki, tk]
      exact ⟨⟨by omega, by omega⟩, i + 1, by omega, by omega, (Off.reset (by intro x hx; simp at hx ⊢; omega) (by simp) (by simp [go_sem, Off_reset])), by rw [sn]; simp, by omega⟩
  · have e : i = S.length := by omega
    subst e
    have hii : ¬ (S.length : Int) < S.length := by omega
    rw [List.take_length]
    simp [go_sem, hii]
def cnB (n : Nat) (bs : List (List Int)) (i : Nat) : List (List Int) := (bs.take i).map (canF n) ++ bs.drop i
theorem cnB_zero (n : Nat) (bs : List (List Int)) : cnB n bs 0 = bs := by simp [cnB]
theorem cnB_all (n : Nat) (bs : List (List Int)) : cnB n bs bs.length = bs.map (canF n) := by simp [cnB]
theorem omat_get2 {A : List (List Int)} {k : Nat} (h : k < A.length) : (omat A)[k]? = some (.own 2 (A[k]?.getD []).length (avs (A[k]?.getD []))) := by simp [omat, h]
theorem cnB_at (n : Nat) {bs : List (List Int)} {i : Nat} (hi : i < bs.length) : (omat (cnB n bs i))[i]? = some (.own 2 (bs[i]?.getD []).length (avs (bs[i]?.getD []))) := by
  have h1 : i < (cnB n bs i).length := by simp [cnB]; omega
  rw [omat_get2 h1]
  have e : (cnB n bs i)[i]?.getD [] = bs[i]?.getD [] := by
    unfold cnB
    rw [List.getElem?_append_right (by simp; omega)]; simp [Nat.min_eq_left (Nat.le_of_lt hi)]
  rw [e]
theorem cnB_set (n : Nat) {bs : List (List Int)} {i : Nat} (hi : i < bs.length) (hc : (canF n (bs[i]?.getD [])).length = (bs[i]?.getD []).length) :
    (omat (cnB n bs i)).set i (.own 2 (bs[i]?.getD []).length (avs (canF n (bs[i]?.getD [])))) = omat (cnB n bs (i + 1)) := by
  have h := omat_set (cnB n bs i) i (canF n (bs[i]?.getD []))
  rw [hc] at h
  rw [h]
  congr 1
  unfold cnB
  have e1 : bs.drop i = bs[i]?.getD [] :: bs.drop (i + 1) := by rw [List.drop_eq_getElem_cons hi]; simp [hi]
  have e2 : bs.take (i + 1) = bs.take i ++ [bs[i]?.getD []] := by rw [List.take_add_one]; simp [hi]
  rw [e1, e2, List.map_append, List.set_append_right _ _ (by simp; omega)]
  simp [Nat.min_eq_left (Nat.le_of_lt hi)]
set_option maxRecDepth 100000 in
theorem canonical_c : ∀ (n : Nat) (t : List Int), n ≤ 100 → Lv t → t.length ≤ n → Con Tryz.prog 117 [.sl t.length (avs t)] (.own 2 t.length (avs (canF n t))) := by
  intro n
  induction n with
  | zero => intro t _ h1 h2; have := h1.1; omega
  | succ n ih =>
    intro t hn hLv hl
    have cB := branchesOf_c t (by omega) hLv
    have cn := brs_cnt hLv
    have bo := fun (b : List Int) hb => brs_ok hLv (b := b) hb
    have cI := fun (b : List Int) (hb : b ∈ brs t) => ih b (by omega) (bo b hb).1 (by have := (bo b hb).2; omega)
    have cl := fun (b : List Int) (hb : b ∈ brs t) => canF_len n b (bo b hb).1 (by have := (bo b hb).2; omega)
    have im := fun x (hx : x ∈ insA n (brs t)) => insA_mem hx
    have il : (insA n (brs t)).length = (brs t).length := by have := (insA_perm n (brs t)).length_eq; simpa using this
    have xl : ∀ x ∈ insA n (brs t), x.length ≤ 100 ∧ ∀ y ∈ x, 0 ≤ y ∧ y ≤ 1000 := fun x hx => by
      obtain ⟨b, hb, rfl⟩ := im x hx
      have := (bo b hb).2
      exact ⟨by rw [cl b hb]; omega, fun y hy => by have := canF_val n b y hy; omega⟩
    have cS := sortTrees_c ((brs t).map (canF n)) (insA n (brs t)) (insA_perm n (brs t)).symm (insA_dsc n _) (fun x hx => by have := (xl x hx).1; omega) (by omega)
    have cR := rootOn_c (insA n (brs t)) (by omega) (fun b hb => ⟨by have := (xl b hb).1; omega, (xl b hb).2⟩)
    have rl : (rootL (insA n (brs t))).length = t.length := canF_len (n + 1) t hLv hl
    have e1 : canF (n + 1) t = rootL (insA n (brs t)) := rfl
    rw [e1]
    rw [rl, il] at cR
    rw [List.length_map] at cS
    clear rl e1 xl im
    generalize insA n (brs t) = S at *
    refine con_of_vc Tryz.mixed ⟨6, [], [175], []⟩ Tryz.func117 (by decide) rfl (by simp) (by decide) (by simp [freshOK, freshL, go_sem]) ?_
    rw [Tryz.ntmps117]
    simp [go_sem]
    refine CallVC.of (cB) (by decide) ?_
    simp [go_sem]
    generalize brs t = bs at *
    refine loop_invA (3 :: 4 :: 5 :: 8 :: List.range' 10 11) (4 :: 5 :: List.range' 11 10) (fun i : Nat => [(3, .own 22 bs.length (omat (cnB n bs i))), (8, .bor 3 []), (10, .int i)]) (fun i => i ≤ bs.length) (fun i => bs.length - i) 0 (by intro x i h1 h2; have : i = 3 ∨ i = 8 ∨ i = 10 := (by simp at h1 h2; omega); rcases this with rfl | rfl | rfl <;> rfl) (by intro i h; simp at h ⊢; omega) (by simp) (by simp [go_sem, cnB_zero]) (by simp [go_sem, kl]) ?_
    intro i hi
    by_cases hib : i < bs.length
    · have hii : (i : Int) < bs.length := by omega
      have gt := cnB_at n hib
      have st := cnB_set n hib (cl _ (by simp [hib]))
      have cc := cI (bs[i]?.getD []) (by simp [hib])
      generalize bs[i]?.getD [] = b at *
      simp [go_sem, hii, gt]
      have cbl : i < (cnB n bs i).length := by simp [cnB]; omega
      refine CallVC.of (cc) (by decide) ?_
      simp [go_sem]
      exact ⟨hib, cbl, ⟨by omega, by omega⟩, i + 1, by omega, by omega, Off_reset _ _ _ (by simp), ⟨st, by omega⟩, by simp [kl]⟩
    · have e : i = bs.length := by omega
      subst e
      have hii : ¬ (bs.length : Int) < bs.length := by omega
      rw [cnB_all]
      simp [go_sem, hii]
      refine ⟨_, _, cS, ?_⟩
      simp [go_sem]
      refine CallVC.of (cR) (by decide) ?_
      simp [go_sem]
end Go.Proofs.YtbeekabpflaihaaGreat


namespace Go.Proofs.YtbeekabpflaihaaGreat
open Go.Abs
set_option linter.unusedSectionVars false
set_option linter.unusedVariables false
set_option linter.unusedSimpArgs false
set_option maxHeartbeats 1000000
@[go_sem] theorem klW_bor (W : List Nat) (s : Nat) (p : List Nat) : kl W (.bor s p) = if W.contains s then .any else .bor s p := by rw [kl]
@[go_sem] theorem klW_ptr (W : List Nat) (s : Nat) (p : List Nat) (o : Nat) : kl W (.ptr s p o) = if W.contains s then .any else .ptr s p o := by rw [kl]
end Go.Proofs.YtbeekabpflaihaaGreat


namespace Go.Proofs.YtbeekabpflaihaaGreat
open Go.Abs
set_option linter.unusedSectionVars false
set_option linter.unusedVariables false
set_option linter.unusedSimpArgs false
set_option maxHeartbeats 1000000
end Go.Proofs.YtbeekabpflaihaaGreat


namespace Go.Proofs.YtbeekabpflaihaaGreat
open Go.Abs
set_option linter.unusedSectionVars false
set_option linter.unusedVariables false
set_option linter.unusedSimpArgs false
set_option maxHeartbeats 1000000
end Go.Proofs.YtbeekabpflaihaaGreat


namespace Go.Proofs.YtbeekabpflaihaaGreat
open Go.Abs
set_option linter.unusedSectionVars false
set_option linter.unusedVariables false
set_option linter.unusedSimpArgs false
set_option maxHeartbeats 1000000
end Go.Proofs.YtbeekabpflaihaaGreat


namespace Go.Proofs.YtbeekabpflaihaaGreat
open Go.Abs
set_option linter.unusedSectionVars false
set_option linter.unusedVariables false
set_option linter.unusedSimpArgs false
set_option maxHeartbeats 1000000
theorem cloneRows_c (a : List (List Int)) (hl : a.length ≤ 1048576) (hr : ∀ r ∈ a, r.length ≤ 1048576) :
    Con Tryz.prog 172 [.sl a.length (mat a)] (.own 22 a.length (omat a)) := by
  refine con_of_vc Tryz.mixed ⟨6, [], [], []⟩ Tryz.func172 (by decide) rfl (by simp) (by decide) (by simp [freshOK, freshL, go_sem]) ?_
  rw [Tryz.ntmps172]
  simp [go_sem]
  refine loop_inv (3 :: 5 :: List.range' 9 10) (fun i : Nat => [(3, .own 22 i (omat (a.take i))), (9, .int i)]) (fun i => i ≤ a.length) (fun i => a.length - i) 0 (by simp) (by simp [go_sem, omat_nil]) (by simp [go_sem]) ?_
  intro i hi
  simp [go_sem]
  refine ⟨fun h => ?_, fun h => ?_⟩ <;> simp at h
  · simp [go_sem, mat_drop h]
    refine ⟨⟨h, by rintro rfl; simp at h⟩, ?_⟩
    refine CallVC.of (Clone_c (a[i]?.getD []) (hr _ (by simp [h]))) (by decide) ?_
    simp [go_sem]
    have ht := omat_take a i h
    refine ⟨⟨by omega, by omega, by omega⟩, by omega, i + 1, by omega, by omega, Off_reset _ _ _ (by simp), by rw [ht]; exact ⟨rfl, rfl⟩, by omega⟩
  · have e : i = a.length := by omega
    subst e
    simp [go_sem]
end Go.Proofs.YtbeekabpflaihaaGreat


namespace Go.Proofs.YtbeekabpflaihaaGreat
open Go.Abs Go.Shelf Go.Sort
set_option linter.unusedSectionVars false
set_option linter.unusedVariables false
set_option linter.unusedSimpArgs false
set_option maxHeartbeats 1000000
def ltT (s t : List Int) : Bool := if s.length = t.length then ltL t s else decide (s.length < t.length)
def cmpT (s t : List Int) : Int := if s.length = t.length then cmpL t s else (s.length : Int) - t.length
theorem cmpT_neg (s t : List Int) : decide (cmpT s t < 0) = ltT s t := by
  unfold cmpT ltT
  split
  · exact cmpL_neg t s
  · congr 1; exact propext ⟨fun h => by omega, fun h => by omega⟩
theorem ltT_irr (s : List Int) : ltT s s = false := by unfold ltT; rw [if_pos rfl]; exact ltL_irr s
theorem ltT_trans {a b c : List Int} (h1 : ltT a b = true) (h2 : ltT b c = true) : ltT a c = true := by
  unfold ltT at *
  split at h1 <;> split at h2
  · rw [if_pos (by omega)]; exact ltL_trans h2 h1
  · simp at h2; rw [if_neg (by omega)]; simp; omega
  · simp at h1; rw [if_neg (by omega)]; simp; omega
  · simp at h1 h2; rw [if_neg (by omega)]; simp; omega
theorem ltT_tot {a b : List Int} (e : a ≠ b) (h : ltT a b = false) : ltT b a = true := by
  unfold ltT at *
  split at h
  · rename_i hl
    rw [if_pos hl.symm]; exact ltL_tot (fun x => e x.symm) h
  · rename_i hl
    simp at h; rw [if_neg (fun x => hl x.symm)]; simp; omega
theorem ltT_asym {a b : List Int} (h : ltT a b = true) : ltT b a = false := by
  cases h2 : ltT b a with
  | false => rfl
  | true => have := ltT_trans h h2; rw [ltT_irr] at this; simp at this
def atT (p : List Int) : List (List Int) → Nat
  | [] => 0
  | s :: S => if ltT p s = true then 0 else atT p S + 1
theorem atT_le (p : List Int) : ∀ S, atT p S ≤ S.length
  | [] => by simp [atT]
  | s :: S => by have := atT_le p S; rw [atT]; split <;> simp; omega
def insT (p : List Int) (S : List (List Int)) : List (List Int) := S.take (atT p S) ++ p :: S.drop (atT p S)
@[simp] theorem insT_len (p : List Int) (S : List (List Int)) : (insT p S).length = S.length + 1 := by have := atT_le p S; simp [insT]; omega
theorem insT_mem {p x : List Int} {S : List (List Int)} (h : x ∈ insT p S) : x = p ∨ x ∈ S := by
  rcases List.mem_append.1 h with h | h
  · exact .inr (List.mem_of_mem_take h)
  · rcases List.mem_cons.1 h with h | h
    · exact .inl h
    · exact .inr (List.mem_of_mem_drop h)
theorem insT_perm (p : List Int) (S : List (List Int)) : (insT p S).Perm (p :: S) := by
  unfold insT
  exact List.perm_middle.trans (by rw [List.take_append_drop])
theorem insT_cons (p s : List Int) (S : List (List Int)) : insT p (s :: S) = if ltT p s = true then p :: s :: S else s :: insT p S := by
  unfold insT
  rw [atT]
  split <;> simp
theorem insT_asc (p : List Int) : ∀ {S : List (List Int)}, S.Pairwise (fun a b => ltT b a = false) → (insT p S).Pairwise (fun a b => ltT b a = false)
  | [], _ => by simp [insT, atT]
  | s :: S, h => by
    obtain ⟨h1, h2⟩ := List.pairwise_cons.1 h
    rw [insT_cons]
    split
    · rename_i hs
      refine List.pairwise_cons.2 ⟨fun y hy => ?_, h⟩
      rcases List.mem_cons.1 hy with rfl | hy
      · exact ltT_asym hs
      · cases hp : ltT y p with
        | false => rfl
        | true => have := h1 y hy; rw [ltT_trans hp hs] at this; exact this
    · rename_i hs
      refine List.pairwise_cons.2 ⟨fun y hy => ?_, insT_asc p h2⟩
      rcases insT_mem hy with rfl | hy
      · simpa using hs
      · exact h1 y hy
def srtT (bs : List (List Int)) : List (List Int) := bs.foldl (fun S b => insT b S) []
theorem srtT_snoc (bs : List (List Int)) (b : List Int) : srtT (bs ++ [b]) = insT b (srtT bs) := by simp [srtT]
theorem srtT_asc (bs : List (List Int)) : (srtT bs).Pairwise (fun a b => ltT b a = false) :=
  rev_ind (P := fun bs => (srtT bs).Pairwise (fun a b => ltT b a = false)) List.Pairwise.nil (fun l a h => by rw [srtT_snoc]; exact insT_asc _ h) bs
theorem srtT_perm (bs : List (List Int)) : (srtT bs).Perm bs :=
  rev_ind (P := fun bs => (srtT bs).Perm bs) (List.Perm.refl _) (fun l a h => by
    rw [srtT_snoc]
    refine (insT_perm _ _).trans ((h.cons _).trans ?_)
    exact (List.perm_append_comm (l₁ := [a]) (l₂ := l))) bs
@[simp] theorem srtT_len (bs : List (List Int)) : (srtT bs).length = bs.length := (srtT_perm bs).length_eq
theorem asc_unique {X L : List (List Int)} (hp : X.Perm L) (hX : X.Pairwise (fun a b => ltT b a = false)) (hL : L.Pairwise (fun a b => ltT b a = false)) : X = L :=
  hp.eq_of_pairwise (fun a b _ _ h1 h2 => by
    by_cases e : a = b
    · exact e
    · have := ltT_tot e h2; rw [h1] at this; simp at this) hX hL
theorem swo_asc : SWO (Go.Proofs.ltOf cmpT) := by
  have e : (Go.Proofs.ltOf cmpT) = ltT := by
    funext a b; exact cmpT_neg _ _
  rw [e]
  refine ⟨fun m => ltT_irr _, fun x y z h1 h2 => ltT_trans h1 h2, fun x y z h1 h2 => ?_⟩
  cases h3 : ltT x z with
  | false => rfl
  | true =>
    by_cases e : x = y
    · rw [e] at h3; rw [h3] at h2; exact h2
    · have h4 := ltT_tot e h1
      have := ltT_trans h4 h3
      rw [this] at h2; exact h2
set_option maxRecDepth 100000 in
theorem compareTrees_c [DrawK] (a b : List Int) (ha : a.length ≤ 1000000) (hb : b.length ≤ 1000000) : Con Tryz.prog 174 [.sl a.length (avs a), .sl b.length (avs b)] (.int (cmpT a b)) := by
  unfold cmpT
  by_cases h : a.length = b.length
  · have hi : (a.length : Int) = b.length := by omega
    rw [if_pos h]
    have c := Compare_c b a (by omega) (by omega)
    refine con_of_vc Tryz.mixed ⟨5, [], [], []⟩ Tryz.func174 (by decide) rfl (by simp) (by decide) (by simp [freshOK, freshL, go_sem]) ?_
    rw [Tryz.ntmps174]
    simp [go_sem, hi]
    refine CallVC.of (c) (by decide) ?_
    simp [go_sem]
  · have hi : ¬ (a.length : Int) = b.length := by omega
    rw [if_neg h]
    refine con_of_vc Tryz.mixed ⟨5, [], [], []⟩ Tryz.func174 (by decide) rfl (by simp) (by decide) (by simp [freshOK, freshL, go_sem]) ?_
    rw [Tryz.ntmps174]
    simp [go_sem, hi]
    omega
theorem insTrees_c (X : List (List Int)) (hl : ∀ m ∈ X, m.length ≤ 1000000) (hn : X.length ≤ 1048576) :
    MCon Tryz.prog 235 [.own 22 X.length (omat X), .int 0, .int X.length, .val (.func (.func 174) #[] #[])] (.tup []) [.own 22 X.length (omat (srtT X)), .any, .any, .any] := by
  obtain ⟨ys, h1, h2, h3⟩ := inssort_mcon1 Tryz.insTrees ⟨_, Tryz.func235, by decide, rfl⟩ (fun m : List Int => .own 2 m.length (avs m)) cmpT swo_asc 174 22 (by kernel_rfl) X (by rw [omat_flat]; exact omat_fresh X)
    (fun x hx y hy => by simpa [frz] using @compareTrees_c ⟨1⟩ x y (hl x hx) (hl y hy)) (by omega)
  have e : ys = srtT X := asc_unique (h1.trans (srtT_perm X).symm) (h2.imp fun {a b} h => by
    have := cmpT_neg b a
    rw [← this]; simpa using h) (srtT_asc X)
  subst e
  rw [omat_flat, omat_flat] at h3
  exact h3
set_option maxRecDepth 100000 in
theorem stable_c (X : List (List Int)) (hl : ∀ m ∈ X, m.length ≤ 1000000) (hn : X.length ≤ 19) :
    MCon Tryz.prog 215 [.own 22 X.length (omat X), .int X.length, .val (.func (.func 174) #[] #[])] (.tup []) [.own 22 X.length (omat (srtT X)), .any, .any] := by
  have cI := insTrees_c X hl (by omega)
  have h1 : ¬ (20 : Int) ≤ X.length := by omega
  have h2 : ¬ (20 : Int) < X.length := by omega
  refine mcon_of_vc Tryz.mixed ⟨10, [], [235], []⟩ [] [0] Tryz.func215 (by decide) rfl rfl (by simp) (by simp) (by simp) (by decide) ?_
  rw [Tryz.ntmps215]
  simp [go_sem]
  refine loop_inv (7 :: 8 :: List.range' 11 12) (fun _ : Nat => [(7, .int 0), (8, .int 20)]) (fun _ => True) (fun _ => 0) 0 trivial (by simp [go_sem]) (by simp [go_sem]) ?_
  intro _ _
  simp [go_sem, h1]
  refine ⟨_, _, cI, ?_⟩
  simp [go_sem]
  refine loop_inv ([6, 7, 8, 9] ++ List.range' 28 35) (fun _ : Nat => [(6, .int 20)]) (fun _ => True) (fun _ => 0) 0 trivial (by simp [go_sem]) (by simp [go_sem]) ?_
  intro _ _
  simp [go_sem, h2]
set_option maxRecDepth 100000 in
theorem sortStable_c (X : List (List Int)) (hl : ∀ m ∈ X, m.length ≤ 1000000) (hn : X.length ≤ 19) :
    MCon Tryz.prog 173 [.own 22 X.length (omat X), .val (.func (.func 174) #[] #[])] (.tup []) [.own 22 X.length (omat (srtT X)), .any] := by
  have cI := stable_c X hl hn
  refine mcon_of_vc Tryz.mixed ⟨4, [], [215], []⟩ [] [0] Tryz.func173 (by decide) rfl rfl (by simp) (by simp) (by simp) (by decide) ?_
  rw [Tryz.ntmps173]
  simp [go_sem]
  refine ⟨_, _, cI, ?_⟩
  simp [go_sem]
set_option maxRecDepth 100000 in
theorem forestOf_c (X : List (List Int)) (hl : ∀ m ∈ X, m.length ≤ 1000000) (hn : X.length ≤ 19) :
    Con Tryz.prog 115 [.sl X.length (mat X)] (.own 22 X.length (omat (srtT X))) := by
  have cC := cloneRows_c X (by omega) (fun r h => by have := hl r h; omega)
  have cI := sortStable_c X hl hn
  refine con_of_vc Tryz.mixed ⟨4, [], [173], []⟩ Tryz.func115 (by decide) rfl (by simp) (by decide) (by simp [freshOK, freshL, go_sem]) ?_
  rw [Tryz.ntmps115]
  simp [go_sem]
  refine CallVC.of (cC) (by decide) ?_
  simp [go_sem]
  refine ⟨_, _, cI, ?_⟩
  simp [go_sem]
end Go.Proofs.YtbeekabpflaihaaGreat


namespace Go.Proofs.YtbeekabpflaihaaGreat
open Go.Abs
set_option linter.unusedSectionVars false
set_option linter.unusedVariables false
set_option linter.unusedSimpArgs false
set_option maxHeartbeats 2000000
set_option maxRecDepth 100000 in
theorem slEqual_c (a b : List Int) (ha : a.length ≤ 9223372036854775807) : Con Tryz.prog 118 [.sl a.length (avs a), .sl b.length (avs b)] (.bool (decide (a = b))) := by
  by_cases hl : a.length = b.length
  · have hi : (a.length : Int) = b.length := by omega
    refine con_of_vc Tryz.mixed ⟨7, [], [], []⟩ Tryz.func118 (by decide) rfl (by simp) (by decide) (by simp [freshOK, freshL, go_sem]) ?_
    rw [Tryz.ntmps118]
    simp [go_sem, hi]
    refine loop_inv (4 :: 5 :: List.range' 13 13) (fun i : Nat => [(13, .int i)]) (fun i => i ≤ b.length ∧ a.take i = b.take i) (fun i => b.length - i) 0 (by simp) (by simp [go_sem]) (by simp [go_sem]) ?_
    intro i hi
    simp [go_sem]
    refine ⟨fun h => ?_, fun h => ?_⟩ <;> simp at h
    · have h2 : i < a.length := by omega
      simp [go_sem, avs_drop h, avs_drop h2]
      refine ⟨by kernel_rfl, ⟨h2, by rintro rfl; simp at h2⟩, ⟨h, by rintro rfl; simp at h⟩, ?_⟩
      refine ⟨by kernel_rfl, ?_⟩
      simp [go_sem]
      refine ⟨fun h3 => ?_, fun h3 => ?_⟩ <;> simp at h3 <;> simp [go_sem]
      · rintro rfl; exact h3 rfl
      · refine ⟨by omega, i + 1, ⟨by omega, ?_⟩, by omega, Off_reset _ _ _ (by simp), by omega⟩
        rw [List.take_add_one, List.take_add_one, hi.2]
        rw [List.getElem?_eq_getElem h, List.getElem?_eq_getElem h2] at h3 ⊢
        simp only [Option.getD_some] at h3
        rw [h3]
    · simp [go_sem]
      have e : i = b.length := by omega
      subst e
      have := hi.2
      rw [List.take_length, ← hl, List.take_length] at this
      exact this
  · have e : decide (a = b) = false := by
      rw [decide_eq_false_iff_not]; intro h; exact hl (by rw [h])
    rw [e]
    have hi : ¬ (a.length : Int) = b.length := by omega
    refine con_of_vc Tryz.mixed ⟨7, [], [], []⟩ Tryz.func118 (by decide) rfl (by simp) (by decide) (by simp [freshOK, freshL, go_sem]) ?_
    rw [Tryz.ntmps118]
    simp [go_sem, hi]
end Go.Proofs.YtbeekabpflaihaaGreat


namespace Go.Proofs.YtbeekabpflaihaaGreat
open Go.Abs
set_option linter.unusedSectionVars false
set_option linter.unusedVariables false
set_option linter.unusedSimpArgs false
set_option maxHeartbeats 2000000
def runT (l : List (List Int)) (i : Nat) (s : Int) : Int := if 0 < i ∧ l[i - 1]?.getD [] ≠ l[i]?.getD [] then 1 else s + 1
def symP (g : List Int → Int) (l : List (List Int)) : Nat → Int × Int
  | 0 => (1, 0)
  | i + 1 => ((symP g l i).1 * (runT l i (symP g l i).2 * g (l[i]?.getD [])), runT l i (symP g l i).2)
def symF : Nat → List Int → Int
  | 0, _ => 1
  | n + 1, t => (symP (symF n) (srtT (brs (canF (n + 1) t))) (srtT (brs (canF (n + 1) t))).length).1
def okS : Nat → List Int → Bool
  | 0, _ => false
  | n + 1, t => lv0 t && decide (t.length ≤ n + 1) && lv0 (canF (n + 1) t) && decide ((srtT (brs (canF (n + 1) t))).length ≤ 19) &&
      (srtT (brs (canF (n + 1) t))).all (fun b => okS n b && decide (0 ≤ symF n b ∧ symF n b ≤ 1000000)) &&
      (List.range ((srtT (brs (canF (n + 1) t))).length + 1)).all fun i => decide (0 ≤ (symP (symF n) (srtT (brs (canF (n + 1) t))) i).1 ∧ (symP (symF n) (srtT (brs (canF (n + 1) t))) i).1 ≤ 1000000 ∧ 0 ≤ (symP (symF n) (srtT (brs (canF (n + 1) t))) i).2 ∧ (symP (symF n) (srtT (brs (canF (n + 1) t))) i).2 ≤ 100)
theorem okS_spec {n : Nat} {t : List Int} (h : okS (n + 1) t = true) : Lv t ∧ t.length ≤ n + 1 ∧ Lv (canF (n + 1) t) ∧ (srtT (brs (canF (n + 1) t))).length ≤ 19 ∧
    (∀ b ∈ srtT (brs (canF (n + 1) t)), okS n b = true ∧ 0 ≤ symF n b ∧ symF n b ≤ 1000000) ∧
    ∀ i, i ≤ (srtT (brs (canF (n + 1) t))).length → 0 ≤ (symP (symF n) (srtT (brs (canF (n + 1) t))) i).1 ∧ (symP (symF n) (srtT (brs (canF (n + 1) t))) i).1 ≤ 1000000 ∧ 0 ≤ (symP (symF n) (srtT (brs (canF (n + 1) t))) i).2 ∧ (symP (symF n) (srtT (brs (canF (n + 1) t))) i).2 ≤ 100 := by
  unfold okS at h
  simp only [Bool.and_eq_true, decide_eq_true_eq, List.all_eq_true] at h
  obtain ⟨⟨⟨⟨⟨h1, h2⟩, h3⟩, h4⟩, h5⟩, h6⟩ := h
  exact ⟨lv0_Lv h1, h2, lv0_Lv h3, h4, fun b hb => h5 b hb, fun i hi => h6 i (by simpa using Nat.lt_succ_of_le hi)⟩
theorem okS_len : ∀ {n : Nat} {t : List Int}, okS n t = true → t.length ≤ n
  | 0, t, h => by simp [okS] at h
  | n + 1, t, h => (okS_spec h).2.1
set_option maxRecDepth 100000 in
theorem symmetry_c : ∀ (n : Nat) (t : List Int), n ≤ 100 → okS n t = true → Con Tryz.prog 52 [.sl t.length (avs t)] (.int (symF n t))
  | 0, t, _, h => by simp [okS] at h
  | n + 1, t, hn, h => by
    obtain ⟨hLv, hl, hcv, hk, hb, hp⟩ := okS_spec h
    have ih := fun b (h : b ∈ srtT (brs (canF (n + 1) t))) => symmetry_c n b (by omega) (hb b h).1
    have hlen := fun b (h : b ∈ srtT (brs (canF (n + 1) t))) => okS_len (hb b h).1
    have cC := canonical_c (n + 1) t hn hLv hl
    have cl := canF_len (n + 1) t hLv hl
    have cB := branchesOf_c (canF (n + 1) t) (by omega) hcv
    rw [cl] at cB
    have cF := forestOf_c (brs (canF (n + 1) t)) (fun m hm => by have := hlen m ((srtT_perm _).mem_iff.2 hm); omega) (by have := hk; rw [srtT_len] at this; exact this)
    have sl := srtT_len (brs (canF (n + 1) t))
    rw [← sl] at cF cB
    have e1 : symF (n + 1) t = (symP (symF n) (srtT (brs (canF (n + 1) t))) (srtT (brs (canF (n + 1) t))).length).1 := rfl
    rw [e1]
    clear e1 sl cl
    generalize canF (n + 1) t = u at *
    generalize srtT (brs u) = l at *
    refine con_of_vc Tryz.mixed ⟨8, [11], [], []⟩ Tryz.func52 (by decide) rfl (by simp) (by decide) (by simp [freshOK, freshL, go_sem]) ?_
    rw [Tryz.ntmps52]
    simp [go_sem]
    refine CallVC.of (cC) (by decide) ?_
    simp [go_sem]
    refine CallVC.of (cB) (by decide) ?_
    simp [go_sem]
    refine CallVC.of (cF) (by decide) ?_
    simp [go_sem]
    refine loop_inv ([3, 5, 6, 7] ++ List.range' 14 26) (fun i : Nat => [(3, .int (symP (symF n) l i).1), (5, .int (symP (symF n) l i).2), (14, .int i)]) (fun i => i ≤ l.length) (fun i => l.length - i) 0 (by simp) (by simp [go_sem, symP]) (by simp [go_sem]) ?_
    intro i hi
    simp [go_sem]
    refine ⟨fun h => ?_, fun h => ?_⟩ <;> simp at h
    · have h0 := hp i hi
      have h1 := hp (i + 1) (by omega)
      have hm : l[i]?.getD [] ∈ l := by simp [h]
      have cS := ih _ hm
      have lS := hlen _ hm
      have gS := (hb _ hm).2
      have s1 : (symP (symF n) l (i + 1)).1 = (symP (symF n) l i).1 * (runT l i (symP (symF n) l i).2 * symF n (l[i]?.getD [])) := rfl
      have s2 : (symP (symF n) l (i + 1)).2 = runT l i (symP (symF n) l i).2 := rfl
      rw [s1, s2] at h1
      have hd := mat_drop h
      rw [s1.symm.trans rfl] at h1
      have pr : ∀ r g : Int, 0 ≤ r → r ≤ 100 → 0 ≤ g → g ≤ 1000000 → 0 ≤ r * g ∧ r * g ≤ 100000000 := fun r g a1 a2 a3 a4 => ⟨Int.mul_nonneg a1 a3, by have := Int.mul_le_mul a2 a4 a3 (by omega); omega⟩
      have q := pr _ _ h1.2.2.1 h1.2.2.2 gS.1 gS.2
      by_cases h00 : i = 0
      · subst h00
        have e : runT l 0 (symP (symF n) l 0).2 = (symP (symF n) l 0).2 + 1 := by unfold runT; rw [if_neg (by omega)]
        rw [e] at s1 s2 h1 q
        rw [s1] at h1
        generalize hO : (symP (symF n) l (0 + 1)).1 = o2 at *
        generalize hS : (symP (symF n) l (0 + 1)).2 = s2' at *
        generalize (symP (symF n) l 0).1 = o at *
        generalize (symP (symF n) l 0).2 = s at *
        generalize symF n (l[0]?.getD []) = g at *
        generalize l[0]?.getD [] = b at *
        have ne : ¬ l = [] := by rintro rfl; simp at h
        simp [go_sem, hd]
        refine ⟨⟨by omega, ne⟩, ⟨by omega, by omega⟩, ?_⟩
        refine CallVC.of (cS) (by decide) ?_
        simp [go_sem]
        refine ⟨⟨by omega, by omega⟩, ⟨by omega, by omega⟩, 0 + 1, by omega, by omega, Off_reset _ _ _ (by simp), ?_⟩
        rw [hO, hS, s1, s2]
        exact ⟨rfl, rfl, by omega⟩
      · obtain ⟨j, rfl⟩ : ∃ j, i = j + 1 := ⟨i - 1, by omega⟩
        have hj : j < l.length := by omega
        have hdj := mat_drop hj
        have hmj : l[j]?.getD [] ∈ l := by simp [hj]
        have lSj := hlen _ hmj
        have cE := slEqual_c (l[j]?.getD []) (l[j + 1]?.getD []) (by omega)
        have e : runT l (j + 1) (symP (symF n) l (j + 1)).2 = if l[j]?.getD [] = l[j + 1]?.getD [] then (symP (symF n) l (j + 1)).2 + 1 else 1 := by
          unfold runT
          rw [show j + 1 - 1 = j by omega]
          by_cases x : l[j]?.getD [] = l[j + 1]?.getD []
          · rw [if_neg (by simp [x]), if_pos x]
          · rw [if_pos ⟨by omega, x⟩, if_neg x]
        rw [e] at s1 s2 h1 q
        rw [s1] at h1
        generalize hO : (symP (symF n) l (j + 1 + 1)).1 = o2 at *
        generalize hS : (symP (symF n) l (j + 1 + 1)).2 = s2' at *
        generalize (symP (symF n) l (j + 1)).1 = o at *
        generalize (symP (symF n) l (j + 1)).2 = s at *
        generalize symF n (l[j + 1]?.getD []) = g at *
        generalize l[j + 1]?.getD [] = b at *
        generalize l[j]?.getD [] = b0 at *
        have hj1 : (0 : Int) < j + 1 := by omega
        have ne : ¬ l = [] := by rintro rfl; simp at h
        by_cases x : b0 = b
        · rw [decide_eq_true x] at cE
          rw [if_pos x] at s1 s2 h1 q
          simp [go_sem, hd, hdj, hj1]
          refine ⟨⟨by omega, by omega, ne⟩, ⟨by omega, by omega⟩, by omega, ⟨hj, ne⟩, ?_⟩
          refine CallVC.of (cE) (by decide) ?_
          simp [go_sem]
          refine CallVC.of (cS) (by decide) ?_
          simp [go_sem]
          refine ⟨⟨by omega, by omega⟩, ⟨by omega, by omega⟩, ⟨by omega, by omega⟩, j + 1 + 1, by omega, by omega, Off_reset _ _ _ (by simp), ?_⟩
          rw [hO, hS, s1, s2]
          exact ⟨rfl, rfl, by omega⟩
        · rw [decide_eq_false x] at cE
          rw [if_neg x] at s1 s2 h1 q
          rw [Int.one_mul] at s1 h1 q
          simp [go_sem, hd, hdj, hj1]
          refine ⟨⟨by omega, by omega, ne⟩, ⟨by omega, by omega⟩, by omega, ⟨hj, ne⟩, ?_⟩
          refine CallVC.of (cE) (by decide) ?_
          simp [go_sem]
          refine CallVC.of (cS) (by decide) ?_
          simp [go_sem]
          refine ⟨⟨by omega, by omega⟩, ⟨by omega, by omega⟩, ⟨by omega, by omega⟩, j + 1 + 1, by omega, by omega, Off_reset _ _ _ (by simp), ?_⟩
          rw [hO, hS, s1, s2]
          exact ⟨rfl, rfl, by omega⟩
    · have e : i = l.length := by omega
      subst e
      simp [go_sem]
end Go.Proofs.YtbeekabpflaihaaGreat


namespace Go.Proofs.YtbeekabpflaihaaGreat
open Go.Abs
set_option linter.unusedSectionVars false
set_option linter.unusedVariables false
set_option linter.unusedSimpArgs false
set_option maxHeartbeats 2000000
set_option maxRecDepth 100000 in
theorem l03Before_c (a b : List Int) (ha : a.length ≤ 1000000) (hb : b.length ≤ 1000000) : Con Tryz.prog 233 [.sl a.length (avs a), .sl b.length (avs b)] (.bool (ltT a b)) := by
  unfold ltT
  have c := l01Less_c b a (by omega) (by omega)
  by_cases h : a.length = b.length
  · have hi : (a.length : Int) = b.length := by omega
    rw [if_pos h]
    refine con_of_vc Tryz.mixed ⟨5, [], [], []⟩ Tryz.func233 (by decide) rfl (by simp) (by decide) (by simp [freshOK, freshL, go_sem]) ?_
    rw [Tryz.ntmps233]
    simp [go_sem, hi]
    refine CallVC.of (c) (by decide) ?_
    simp [go_sem]
  · have hi : ¬ (a.length : Int) = b.length := by omega
    rw [if_neg h]
    refine con_of_vc Tryz.mixed ⟨5, [], [], []⟩ Tryz.func233 (by decide) rfl (by simp) (by decide) (by simp [freshOK, freshL, go_sem]) ?_
    rw [Tryz.ntmps233]
    simp [go_sem, hi]
set_option maxRecDepth 100000 in
theorem l03Sort_c (bs : List (List Int)) (hl : ∀ b ∈ bs, b.length ≤ 1000000) (hn : bs.length ≤ 1000) : GCon Tryz.prog 212 [.sl bs.length (mat bs)] (.sl bs.length (mat (srtT bs))) [.any] := by
  refine gcon_of_vc Tryz.mixed ⟨7, [7, 36, 48], [], []⟩ [2] [] Tryz.func212 (by decide) rfl rfl (by simp) (by simp) (by decide) ?_
  rw [Tryz.ntmps212]
  simp [go_sem]
  refine loop_inv ([3, 4, 5, 6] ++ List.range' 8 41) (fun i : Nat => [(3, .sl i (mat (srtT (bs.take i)))), (4, .int i)]) (fun i => i ≤ bs.length) (fun i => bs.length - i) 0 (by simp) (by simp [go_sem, srtT, mat]) (by simp [go_sem]) ?_
  intro i hi
  simp [go_sem]
  refine ⟨fun h => ?_, fun h => ?_⟩ <;> simp at h
  · have hif : i < bs.length := by omega
    have hb := memD [] hif
    have ht : srtT (bs.take (i + 1)) = insT (bs[i]?.getD []) (srtT (bs.take i)) := by
      rw [List.take_add_one, List.getElem?_eq_getElem hif, Option.toList_some, srtT_snoc]; rfl
    have l1 := hl _ hb
    have sl : ∀ s ∈ srtT (bs.take i), s.length ≤ 1000000 := fun s hs => hl s (List.mem_of_mem_take ((srtT_perm _).mem_iff.1 hs))
    have il : (srtT (bs.take i)).length = i := by rw [srtT_len]; simp; omega
    have mi := mat_drop hif
    have neb : ¬ bs = [] := by rintro rfl; simp at hif
    generalize hN : srtT (bs.take (i + 1)) = S2 at *
    generalize srtT (bs.take i) = S at *
    generalize bs[i]?.getD [] = p at *
    have cO := l01Own_c p (by omega)
    subst il
    simp [go_sem]
    refine loop_inv (5 :: List.range' 14 18) (fun a : Nat => [(5, .int a)]) (fun a => a ≤ S.length ∧ atT p S = a + atT p (S.drop a)) (fun a => S.length - a) 0 (by simp) (by simp [go_sem]) (by simp [go_sem]) ?_
    rintro a ⟨ha, hat⟩
    by_cases has : a < S.length
    · have has' : (a : Int) < S.length := by omega
      have hd : S.drop a = S[a]?.getD [] :: S.drop (a + 1) := by rw [List.drop_eq_getElem_cons has]; simp [has]
      rw [hd, atT] at hat
      have hg := mat_drop has
      have hsl := sl _ (memD [] has)
      have neS : ¬ S = [] := by rintro rfl; simp at has
      have cL := l03Before_c p (S[a]?.getD []) (by omega) (by omega)
      by_cases hlt : ltT p (S[a]?.getD []) = true
      · rw [if_pos hlt] at hat
        rw [hlt] at cL
        have hS2 : S2 = S.take a ++ p :: S.drop a := by rw [ht, insT, hat, Nat.add_zero]
        simp [go_sem, has', hg, mi]
        refine ⟨by kernel_rfl, ⟨hif, neb⟩, neS, ?_⟩
        refine CallD.of (cL) (by simp [roots, rootsL]) (by decide) ?_
        simp [go_sem]
        refine ⟨by kernel_rfl, ?_⟩
        simp [go_sem]
        simp [go_sem, mi, mat_dropL, mat_takeL, mat_noown]
        refine ⟨by kernel_rfl, ⟨hif, neb⟩, ?_⟩
        refine CallD.of (cO) (by simp [roots, rootsL, frz, frzL]) (by decide) ?_
        simp [go_sem]
        simp [go_sem, mat_dropL, mat_takeL, mat_noown]
        refine ⟨by omega, ⟨by omega, by omega⟩, ?_⟩
        refine ⟨by kernel_rfl, ?_⟩
        simp [go_sem]
        simp [go_sem, mat_dropL, mat_takeL, mat_noown]
        refine ⟨by omega, ⟨by omega, by omega⟩, ⟨by omega, by omega, by omega, by omega⟩, ⟨by omega, by omega⟩, S.length + 1, by omega, by omega, (by repeat (first | exact Off_reset _ _ _ (by simp) | (refine Off.reset (by intro x hx; simp at hx ⊢; omega) (by simp) ?_; simp -failIfUnchanged [go_sem, Off_reset]))), ⟨by omega, ?_⟩, by omega⟩
        rw [hN, hS2, show (S.drop a).take (S.length - a) = S.drop a from List.take_of_length_le (by simp), ← mat_frz (S.take a ++ p :: S.drop a), mat_app]; rfl
      · rw [if_neg hlt] at hat
        have hlf : ltT p (S[a]?.getD []) = false := by simpa using hlt
        rw [hlf] at cL
        simp [go_sem, has', hg, mi]
        refine ⟨by kernel_rfl, ⟨hif, neb⟩, neS, ?_⟩
        refine CallD.of (cL) (by simp [roots, rootsL]) (by decide) ?_
        simp [go_sem]
        refine ⟨by kernel_rfl, ?_⟩
        simp [go_sem]
        exact ⟨by omega, a + 1, ⟨by omega, by omega⟩, by omega, Off_reset _ _ _ (by simp), by omega⟩
    · have has' : ¬ (a : Int) < S.length := by omega
      have hd : S.drop a = [] := List.drop_eq_nil_of_le (by omega)
      rw [hd, atT] at hat
      have hS2 : S2 = S.take a ++ p :: S.drop a := by rw [ht, insT, hat, Nat.add_zero]
      simp [go_sem, has']
      refine ⟨by kernel_rfl, ?_⟩
      refine ⟨by kernel_rfl, ?_⟩
      simp [go_sem]
      simp [go_sem, mi, mat_dropL, mat_takeL, mat_noown]
      refine ⟨by kernel_rfl, ⟨hif, neb⟩, ?_⟩
      refine CallD.of (cO) (by simp [roots, rootsL, frz, frzL]) (by decide) ?_
      simp [go_sem]
      simp [go_sem, mat_dropL, mat_takeL, mat_noown]
      refine ⟨by omega, ⟨by omega, by omega⟩, ?_⟩
      refine ⟨by kernel_rfl, ?_⟩
      simp [go_sem]
      simp [go_sem, mat_dropL, mat_takeL, mat_noown]
      refine ⟨by omega, ⟨by omega, by omega⟩, ⟨by omega, by omega, by omega, by omega⟩, ⟨by omega, by omega⟩, S.length + 1, by omega, by omega, (by repeat (first | exact Off_reset _ _ _ (by simp) | (refine Off.reset (by intro x hx; simp at hx ⊢; omega) (by simp) ?_; simp -failIfUnchanged [go_sem, Off_reset]))), ⟨by omega, ?_⟩, by omega⟩
      rw [hN, hS2, show (S.drop a).take (S.length - a) = S.drop a from List.take_of_length_le (by simp), ← mat_frz (S.take a ++ p :: S.drop a), mat_app]; rfl
  · have e : i = bs.length := by omega
    subst e
    rw [List.take_length]
    simp [go_sem]
set_option maxRecDepth 100000 in
theorem l03Branches_c (n : Nat) (t : List Int) (hn : n ≤ 1000) (h : Lv t) (hl : t.length ≤ n) (hc : Lv (canF n t)) (hk : (srtT (brs (canF n t))).length ≤ 19) (hm : ∀ m ∈ srtT (brs (canF n t)), m.length ≤ 1000000) :
    GCon Tryz.prog 165 [.sl t.length (avs t)] (.sl (srtT (brs (canF n t))).length (mat (srtT (brs (canF n t))))) [.any] := by
  have cC := l03Canon_c n t hn h hl
  have cl := canF_len n t h hl
  have cB := l03Parts_c (canF n t) (by omega) hc
  have cS := l03Sort_c (brs (canF n t)) (fun m h => hm m ((srtT_perm _).mem_iff.2 h)) (by rw [srtT_len] at hk; omega)
  have sl := srtT_len (brs (canF n t))
  rw [← sl] at cB cS
  rw [cl] at cB
  clear cl sl
  generalize canF n t = u at *
  generalize srtT (brs u) = l at *
  refine gcon_of_vc Tryz.mixed ⟨3, [5], [1000000 + 212], []⟩ [2] [] Tryz.func165 (by decide) rfl rfl (by simp) (by simp) (by decide) ?_
  rw [Tryz.ntmps165]
  simp [go_sem]
  refine CallVC.of (cC) (by decide) ?_
  simp [go_sem]
  refine CallVC.of (cB) (by decide) ?_
  simp [go_sem]
  refine ⟨_, _, cS, ?_⟩
  simp [go_sem]
set_option maxRecDepth 100000 in
theorem l03Symmetry_c : ∀ (n : Nat) (t : List Int), n ≤ 100 → okS n t = true → Con Tryz.prog 104 [.sl t.length (avs t)] (.int (symF n t))
  | 0, t, _, h => by simp [okS] at h
  | n + 1, t, hn, h => by
    obtain ⟨hLv, hl, hcv, hk, hb, hp⟩ := okS_spec h
    have ih := fun b (h : b ∈ srtT (brs (canF (n + 1) t))) => l03Symmetry_c n b (by omega) (hb b h).1
    have hlen := fun b (h : b ∈ srtT (brs (canF (n + 1) t))) => okS_len (hb b h).1
    have cF := l03Branches_c (n + 1) t (by omega) hLv hl hcv hk (fun m hm => by have := hlen m hm; omega)
    have e1 : symF (n + 1) t = (symP (symF n) (srtT (brs (canF (n + 1) t))) (srtT (brs (canF (n + 1) t))).length).1 := rfl
    rw [e1]
    clear e1 hcv
    generalize srtT (brs (canF (n + 1) t)) = l at *
    refine con_of_vc Tryz.mixed ⟨7, [], [1000000 + 165], []⟩ Tryz.func104 (by decide) rfl (by simp) (by decide) (by simp [freshOK, freshL, go_sem]) ?_
    rw [Tryz.ntmps104]
    simp [go_sem]
    refine ⟨_, _, cF, ?_⟩
    simp [go_sem]
    refine loop_inv ([4, 5, 6] ++ List.range' 9 32) (fun i : Nat => [(4, .int (symP (symF n) l i).1), (5, .int (symP (symF n) l i).2), (6, .int i)]) (fun i => i ≤ l.length) (fun i => l.length - i) 0 (by simp) (by simp [go_sem, symP]) (by simp [go_sem]) ?_
    intro i hi
    simp [go_sem]
    refine ⟨fun h => ?_, fun h => ?_⟩ <;> simp at h
    · have h0 := hp i hi
      have h1 := hp (i + 1) (by omega)
      have hm : l[i]?.getD [] ∈ l := by simp [h]
      have cS := ih _ hm
      have lS := hlen _ hm
      have gS := (hb _ hm).2
      have s1 : (symP (symF n) l (i + 1)).1 = (symP (symF n) l i).1 * runT l i (symP (symF n) l i).2 * symF n (l[i]?.getD []) := (Int.mul_assoc _ _ _).symm
      have s2 : (symP (symF n) l (i + 1)).2 = runT l i (symP (symF n) l i).2 := rfl
      rw [s2] at h1
      have hd := mat_drop h
      have pr : ∀ r g : Int, 0 ≤ r → r ≤ 1000000 → 0 ≤ g → g ≤ 100 → 0 ≤ r * g ∧ r * g ≤ 100000000 := fun r g a1 a2 a3 a4 => ⟨Int.mul_nonneg a1 a3, by have := Int.mul_le_mul a2 a4 a3 (by omega); omega⟩
      have q := pr _ _ h0.1 h0.2.1 h1.2.2.1 h1.2.2.2
      have ne : ¬ l = [] := by rintro rfl; simp at h
      rw [s1] at h1
      by_cases h00 : i = 0
      · subst h00
        have e : runT l 0 (symP (symF n) l 0).2 = (symP (symF n) l 0).2 + 1 := by unfold runT; rw [if_neg (by omega)]
        rw [e] at s1 s2 h1 q
        have z1 : (symP (symF n) l 0).1 = 1 := rfl
        have z2 : (symP (symF n) l 0).2 = 0 := rfl
        simp only [z1, z2, Int.zero_add, Int.one_mul] at s1 s2 h1 q
        generalize hO : (symP (symF n) l (0 + 1)).1 = o2 at *
        generalize hS : (symP (symF n) l (0 + 1)).2 = s2' at *
        generalize symF n (l[0]?.getD []) = g at *
        generalize l[0]?.getD [] = b at *
        rw [List.drop_zero] at hd
        simp [go_sem, z1, z2]
        refine ⟨by kernel_rfl, ?_⟩
        refine ⟨by kernel_rfl, ?_⟩
        simp [go_sem]
        rw [hd]
        simp [go_sem]
        refine ⟨⟨by omega, ne⟩, ?_⟩
        refine CallVC.of (cS) (by decide) ?_
        simp [go_sem]
        exact ⟨⟨by omega, by omega⟩, 0 + 1, by omega, by omega, Off_reset _ _ _ (by simp), by rw [hO, s1], by rw [hS, s2], by omega⟩
      · obtain ⟨j, rfl⟩ : ∃ j, i = j + 1 := ⟨i - 1, by omega⟩
        have hj : j < l.length := by omega
        have hdj := mat_drop hj
        have hmj : l[j]?.getD [] ∈ l := by simp [hj]
        have lSj := hlen _ hmj
        have cE := l01Same_c (l[j + 1]?.getD []) (l[j]?.getD []) (by omega)
        have e : runT l (j + 1) (symP (symF n) l (j + 1)).2 = if l[j + 1]?.getD [] = l[j]?.getD [] then (symP (symF n) l (j + 1)).2 + 1 else 1 := by
          unfold runT
          rw [show j + 1 - 1 = j by omega]
          by_cases x : l[j]?.getD [] = l[j + 1]?.getD []
          · rw [if_neg (by simp [x]), if_pos x.symm]
          · rw [if_pos ⟨by omega, x⟩, if_neg (fun y => x y.symm)]
        rw [e] at s1 s2 h1 q
        generalize hO : (symP (symF n) l (j + 1 + 1)).1 = o2 at *
        generalize hS : (symP (symF n) l (j + 1 + 1)).2 = s2' at *
        generalize (symP (symF n) l (j + 1)).1 = o at *
        generalize (symP (symF n) l (j + 1)).2 = s at *
        generalize symF n (l[j + 1]?.getD []) = g at *
        generalize l[j + 1]?.getD [] = b at *
        generalize l[j]?.getD [] = b0 at *
        have hj1 : ¬ (j : Int) + 1 = 0 := by omega
        by_cases x : b = b0
        · rw [decide_eq_true x] at cE
          rw [if_pos x] at s1 s2 h1 q
          simp [go_sem, hd, hdj, hj1]
          refine ⟨⟨by omega, by omega⟩, by kernel_rfl, ⟨by omega, by omega, ne⟩, by omega, ⟨hj, ne⟩, ?_⟩
          refine CallD.of (cE) (by simp [roots, rootsL]) (by decide) ?_
          simp [go_sem]
          refine ⟨by kernel_rfl, ?_⟩
          simp [go_sem]
          simp [go_sem, hd]
          refine ⟨⟨by omega, by omega⟩, ⟨by omega, by omega, ne⟩, ?_⟩
          refine CallVC.of (cS) (by decide) ?_
          simp [go_sem]
          exact ⟨⟨by omega, by omega⟩, ⟨by omega, by omega⟩, j + 1 + 1, by omega, by omega, Off_reset _ _ _ (by simp), by rw [hO, s1], by rw [hS, s2], by omega⟩
        · rw [decide_eq_false x] at cE
          rw [if_neg x] at s1 s2 h1 q
          rw [Int.mul_one] at s1 h1 q
          simp [go_sem, hd, hdj, hj1]
          refine ⟨⟨by omega, by omega⟩, by kernel_rfl, ⟨by omega, by omega, ne⟩, by omega, ⟨hj, ne⟩, ?_⟩
          refine CallD.of (cE) (by simp [roots, rootsL]) (by decide) ?_
          simp [go_sem]
          refine ⟨by kernel_rfl, ?_⟩
          simp [go_sem]
          simp [go_sem, hd]
          refine ⟨⟨by omega, by omega⟩, ⟨by omega, by omega, ne⟩, ?_⟩
          refine CallVC.of (cS) (by decide) ?_
          simp [go_sem]
          exact ⟨⟨by omega, by omega⟩, ⟨by omega, by omega⟩, j + 1 + 1, by omega, by omega, Off_reset _ _ _ (by simp), by rw [hO, s1], by rw [hS, s2], by omega⟩
    · have e : i = l.length := by omega
      subst e
      simp [go_sem]
end Go.Proofs.YtbeekabpflaihaaGreat


namespace Go.Proofs.YtbeekabpflaihaaGreat
open Go.Abs
set_option linter.unusedSectionVars false
set_option linter.unusedVariables false
set_option linter.unusedSimpArgs false
set_option maxHeartbeats 2000000
def mapB (a : List Int) : Bool := decide (a.length = 38) && numsB a
set_option maxRecDepth 100000 in
theorem IsMap_c (a : List Int) (ha : a.length ≤ 9223372036854775807) : Con Tryz.prog 45 [.sl a.length (avs a)] (.bool (mapB a)) := by
  have cN := areNumbers_c a ha
  unfold mapB
  by_cases h : a.length = 38
  · have hi : (a.length : Int) = 38 := by omega
    rw [decide_eq_true h]
    refine con_of_vc Tryz.mixed ⟨3, [], [], []⟩ Tryz.func45 (by decide) rfl (by simp) (by decide) (by simp [freshOK, freshL, go_sem]) ?_
    rw [Tryz.ntmps45]
    simp [go_sem, hi]
    refine CallVC.of (cN) (by decide) ?_
    simp [go_sem]
  · have hi : ¬ (a.length : Int) = 38 := by omega
    rw [decide_eq_false h]
    refine con_of_vc Tryz.mixed ⟨3, [], [], []⟩ Tryz.func45 (by decide) rfl (by simp) (by decide) (by simp [freshOK, freshL, go_sem]) ?_
    rw [Tryz.ntmps45]
    simp [go_sem, hi]
end Go.Proofs.YtbeekabpflaihaaGreat


namespace Go.Proofs.YtbeekabpflaihaaGreat
open Go.Abs
set_option linter.unusedSectionVars false
set_option linter.unusedVariables false
set_option linter.unusedSimpArgs false
set_option maxHeartbeats 1000000
end Go.Proofs.YtbeekabpflaihaaGreat


namespace Go.Proofs.YtbeekabpflaihaaGreat
open Go.Abs
set_option linter.unusedSectionVars false
set_option linter.unusedVariables false
set_option linter.unusedSimpArgs false
set_option maxHeartbeats 4000000
end Go.Proofs.YtbeekabpflaihaaGreat


namespace Go.Proofs.YtbeekabpflaihaaGreat
open Go.Abs
set_option linter.unusedSectionVars false
set_option linter.unusedVariables false
set_option linter.unusedSimpArgs false
set_option maxHeartbeats 1000000
def pF (t : List Int) : Nat → Option Nat
  | 0 => none
  | j + 1 => if t[j]?.getD 0 ≤ 1 then pF t j else some j
def qF (t : List Int) (v : Int) : Nat → Option Nat
  | 0 => none
  | j + 1 => if t[j]?.getD 0 = v then some j else qF t v j
def fiS (t : List Int) (d p : Nat) : Nat → List Int
  | 0 => t
  | k + 1 => (fiS t d p k).set (p + k) ((fiS t d p k)[p + k - d]?.getD 0)
@[simp] theorem fiS_len (t : List Int) (d p : Nat) : ∀ k, (fiS t d p k).length = t.length
  | 0 => rfl
  | k + 1 => by simp [fiS, fiS_len t d p k]
def genT : Nat → List Int → List (List Int)
  | 0, _ => []
  | k + 1, t => t :: match pF t t.length with
    | none => []
    | some p => match qF t (t[p]?.getD 0 - 1) p with
      | none => []
      | some q => genT k (fiS t (p - q) p (t.length - p))
def chkT : Nat → List Int → Bool
  | 0, _ => false
  | k + 1, t => t.all (fun x => decide (0 ≤ x ∧ x ≤ 100)) && match pF t t.length with
    | none => true
    | some p => match qF t (t[p]?.getD 0 - 1) p with
      | none => false
      | some q => chkT k (fiS t (p - q) p (t.length - p))
theorem qF_lt {t : List Int} {v : Int} : ∀ {j q : Nat}, qF t v j = some q → q < j ∧ t[q]?.getD 0 = v
  | j + 1, q, h => by
    rw [qF] at h
    split at h
    · injection h with h; subst h; exact ⟨by omega, by assumption⟩
    · have := qF_lt h; exact ⟨by omega, this.2⟩
set_option maxRecDepth 100000 in
theorem treesOf_c (n F : Nat) (hn : n ≤ 1000) (hF : F ≤ 1000000) (hc : chkT F (upTo n) = true) : Con Tryz.prog 114 [.int n] (.own 22 (genT F (upTo n)).length (omat (genT F (upTo n)))) := by
  refine con_of_vc Tryz.mixed ⟨9, [], [], []⟩ Tryz.func114 (by decide) rfl (by simp) (by decide) (by simp [freshOK, freshL, go_sem]) ?_
  rw [Tryz.ntmps114]
  simp [go_sem]
  refine loop_inv (3 :: 5 :: List.range' 12 8) (fun i : Nat => [(3, .own 2 i (avs (upTo i))), (12, .int i)]) (fun i => i ≤ n) (fun i => n - i) 0 (by simp) (by simp [go_sem, upTo]) (by simp [go_sem]) ?_
  intro i hi
  simp [go_sem]
  refine ⟨fun h => ?_, fun h => ?_⟩ <;> simp at h
  · simp [go_sem]
    refine ⟨⟨by omega, by omega⟩, by omega, i + 1, by omega, by omega, Off_reset _ _ _ (by simp), by rw [upTo_succ, avs_snoc]; exact ⟨rfl, rfl⟩, by omega⟩
  · have e : i = n := by omega
    subst e
    simp [go_sem]
    refine loop_inv (2 :: 3 :: 4 :: 6 :: 7 :: 8 :: List.range' 20 52) (fun x : Nat × List Int × List (List Int) => [(3, .own 2 i (avs x.2.1)), (4, .own 22 x.2.2.length (omat x.2.2))]) (fun x => x.2.2 ++ genT x.1 x.2.1 = genT F (upTo i) ∧ chkT x.1 x.2.1 = true ∧ x.2.1.length = i ∧ x.2.2.length + x.1 ≤ F) (fun x => x.1) (F, upTo i, []) ⟨by simp, hc, by simp, by simp⟩ (by simp [go_sem, omat_nil]) (by simp [go_sem]) ?_
    rintro ⟨k, t, done⟩ ⟨hg, hk, hl, hdl⟩
    simp only at hg hk hl hdl
    cases k with
    | zero => simp [chkT] at hk
    | succ k =>
      rw [chkT] at hk
      rw [genT] at hg
      simp only [Bool.and_eq_true] at hk
      obtain ⟨hb, hk⟩ := hk
      have hb2 : ∀ j : Nat, 0 ≤ t[j]?.getD 0 ∧ t[j]?.getD 0 ≤ 100 := fun j => by
        rcases Nat.lt_or_ge j t.length with hj | hj
        · have := (List.all_eq_true.1 hb) _ (List.getElem_mem hj)
          simp only [decide_eq_true_eq] at this
          simpa [hj] using this
        · simp [List.getElem?_eq_none hj]
      have cC := Clone_c t (by omega)
      rw [hl] at cC hk hg
      simp [go_sem]
      refine CallVC.of (cC) (by decide) ?_
      simp [go_sem]
      refine ⟨⟨by omega, by omega⟩, ⟨by omega, by omega⟩, ?_⟩
      refine loop_inv (6 :: List.range' 27 11) (fun j : Nat => [(6, .int ((j : Int) - 1))]) (fun j => j ≤ i ∧ pF t i = pF t j) (fun j => j) i ⟨by omega, rfl⟩ (by simp [go_sem]) (by simp [go_sem]) ?_
      rintro j ⟨hj, hpj⟩
      rcases j with _ | j
      · rw [hpj, pF] at hg
        simp [go_sem]
        rw [← hg, omat_app, omat_one, hl]
        exact ⟨by simp, rfl⟩
      · have hjt : j < t.length := by omega
        have ej : ((j + 1 : Nat) : Int) - 1 = j := by omega
        have j0 : (0 : Int) ≤ j := by omega
        by_cases ht : t[j]?.getD 0 ≤ 1
        · rw [pF, if_pos ht] at hpj
          simp [go_sem, ej, j0, avs_at hjt, ht]
          exact ⟨by omega, ⟨by omega, by omega⟩, j, ⟨by omega, hpj⟩, by omega, Off_reset _ _ _ (by simp), by omega⟩
        · rw [pF, if_neg ht] at hpj
          rw [hpj] at hg hk
          simp only at hg hk
          have jn : ¬ (j : Int) < 0 := by omega
          cases hq : qF t (t[j]?.getD 0 - 1) j with
          | none => rw [hq] at hk; simp at hk
          | some q =>
            rw [hq] at hg hk
            simp only at hg hk
            have hql := qF_lt hq
            have b1 := hb2 j
            simp [go_sem, ej, j0, avs_at hjt, ht, jn]
            refine ⟨by omega, ⟨by omega, by omega⟩, ?_⟩
            refine loop_inv (7 :: List.range' 43 12) (fun r : Nat => [(7, .int ((r : Int) - 1))]) (fun r => r ≤ j ∧ qF t (t[j]?.getD 0 - 1) r = some q) (fun r => r) j ⟨by omega, hq⟩ (by simp [go_sem]) (by simp [go_sem]) ?_
            rintro r ⟨hr, hqr⟩
            rcases r with _ | r
            · simp [qF] at hqr
            · have hrt : r < t.length := by omega
              have er : ((r + 1 : Nat) : Int) - 1 = r := by omega
              by_cases hv : t[r]?.getD 0 = t[j]?.getD 0 - 1
              · rw [qF, if_pos hv] at hqr
                injection hqr with hqr
                subst hqr
                simp [go_sem, er, avs_at hrt, avs_at hjt, hv]
                refine ⟨by kernel_rfl, by omega, by omega, ⟨by omega, by omega⟩, ?_⟩
                refine ⟨by kernel_rfl, ?_⟩
                simp [go_sem]
                refine loop_inv (3 :: 8 :: List.range' 56 16) (fun e : Nat => [(3, .own 2 i (avs (fiS t (j - r) j e))), (8, .int ((j + e : Nat) : Int))]) (fun e => j + e ≤ i) (fun e => i - e) 0 (by omega) (by simp [go_sem, fiS]) (by simp [go_sem]) ?_
                intro e he
                simp [go_sem]
                refine ⟨fun h => ?_, fun h => ?_⟩ <;> simp at h
                · have hlf := fiS_len t (j - r) j e
                  have k1 : j + e - (j - r) < (fiS t (j - r) j e).length := by omega
                  have k2 : j + e < (fiS t (j - r) j e).length := by omega
                  have ix : ((j : Int) + e - (j - r)) = ((j + e - (j - r) : Nat) : Int) := by omega
                  have hs : fiS t (j - r) j (e + 1) = (fiS t (j - r) j e).set (j + e) ((fiS t (j - r) j e)[j + e - (j - r)]?.getD 0) := rfl
                  generalize hF1 : fiS t (j - r) j (e + 1) = F1 at *
                  generalize fiS t (j - r) j e = F0 at *
                  have ix2 : ((j : Int) + e - (j - r)).toNat = j + e - (j - r) := by omega
                  have ij2 : ((j : Int) + e).toNat = j + e := by omega
                  simp [go_sem, ix2, avs_at k1, ij2]
                  refine ⟨⟨by omega, by omega⟩, ⟨by omega, by omega⟩, ⟨by omega, by omega⟩, ⟨by omega, by omega⟩, k2, ⟨by omega, by omega⟩, e + 1, by omega, by omega, Off_reset _ _ _ (by simp), ?_, by omega⟩
                  rw [hF1, hs, avs_set]
                · have en : e = i - j := by omega
                  subst en
                  have h1 : done ++ [t] ++ genT k (fiS t (j - r) j (i - j)) = genT F (upTo i) := by rw [← hg]; simp
                  simp [go_sem]
                  refine ⟨k, fiS t (j - r) j (i - j), done ++ [t], ⟨h1, hk, by rw [fiS_len]; exact hl, by simp; omega⟩, by omega, (by repeat (first | exact Off_reset _ _ _ (by simp) | (refine Off.reset (by intro x hx; simp at hx ⊢; omega) (by simp) ?_; simp -failIfUnchanged [go_sem, Off_reset]))), rfl, ?_⟩
                  rw [omat_app, omat_one, hl]
                  exact ⟨by simp, rfl⟩
              · rw [qF, if_neg hv] at hqr
                simp [go_sem, er, avs_at hrt, avs_at hjt, hv]
                refine ⟨by kernel_rfl, by omega, by omega, ⟨by omega, by omega⟩, ?_⟩
                refine ⟨by kernel_rfl, ?_⟩
                simp [go_sem]
                exact ⟨⟨by omega, by omega⟩, r, ⟨by omega, hqr⟩, by omega, Off_reset _ _ _ (by simp), by omega⟩
end Go.Proofs.YtbeekabpflaihaaGreat


namespace Go.Proofs.YtbeekabpflaihaaGreat
open Go.Abs
set_option linter.unusedSectionVars false
set_option linter.unusedVariables false
set_option linter.unusedSimpArgs false
set_option maxHeartbeats 1000000
def nlA (L : List (List Int)) : AV := match L with
  | [] => .val (.slice none 0 0)
  | _ :: _ => .own 22 L.length (omat L)
def grwL : Nat → List Int → List (List Int) → List (List Int)
  | 0, t, L => if canF t.length t = t then L ++ [t] else L
  | k + 1, t, L => (List.range (t[t.length - 1]?.getD 0 + 1).toNat).foldl (fun (L : List (List Int)) (i : Nat) => grwL k (t ++ [t[t.length - 1]?.getD 0 + 1 - (i : Int)]) L) L
def grwI (k : Nat) (t : List Int) (m : Int) (L : List (List Int)) (i : Nat) : List (List Int) := (List.range i).foldl (fun (L : List (List Int)) (i : Nat) => grwL k (t ++ [m - (i : Int)]) L) L
theorem grwI_succ (k : Nat) (t : List Int) (m : Int) (L : List (List Int)) (i : Nat) : grwI k t m L (i + 1) = grwL k (t ++ [m - (i : Int)]) (grwI k t m L i) := by simp [grwI, List.range_succ]
theorem grwL_succ (k : Nat) (t : List Int) (L : List (List Int)) : grwL (k + 1) t L = grwI k t (t[t.length - 1]?.getD 0 + 1) L (t[t.length - 1]?.getD 0 + 1).toNat := rfl
theorem trees_same : ∀ n : Nat, 1 ≤ n → n ≤ 6 → chkT 200 (upTo n) = true ∧ genT 200 (upTo n) = grwL (n - 1) [0] [] ∧ (genT 200 (upTo n)).all lvB = true := by
  have h : ∀ n ∈ [1, 2, 3, 4, 5, 6], (chkT 200 (upTo n) && decide (genT 200 (upTo n) = grwL (n - 1) [0] []) && (genT 200 (upTo n)).all lvB) = true := by decide +kernel
  intro n h1 h6
  have := h n (by simp; omega)
  simp only [Bool.and_eq_true, decide_eq_true_eq] at this
  exact ⟨this.1.1, this.1.2, this.2⟩
theorem Lv_snoc {t : List Int} (h : Lv t) {x : Int} (h1 : 1 ≤ x) (h2 : x ≤ t[t.length - 1]?.getD 0 + 1) : Lv (t ++ [x]) := by
  have hp := h.1
  refine ⟨by simp, by rw [List.getElem?_append_left hp]; exact h.2.1, fun j hj hl => ?_⟩
  simp at hl
  by_cases e : j = t.length
  · subst e
    rw [List.getElem?_append_right (Nat.le_refl _), List.getElem?_append_left (by omega), Nat.sub_self]
    exact ⟨h1, h2⟩
  · rw [List.getElem?_append_left (by omega), List.getElem?_append_left (by omega)]
    exact h.2.2 j hj (by omega)
theorem Lv_last {t : List Int} (h : Lv t) : 0 ≤ t[t.length - 1]?.getD 0 ∧ t[t.length - 1]?.getD 0 < t.length := by
  have gen : ∀ j, j < t.length → 0 ≤ t[j]?.getD 0 ∧ t[j]?.getD 0 ≤ j := by
    intro j
    induction j with
    | zero => intro _; rw [h.2.1]; omega
    | succ j ih => intro hj; have := ih (by omega); have h3 := h.2.2 (j + 1) (by omega) hj; simp only [Nat.add_sub_cancel] at h3; omega
  have hp := h.1
  have := gen (t.length - 1) (by omega)
  omega
theorem grwI_of {k : Nat} {t : List Int} {L : List (List Int)} (hg : ∀ (x : Int) (L : List (List Int)), 1 ≤ x → x ≤ t[t.length - 1]?.getD 0 + 1 → (grwL k (t ++ [x]) L).length ≤ L.length + 6 ^ k) : ∀ i : Nat, i ≤ (t[t.length - 1]?.getD 0 + 1).toNat → (grwI k t (t[t.length - 1]?.getD 0 + 1) L i).length ≤ L.length + i * 6 ^ k
  | 0, _ => by simp [grwI]
  | i + 1, hi => by
    rw [grwI_succ]
    have := hg (t[t.length - 1]?.getD 0 + 1 - (i : Int)) (grwI k t (t[t.length - 1]?.getD 0 + 1) L i) (by omega) (by omega)
    have := grwI_of (L := L) hg i (by omega)
    rw [Nat.add_mul]
    omega
theorem grwL_len : ∀ (k : Nat) (t : List Int) (L : List (List Int)), Lv t → t.length + k ≤ 6 → (grwL k t L).length ≤ L.length + 6 ^ k
  | 0, t, L, _, _ => by rw [grwL]; split <;> simp
  | k + 1, t, L, h, hk => by
    have hl := Lv_last h
    have gen := grwI_of (k := k) (t := t) (L := L) (fun x L h1 h2 => grwL_len k (t ++ [x]) L (Lv_snoc h h1 h2) (by simp; omega))
    rw [grwL_succ]
    have h1 := gen _ (Nat.le_refl _)
    have h2 : (t[t.length - 1]?.getD 0 + 1).toNat * 6 ^ k ≤ 6 * 6 ^ k := Nat.mul_le_mul_right _ (by omega)
    rw [Nat.pow_succ]
    omega
theorem grwI_len (k : Nat) (t : List Int) (L : List (List Int)) (h : Lv t) (hk : t.length + (k + 1) ≤ 6) (i : Nat) (hi : i ≤ (t[t.length - 1]?.getD 0 + 1).toNat) : (grwI k t (t[t.length - 1]?.getD 0 + 1) L i).length ≤ L.length + i * 6 ^ k :=
  grwI_of (fun x L h1 h2 => grwL_len k (t ++ [x]) L (Lv_snoc h h1 h2) (by simp; omega)) i hi
@[simp] theorem nlA_nil : nlA [] = .val (.slice none 0 0) := rfl
@[simp] theorem nlA_cons (r : List Int) (L : List (List Int)) : nlA (r :: L) = .own 22 (L.length + 1) (omat (r :: L)) := rfl
theorem nlA_kl (W : List Nat) (L : List (List Int)) : kl W (nlA L) = nlA L := by cases L <;> simp [go_sem]
set_option maxRecDepth 100000 in
theorem l03Grow_c (n : Nat) (hn : n ≤ 6) : ∀ (k : Nat) (t : List Int) (L : List (List Int)), Lv t → t.length + k = n → L.length + 6 ^ k ≤ 1000000 → MCon Tryz.prog 164 [.own 2 t.length (avs t), .int n, nlA L] (nlA (grwL k t L)) [.any, .any, .any]
  | 0, t, L, h, hk, hL => by
    have e : t.length = n := by omega
    have hp := h.1
    have hc := l03Canon_c n t (by omega) h (by omega)
    have hl := canF_len n t h (by omega)
    rw [← hl] at hc
    have hs := l01Same_c (canF n t) t (by omega)
    have hO := l01Own_c t (by omega)
    rw [grwL, e]
    by_cases hcn : canF n t = t
    · rw [if_pos hcn]
      rw [hcn] at hc hs
      simp only [decide_true] at hs
      rw [e] at hc hs hO
      cases L with
      | nil =>
        rw [nlA, List.nil_append, nlA]
        refine mcon_of_vc Tryz.mixed ⟨2, [], [164], []⟩ [6] [] Tryz.func164 (by decide) rfl rfl (by simp) (by simp) (by simp) (by decide) ?_
        rw [Tryz.ntmps164]
        simp [go_sem]
        refine CallVC.of (hc) (by decide) ?_
        simp [go_sem]
        refine CallVC.of (hs) (by decide) ?_
        simp [go_sem]
        refine CallVC.of (hO) (by decide) ?_
        simp [go_sem]
        rw [omat_one, e]
      | cons r L =>
        rw [nlA, List.cons_append, nlA]
        refine mcon_of_vc Tryz.mixed ⟨2, [], [164], []⟩ [6] [] Tryz.func164 (by decide) rfl rfl (by simp) (by simp) (by simp) (by decide) ?_
        rw [Tryz.ntmps164]
        simp [go_sem]
        refine CallVC.of (hc) (by decide) ?_
        simp [go_sem]
        refine CallVC.of (hs) (by decide) ?_
        simp [go_sem]
        refine CallVC.of (hO) (by decide) ?_
        simp [go_sem]
        simp at hL
        have em : omat (r :: L) ++ [AV.own 2 n (avs t)] = omat (r :: (L ++ [t])) := by rw [← List.cons_append, omat_app, omat_one, e]
        refine ⟨⟨by omega, by omega⟩, em, ?_⟩
        rw [em]; exact omat_fresh _
    · rw [if_neg hcn]
      simp only [hcn, decide_false] at hs
      rw [hl] at hc hs
      rw [e] at hc hs
      cases L with
      | nil =>
        rw [nlA]
        refine mcon_of_vc Tryz.mixed ⟨2, [], [164], []⟩ [6] [] Tryz.func164 (by decide) rfl rfl (by simp) (by simp) (by simp) (by decide) ?_
        rw [Tryz.ntmps164]
        simp [go_sem]
        refine CallVC.of (hc) (by decide) ?_
        simp [go_sem]
        refine CallVC.of (hs) (by decide) ?_
        simp [go_sem]
      | cons r L =>
        rw [nlA]
        refine mcon_of_vc Tryz.mixed ⟨2, [], [164], []⟩ [6] [] Tryz.func164 (by decide) rfl rfl (by simp) (by simp) (by simp) (by decide) ?_
        rw [Tryz.ntmps164]
        simp [go_sem]
        refine CallVC.of (hc) (by decide) ?_
        simp [go_sem]
        refine CallVC.of (hs) (by decide) ?_
        simp [go_sem]
  | k + 1, t, L, h, hk, hL => by
    have hp := h.1
    have hl := Lv_last h
    have tn : ¬ (t.length : Int) = n := by omega
    have tn2 : ¬ t.length = n := by omega
    have hO := l01Own_c t (by omega)
    have ht : t.length - 1 < t.length := by omega
    have ex : ((t.length : Int) - 1) = ((t.length - 1 : Nat) : Int) := by omega
    rw [grwL_succ]
    have glen := fun (i : Nat) (hi : i ≤ (t[t.length - 1]?.getD 0 + 1).toNat) => grwI_len k t L h (by omega) i hi
    have ih := fun (i : Nat) (hi : i < (t[t.length - 1]?.getD 0 + 1).toNat) (L1 : List (List Int)) (h1 : L1.length + 6 ^ k ≤ 1000000) => l03Grow_c n hn k (t ++ [t[t.length - 1]?.getD 0 + 1 - (i : Int)]) L1 (Lv_snoc h (by omega) (by omega)) (by simp; omega) h1
    generalize hm : t[t.length - 1]?.getD 0 = m at *
    have ib : ∀ i : Nat, i < (m + 1).toNat → (grwI k t (m + 1) L i).length + 6 ^ k ≤ 1000000 := fun i hi => by
      have := glen i (by omega)
      have h6 : (i + 1) * 6 ^ k ≤ 6 * 6 ^ k := Nat.mul_le_mul_right _ (by omega)
      rw [Nat.pow_succ] at hL
      rw [Nat.add_mul] at h6
      omega
    have Tr : ∀ (S : St), S 2 = nlA L → S 7 = .val (.int .i64 (m + 1)) → Trk S ([(2, nlA (grwI k t (m + 1) L 0)), (7, .int (m + 1 - (0 : Nat)))] : List (Nat × AV)) := fun S h2 h7 => by
      simp [go_sem, grwI, h2, h7]
    obtain ⟨LL, hLL⟩ : ∃ LL, LL = L := ⟨_, rfl⟩
    have hR : grwI k t (m + 1) L (m + 1).toNat = grwI k t (m + 1) LL (m + 1).toNat := by rw [hLL]
    rw [hR]
    rw [← hLL] at Tr ib
    clear hR
    cases L
    all_goals
      refine mcon_of_vc Tryz.mixed ⟨2, [], [164], []⟩ [6] [] Tryz.func164 (by decide) rfl rfl (by simp) (by simp) (by simp) (by decide) ?_
      rw [Tryz.ntmps164]
      simp [go_sem]
      simp [go_sem, tn, tn2, ex, avs_at ht, hm]
      refine ⟨by omega, ht, ⟨by omega, by omega⟩, ?_⟩
      refine loop_inv (2 :: 7 :: List.range' 29 12) (fun i : Nat => [(2, nlA (grwI k t (m + 1) LL i)), (7, .int (m + 1 - (i : Int)))]) (fun i => i ≤ (m + 1).toNat) (fun i => (m + 1).toNat - i) 0 (by simp) (Tr _ (by simp [go_sem, hLL]) (by simp [go_sem])) (by simp [go_sem, nlA_kl]) ?_
      intro i hi
      simp [go_sem]
      refine ⟨fun h => ?_, fun h => ?_⟩ <;> simp at h
      · have him : i < (m + 1).toNat := by omega
        have i1 := ih i him _ (ib i him)
        have e1 := grwI_succ k t (m + 1) LL i
        generalize hL2 : grwI k t (m + 1) LL (i + 1) = L2 at *
        generalize grwI k t (m + 1) LL i = L1 at *
        rw [← e1] at i1
        simp only [List.length_append, List.length_singleton, avs_snoc] at i1
        cases L1 <;> cases L2
        all_goals
          simp [go_sem]
          refine CallVC.of (hO) (by decide) ?_
          simp [go_sem]
          refine ⟨⟨by omega, by omega⟩, ?_⟩
          refine ⟨_, _, i1, ?_⟩
          simp [go_sem]
          refine ⟨⟨by omega, by omega⟩, i + 1, by omega, by omega, Off_reset _ _ _ (by simp), ?_, nlA_kl _ _⟩
          rw [hL2]
          exact ⟨rfl, by omega⟩
      · have e : i = (m + 1).toNat := by omega
        subst e
        generalize grwI k t (m + 1) LL (m + 1).toNat = L1 at *
        cases L1
        all_goals
          simp [go_sem]
end Go.Proofs.YtbeekabpflaihaaGreat


namespace Go.Proofs.YtbeekabpflaihaaGreat
set_option linter.unusedSectionVars false
set_option linter.unusedVariables false
set_option linter.unusedSimpArgs false
set_option maxHeartbeats 1000000
abbrev Mx := Nat → Nat → Int
def sgd (i : Nat) : Int := if i % 2 = 0 then 1 else -1
theorem sgd_succ (i : Nat) : sgd (i + 1) = - sgd i := by
  unfold sgd
  by_cases h : i % 2 = 0
  · rw [if_pos h, if_neg (by omega)]
  · rw [if_neg h, if_pos (by omega)]; rfl
def dsum (f : Nat → Int) : Nat → Int
  | 0 => 0
  | n + 1 => dsum f n + f n
theorem dsum_congr {f g : Nat → Int} : ∀ {n : Nat}, (∀ i, i < n → f i = g i) → dsum f n = dsum g n
  | 0, _ => rfl
  | n + 1, h => by rw [dsum, dsum, dsum_congr (fun i hi => h i (by omega)), h n (by omega)]
theorem dsum_lin (f g : Nat → Int) (k : Int) : ∀ n : Nat, dsum (fun i => f i + k * g i) n = dsum f n + k * dsum g n
  | 0 => by simp [dsum]
  | n + 1 => by rw [dsum, dsum, dsum, dsum_lin f g k n, Int.mul_add]; omega
theorem dsum_zero {f : Nat → Int} : ∀ {n : Nat}, (∀ i, i < n → f i = 0) → dsum f n = 0
  | 0, _ => rfl
  | n + 1, h => by rw [dsum, dsum_zero (fun i hi => h i (by omega)), h n (by omega)]; rfl
theorem dsum_one {f : Nat → Int} {k : Nat} : ∀ {n : Nat}, k < n → (∀ i, i < n → i ≠ k → f i = 0) → dsum f n = f k
  | 0, h, _ => by omega
  | n + 1, h, hz => by
    rw [dsum]
    by_cases e : k = n
    · subst e
      rw [dsum_zero (fun i hi => hz i (by omega) (by omega)), Int.zero_add]
    · rw [dsum_one (n := n) (by omega) (fun i hi hne => hz i (by omega) hne), hz n (by omega) (by omega), Int.add_zero]
theorem dsum_two {f : Nat → Int} {k : Nat} : ∀ {n : Nat}, k + 1 < n → (∀ i, i < n → i ≠ k → i ≠ k + 1 → f i = 0) → dsum f n = f k + f (k + 1)
  | 0, h, _ => by omega
  | n + 1, h, hz => by
    rw [dsum]
    by_cases e : k + 1 = n
    · subst e
      rw [dsum_one (k := k) (by omega) (fun i hi hne => hz i (by omega) hne (by omega))]
    · rw [dsum_two (n := n) (by omega) (fun i hi h1 h2 => hz i (by omega) h1 h2), hz n (by omega) (by omega) (by omega), Int.add_zero]
def mnr (M : Mx) (i : Nat) : Mx := fun r c => M (if r < i then r else r + 1) (c + 1)
def det : Nat → Mx → Int
  | 0, _ => 1
  | n + 1, M => dsum (fun i => sgd i * M i 0 * det n (mnr M i)) (n + 1)
def updR (M : Mx) (i : Nat) (w : Nat → Int) : Mx := fun r => if r = i then w else M r
theorem updR_self (M : Mx) (i : Nat) : updR M i (M i) = M := funext fun r => by
  unfold updR; split
  · rename_i h; rw [h]
  · rfl
theorem updR_at (M : Mx) (i : Nat) (w : Nat → Int) : updR M i w i = w := by simp [updR]
theorem updR_ne (M : Mx) {i r : Nat} (w : Nat → Int) (h : r ≠ i) : updR M i w r = M r := by simp [updR, h]
theorem updR_comm (M : Mx) {i j : Nat} (h : i ≠ j) (v w : Nat → Int) : updR (updR M i v) j w = updR (updR M j w) i v := funext fun r => by
  unfold updR
  by_cases h1 : r = i
  · subst h1; rw [if_neg h, if_pos rfl, if_pos rfl]
  · rw [if_neg h1, if_neg h1]
theorem mnr_self (M : Mx) (i : Nat) (w : Nat → Int) : mnr (updR M i w) i = mnr M i := funext fun r => funext fun c => by
  unfold mnr updR
  rw [if_neg (by split <;> omega)]
theorem mnr_ne (M : Mx) {i j : Nat} (w : Nat → Int) (h : j ≠ i) : mnr (updR M i w) j = updR (mnr M j) (if i < j then i else i - 1) (fun c => w (c + 1)) := funext fun r => funext fun c => by
  unfold mnr updR
  by_cases h1 : (if r < j then r else r + 1) = i
  · have h2 : r = if i < j then i else i - 1 := by
      split at h1 <;> split <;> omega
    rw [if_pos h1, if_pos h2]
  · have h2 : ¬ r = if i < j then i else i - 1 := by
      split at h1 <;> split <;> omega
    rw [if_neg h1, if_neg h2]
theorem det_cong {p : Int} : ∀ {n : Nat} {M N : Mx}, (∀ r c, r < n → c < n → M r c % p = N r c % p) → det n M % p = det n N % p
  | 0, _, _, _ => rfl
  | n + 1, M, N, h => by
    rw [det, det]
    have gen : ∀ m : Nat, m ≤ n + 1 → dsum (fun i => sgd i * M i 0 * det n (mnr M i)) m % p = dsum (fun i => sgd i * N i 0 * det n (mnr N i)) m % p := by
      intro m
      induction m with
      | zero => intro _; rfl
      | succ m ih =>
        intro hm
        rw [dsum, dsum, Int.add_emod, ih (by omega), Int.add_emod (dsum (fun i => sgd i * N i 0 * det n (mnr N i)) m)]
        have e1 := h m 0 (by omega) (by omega)
        have e2 := det_cong (p := p) (n := n) (M := mnr M m) (N := mnr N m) (fun r c hr hc => h _ _ (by split <;> omega) (by omega))
        have e3 : (sgd m * M m 0 * det n (mnr M m)) % p = (sgd m * N m 0 * det n (mnr N m)) % p := by
          rw [Int.mul_emod, Int.mul_emod (sgd m), e1, e2, ← Int.mul_emod (sgd m), ← Int.mul_emod]
        rw [e3]
    exact gen _ (Nat.le_refl _)
theorem det_lin : ∀ {n : Nat} (M : Mx) {i : Nat} (u v : Nat → Int) (k : Int), i < n → det n (updR M i (fun c => u c + k * v c)) = det n (updR M i u) + k * det n (updR M i v)
  | 0, _, _, _, _, _, h => by omega
  | n + 1, M, i, u, v, k, h => by
    rw [det, det, det, ← dsum_lin]
    refine dsum_congr fun j hj => ?_
    by_cases e : j = i
    · subst e
      simp only [mnr_self, updR_at]
      generalize det n (mnr M j) = d
      rw [Int.mul_add, Int.add_mul]
      congr 1
      ac_rfl
    · simp only [mnr_ne M _ e, updR_ne M _ e]
      rw [det_lin (n := n) (mnr M j) (fun c => u (c + 1)) (fun c => v (c + 1)) k (by split <;> omega), Int.mul_add]
      congr 1
      ac_rfl
theorem det_adj : ∀ {n : Nat} (M : Mx) {i : Nat}, i + 1 < n → M i = M (i + 1) → det n M = 0
  | 0, _, _, h, _ => by omega
  | n + 1, M, i, h, he => by
    rw [det, dsum_two (k := i) h]
    · have hm : mnr M (i + 1) = mnr M i := funext fun r => funext fun c => by
        unfold mnr
        by_cases h1 : r < i
        · rw [if_pos (by omega), if_pos h1]
        · by_cases h2 : r = i
          · subst h2; rw [if_pos (by omega), if_neg (by omega), he]
          · rw [if_neg (by omega), if_neg (by omega)]
      rw [hm, ← he, sgd_succ, Int.neg_mul, Int.neg_mul]
      omega
    · intro j hj h1 h2
      have hz : det n (mnr M j) = 0 := by
        by_cases hlt : i < j
        · refine det_adj (mnr M j) (i := i) (by omega) (funext fun c => ?_)
          unfold mnr
          rw [if_pos hlt, if_pos (by omega), he]
        · obtain ⟨i', rfl⟩ : ∃ i', i = i' + 1 := ⟨i - 1, by omega⟩
          refine det_adj (mnr M j) (i := i') (by omega) (funext fun c => ?_)
          unfold mnr
          rw [if_neg (by omega), if_neg (by omega), he]
      rw [hz, Int.mul_zero]
theorem det_swap1 {n : Nat} (M : Mx) {i : Nat} (h : i + 1 < n) (u v : Nat → Int) : det n (updR (updR M i u) (i + 1) v) = - det n (updR (updR M i v) (i + 1) u) := by
  have hne : i ≠ i + 1 := by omega
  have z := fun w : Nat → Int => det_adj (n := n) (updR (updR M i w) (i + 1) w) h (by rw [updR_at, updR_ne _ _ hne, updR_at])
  have s := z (fun c => u c + 1 * v c)
  rw [det_lin _ u v 1 h, updR_comm _ hne, updR_comm _ hne, det_lin _ u v 1 (by omega), det_lin _ u v 1 (by omega)] at s
  have zu := z u
  have zv := z v
  rw [updR_comm _ hne] at zu zv
  rw [updR_comm _ hne, updR_comm (M) hne v u]
  omega
theorem det_eq : ∀ {n : Nat} (k : Nat) (M : Mx) {i : Nat}, i + k + 1 < n → M i = M (i + k + 1) → det n M = 0
  | n, 0, M, i, h, he => det_adj M h he
  | n, k + 1, M, i, h, he => by
    have hne : i + k + 1 ≠ i + (k + 1) + 1 := by omega
    have e0 : M = updR (updR M (i + k + 1) (M (i + k + 1))) (i + k + 1 + 1) (M (i + k + 1 + 1)) := by rw [updR_self, updR_self]
    rw [e0, det_swap1 M (i := i + k + 1) (by omega)]
    have := det_eq k (updR (updR M (i + k + 1) (M (i + k + 1 + 1))) (i + k + 1 + 1) (M (i + k + 1))) (i := i) (n := n) (by omega) (by
      rw [updR_ne _ _ (show i ≠ i + k + 1 + 1 by omega), updR_ne _ _ (show i ≠ i + k + 1 by omega), updR_ne _ _ (show i + k + 1 ≠ i + k + 1 + 1 by omega), updR_at]
      exact he)
    rw [this]; rfl
theorem det_same {n : Nat} (M : Mx) {i j : Nat} (hi : i < n) (hj : j < n) (hne : i ≠ j) (he : M i = M j) : det n M = 0 := by
  by_cases h : i < j
  · have e : j = i + (j - i - 1) + 1 := by omega
    rw [e] at he
    exact det_eq (j - i - 1) M (by omega) he
  · have e : i = j + (i - j - 1) + 1 := by omega
    rw [e] at he
    exact det_eq (i - j - 1) M (by omega) he.symm
theorem det_nil {n : Nat} (M : Mx) {i : Nat} (hi : i < n) (hz : ∀ c, M i c = 0) : det n M = 0 := by
  have := det_lin M (M i) (M i) 1 hi
  have e : (fun c => M i c + 1 * M i c) = M i := funext fun c => by rw [hz c]; rfl
  rw [e, updR_self] at this
  omega
theorem det_swap {n : Nat} (M : Mx) {i j : Nat} (hi : i < n) (hj : j < n) (hne : i ≠ j) (u v : Nat → Int) : det n (updR (updR M i u) j v) = - det n (updR (updR M i v) j u) := by
  have z := fun w : Nat → Int => det_same (n := n) (updR (updR M i w) j w) hi hj hne (by rw [updR_at, updR_ne _ _ hne, updR_at])
  have s := z (fun c => u c + 1 * v c)
  rw [det_lin _ u v 1 hj, updR_comm _ hne, updR_comm _ hne, det_lin _ u v 1 hi, det_lin _ u v 1 hi] at s
  have zu := z u
  have zv := z v
  rw [updR_comm _ hne] at zu zv
  rw [updR_comm _ hne, updR_comm (M) hne v u]
  omega
def idM : Mx := fun r c => if r = c then 1 else 0
theorem mnr_id : mnr idM 0 = idM := funext fun r => funext fun c => by simp [mnr, idM]
theorem det_one : ∀ n : Nat, det n idM = 1
  | 0 => rfl
  | n + 1 => by
    rw [det, dsum_one (k := 0) (by omega) (fun i hi hne => by simp [idM, hne]), mnr_id, det_one n]
    simp [sgd, idM]
def updC (M : Mx) (k : Nat) (b : Nat → Int) : Mx := fun r c => if c = k then b r else M r c
theorem det_col : ∀ {n k : Nat} (b : Nat → Int), k < n → det n (updC idM k b) = b k
  | 0, _, _, h => by omega
  | n + 1, 0, b, _ => by
    rw [det, dsum_one (k := 0) (by omega)]
    · have e : mnr (updC idM 0 b) 0 = idM := funext fun r => funext fun c => by simp [mnr, updC, idM]
      rw [e, det_one]
      simp [sgd, updC]
    · intro i hi hne
      rw [det_nil (mnr (updC idM 0 b) i) (i := 0) (by omega) (fun c => by
        have : (0 : Nat) < i := by omega
        simp [mnr, updC, idM, this]), Int.mul_zero]
  | n + 1, k + 1, b, h => by
    rw [det, dsum_one (k := 0) (by omega)]
    · have e : mnr (updC idM (k + 1) b) 0 = updC idM k (fun r => b (r + 1)) := funext fun r => funext fun c => by simp [mnr, updC, idM]
      rw [e, det_col _ (by omega)]
      simp [sgd, updC, idM]
    · intro i hi hne
      have : updC idM (k + 1) b i 0 = 0 := by simp [updC, idM, hne]
      rw [this]; simp
end Go.Proofs.YtbeekabpflaihaaGreat


namespace Go.Proofs.YtbeekabpflaihaaGreat
set_option linter.unusedSectionVars false
set_option linter.unusedVariables false
set_option linter.unusedSimpArgs false
set_option maxHeartbeats 1000000
theorem dsum_shift (f : Nat → Int) : ∀ n, dsum f (n + 1) = f 0 + dsum (fun i => f (i + 1)) n
  | 0 => by simp [dsum]
  | n + 1 => by rw [dsum, dsum_shift f n, dsum]; omega
theorem dsum_mul (k : Int) (f : Nat → Int) : ∀ n, k * dsum f n = dsum (fun i => k * f i) n
  | 0 => by simp [dsum]
  | n + 1 => by rw [dsum, dsum, Int.mul_add, dsum_mul k f n]
theorem dsum_plus (f g : Nat → Int) : ∀ n, dsum (fun i => f i + g i) n = dsum f n + dsum g n
  | 0 => by simp [dsum]
  | n + 1 => by rw [dsum, dsum, dsum, dsum_plus f g n]; omega
end Go.Proofs.YtbeekabpflaihaaGreat


namespace Go.Proofs.YtbeekabpflaihaaGreat
open Go.Abs CR
set_option linter.unusedSectionVars false
set_option linter.unusedVariables false
set_option linter.unusedSimpArgs false
set_option maxHeartbeats 1000000
section
variable {α : Type}
def mnR (M : Nat → Nat → α) (i : Nat) : Nat → Nat → α := fun r c => M (if r < i then r else r + 1) (c + 1)
end
section
variable {α : Type} [CR α]
def dR (f : Nat → α) : Nat → α
  | 0 => ofI 0
  | n + 1 => dR f n + f n
def dtR : Nat → (Nat → Nat → α) → α
  | 0, _ => ofI 1
  | n + 1, M => dR (fun i => ofI (sgd i) * M i 0 * dtR n (mnR M i)) (n + 1)
end
end Go.Proofs.YtbeekabpflaihaaGreat


namespace Go.Proofs.YtbeekabpflaihaaGreat
open Go.Abs CR
set_option linter.unusedSectionVars false
set_option linter.unusedVariables false
set_option linter.unusedSimpArgs false
set_option maxHeartbeats 1000000
section
variable {α : Type} [CR α]
end
end Go.Proofs.YtbeekabpflaihaaGreat


namespace Go.Proofs.YtbeekabpflaihaaGreat
open Go.Abs CR
set_option linter.unusedSectionVars false
set_option linter.unusedVariables false
set_option linter.unusedSimpArgs false
set_option maxHeartbeats 1000000
section
variable {α : Type} [CR α]
end
end Go.Proofs.YtbeekabpflaihaaGreat


namespace Go.Proofs.YtbeekabpflaihaaGreat
open Go.Abs CR
set_option linter.unusedSectionVars false
set_option linter.unusedVariables false
set_option linter.unusedSimpArgs false
set_option maxHeartbeats 1000000
theorem cmul_nil (b : Ser Int) : ∀ (k : Nat) (a : Ser Int), (∀ i, a i = 0) → cmul k a b = 0
  | 0, a, h => by show a 0 * b 0 = 0; rw [h 0, Int.zero_mul]
  | k + 1, a, h => by
    show a 0 * b (k + 1) + cmul k (sh a) b = 0
    rw [h 0, cmul_nil b k (sh a) (fun i => h (i + 1)), Int.zero_mul]; rfl
theorem cmul_lin {a : Ser Int} (h : ∀ i, a (i + 2) = 0) (b : Ser Int) (k : Nat) : cmul (k + 1) a b = a 0 * b (k + 1) + a 1 * b k := by
  show a 0 * b (k + 1) + cmul k (sh a) b = _
  congr 1
  cases k with
  | zero => rfl
  | succ k =>
    show sh a 0 * b (k + 1) + cmul k (sh (sh a)) b = _
    rw [cmul_nil b k (sh (sh a)) (fun i => h i), Int.add_zero]; rfl
def Ev (z : Int) (d : Nat) (f : Ser Int) (v : Int) : Prop := (∀ k, d < k → f k = 0) ∧ dsum (fun k => f k * z ^ k) (d + 1) = v
theorem Ev.zero (z : Int) (d : Nat) : Ev z d (ofI 0) 0 := by
  have h0 : ∀ k, (ofI 0 : Ser Int) k = 0 := fun k => by cases k <;> rfl
  exact ⟨fun k _ => h0 k, dsum_zero fun k _ => by rw [h0, Int.zero_mul]⟩
theorem Ev.add {z : Int} {d : Nat} {f g : Ser Int} {v w : Int} (h : Ev z d f v) (k : Ev z d g w) : Ev z d (f + g) (v + w) := by
  refine ⟨fun i hi => by rw [ser_add, h.1 i hi, k.1 i hi]; rfl, ?_⟩
  rw [← h.2, ← k.2, ← dsum_plus]
  exact dsum_congr fun i hi => by rw [ser_add, Int.add_mul]
theorem Ev.lin {z : Int} {d : Nat} {f g : Ser Int} {w : Int} (hf : ∀ i, f (i + 2) = 0) (k : Ev z d g w) : Ev z (d + 1) (f * g) ((f 0 + f 1 * z) * w) := by
  have at1 : ∀ i, (f * g) (i + 1) = f 0 * g (i + 1) + f 1 * g i := fun i => cmul_lin hf g i
  have at0 : (f * g) 0 = f 0 * g 0 := rfl
  refine ⟨fun i hi => ?_, ?_⟩
  · obtain ⟨j, rfl⟩ : ∃ j, i = j + 1 := ⟨i - 1, by omega⟩
    rw [at1, k.1 (j + 1) (by omega), k.1 j (by omega)]; omega
  · have e1 : dsum (fun i => (f * g) (i + 1) * z ^ (i + 1)) (d + 1) = dsum (fun i => f 0 * (g (i + 1) * z ^ (i + 1)) + (f 1 * z) * (g i * z ^ i)) (d + 1) :=
      dsum_congr fun i hi => by
        rw [at1, Int.add_mul, Int.pow_succ]
        congr 1
        · rw [Int.mul_assoc]
        · rw [Int.mul_assoc, Int.mul_assoc]
          congr 1
          rw [← Int.mul_assoc, Int.mul_comm]
    have e2 : dsum (fun i => g i * z ^ i) (d + 1 + 1) = w := by
      show dsum (fun i => g i * z ^ i) (d + 1) + g (d + 1) * z ^ (d + 1) = w
      rw [k.2, k.1 (d + 1) (by omega), Int.zero_mul, Int.add_zero]
    rw [dsum_shift] at e2
    rw [dsum_shift, e1, dsum_lin, at0, ← dsum_mul, k.2, Int.add_mul]
    have e3 : f 0 * w = f 0 * (g 0 * z ^ 0) + f 0 * dsum (fun i => g (i + 1) * z ^ (i + 1)) (d + 1) := by rw [← Int.mul_add, e2]
    rw [e3, Int.mul_assoc (f 0) (g 0), Int.add_assoc]
theorem Ev.dR {z : Int} {d : Nat} {f : Nat → Ser Int} {v : Nat → Int} : ∀ {n : Nat}, (∀ i, i < n → Ev z d (f i) (v i)) → Ev z d (dR f n) (dsum v n)
  | 0, _ => Ev.zero z d
  | n + 1, h => Ev.add (Ev.dR (n := n) (fun i hi => h i (by omega))) (h n (by omega))
theorem Ev.det {z : Int} : ∀ (n : Nat) (A : Nat → Nat → Ser Int), (∀ r c i, A r c (i + 2) = 0) → Ev z n (dtR n A) (det n (fun r c => A r c 0 + A r c 1 * z))
  | 0, A, _ => by
    refine ⟨fun k hk => ?_, ?_⟩
    · obtain ⟨j, rfl⟩ : ∃ j, k = j + 1 := ⟨k - 1, by omega⟩
      rfl
    · show (0 : Int) + 1 * z ^ 0 = 1
      rw [Int.pow_zero]; rfl
  | n + 1, A, h => by
    rw [dtR, Go.Proofs.YtbeekabpflaihaaGreat.det]
    refine Ev.dR fun i hi => ?_
    have q := Ev.lin (f := ofI (sgd i) * A i 0) (fun t => by
      show cmul (t + 2) (sOf (sgd i)) (A i 0) = 0
      rw [cmul_comm, cmul_of, h, Int.zero_mul]) (Ev.det (z := z) n (mnR A i) (fun r c t => h _ _ _))
    have e : ∀ t, (ofI (sgd i) * A i 0) t = sgd i * A i 0 t := fun t => by
      show cmul t (sOf (sgd i)) (A i 0) = _
      rw [cmul_comm, cmul_of]; exact Int.mul_comm _ _
    rw [e, e, Int.mul_assoc, ← Int.mul_add] at q
    exact q
end Go.Proofs.YtbeekabpflaihaaGreat


namespace Go.Proofs.YtbeekabpflaihaaGreat
open Go.Abs CR
set_option linter.unusedSectionVars false
set_option linter.unusedVariables false
set_option linter.unusedSimpArgs false
set_option maxHeartbeats 1000000
section
variable {α : Type} [CR α]
end
def serEq (a b : Ser Int) : Prop := ∀ k, a k % 10007 = b k % 10007
theorem mod_mulc {a b c d : Int} (h : a % 10007 = b % 10007) (k : c % 10007 = d % 10007) : (a * c) % 10007 = (b * d) % 10007 := by
  rw [Int.mul_emod, h, k, ← Int.mul_emod]
theorem mod_addc {a b c d : Int} (h : a % 10007 = b % 10007) (k : c % 10007 = d % 10007) : (a + c) % 10007 = (b + d) % 10007 := by
  rw [Int.add_emod, h, k, ← Int.add_emod]
theorem cmul_mod (n : Nat) : ∀ {a b c d : Ser Int}, (∀ i, i ≤ n → a i % 10007 = b i % 10007) → (∀ i, i ≤ n → c i % 10007 = d i % 10007) → cmul n a c % 10007 = cmul n b d % 10007 := by
  induction n with
  | zero => intro a b c d h k; exact mod_mulc (h 0 (Nat.le_refl _)) (k 0 (Nat.le_refl _))
  | succ n ih =>
    intro a b c d h k
    rw [cmul, cmul]
    exact mod_addc (mod_mulc (h 0 (by omega)) (k (n + 1) (by omega))) (ih (fun i hi => h (i + 1) (by omega)) (fun i hi => k i (by omega)))
end Go.Proofs.YtbeekabpflaihaaGreat


namespace Go.Proofs.YtbeekabpflaihaaGreat
set_option linter.unusedSectionVars false
set_option linter.unusedVariables false
set_option linter.unusedSimpArgs false
set_option maxHeartbeats 1000000
def sel (W : Mx) (g : Nat → Nat) : Mx := fun r c => W r (g c)
theorem sel_upd (W : Mx) (i : Nat) (w : Nat → Int) (g : Nat → Nat) : sel (updR W i w) g = updR (sel W g) i (fun c => w (g c)) := funext fun r => funext fun c => by
  unfold sel updR; split <;> rfl
def RowEq (n w : Nat) (W W' : Mx) : Prop := ∃ s t : Int, s * t % 10007 = 1 ∧ ∀ g : Nat → Nat, (∀ c, c < n → g c < w) → det n (sel W g) * s % 10007 = det n (sel W' g) % 10007
theorem RowEq.refl (n w : Nat) (W : Mx) : RowEq n w W W := ⟨1, 1, rfl, fun g hg => by rw [Int.mul_one]⟩
theorem mul_mod_l (a b : Int) : a % 10007 * b % 10007 = a * b % 10007 := by rw [Int.mul_emod, Int.emod_emod_of_dvd _ (Int.dvd_refl _), ← Int.mul_emod]
theorem RowEq.trans {n w : Nat} {W X Y : Mx} (h : RowEq n w W X) (k : RowEq n w X Y) : RowEq n w W Y := by
  obtain ⟨s, t, h1, h2⟩ := h
  obtain ⟨s', t', k1, k2⟩ := k
  refine ⟨s * s', t * t', ?_, fun g hg => ?_⟩
  · have e : s * s' * (t * t') = (s * t) * (s' * t') := by ac_rfl
    rw [e, Int.mul_emod, h1, k1]; rfl
  · rw [← k2 g hg, ← Int.mul_assoc, ← mul_mod_l, h2 g hg, mul_mod_l]
theorem RowEq.swap {n w : Nat} (W : Mx) {i j : Nat} (hi : i < n) (hj : j < n) (hne : i ≠ j) : RowEq n w W (updR (updR W i (W j)) j (W i)) :=
  ⟨-1, -1, rfl, fun g hg => by
    rw [sel_upd, sel_upd]
    have e : sel W g = updR (updR (sel W g) i (fun c => W i (g c))) j (fun c => W j (g c)) := by
      have e1 : (fun c => W i (g c)) = sel W g i := rfl
      have e2 : (fun c => W j (g c)) = sel W g j := rfl
      rw [e1, e2, updR_self, updR_self]
    have h := det_swap (sel W g) hi hj hne (fun c => W j (g c)) (fun c => W i (g c))
    rw [h, ← e]
    congr 1
    omega⟩
theorem RowEq.full {n : Nat} {W W' : Mx} (h : RowEq n (n + 1) W W') (hid : ∀ r c, r < n → c < n → W' r c % 10007 = idM r c % 10007) :
    ∃ s : Int, det n W * s % 10007 = 1 ∧ ∀ k, k < n → W' k n % 10007 = det n (updC W k (fun r => W r n)) * s % 10007 := by
  obtain ⟨s, t, h1, h2⟩ := h
  refine ⟨s, ?_, fun k hk => ?_⟩
  · have := h2 id (fun c hc => by show c < n + 1; omega)
    have e : ∀ X : Mx, sel X id = X := fun X => rfl
    rw [e, e, det_cong (p := 10007) (N := idM) hid, det_one] at this
    exact this
  · have := h2 (fun c => if c = k then n else c) (fun c hc => by show (if c = k then n else c) < n + 1; split <;> omega)
    have e : sel W (fun c => if c = k then n else c) = updC W k (fun r => W r n) := funext fun r => funext fun c => by
      by_cases hc : c = k
      · simp [sel, updC, hc]
      · simp [sel, updC, hc]
    rw [e] at this
    rw [this, det_cong (p := 10007) (N := updC idM k (fun r => W' r n)), det_col _ hk]
    intro r c hr hc
    by_cases hck : c = k
    · simp [sel, updC, hck]
    · simp [sel, updC, hck]; exact hid r c hr hc
end Go.Proofs.YtbeekabpflaihaaGreat


namespace Go.Proofs.YtbeekabpflaihaaGreat
open Go.Abs
set_option linter.unusedSectionVars false
set_option linter.unusedVariables false
set_option linter.unusedSimpArgs false
set_option maxHeartbeats 1000000
def mx (m : List (List Int)) : Mx := fun r c => (m[r]?.getD [])[c]?.getD 0
def Rws (w : Nat) (m : List (List Int)) : Prop := ∀ r ∈ m, r.length = w ∧ Ns r
theorem Rws.at {w : Nat} {m : List (List Int)} (h : Rws w m) {i : Nat} (hi : i < m.length) : (m[i]?.getD []).length = w ∧ Ns (m[i]?.getD []) := h _ (by simp [hi])
theorem Rws.set {w : Nat} {m : List (List Int)} (h : Rws w m) {i : Nat} {r : List Int} (hr : r.length = w ∧ Ns r) : Rws w (m.set i r) := fun x hx => by
  rcases List.mem_or_eq_of_mem_set hx with hx | rfl
  · exact h x hx
  · exact hr
end Go.Proofs.YtbeekabpflaihaaGreat


namespace Go.Proofs.YtbeekabpflaihaaGreat
open Go.Abs
set_option linter.unusedSectionVars false
set_option linter.unusedVariables false
set_option linter.unusedSimpArgs false
set_option maxHeartbeats 1000000
end Go.Proofs.YtbeekabpflaihaaGreat


namespace Go.Proofs.YtbeekabpflaihaaGreat
set_option linter.unusedSectionVars false
set_option linter.unusedVariables false
set_option maxRecDepth 100000
end Go.Proofs.YtbeekabpflaihaaGreat


namespace Go.Proofs.YtbeekabpflaihaaGreat
open Go.Abs
set_option linter.unusedSectionVars false
set_option linter.unusedVariables false
set_option linter.unusedSimpArgs false
set_option maxHeartbeats 1000000
structure GI (n w : Nat) (W0 : Mx) (m : List (List Int)) (done k : Nat) : Prop where
  len : m.length = n
  rws : Rws w m
  eqv : RowEq n w W0 (mx m)
  dle : done ≤ n
  piv : ∃ piv : Nat → Nat, (∀ j, j < done → piv j < k ∧ ∀ r, r < n → mx m r (piv j) = if r = j then 1 else 0) ∧ (∀ j, j + 1 < done → piv j < piv (j + 1)) ∧ (∀ j, j < done → ∀ c, c < piv j → mx m j c = 0)
  low : ∀ r, done ≤ r → r < n → ∀ c, c < k → mx m r c = 0
theorem GI.skip {n w : Nat} {W0 : Mx} {m : List (List Int)} {done k : Nat} (h : GI n w W0 m done k) (hz : ∀ r, done ≤ r → r < n → mx m r k = 0) : GI n w W0 m done (k + 1) := by
  obtain ⟨h1, h2, h3, h4, ⟨p, p1, p2, p3⟩, h6⟩ := h
  refine ⟨h1, h2, h3, h4, ⟨p, fun j hj => ⟨by have := (p1 j hj).1; omega, (p1 j hj).2⟩, p2, p3⟩, fun r hr hn c hc => ?_⟩
  by_cases e : c = k
  · subst e; exact hz r hr hn
  · exact h6 r hr hn c (by omega)
end Go.Proofs.YtbeekabpflaihaaGreat


namespace Go.Proofs.YtbeekabpflaihaaGreat
open Go.Abs
set_option linter.unusedSectionVars false
set_option linter.unusedVariables false
set_option linter.unusedSimpArgs false
set_option maxHeartbeats 1000000
def ldF (r : List Int) : Nat → Nat → Nat
  | 0, i => i
  | f + 1, i => if r[i]?.getD 0 = 0 then ldF r f (i + 1) else i
theorem ldF_le (r : List Int) : ∀ f i, i ≤ ldF r f i ∧ ldF r f i ≤ i + f
  | 0, i => by simp [ldF]
  | f + 1, i => by
    rw [ldF]
    split
    · have := ldF_le r f (i + 1); omega
    · omega
theorem ldF_zero (r : List Int) : ∀ f i j, i ≤ j → j < ldF r f i → r[j]?.getD 0 = 0
  | 0, i, j, h1, h2 => by rw [ldF] at h2; omega
  | f + 1, i, j, h1, h2 => by
    rw [ldF] at h2
    split at h2
    · rename_i h
      by_cases e : j = i
      · subst e; exact h
      · exact ldF_zero r f (i + 1) j (by omega) h2
    · omega
theorem ldF_ne (r : List Int) : ∀ f i, ldF r f i < i + f → r[ldF r f i]?.getD 0 ≠ 0
  | 0, i, h => by rw [ldF] at h; omega
  | f + 1, i, h => by
    rw [ldF] at h ⊢
    split
    · rename_i hz
      rw [if_pos hz] at h
      exact ldF_ne r f (i + 1) (by omega)
    · rename_i hz; exact hz
def leadL (r : List Int) : Nat := ldF r r.length 0
def oneB (n : Nat) (m : List (List Int)) (done : Nat) : Bool := decide (done = n) && decide (leadL (m[n - 1]?.getD []) = n - 1)
theorem piv_ge {p : Nat → Nat} {n : Nat} (h : ∀ j, j + 1 < n → p j < p (j + 1)) : ∀ j, j < n → j ≤ p j
  | 0, _ => by omega
  | j + 1, hj => by have := piv_ge h j (by omega); have := h j hj; omega
theorem piv_le {p : Nat → Nat} {n : Nat} (h : ∀ j, j + 1 < n → p j < p (j + 1)) : ∀ t j, j + t + 1 = n → p j + t ≤ p (n - 1)
  | 0, j, hj => by rw [show n - 1 = j by omega]; omega
  | t + 1, j, hj => by have := piv_le h t (j + 1) (by omega); have := h j (by omega); omega
theorem GI.one {n : Nat} {W0 : Mx} {m : List (List Int)} {done k : Nat} (h : GI n (n + 1) W0 m done k) (hn : 0 < n) (hk : k ≤ n + 1) (ho : oneB n m done = true) : ∀ r c, r < n → c < n → mx m r c = idM r c := by
  unfold oneB at ho
  simp only [Bool.and_eq_true, decide_eq_true_eq] at ho
  obtain ⟨hd, hl⟩ := ho
  subst hd
  obtain ⟨p, p1, p2, p3⟩ := h.piv
  have rl := (h.rws.at (i := done - 1) (by rw [h.len]; omega)).1
  have hne := ldF_ne (m[done - 1]?.getD []) (m[done - 1]?.getD []).length 0 (by
    have : ldF (m[done - 1]?.getD []) (m[done - 1]?.getD []).length 0 = done - 1 := hl
    omega)
  have hl2 : ldF (m[done - 1]?.getD []) (m[done - 1]?.getD []).length 0 = done - 1 := hl
  rw [hl2] at hne
  have hp : p (done - 1) ≤ done - 1 := by
    rcases Nat.lt_or_ge (done - 1) (p (done - 1)) with hlt | hge
    · exact (hne (p3 (done - 1) (by omega) (done - 1) hlt)).elim
    · exact hge
  intro r c hr hc
  have g1 := piv_ge p2 c hc
  have g2 := piv_le p2 (done - 1 - c) c (by omega)
  have e : p c = c := by omega
  have := (p1 c hc).2 r hr
  rw [e] at this
  exact this
theorem GI.none {n : Nat} {W0 : Mx} {m : List (List Int)} {done k : Nat} (h : GI n (n + 1) W0 m done k) (hn : 0 < n) (hk : k ≤ n + 1) (hf : k = n + 1 ∨ done = n) (ho : oneB n m done = false) : ∃ i, i < n ∧ ∀ c, c < n → mx m i c = 0 := by
  refine ⟨n - 1, by omega, fun c hc => ?_⟩
  have hdl := h.dle
  by_cases hd : done = n
  · subst hd
    obtain ⟨p, p1, p2, p3⟩ := h.piv
    have rl := (h.rws.at (i := done - 1) (by rw [h.len]; omega)).1
    have g1 := piv_ge p2 (done - 1) (by omega)
    have q := p1 (done - 1) (by omega)
    by_cases e : p (done - 1) = done - 1
    · have e1 : mx m (done - 1) (done - 1) = 1 := by
        have := q.2 (done - 1) (by omega)
        rw [e, if_pos rfl] at this
        exact this
      have l1 := ldF_le (m[done - 1]?.getD []) (m[done - 1]?.getD []).length 0
      have hl : leadL (m[done - 1]?.getD []) = done - 1 := by
        unfold leadL
        rcases Nat.lt_trichotomy (ldF (m[done - 1]?.getD []) (m[done - 1]?.getD []).length 0) (done - 1) with hlt | heq | hgt
        · have := ldF_ne (m[done - 1]?.getD []) (m[done - 1]?.getD []).length 0 (by omega)
          exact (this (p3 (done - 1) (by omega) _ (by omega))).elim
        · exact heq
        · have := ldF_zero (m[done - 1]?.getD []) (m[done - 1]?.getD []).length 0 (done - 1) (by omega) hgt
          have e2 : mx m (done - 1) (done - 1) = 0 := this
          rw [e1] at e2; omega
      unfold oneB at ho
      rw [hl] at ho
      simp at ho
    · exact p3 (done - 1) (by omega) c (by omega)
  · exact h.low (n - 1) (by omega) (by omega) c (by omega)
end Go.Proofs.YtbeekabpflaihaaGreat


namespace Go.Proofs.YtbeekabpflaihaaGreat
open Go.Abs
set_option linter.unusedSectionVars false
set_option linter.unusedVariables false
set_option linter.unusedSimpArgs false
set_option maxHeartbeats 1000000
end Go.Proofs.YtbeekabpflaihaaGreat


namespace Go.Proofs.YtbeekabpflaihaaGreat
open Go.Abs
set_option linter.unusedSectionVars false
set_option linter.unusedVariables false
set_option linter.unusedSimpArgs false
set_option maxHeartbeats 1000000
end Go.Proofs.YtbeekabpflaihaaGreat


namespace Go.Proofs.YtbeekabpflaihaaGreat
open Go.Abs
set_option linter.unusedSectionVars false
set_option linter.unusedVariables false
set_option linter.unusedSimpArgs false
set_option maxHeartbeats 1000000
end Go.Proofs.YtbeekabpflaihaaGreat


namespace Go.Proofs.YtbeekabpflaihaaGreat
open Go.Abs
set_option linter.unusedSectionVars false
set_option linter.unusedVariables false
set_option linter.unusedSimpArgs false
set_option maxHeartbeats 1000000
end Go.Proofs.YtbeekabpflaihaaGreat


namespace Go.Proofs.YtbeekabpflaihaaGreat
open Go.Abs
set_option linter.unusedSectionVars false
set_option linter.unusedVariables false
set_option linter.unusedSimpArgs false
set_option maxHeartbeats 1000000
end Go.Proofs.YtbeekabpflaihaaGreat


namespace Go.Proofs.YtbeekabpflaihaaGreat
open Go.Abs
set_option linter.unusedSectionVars false
set_option linter.unusedVariables false
set_option linter.unusedSimpArgs false
set_option maxHeartbeats 1000000
end Go.Proofs.YtbeekabpflaihaaGreat


namespace Go.Proofs.YtbeekabpflaihaaGreat
open Go.Abs
set_option linter.unusedSectionVars false
set_option linter.unusedVariables false
set_option linter.unusedSimpArgs false
set_option maxHeartbeats 4000000
end Go.Proofs.YtbeekabpflaihaaGreat


namespace Go.Proofs.YtbeekabpflaihaaGreat
open Go.Abs
set_option linter.unusedSectionVars false
set_option linter.unusedVariables false
set_option linter.unusedSimpArgs false
set_option maxHeartbeats 4000000
end Go.Proofs.YtbeekabpflaihaaGreat


namespace Go.Proofs.YtbeekabpflaihaaGreat
open Go.Abs
set_option linter.unusedSectionVars false
set_option linter.unusedVariables false
set_option linter.unusedSimpArgs false
set_option maxHeartbeats 4000000
end Go.Proofs.YtbeekabpflaihaaGreat


namespace Go.Proofs.YtbeekabpflaihaaGreat
open Go.Abs
set_option linter.unusedSectionVars false
set_option linter.unusedVariables false
set_option linter.unusedSimpArgs false
set_option maxHeartbeats 4000000
end Go.Proofs.YtbeekabpflaihaaGreat


namespace Go.Proofs.YtbeekabpflaihaaGreat
open Go.Abs
set_option linter.unusedSectionVars false
set_option linter.unusedVariables false
set_option linter.unusedSimpArgs false
set_option maxHeartbeats 4000000
end Go.Proofs.YtbeekabpflaihaaGreat


namespace Go.Proofs.YtbeekabpflaihaaGreat
open Go.Abs
set_option linter.unusedSectionVars false
set_option linter.unusedVariables false
set_option linter.unusedSimpArgs false
set_option maxHeartbeats 4000000
theorem Tab.rws {A : List (List Int)} {B : List Int} (h : Tab A B) : Rws B.length A := h.a
end Go.Proofs.YtbeekabpflaihaaGreat


namespace Go.Proofs.YtbeekabpflaihaaGreat
open Go.Abs CR
set_option linter.unusedSectionVars false
set_option linter.unusedVariables false
set_option linter.unusedSimpArgs false
set_option maxHeartbeats 1000000
end Go.Proofs.YtbeekabpflaihaaGreat


namespace Go.Proofs.YtbeekabpflaihaaGreat
open Go.Abs CR
set_option linter.unusedSectionVars false
set_option linter.unusedVariables false
set_option linter.unusedSimpArgs false
set_option maxHeartbeats 1000000
structure Adj (A : List (List Int)) (B : List Int) (A' : List (List Int)) (B' : List Int) : Prop where
  tab : Tab A' B'
  len : B'.length = B.length
  a : ∀ r c, r < B.length → c < B.length → mx A' r c % 10007 = (B[B.length - 1 - c]?.getD 0 - mx A (B.length - 1 - r) (B.length - 1 - c)) % 10007
  b : ∀ r, r < B.length → B'[r]?.getD 0 % 10007 = B[B.length - 1 - r]?.getD 0 % 10007
theorem serEq.mul {a b c d : Ser Int} (h : serEq a b) (k : serEq c d) : serEq (a * c) (b * d) := fun i => cmul_mod i (fun j _ => h j) (fun j _ => k j)
end Go.Proofs.YtbeekabpflaihaaGreat


namespace Go.Proofs.YtbeekabpflaihaaGreat
open Go.Abs
set_option linter.unusedSectionVars false
set_option linter.unusedVariables false
set_option linter.unusedSimpArgs false
set_option maxHeartbeats 4000000
def denF : Nat → List Int → Int
  | 0, _ => 0
  | n + 1, t => (brs t).foldl (fun o b => o * denF n b) t.length
def denK (n : Nat) (t : List Int) (j : Nat) : Int := ((brs t).take j).foldl (fun o b => o * denF n b) t.length
def denOk : Nat → List Int → Bool
  | 0, _ => false
  | n + 1, t => (brs t).all (denOk n) && (List.range ((brs t).length + 1)).all fun j => decide (0 ≤ denK n t j ∧ denK n t j ≤ 1000000)
def trN (k : Nat) : List (List Int) := (List.range k).flatMap fun i => genT 200 (upTo (i + 1))
theorem trN_succ (k : Nat) : trN (k + 1) = trN k ++ genT 200 (upTo (k + 1)) := by simp [trN, List.range_succ]
theorem trN_len : ∀ k, k ≤ 6 → (trN k).length ≤ 100 := by decide +kernel
theorem trN_len6 : (trN 6).length = 37 := by decide +kernel
def lvC (t : List Int) : Bool := decide (0 < t.length) && decide (t[0]?.getD 0 = 0) && (List.range t.length).all fun j => decide (j = 0) || decide (1 ≤ t[j]?.getD 0 ∧ t[j]?.getD 0 ≤ t[j - 1]?.getD 0 + 1)
theorem lvC_Lv {t : List Int} (h : lvC t = true) : Lv t := by
  unfold lvC at h
  simp only [Bool.and_eq_true, decide_eq_true_eq, List.all_eq_true, Bool.or_eq_true, List.mem_range] at h
  exact ⟨h.1.1, h.1.2, fun j h1 h2 => (h.2 j h2).resolve_left (by omega)⟩
theorem trN_all : (trN 6).all (fun t => lvC t && decide (t.length ≤ 6) && denOk 8 t) = true := by decide +kernel
theorem trN_at {t : List Int} (h : t ∈ trN 6) : Lv t ∧ t.length ≤ 6 ∧ denOk 8 t = true := by
  have := List.all_eq_true.1 trN_all t h
  simp only [Bool.and_eq_true, decide_eq_true_eq] at this
  exact ⟨lvC_Lv this.1.1, this.1.2, this.2⟩
set_option maxRecDepth 100000 in
theorem treesTo_c (n : Nat) (hn : n ≤ 6) : Con Tryz.prog 49 [.int n] (.own 22 (trN n).length (omat (trN n))) := by
  refine con_of_vc Tryz.mixed ⟨5, [], [], []⟩ Tryz.func49 (by decide) rfl (by simp) (by decide) (by simp [freshOK, freshL, go_sem]) ?_
  rw [Tryz.ntmps49]
  simp [go_sem]
  refine loop_inv ([3, 4] ++ List.range' 6 9) (fun i : Nat => [(3, .own 22 (trN i).length (omat (trN i))), (4, .int (i + 1))]) (fun i => i ≤ n) (fun i => n - i) 0 (by simp) (by simp [go_sem, trN, omat]) (by simp [go_sem]) ?_
  intro i hi
  have l0 := trN_len i (by omega)
  by_cases hin : i < n
  · have hii : (i : Int) + 1 ≤ n := by omega
    have cT := treesOf_c (i + 1) 200 (by omega) (by omega) (trees_same (i + 1) (by omega) (by omega)).1
    have l1 := trN_len (i + 1) (by omega)
    have ts := trN_succ i
    have tl := congrArg List.length ts
    rw [List.length_append] at tl
    have ot : omat (trN (i + 1)) = omat (trN i) ++ omat (genT 200 (upTo (i + 1))) := by rw [ts]; simp [omat]
    have ec : ((i + 1 : Nat) : Int) = (i : Int) + 1 := by omega
    rw [ec] at cT
    generalize genT 200 (upTo (i + 1)) = G at *
    simp [go_sem, hii]
    refine CallVC.of (cT) (by decide) ?_
    simp [go_sem]
    exact ⟨⟨by omega, by omega⟩, ⟨by omega, by omega⟩, i + 1, by omega, by omega, Off_reset _ _ _ (by simp), by rw [tl, ot]; exact ⟨rfl, rfl⟩, by omega⟩
  · have e : i = n := by omega
    subst e
    have hii : ¬ (i : Int) + 1 ≤ i := by omega
    simp [go_sem, hii]
end Go.Proofs.YtbeekabpflaihaaGreat


namespace Go.Proofs.YtbeekabpflaihaaGreat
open Go.Abs
set_option linter.unusedSectionVars false
set_option linter.unusedVariables false
set_option linter.unusedSimpArgs false
set_option maxHeartbeats 1000000
end Go.Proofs.YtbeekabpflaihaaGreat


namespace Go.Proofs.YtbeekabpflaihaaGreat
open Go.Abs
set_option linter.unusedSectionVars false
set_option linter.unusedVariables false
set_option linter.unusedSimpArgs false
set_option maxHeartbeats 1000000
end Go.Proofs.YtbeekabpflaihaaGreat


namespace Go.Proofs.YtbeekabpflaihaaGreat
open Go.Abs
set_option linter.unusedSectionVars false
set_option linter.unusedVariables false
set_option linter.unusedSimpArgs false
set_option maxHeartbeats 1000000
end Go.Proofs.YtbeekabpflaihaaGreat


namespace Go.Proofs.YtbeekabpflaihaaGreat
open Go.Abs
set_option linter.unusedSectionVars false
set_option linter.unusedVariables false
set_option linter.unusedSimpArgs false
set_option maxHeartbeats 1000000
end Go.Proofs.YtbeekabpflaihaaGreat


namespace Go.Proofs.YtbeekabpflaihaaGreat
open Go.Abs
set_option linter.unusedSectionVars false
set_option linter.unusedVariables false
set_option linter.unusedSimpArgs false
set_option maxHeartbeats 1000000
end Go.Proofs.YtbeekabpflaihaaGreat


namespace Go.Proofs.YtbeekabpflaihaaGreat
open Go.Abs
set_option linter.unusedSectionVars false
set_option linter.unusedVariables false
set_option linter.unusedSimpArgs false
set_option maxHeartbeats 1000000
end Go.Proofs.YtbeekabpflaihaaGreat


namespace Go.Proofs.YtbeekabpflaihaaGreat
open Go.Abs
set_option linter.unusedSectionVars false
set_option linter.unusedVariables false
set_option linter.unusedSimpArgs false
set_option maxHeartbeats 1000000
end Go.Proofs.YtbeekabpflaihaaGreat


namespace Go.Proofs.YtbeekabpflaihaaGreat
open Go.Abs
set_option linter.unusedSectionVars false
set_option linter.unusedVariables false
set_option linter.unusedSimpArgs false
set_option maxHeartbeats 1000000
end Go.Proofs.YtbeekabpflaihaaGreat


namespace Go.Proofs.YtbeekabpflaihaaGreat
open Go.Abs
set_option linter.unusedSectionVars false
set_option linter.unusedVariables false
set_option linter.unusedSimpArgs false
set_option maxHeartbeats 1000000
end Go.Proofs.YtbeekabpflaihaaGreat


namespace Go.Proofs.YtbeekabpflaihaaGreat
open Go.Abs
set_option linter.unusedSectionVars false
set_option linter.unusedVariables false
set_option linter.unusedSimpArgs false
set_option maxHeartbeats 1000000
end Go.Proofs.YtbeekabpflaihaaGreat


namespace Go.Proofs.YtbeekabpflaihaaGreat
open Go.Abs
set_option linter.unusedSectionVars false
set_option linter.unusedVariables false
set_option linter.unusedSimpArgs false
set_option maxHeartbeats 1000000
end Go.Proofs.YtbeekabpflaihaaGreat


namespace Go.Proofs.YtbeekabpflaihaaGreat
open Go.Abs
set_option linter.unusedSectionVars false
set_option linter.unusedVariables false
set_option linter.unusedSimpArgs false
set_option maxHeartbeats 1000000
end Go.Proofs.YtbeekabpflaihaaGreat


namespace Go.Proofs.YtbeekabpflaihaaGreat
open Go.Abs
set_option linter.unusedSectionVars false
set_option linter.unusedVariables false
set_option linter.unusedSimpArgs false
set_option maxHeartbeats 1000000
theorem FieldOk.wok {z : Int} {f : List (List Mon)} (hf : FieldOk z f) : ∀ F ∈ f, ∀ m ∈ F, WOk f.length 3 m := fun F hF m hm => by
  have h := partB_mem (hf.part F hF) hm
  have h1 := h.lo
  have h2 := h.hi
  have h3 := h.len
  have h4 := hf.len
  exact ⟨⟨by omega, by omega⟩, by omega, h.pw⟩
end Go.Proofs.YtbeekabpflaihaaGreat


namespace Go.Proofs.YtbeekabpflaihaaGreat
open Go.Abs
set_option linter.unusedSectionVars false
set_option linter.unusedVariables false
set_option linter.unusedSimpArgs false
set_option maxHeartbeats 2000000
end Go.Proofs.YtbeekabpflaihaaGreat


namespace Go.Proofs.YtbeekabpflaihaaGreat
open Go.Abs CR
set_option linter.unusedSectionVars false
set_option linter.unusedVariables false
set_option linter.unusedSimpArgs false
set_option maxHeartbeats 1000000
section
variable {α : Type} [CR α]
end
end Go.Proofs.YtbeekabpflaihaaGreat


namespace Go.Proofs.YtbeekabpflaihaaGreat
open Go.Abs
set_option linter.unusedSectionVars false
set_option linter.unusedVariables false
set_option linter.unusedSimpArgs false
set_option maxHeartbeats 1000000
end Go.Proofs.YtbeekabpflaihaaGreat


namespace Go.Proofs.YtbeekabpflaihaaGreat
open Go.Abs
set_option linter.unusedSectionVars false
set_option linter.unusedVariables false
set_option linter.unusedSimpArgs false
set_option maxHeartbeats 1000000
theorem genT_pos {k : Nat} (h : 0 < k) (t : List Int) : genT k t ≠ [] := by
  cases k with
  | zero => omega
  | succ k => simp [genT]
set_option maxRecDepth 100000 in
theorem l03Trees_c (n : Nat) (h1 : 1 ≤ n) (h6 : n ≤ 6) : Con Tryz.prog 101 [.int n] (.own 22 (genT 200 (upTo n)).length (omat (genT 200 (upTo n)))) := by
  have c := l03Grow_c n h6 (n - 1) [0] [] ⟨by simp, by simp, fun j h1 h2 => by simp at h2; omega⟩ (by simp; omega) (by
    have := Nat.pow_le_pow_right (n := 6) (by omega) (show n - 1 ≤ 6 by omega)
    simp only [List.length_nil]; omega)
  rw [← (trees_same n h1 h6).2.1] at c
  have hp := genT_pos (k := 200) (by omega) (upTo n)
  generalize genT 200 (upTo n) = G at *
  cases G with
  | nil => exact (hp rfl).elim
  | cons r G =>
    refine con_of_vc Tryz.mixed ⟨3, [], [164], []⟩ Tryz.func101 (by decide) rfl (by simp) (by decide) (by simp [freshOK, freshL, go_sem]) ?_
    rw [Tryz.ntmps101]
    simp [go_sem]
    refine ⟨_, _, c, ?_⟩
    simp [go_sem]
end Go.Proofs.YtbeekabpflaihaaGreat


namespace Go.Proofs.YtbeekabpflaihaaGreat
open Go.Abs
set_option linter.unusedSectionVars false
set_option linter.unusedVariables false
set_option linter.unusedSimpArgs false
set_option maxHeartbeats 4000000
theorem trN_sym : (trN 6).all (fun t => okS 6 t) = true := by decide +kernel
theorem trN_okS {i : Nat} (h : i < 37) : okS 6 ((trN 6)[i]?.getD []) = true :=
  List.all_eq_true.1 trN_sym _ (memD [] (by rw [trN_len6]; exact h))
def segB : Bool := (List.range 6).all fun n =>
  ((List.range (genT 200 (upTo (n + 1))).length).all fun i => decide ((trN 6)[(trN n).length + i]?.getD [] = (genT 200 (upTo (n + 1)))[i]?.getD [] ∧ ((genT 200 (upTo (n + 1)))[i]?.getD []).length = n + 1)) &&
  ((List.range (trN n).length).all fun j => decide (((trN 6)[j]?.getD []).length ≠ n + 1 ∧ 1 ≤ ((trN 6)[j]?.getD []).length)) &&
  ((List.range 37).all fun j => decide ((trN (n + 1)).length ≤ j → ((trN 6)[j]?.getD []).length ≠ n + 1)) && decide ((trN (n + 1)).length = (trN n).length + (genT 200 (upTo (n + 1))).length ∧ (trN (n + 1)).length ≤ 37)
theorem segB_true : segB = true := by decide +kernel
theorem seg {n : Nat} (hn : n < 6) : (∀ i, i < (genT 200 (upTo (n + 1))).length → (trN 6)[(trN n).length + i]?.getD [] = (genT 200 (upTo (n + 1)))[i]?.getD [] ∧ ((genT 200 (upTo (n + 1)))[i]?.getD []).length = n + 1) ∧
    (∀ j, j < (trN n).length → ((trN 6)[j]?.getD []).length ≠ n + 1) ∧ (∀ j, (trN (n + 1)).length ≤ j → j < 37 → ((trN 6)[j]?.getD []).length ≠ n + 1) ∧
    (trN (n + 1)).length = (trN n).length + (genT 200 (upTo (n + 1))).length ∧ (trN (n + 1)).length ≤ 37 := by
  have h := List.all_eq_true.1 (show segB = true from segB_true) n (by simpa using hn)
  simp only [Bool.and_eq_true, List.all_eq_true, decide_eq_true_eq, List.mem_range] at h
  obtain ⟨⟨⟨h1, h2⟩, h3⟩, h4⟩ := h
  exact ⟨h1, fun j hj => (h2 j hj).1, fun j h5 h6 => h3 j h6 h5, h4.1, h4.2⟩
theorem trN_pos {j : Nat} (h : j < 37) : ((trN 6)[j]?.getD []).length ≠ 0 ∧ ((trN 6)[j]?.getD []).length ≤ 6 ∧ Lv ((trN 6)[j]?.getD []) := by
  have h1 := trN_at (memD [] (show j < (trN 6).length by rw [trN_len6]; exact h))
  have := h1.1.1
  exact ⟨by omega, h1.2.1, h1.1⟩
theorem okS_sym {n : Nat} {t : List Int} (h : okS (n + 1) t = true) : 0 ≤ symF (n + 1) t ∧ symF (n + 1) t ≤ 1000000 := by
  have := (okS_spec h).2.2.2.2.2 _ (Nat.le_refl _)
  exact ⟨this.1, this.2.1⟩
def facT (a : List Int) (i : Nat) : Int := a[i + 1]?.getD 0 * pw (symF 6 ((trN 6)[i]?.getD []) % 10007) 10005 % 10007
theorem facT_N (a : List Int) (i : Nat) : isN (facT a i) := isN_mod _
def rowT (f : List (List Mon)) (y a : List Int) (n : Nat) : Nat → List Int
  | 0 => if n = 0 then scalS y (a[0]?.getD 0) else List.replicate y.length 0
  | i + 1 => if ((trN 6)[i]?.getD []).length = n then plusS (rowT f y a n i) (edF f y 6 ((trN 6)[i]?.getD [])) (facT a i) else rowT f y a n i
theorem rowT_len (f : List (List Mon)) (y a : List Int) (n : Nat) : ∀ i, (rowT f y a n i).length = y.length
  | 0 => by rw [rowT]; split <;> simp
  | i + 1 => by rw [rowT]; split <;> simp [rowT_len f y a n i]
theorem rowT_N (f : List (List Mon)) (y a : List Int) (n : Nat) : ∀ i, Ns (rowT f y a n i)
  | 0 => by
    rw [rowT]; split
    · exact scalS_N _ _
    · intro x hx
      obtain ⟨_, rfl⟩ := List.mem_replicate.1 hx
      exact ⟨by omega, by omega⟩
  | i + 1 => by
    rw [rowT]; split
    · exact plusS_N _ _ _
    · exact rowT_N f y a n i
theorem rowT_same (f : List (List Mon)) (y a : List Int) (n i : Nat) : ∀ k, (∀ j, i ≤ j → j < i + k → ((trN 6)[j]?.getD []).length ≠ n) → rowT f y a n (i + k) = rowT f y a n i
  | 0, _ => rfl
  | k + 1, h => by
    rw [← Nat.add_assoc, rowT, if_neg (h (i + k) (by omega) (by omega)), rowT_same f y a n i k (fun j h1 h2 => h j h1 (by omega))]
def tsX (f : List (List Mon)) (y a : List Int) (k i : Nat) : List (List Int) := (List.range k).map fun n => rowT f y a n i
@[simp] theorem tsX_len (f : List (List Mon)) (y a : List Int) (k i : Nat) : (tsX f y a k i).length = k := by simp [tsX]
theorem tsX_succ (f : List (List Mon)) (y a : List Int) (k i : Nat) : tsX f y a (k + 1) i = tsX f y a k i ++ [rowT f y a k i] := by simp [tsX, List.range_succ]
theorem tsX_get (f : List (List Mon)) (y a : List Int) {k n : Nat} (i : Nat) (h : n < k) : (tsX f y a k i)[n]?.getD [] = rowT f y a n i := by simp [tsX, h]
theorem row_mul {s e : List Int} (k : Int) (hk : isN k) (hl : s.length ≤ e.length) : tb (fun i => (s[i]?.getD 0 + (tb (fun i => e[i]?.getD 0 * k % 10007) e.length)[i]?.getD 0) % 10007) s.length = plusS s e k := by
  unfold plusS
  refine List.map_congr_left fun i hi => ?_
  rw [tb_get _ (by have := List.mem_range.1 hi; omega), Int.emod_eq_of_lt hk.1 (by have := hk.2; omega), Int.mul_comm k]
  simp
theorem row_zero {s e : List Int} (hs : Ns s) : plusS s e 0 = s := by
  unfold plusS
  refine List.ext_getElem (by simp) fun i h1 h2 => ?_
  have := hs.get i
  simp only [List.getElem?_eq_getElem h2, Option.getD_some] at this
  simp only [tb, List.getElem_map, List.getElem_range, List.getElem?_eq_getElem h2, Option.getD_some]
  obtain ⟨b1, b2⟩ := this
  simp
  omega
set_option maxRecDepth 100000 in
theorem l14Map_c (a : List Int) (ha : a.length ≤ 9223372036854775807) : Con Tryz.prog 39 [.sl a.length (avs a)] (.bool (mapB a)) := by
  have cN := l01Numbers_c a ha
  unfold mapB
  by_cases h : a.length = 38
  · have hi : (a.length : Int) = 38 := by omega
    rw [decide_eq_true h]
    refine con_of_vc Tryz.mixed ⟨3, [], [], []⟩ Tryz.func39 (by decide) rfl (by simp) (by decide) (by simp [freshOK, freshL, go_sem]) ?_
    rw [Tryz.ntmps39]
    simp [go_sem, hi]
    refine CallVC.of (cN) (by decide) ?_
    simp [go_sem]
  · have hi : ¬ (a.length : Int) = 38 := by omega
    rw [decide_eq_false h]
    refine con_of_vc Tryz.mixed ⟨3, [], [], []⟩ Tryz.func39 (by decide) rfl (by simp) (by decide) (by simp [freshOK, freshL, go_sem]) ?_
    rw [Tryz.ntmps39]
    simp [go_sem, hi]
set_option maxRecDepth 100000 in
theorem l14Trees_c (a : List Int) (z : Int) (f : List (List Mon)) (y : List Int) (hm : a.length = 38) (ha : Ns a) (hF : FieldOk z f) (hs : Small f) (hN : Ns y) (hl : (y.length : Int) = z) :
    Con Tryz.prog 42 [.sl a.length (avs a), .agg [.int z, .sl f.length (prt f)], .sl y.length (avs y)] (.own 22 7 (omat (tsX f y a 7 37))) := by
  have z1 := hF.lo
  have z3 := hF.hi
  have fl : (f.length : Int) = z := hF.len
  have n0 := ha.get 0
  have cT := l02Times_c y (a[0]?.getD 0) hN n0 (by omega)
  have e0 : tb (fun i => y[i]?.getD 0 * (a[0]?.getD 0) % 10007) y.length = rowT f y a 0 37 := by
    have := rowT_same f y a 0 0 37 (fun j _ h => (trN_pos (by omega)).1)
    rw [Nat.zero_add] at this
    rw [this, rowT, if_pos rfl]
    unfold scalS
    refine List.map_congr_left fun i hi => ?_
    rw [Int.emod_eq_of_lt n0.1 (by have := n0.2; omega)]
  rw [e0] at cT
  have a0 := avs_drop (xs := a) (k := 0) (by omega)
  rw [List.drop_zero, List.getD_eq_getElem?_getD, Nat.zero_add, List.drop_one] at a0
  have b0 : AV.val (.int .i64 (a[0]?.getD 0)) :: avs a.tail = avs a := a0.symm
  have ane : ¬ a = [] := by rintro rfl; simp at hm
  refine con_of_vc Tryz.mixed ⟨11, [25], [], []⟩ Tryz.func42 (by decide) rfl (by simp) (by decide) (by simp [freshOK, freshL, go_sem]) ?_
  rw [Tryz.ntmps42]
  simp [go_sem]
  rw [a0]
  simp [go_sem]
  rw [b0]
  refine ⟨⟨by omega, ane⟩, ?_⟩
  refine CallVC.of (cT) (by decide) ?_
  simp [go_sem]
  refine loop_inv ([7, 8, 9, 10, 11, 12, 13] ++ List.range' 20 46) (fun n : Nat => [(7, .own 22 (n + 1) (omat (tsX f y a (n + 1) 37))), (8, .int ((trN n).length + 1)), (9, .int (n + 1))]) (fun n => n ≤ 6) (fun n => 6 - n) 0 (by simp) (by simp [go_sem, tsX, omat, rowT_len, trN]) (by simp [go_sem]) ?_
  intro n hn
  by_cases hn6 : n < 6
  · have hni : (n : Int) + 1 ≤ 6 := by omega
    obtain ⟨s1, s2, s3, s4, s5⟩ := seg hn6
    have cG := l03Trees_c (n + 1) (by omega) (by omega)
    have hr0 : rowT f y a (n + 1) (trN n).length = List.replicate y.length 0 := by
      have := rowT_same f y a (n + 1) 0 (trN n).length (fun j _ h => s2 j (by omega))
      rw [Nat.zero_add] at this
      rw [this, rowT, if_neg (by omega)]
    have hr1 : rowT f y a (n + 1) 37 = rowT f y a (n + 1) ((trN n).length + (genT 200 (upTo (n + 1))).length) := by
      have := rowT_same f y a (n + 1) (trN (n + 1)).length (37 - (trN (n + 1)).length) (fun j h1 h2 => s3 j h1 (by omega))
      rw [show (trN (n + 1)).length + (37 - (trN (n + 1)).length) = 37 by omega] at this
      rw [this, s4]
    have hts := tsX_succ f y a (n + 1) 37
    have hGl : (trN n).length + (genT 200 (upTo (n + 1))).length ≤ 37 := by omega
    have ec : ((n + 1 : Nat) : Int) = (n : Int) + 1 := by omega
    rw [ec] at cG
    clear s2 s3
    generalize hK : (trN (n + 1)).length = K1 at *
    generalize (trN n).length = K at *
    generalize genT 200 (upTo (n + 1)) = G at *
    subst s4
    simp [go_sem, hni]
    refine ⟨by kernel_rfl, ?_⟩
    refine CallD.of (cG) (by simp [roots, rootsL, frz, frzL]) (by decide) ?_
    simp [go_sem]
    refine ⟨by omega, ?_⟩
    refine ⟨by kernel_rfl, ?_⟩
    simp [go_sem]
    refine loop_inv ([8, 11, 12, 13] ++ List.range' 29 33) (fun i : Nat => [(8, .int (K + i + 1)), (11, .own 2 y.length (avs (rowT f y a (n + 1) (K + i)))), (12, .int i)]) (fun i => i ≤ G.length) (fun i => G.length - i) 0 (by simp) (by simp [go_sem, hr0, avs_repl]) (by simp [go_sem]) ?_
    intro i hi
    by_cases hiG : i < G.length
    · have hii : (i : Int) < G.length := by omega
      obtain ⟨u1, u2⟩ := s1 i hiG
      have ho := trN_okS (show K + i < 37 by omega)
      have hv := (trN_pos (show K + i < 37 by omega)).2
      have rs : rowT f y a (n + 1) (K + i + 1) = plusS (rowT f y a (n + 1) (K + i)) (edF f y 6 (G[i]?.getD [])) (facT a (K + i)) := by
        rw [rowT, if_pos (by rw [u1]; exact u2), u1]
      have fa : facT a (K + i) = a[K + i + 1]?.getD 0 * pw (symF 6 (G[i]?.getD []) % 10007) 10005 % 10007 := by unfold facT; rw [u1]
      have fN := facT_N a (K + i)
      rw [u1] at ho hv
      have md := mat_drop hiG
      have ad := avs_drop (xs := a) (k := K + i + 1) (by omega)
      rw [List.getD_eq_getElem?_getD] at ad
      have aN := ha.get (K + i + 1)
      have oB := okS_sym ho
      have cS := l03Symmetry_c 6 _ (by omega) ho
      have cE := l13Elementary_c z f y hF hs hN hl 6 (G[i]?.getD []) hv.2 hv.1 (by omega)
      have eL := edF_len (f := f) (y := y) (n := 6) (by omega) (G[i]?.getD [])
      have eN := edF_N (f := f) (y := y) (n := 6) (G[i]?.getD [])
      have rL := rowT_len f y a (n + 1) (K + i)
      have rN := rowT_N f y a (n + 1) (K + i)
      have neG : ¬ G = [] := by rintro rfl; simp at hiG
      generalize hX : rowT f y a (n + 1) (K + i + 1) = X at *
      generalize rowT f y a (n + 1) (K + i) = R at *
      generalize edF f y 6 (G[i]?.getD []) = e at *
      generalize symF 6 (G[i]?.getD []) = w at *
      generalize G[i]?.getD [] = t at *
      generalize hx : a[K + i + 1]?.getD 0 = x at *
      have pN : isN (pw (w % 10007) 10005) := isN_mod _
      have c1 := l01Mod_c w (by omega) (by omega)
      have c2 := l01Inv_c (w % 10007) (isN_mod w)
      have c3 := l01Mul_c x (pw (w % 10007) 10005) (mul_fits aN pN)
      rw [← fa] at c3
      generalize facT a (K + i) = k at *
      generalize pw (w % 10007) 10005 = pq at *
      simp [go_sem, hii, md, ad]
      have ec : ((K : Int) + i + 1).toNat = K + i + 1 := by omega
      refine ⟨by kernel_rfl, ⟨by omega, by omega, ane⟩, ?_⟩
      simp [go_sem, ec, ad, hx]
      refine ⟨⟨hiG, neG⟩, ?_⟩
      simp [go_sem, md]
      refine CallD.of cS (by simp [go_sem, roots, rootsL]) (by decide) ?_
      simp [go_sem]
      refine CallD.of (c1) (by simp [roots, rootsL]) (by decide) ?_
      simp [go_sem]
      refine CallD.of (c2) (by simp [roots, rootsL]) (by decide) ?_
      simp [go_sem]
      refine CallD.of (c3) (by simp [roots, rootsL]) (by decide) ?_
      simp [go_sem]
      refine ⟨by kernel_rfl, ?_⟩
      simp [go_sem]
      by_cases hk : k = 0
      · rw [hk, row_zero rN] at rs
        simp [go_sem, hk]
        refine ⟨⟨by omega, by omega⟩, ⟨by omega, by omega⟩, i + 1, by omega, by omega, Off_reset _ _ _ (by simp), ?_⟩
        rw [← Nat.add_assoc, hX, rs]
        exact ⟨by omega, rfl, by omega⟩
      · have hm2 := row_mul (s := R) (e := e) k fN (by omega)
        have c4 := l02Times_c e k eN fN (by omega)
        rw [eL] at c4 hm2
        have tl : (tb (fun i => e[i]?.getD 0 * k % 10007) f.length).length = f.length := by simp
        have tN : Ns (tb (fun i => e[i]?.getD 0 * k % 10007) f.length) := tb_N fun i _ => isN_mod _
        generalize tb (fun i => e[i]?.getD 0 * k % 10007) f.length = g at *
        have c5 := l02Add_c R g rN tN (by omega) (by omega)
        rw [hm2, ← rs, rL, tl] at c5
        simp [go_sem, hk]
        refine ⟨by kernel_rfl, ⟨hiG, neG⟩, ?_⟩
        simp [go_sem, md]
        refine CallD.of (cE) (by simp [roots, rootsL]) (by decide) ?_
        simp [go_sem]
        refine CallD.of (c4) (by simp [roots, rootsL]) (by decide) ?_
        simp [go_sem]
        refine CallD.of c5 (by simp [go_sem, roots, rootsL]) (by decide) ?_
        simp [go_sem]
        refine ⟨by kernel_rfl, ?_⟩
        simp [go_sem]
        refine ⟨⟨by omega, by omega⟩, ⟨by omega, by omega⟩, i + 1, by omega, by omega, Off_reset _ _ _ (by simp), ?_⟩
        rw [← Nat.add_assoc, hX]
        exact ⟨by omega, rfl, by omega⟩
    · have e : i = G.length := by omega
      subst e
      have hii : ¬ (G.length : Int) < G.length := by omega
      simp [go_sem, hii]
      refine ⟨⟨by omega, by omega⟩, ⟨by omega, by omega⟩, n + 1, by omega, by omega, (by repeat (first | exact Off_reset _ _ _ (by simp) | (refine Off.reset (by intro x hx; simp at hx ⊢; omega) (by simp) ?_; simp -failIfUnchanged [go_sem, Off_reset]))), ⟨rfl, ?_⟩, by omega, by omega⟩
      rw [hts, omat_app, omat_one, rowT_len, hr1]
  · have e : n = 6 := by omega
    subst e
    simp [go_sem]
end Go.Proofs.YtbeekabpflaihaaGreat


namespace Go.Proofs.YtbeekabpflaihaaGreat
open Go.Abs
set_option linter.unusedSectionVars false
set_option linter.unusedVariables false
set_option linter.unusedSimpArgs false
set_option maxHeartbeats 4000000
def trE (a : List Int) (z : Int) (f : List (List Mon)) (y : List Int) : Int := if (mapB a && fieldB z f) = false then 1 else if vecB z y = false then 2 else 0
def trX (a : List Int) (z : Int) (f : List (List Mon)) (y : List Int) : List (List Int) := if trE a z f y = 0 then tsX f y a 7 37 else []
def trR (a : List Int) (z : Int) (f : List (List Mon)) (y : List Int) : AV := .tup [.own 22 (trX a z f y).length (omat (trX a z f y)), .int (trE a z f y)]
theorem trX_len (a : List Int) (z : Int) (f : List (List Mon)) (y : List Int) : (trX a z f y).length ≤ 7 := by unfold trX; split <;> simp
theorem trX_row {a : List Int} {z : Int} {f : List (List Mon)} {y r : List Int} (h : r ∈ trX a z f y) : r.length = y.length := by
  unfold trX at h
  split at h
  · obtain ⟨n, _, rfl⟩ := List.mem_map.1 h
    exact rowT_len _ _ _ _ _
  · simp at h
set_option maxRecDepth 100000 in
theorem specTreeSeries_c (a : List Int) (z : Int) (f : List (List Mon)) (y : List Int) (ha : a.length ≤ 1048576) (hs : Small f) (hy : y.length ≤ 1048576) :
    Con Tryz.prog 7 [.sl a.length (avs a), .agg [.int z, .sl f.length (prt f)], .sl y.length (avs y)] (trR a z f y) := by
  have cM := l14Map_c a (by omega)
  have cF := l13Is_c z f hs
  have cP := l13Point_c z y (by omega)
  have hvb : (decide ((y.length : Int) = z) && numsB y) = vecB z y := rfl
  rw [hvb] at cP
  unfold trR trX trE
  cases h1 : mapB a with
  | false =>
    rw [h1] at cM
    refine Con.n1 _ ?_
    refine con_of_vc Tryz.mixed ⟨8, [], [], []⟩ Tryz.func7 (by decide) rfl (by simp) (by decide) (by simp [freshOK, freshL, go_sem]) ?_
    rw [Tryz.ntmps7]
    simp [go_sem]
    refine CallVC.of (cM) (by decide) ?_
    simp [go_sem]
  | true =>
    rw [h1] at cM
    cases h2 : fieldB z f with
    | false =>
      rw [h2] at cF
      refine Con.n1 _ ?_
      refine con_of_vc Tryz.mixed ⟨8, [], [], []⟩ Tryz.func7 (by decide) rfl (by simp) (by decide) (by simp [freshOK, freshL, go_sem]) ?_
      rw [Tryz.ntmps7]
      simp [go_sem]
      refine CallVC.of (cM) (by decide) ?_
      simp [go_sem]
      refine CallVC.of (cF) (by decide) ?_
      simp [go_sem]
    | true =>
      rw [h2] at cF
      cases h3 : vecB z y with
      | false =>
        rw [h3] at cP
        refine Con.n1 _ ?_
        refine con_of_vc Tryz.mixed ⟨8, [], [], []⟩ Tryz.func7 (by decide) rfl (by simp) (by decide) (by simp [freshOK, freshL, go_sem]) ?_
        rw [Tryz.ntmps7]
        simp [go_sem]
        refine CallVC.of (cM) (by decide) ?_
        simp [go_sem]
        refine CallVC.of (cF) (by decide) ?_
        simp [go_sem]
        refine CallVC.of (cP) (by decide) ?_
        simp [go_sem]
      | true =>
        rw [h3] at cP
        have hF := fieldB_iff.1 h2
        have hm : a.length = 38 ∧ numsB a = true := by unfold mapB at h1; simpa using h1
        have hv : (y.length : Int) = z ∧ numsB y = true := by unfold vecB at h3; simpa using h3
        have cT := l14Trees_c a z f y hm.1 (numsB_N.1 hm.2) hF hs (numsB_N.1 hv.2) hv.1
        have xl : (tsX f y a 7 37).length = 7 := tsX_len _ _ _ _ _
        generalize tsX f y a 7 37 = X at *
        simp only [Bool.and_self, Bool.true_eq_false, if_false, if_true]
        rw [xl]
        refine con_of_vc Tryz.mixed ⟨8, [], [], []⟩ Tryz.func7 (by decide) rfl (by simp) (by decide) (by simp [freshOK, freshL, go_sem]) ?_
        rw [Tryz.ntmps7]
        simp [go_sem]
        refine CallVC.of (cM) (by decide) ?_
        simp [go_sem]
        refine CallVC.of (cF) (by decide) ?_
        simp [go_sem]
        refine CallVC.of (cP) (by decide) ?_
        simp [go_sem]
        refine CallVC.of (cT) (by decide) ?_
        simp [go_sem]
theorem tsX_set (f : List (List Mon)) (y a : List Int) (k i : Nat) (h : ((trN 6)[i]?.getD []).length < k) :
    (tsX f y a k i).set ((trN 6)[i]?.getD []).length (plusS (rowT f y a ((trN 6)[i]?.getD []).length i) (edF f y 6 ((trN 6)[i]?.getD [])) (facT a i)) = tsX f y a k (i + 1) := by
  refine List.ext_getElem (by simp) fun n h1 h2 => ?_
  have hn : n < k := by simpa using h2
  rw [List.getElem_set]
  have e : (tsX f y a k (i + 1))[n] = rowT f y a n (i + 1) := by simp only [tsX, List.getElem_map, List.getElem_range]
  rw [e]
  by_cases hx : ((trN 6)[i]?.getD []).length = n
  · subst hx
    rw [if_pos rfl, rowT, if_pos rfl]
  · rw [if_neg hx, rowT, if_neg hx]
    simp only [tsX, List.getElem_map, List.getElem_range]
set_option maxRecDepth 100000 in
theorem TreeSeries_c (a : List Int) (z : Int) (f : List (List Mon)) (y : List Int) (ha : a.length ≤ 1048576) (hs : Small f) (hy : y.length ≤ 1048576) :
    Con Tryz.prog 10 [.sl a.length (avs a), .agg [.int z, .sl f.length (prt f)], .sl y.length (avs y)] (trR a z f y) := by
  have cM := IsMap_c a (by omega)
  have cF := IsField_c z f hs
  have cP := isVector_c z f.length (prt f) y (by omega)
  unfold trR trX trE
  cases h2 : fieldB z f with
  | false =>
    rw [h2] at cF
    rw [Bool.and_false]
    refine Con.n1 _ ?_
    refine con_of_vc Tryz.mixed ⟨13, [], [], []⟩ Tryz.func10 (by decide) rfl (by simp) (by decide) (by simp [freshOK, freshL, go_sem]) ?_
    rw [Tryz.ntmps10]
    simp [go_sem]
    refine CallVC.of (cF) (by decide) ?_
    simp [go_sem]
  | true =>
    rw [h2] at cF
    cases h1 : mapB a with
    | false =>
      rw [h1] at cM
      refine Con.n1 _ ?_
      refine con_of_vc Tryz.mixed ⟨13, [], [], []⟩ Tryz.func10 (by decide) rfl (by simp) (by decide) (by simp [freshOK, freshL, go_sem]) ?_
      rw [Tryz.ntmps10]
      simp [go_sem]
      refine CallVC.of (cF) (by decide) ?_
      simp [go_sem]
      refine CallVC.of (cM) (by decide) ?_
      simp [go_sem]
    | true =>
      rw [h1] at cM
      cases h3 : vecB z y with
      | false =>
        rw [h3] at cP
        refine Con.n1 _ ?_
        refine con_of_vc Tryz.mixed ⟨13, [], [], []⟩ Tryz.func10 (by decide) rfl (by simp) (by decide) (by simp [freshOK, freshL, go_sem]) ?_
        rw [Tryz.ntmps10]
        simp [go_sem]
        refine CallVC.of (cF) (by decide) ?_
        simp [go_sem]
        refine CallVC.of (cM) (by decide) ?_
        simp [go_sem]
        refine CallVC.of (cP) (by decide) ?_
        simp [go_sem]
      | true =>
        rw [h3] at cP
        have hF := fieldB_iff.1 h2
        have hm : a.length = 38 ∧ numsB a = true := by unfold mapB at h1; simpa using h1
        have hv : (y.length : Int) = z ∧ numsB y = true := by unfold vecB at h3; simpa using h3
        have aN := numsB_N.1 hm.2
        have yN := numsB_N.1 hv.2
        have z1 := hF.lo
        have z3 := hF.hi
        have fl := hF.len
        have hl := hv.1
        have am := hm.1
        subst hl
        have n0 := aN.get 0
        have cS := scaled_c y (a[0]?.getD 0) yN ⟨by have := n0.1; omega, by have := n0.2; omega⟩ (by omega)
        have cPl := polynomials_c y.length f hF hs
        have cTr := treesTo_c 6 (by omega)
        rw [trN_len6] at cTr
        have a0 := avs_drop (xs := a) (k := 0) (by omega)
        rw [List.drop_zero, List.getD_eq_getElem?_getD, Nat.zero_add, List.drop_one] at a0
        have b0 : AV.val (.int .i64 (a[0]?.getD 0)) :: avs a.tail = avs a := a0.symm
        have ane : ¬ a = [] := by rintro rfl; simp at am
        simp only [Bool.and_self, Bool.true_eq_false, if_false, if_true]
        rw [tsX_len]
        refine con_of_vc Tryz.mixed ⟨13, [44], [], []⟩ Tryz.func10 (by decide) rfl (by simp) (by decide) (by simp [freshOK, freshL, go_sem]) ?_
        rw [Tryz.ntmps10]
        simp [go_sem]
        refine CallVC.of (cF) (by decide) ?_
        simp [go_sem]
        refine CallVC.of (cM) (by decide) ?_
        simp [go_sem]
        refine CallVC.of (cP) (by decide) ?_
        simp [go_sem]
        rw [a0]
        simp [go_sem]
        rw [b0]
        refine ⟨⟨by omega, ane⟩, ?_⟩
        refine CallVC.of (cS) (by decide) ?_
        simp [go_sem]
        refine loop_inv ([8] ++ List.range' 33 9) (fun n : Nat => [(8, .own 22 (n + 1) (omat (tsX f y a (n + 1) 0))), (33, .int n)]) (fun n => n ≤ 6) (fun n => 6 - n) 0 (by simp) (by simp [go_sem, tsX, omat, rowT]) (by simp [go_sem]) ?_
        intro n hn
        by_cases hn6 : n < 6
        · have hni : (n : Int) < 6 := by omega
          have hts := tsX_succ f y a (n + 1) 0
          have hr : rowT f y a (n + 1) 0 = List.replicate y.length 0 := by rw [rowT, if_neg (by omega)]
          simp [go_sem, hni]
          refine ⟨⟨by omega, by omega⟩, ⟨by omega, by omega⟩, ⟨by omega, by omega⟩, n + 1, by omega, by omega, Off_reset _ _ _ (by simp), ⟨rfl, ?_⟩, by omega⟩
          rw [hts, omat_app, omat_one, rowT_len, hr, avs_repl]
        · have e : n = 6 := by omega
          subst e
          simp [go_sem]
          refine CallVC.of (cPl) (by decide) ?_
          simp [go_sem]
          refine CallVC.of (cTr) (by decide) ?_
          simp [go_sem]
          refine loop_inv ([8, 10, 11, 12] ++ List.range' 46 32) (fun i : Nat => [(8, .own 22 7 (omat (tsX f y a 7 i))), (46, .int i)]) (fun i => i ≤ 37) (fun i => 37 - i) 0 (by simp) (by simp [go_sem]) (by simp [go_sem]) ?_
          intro i hi
          by_cases hi37 : i < 37
          · have hii : (i : Int) < 37 := by omega
            have hiT : i < (trN 6).length := by rw [trN_len6]; exact hi37
            have md := mat_drop hiT
            have neT : ¬ trN 6 = [] := by intro e; have := trN_len6; rw [e] at this; simp at this
            have ho := trN_okS hi37
            have hv := (trN_pos hi37).2
            have st := tsX_set f y a 7 i (by omega)
            have fN := facT_N a i
            have fa : facT a i = a[i + 1]?.getD 0 * pw (symF 6 ((trN 6)[i]?.getD []) % 10007) 10005 % 10007 := rfl
            have gt := tsX_get f y a i (show ((trN 6)[i]?.getD []).length < 7 by omega)
            have ad := avs_drop (xs := a) (k := i + 1) (by omega)
            rw [List.getD_eq_getElem?_getD] at ad
            have xN := aN.get (i + 1)
            have oB := okS_sym ho
            have cY := symmetry_c 6 _ (by omega) ho
            have cE := differential_c y.length f y hF hs yN rfl 6 ((trN 6)[i]?.getD []) hv.2 hv.1 (by omega)
            have eL := edF_len (f := f) (y := y) (n := 6) (by omega) ((trN 6)[i]?.getD [])
            have eN := edF_N (f := f) (y := y) (n := 6) ((trN 6)[i]?.getD [])
            have rL := rowT_len f y a ((trN 6)[i]?.getD []).length i
            have rN := rowT_N f y a ((trN 6)[i]?.getD []).length i
            have gm := omat_get2 (A := tsX f y a 7 i) (k := ((trN 6)[i]?.getD []).length) (by simp; omega)
            rw [gt, rL] at gm
            have cPs := plus_c (rowT f y a ((trN 6)[i]?.getD []).length i) (edF f y 6 ((trN 6)[i]?.getD [])) (facT a i) rN eN ⟨by have := fN.1; omega, by have := fN.2; omega⟩ (by omega) (by omega)
            have os := omat_set (tsX f y a 7 i) ((trN 6)[i]?.getD []).length (plusS (rowT f y a ((trN 6)[i]?.getD []).length i) (edF f y 6 ((trN 6)[i]?.getD [])) (facT a i))
            rw [st, plusS_len, rL] at os
            rw [eL] at cPs
            rw [rL] at cPs
            clear st gt ho
            have Yl := tsX_len f y a 7 i
            generalize hX : tsX f y a 7 (i + 1) = X at *
            generalize tsX f y a 7 i = Y at *
            generalize plusS (rowT f y a ((trN 6)[i]?.getD []).length i) (edF f y 6 ((trN 6)[i]?.getD [])) (facT a i) = P at *
            generalize rowT f y a ((trN 6)[i]?.getD []).length i = R at *
            generalize edF f y 6 ((trN 6)[i]?.getD []) = e at *
            generalize symF 6 ((trN 6)[i]?.getD []) = w at *
            generalize (trN 6)[i]?.getD [] = t at *
            generalize hx : a[i + 1]?.getD 0 = x at *
            have pN : isN (pw (w % 10007) 10005) := isN_mod _
            have c1 := num_c w (by omega) (by omega)
            have c2 := inv_c (w % 10007) (isN_mod w)
            have f3 := mul_fits xN pN
            have c3 := num_c (x * pw (w % 10007) 10005) f3.1 f3.2
            rw [← fa] at c3
            generalize facT a i = k at *
            generalize pw (w % 10007) 10005 = pq at *
            simp [go_sem, hii, md]
            refine ⟨neT, by kernel_rfl, ⟨by omega, by omega⟩, ⟨by omega, by omega, ane⟩, ?_⟩
            simp [go_sem, ad, hx]
            refine CallD.of cY (by simp [go_sem, roots, rootsL]) (by decide) ?_
            simp [go_sem]
            refine CallD.of (c1) (by simp [roots, rootsL]) (by decide) ?_
            simp [go_sem]
            refine CallD.of (c2) (by simp [roots, rootsL]) (by decide) ?_
            simp [go_sem]
            refine ⟨f3, ?_⟩
            refine CallD.of (c3) (by simp [roots, rootsL]) (by decide) ?_
            simp [go_sem]
            refine ⟨by kernel_rfl, ?_⟩
            simp [go_sem]
            simp [go_sem, gm]
            refine ⟨by kernel_rfl, by omega, ?_⟩
            refine CallD.of (cE) (by simp [roots, rootsL]) (by decide) ?_
            simp [go_sem]
            simp [go_sem, gm]
            refine CallD.of cPs (by simp [go_sem, roots, rootsL]) (by decide) ?_
            simp [go_sem, os]
            refine ⟨by omega, by omega, ?_⟩
            refine ⟨by kernel_rfl, ?_⟩
            simp [go_sem]
            refine ⟨⟨by omega, by omega⟩, i + 1, by omega, by omega, Off_reset _ _ _ (by simp), ?_⟩
            rw [hX]
            exact ⟨rfl, by omega⟩
          · have e : i = 37 := by omega
            subst e
            simp [go_sem]
end Go.Proofs.YtbeekabpflaihaaGreat


namespace Go.Proofs.YtbeekabpflaihaaGreat
open Go.Abs
set_option linter.unusedSectionVars false
set_option linter.unusedVariables false
set_option linter.unusedSimpArgs false
set_option maxHeartbeats 4000000
set_option maxRecDepth 100000 in
theorem law41_c (y0 : List Int) (z1 : Int) (f1 : List (List Mon)) (y2 : List Int) (hy0 : y0.length ≤ 9223372036854775807) (hf1 : Fit f1) (hy2 : y2.length ≤ 9223372036854775807) :
    Con Tryz.prog 3 [.sl y0.length (avs y0), .agg [.int z1, .sl f1.length (prt f1)], .sl y2.length (avs y2)] (.bool true) := by
  refine con_of_vc Tryz.mixed ⟨20, [38, 118], [14, 15, 16], []⟩ Tryz.func3 (by decide) rfl (by simp) (by decide) (by simp [freshOK, freshL, go_sem]) ?_
  rw [Tryz.ntmps3]
  simp [go_sem]
  by_cases hl0 : (1048576 : Int) < y0.length
  · have hl02 : 1048576 < y0.length := by omega
    simp [go_sem, hl0, hl02]
  have hk0 : ¬ 1048576 < y0.length := by omega
  simp [go_sem, hl0, hk0]
  by_cases hl2 : (1048576 : Int) < y2.length
  · have hl22 : 1048576 < y2.length := by omega
    simp [go_sem, hl2, hl22]
  have hk2 : ¬ 1048576 < y2.length := by omega
  simp [go_sem, hl2, hk2]
  have cS1 := szField_c z1 f1 (1048576) hf1 (by omega) (by omega)
  refine CallVC.of (cS1) (by decide) ?_
  simp [go_sem]
  by_cases hs1 : szF (1048576) f1 < 0
  · simp [go_sem, hs1]
  simp [go_sem, hs1]
  have hc1 := szF_ok.ok (1048576) f1 (by omega) (by omega)
  have hh1 := szF_ok.hi (1048576) f1 (by omega)
  generalize hL1 : szF (1048576) f1 = L1 at *
  have y0l : y0.length ≤ 1048576 := by omega
  have cT0 := toInt64S_c y0 y0l
  have cQ0 := eqInt64S_c y0 y0 (by omega)
  simp at cQ0
  have sm1 := small_of (f := f1) (by omega)
  have cT1 := toField_c z1 f1 sm1.1 sm1.2
  have cQ1 := eqField_c z1 f1 hf1
  have fl1 := sm1.1
  have ct1 : (sumC cP f1 : Int) ≤ 1048576 := by unfold cF at hc1; omega
  have y2l : y2.length ≤ 1048576 := by omega
  have cT2 := toInt64S_c y2 y2l
  have cQ2 := eqInt64S_c y2 y2 (by omega)
  simp at cQ2
  have cSp := specTreeSeries_c y0 z1 f1 y2 y0l sm1 y2l
  have cIm := TreeSeries_c y0 z1 f1 y2 y0l sm1 y2l
  have xl : (trX y0 z1 f1 y2).length ≤ 1048576 := by have := trX_len y0 z1 f1 y2; omega
  have xr : ∀ r ∈ trX y0 z1 f1 y2, r.length ≤ 1048576 := fun r hr => by have := trX_row hr; omega
  unfold trR at cSp cIm
  generalize trX y0 z1 f1 y2 = xs at cSp cIm xl xr
  generalize trE y0 z1 f1 y2 = e at cSp cIm
  have cM0 := markInt64S_c 2 y0 (1) (by omega) (by omega)
  have cM1 := markField_c z1 f1 (1 + y0.length) sm1.1 sm1.2 (by omega) (by omega)
  have cM2 := markInt64S_c 2 y2 (1 + y0.length + sumC cP f1) (by omega) (by omega)
  have p2 : ¬ (1 + (y0.length : Int) + (sumC cP f1 : Int) + (y2.length : Int) < 0) := by omega
  have xs2 : (sumL xs : Int) ≤ 1099511627776 := by
    have h1 := sumL_bound xr
    have h2 := Nat.mul_le_mul (show xs.length ≤ 1048576 by omega) (Nat.le_refl 1048576)
    omega
  have cE := eqInt64SS_c xs xs (by omega) (fun r hr => by have := xr r hr; omega)
  have cN := markInt64SS_c xs 1 xl xr (by omega) (by omega)
  have cH := heldInt64SS_c xs 1 xl xr (by omega) (by omega)
  simp at cE
  have p1 : ¬ (1 + (sumL xs : Int) < 0) := by omega
  refine ⟨by kernel_rfl, ?_⟩
  refine CallD.of (cT0) (by simp [roots, rootsL]) (by decide) ?_
  simp [go_sem]
  refine CallD.of (cT1) (by simp [roots, rootsL]) (by decide) ?_
  simp [go_sem]
  refine CallD.of (cT2) (by simp [roots, rootsL]) (by decide) ?_
  simp [go_sem]
  refine CallD.of (cSp) (by simp [go_sem, roots, rootsL]) (by decide) ?_
  simp [go_sem]
  refine ⟨by kernel_rfl, ?_⟩
  simp [go_sem]
  refine CallVC.of (cT0) (by decide) ?_
  simp [go_sem]
  refine CallVC.of (cT1) (by decide) ?_
  simp [go_sem]
  refine CallVC.of (cT2) (by decide) ?_
  simp [go_sem]
  refine CallVC.of (cIm) (by decide) ?_
  simp [go_sem]
  refine CallVC.of (cE) (by decide) ?_
  simp [go_sem]
  refine CallVC.of (cT0) (by decide) ?_
  simp [go_sem]
  refine CallVC.of (cQ0) (by decide) ?_
  simp [go_sem]
  refine ⟨by kernel_rfl, ?_⟩
  refine CallD.of (cT1) (by simp [roots, rootsL]) (by decide) ?_
  simp [go_sem]
  refine CallD.of (cQ1) (by simp [roots, rootsL]) (by decide) ?_
  simp [go_sem]
  refine ⟨by kernel_rfl, ?_⟩
  simp [go_sem]
  refine CallVC.of (cT2) (by decide) ?_
  simp [go_sem]
  refine CallVC.of (cQ2) (by decide) ?_
  simp [go_sem]
  refine ⟨_, _, cM0, ?_⟩
  simp [go_sem]
  refine ⟨_, _, cM1, ?_⟩
  simp [go_sem]
  refine ⟨_, _, cM2, ?_⟩
  simp [go_sem]
  simp [go_sem, p2]
  refine CallVC.of (cE) (by decide) ?_
  simp [go_sem]
  refine ⟨_, _, cN, ?_⟩
  simp [go_sem]
  refine CallVC.of (cH) (by decide) ?_
  simp [go_sem]
  simp [go_sem, p1]
  refine ⟨by kernel_rfl, ?_⟩
  refine CallD.of (cT0) (by simp [roots, rootsL]) (by decide) ?_
  simp [go_sem]
  refine CallD.of (cT1) (by simp [roots, rootsL]) (by decide) ?_
  simp [go_sem]
  refine CallD.of (cT2) (by simp [roots, rootsL]) (by decide) ?_
  simp [go_sem]
  refine CallD.of (cIm) (by simp [go_sem, roots, rootsL]) (by decide) ?_
  simp [go_sem]
  refine ⟨by kernel_rfl, ?_⟩
  simp [go_sem]
  refine CallVC.of (cE) (by decide) ?_
  simp [go_sem]
  refine CallVC.of (cH) (by decide) ?_
  simp [go_sem]
  simp [go_sem, p1]
end Go.Proofs.YtbeekabpflaihaaGreat

