/- Texts of the own layer and contracts, part 8: W31 V13 W32 W33 V15 W17 Q41 Q43 E11 N8 Q44 W34 E38 E39 E40 W12 W13 V2 V1 W1 W3 W14 W15 W6 W7 W9 W10 W19 U4 LK W35 O W2 W8 L51. -/
import Derived.Test.YtpkgedaejcigeaaGreatRows
import Derived.WalkKit
import Derived.ProofKit
import Derived.OpenShut
import Derived.Test.YtpkgedaejcigeaaGreatM7
namespace Go.Proofs.YtpkgedaejcigeaaGreat
open Go.Abs Go.Shelf Go.Sort
set_option linter.unusedSectionVars false
set_option linter.unusedVariables false
set_option linter.unusedSimpArgs false
set_option maxHeartbeats 1000000
def ltT (s t : List Int) : Bool := if s.length = t.length then ltL t s else decide (s.length < t.length)
def cmpT (s t : List Int) : Int := if s.length = t.length then cmpL t s else (s.length : Int) - t.length
theorem cmpT_neg (s t : List Int) : decide (cmpT s t < 0) = ltT s t := by
  unfold cmpT ltT
  split
  · exact cmpL_neg t s
  · congr 1; exact propext ⟨fun h => by omega, fun h => by omega⟩
theorem ltT_irr (s : List Int) : ltT s s = false := by unfold ltT; rw [if_pos rfl]; exact ltL_irr s
theorem ltT_trans {a b c : List Int} (h1 : ltT a b = true) (h2 : ltT b c = true) : ltT a c = true := by
  unfold ltT at *
  split at h1 <;> split at h2
  · rw [if_pos (by omega)]; exact ltL_trans h2 h1
  · simp at h2; rw [if_neg (by omega)]; simp; omega
  · simp at h1; rw [if_neg (by omega)]; simp; omega
  · simp at h1 h2; rw [if_neg (by omega)]; simp; omega
theorem ltT_tot {a b : List Int} (e : a ≠ b) (h : ltT a b = false) : ltT b a = true := by
  unfold ltT at *
  split at h
  · rename_i hl
    rw [if_pos hl.symm]; exact ltL_tot (fun x => e x.symm) h
  · rename_i hl
    simp at h; rw [if_neg (fun x => hl x.symm)]; simp; omega
theorem ltT_asym {a b : List Int} (h : ltT a b = true) : ltT b a = false := by
  cases h2 : ltT b a with
  | false => rfl
  | true => have := ltT_trans h h2; rw [ltT_irr] at this; simp at this
def atT (p : List Int) : List (List Int) → Nat
  | [] => 0
  | s :: S => if ltT p s = true then 0 else atT p S + 1
theorem atT_le (p : List Int) : ∀ S, atT p S ≤ S.length
  | [] => by simp [atT]
  | s :: S => by have := atT_le p S; rw [atT]; split <;> simp; omega
def insT (p : List Int) (S : List (List Int)) : List (List Int) := S.take (atT p S) ++ p :: S.drop (atT p S)
@[simp] theorem insT_len (p : List Int) (S : List (List Int)) : (insT p S).length = S.length + 1 := by have := atT_le p S; simp [insT]; omega
theorem insT_mem {p x : List Int} {S : List (List Int)} (h : x ∈ insT p S) : x = p ∨ x ∈ S := by
  rcases List.mem_append.1 h with h | h
  · exact .inr (List.mem_of_mem_take h)
  · rcases List.mem_cons.1 h with h | h
    · exact .inl h
    · exact .inr (List.mem_of_mem_drop h)
theorem insT_perm (p : List Int) (S : List (List Int)) : (insT p S).Perm (p :: S) := by
  unfold insT
  exact List.perm_middle.trans (by rw [List.take_append_drop])
theorem insT_cons (p s : List Int) (S : List (List Int)) : insT p (s :: S) = if ltT p s = true then p :: s :: S else s :: insT p S := by
  unfold insT
  rw [atT]
  split <;> simp
theorem insT_asc (p : List Int) : ∀ {S : List (List Int)}, S.Pairwise (fun a b => ltT b a = false) → (insT p S).Pairwise (fun a b => ltT b a = false)
  | [], _ => by simp [insT, atT]
  | s :: S, h => by
    obtain ⟨h1, h2⟩ := List.pairwise_cons.1 h
    rw [insT_cons]
    split
    · rename_i hs
      refine List.pairwise_cons.2 ⟨fun y hy => ?_, h⟩
      rcases List.mem_cons.1 hy with rfl | hy
      · exact ltT_asym hs
      · cases hp : ltT y p with
        | false => rfl
        | true => have := h1 y hy; rw [ltT_trans hp hs] at this; exact this
    · rename_i hs
      refine List.pairwise_cons.2 ⟨fun y hy => ?_, insT_asc p h2⟩
      rcases insT_mem hy with rfl | hy
      · simpa using hs
      · exact h1 y hy
def srtT (bs : List (List Int)) : List (List Int) := bs.foldl (fun S b => insT b S) []
theorem srtT_snoc (bs : List (List Int)) (b : List Int) : srtT (bs ++ [b]) = insT b (srtT bs) := by simp [srtT]
theorem srtT_asc (bs : List (List Int)) : (srtT bs).Pairwise (fun a b => ltT b a = false) :=
  rev_ind (P := fun bs => (srtT bs).Pairwise (fun a b => ltT b a = false)) List.Pairwise.nil (fun l a h => by rw [srtT_snoc]; exact insT_asc _ h) bs
theorem srtT_perm (bs : List (List Int)) : (srtT bs).Perm bs :=
  rev_ind (P := fun bs => (srtT bs).Perm bs) (List.Perm.refl _) (fun l a h => by
    rw [srtT_snoc]
    refine (insT_perm _ _).trans ((h.cons _).trans ?_)
    exact (List.perm_append_comm (l₁ := [a]) (l₂ := l))) bs
@[simp] theorem srtT_len (bs : List (List Int)) : (srtT bs).length = bs.length := (srtT_perm bs).length_eq
theorem asc_unique {X L : List (List Int)} (hp : X.Perm L) (hX : X.Pairwise (fun a b => ltT b a = false)) (hL : L.Pairwise (fun a b => ltT b a = false)) : X = L :=
  hp.eq_of_pairwise (fun a b _ _ h1 h2 => by
    by_cases e : a = b
    · exact e
    · have := ltT_tot e h2; rw [h1] at this; simp at this) hX hL
theorem swo_asc : SWO (Go.Proofs.ltOf cmpT) := by
  have e : (Go.Proofs.ltOf cmpT) = ltT := by
    funext a b; exact cmpT_neg _ _
  rw [e]
  refine ⟨fun m => ltT_irr _, fun x y z h1 h2 => ltT_trans h1 h2, fun x y z h1 h2 => ?_⟩
  cases h3 : ltT x z with
  | false => rfl
  | true =>
    by_cases e : x = y
    · rw [e] at h3; rw [h3] at h2; exact h2
    · have h4 := ltT_tot e h1
      have := ltT_trans h4 h3
      rw [this] at h2; exact h2
set_option maxRecDepth 100000 in
theorem compareTrees_c [DrawK] (a b : List Int) (ha : a.length ≤ 1000000) (hb : b.length ≤ 1000000) : Con Tryz.prog 126 [.sl a.length (avs a), .sl b.length (avs b)] (.int (cmpT a b)) := by
  unfold cmpT
  by_cases h : a.length = b.length
  · have hi : (a.length : Int) = b.length := by omega
    rw [if_pos h]
    have c := Compare_c b a (by omega) (by omega)
    refine con_of_vc Tryz.mixed ⟨5, [], [], []⟩ Tryz.func126 (by decide) rfl (by simp) (by decide) (by simp [freshOK, freshL, go_sem]) ?_
    rw [Tryz.ntmps126]
    simp [go_sem, hi]
    refine CallVC.of (c) (by decide) ?_
    simp [go_sem]
  · have hi : ¬ (a.length : Int) = b.length := by omega
    rw [if_neg h]
    refine con_of_vc Tryz.mixed ⟨5, [], [], []⟩ Tryz.func126 (by decide) rfl (by simp) (by decide) (by simp [freshOK, freshL, go_sem]) ?_
    rw [Tryz.ntmps126]
    simp [go_sem, hi]
    omega
theorem insTrees_c (X : List (List Int)) (hl : ∀ m ∈ X, m.length ≤ 1000000) (hn : X.length ≤ 1048576) :
    MCon Tryz.prog 176 [.own 25 X.length (omat X), .int 0, .int X.length, .val (.func (.func 126) #[] #[])] (.tup []) [.own 25 X.length (omat (srtT X)), .any, .any, .any] := by
  obtain ⟨ys, h1, h2, h3⟩ := inssort_mcon1 Tryz.insTrees ⟨_, Tryz.func176, by decide, rfl⟩ (fun m : List Int => .own 2 m.length (avs m)) cmpT swo_asc 126 25 (by kernel_rfl) X (by rw [omat_flat]; exact omat_fresh X)
    (fun x hx y hy => by simpa [frz] using @compareTrees_c ⟨1⟩ x y (hl x hx) (hl y hy)) (by omega)
  have e : ys = srtT X := asc_unique (h1.trans (srtT_perm X).symm) (h2.imp fun {a b} h => by
    have := cmpT_neg b a
    rw [← this]; simpa using h) (srtT_asc X)
  subst e
  rw [omat_flat, omat_flat] at h3
  exact h3
set_option maxRecDepth 100000 in
theorem stable_c (X : List (List Int)) (hl : ∀ m ∈ X, m.length ≤ 1000000) (hn : X.length ≤ 19) :
    MCon Tryz.prog 156 [.own 25 X.length (omat X), .int X.length, .val (.func (.func 126) #[] #[])] (.tup []) [.own 25 X.length (omat (srtT X)), .any, .any] := by
  have cI := insTrees_c X hl (by omega)
  have h1 : ¬ (20 : Int) ≤ X.length := by omega
  have h2 : ¬ (20 : Int) < X.length := by omega
  refine mcon_of_vc Tryz.mixed ⟨10, [], [176], []⟩ [] [0] Tryz.func156 (by decide) rfl rfl (by simp) (by simp) (by simp) (by decide) ?_
  rw [Tryz.ntmps156]
  simp [go_sem]
  refine loop_inv (7 :: 8 :: List.range' 11 12) (fun _ : Nat => [(7, .int 0), (8, .int 20)]) (fun _ => True) (fun _ => 0) 0 trivial (by simp [go_sem]) (by simp [go_sem]) ?_
  intro _ _
  simp [go_sem, h1]
  refine ⟨_, _, cI, ?_⟩
  simp [go_sem]
  refine loop_inv ([6, 7, 8, 9] ++ List.range' 28 35) (fun _ : Nat => [(6, .int 20)]) (fun _ => True) (fun _ => 0) 0 trivial (by simp [go_sem]) (by simp [go_sem]) ?_
  intro _ _
  simp [go_sem, h2]
set_option maxRecDepth 100000 in
theorem sortStable_c (X : List (List Int)) (hl : ∀ m ∈ X, m.length ≤ 1000000) (hn : X.length ≤ 19) :
    MCon Tryz.prog 125 [.own 25 X.length (omat X), .val (.func (.func 126) #[] #[])] (.tup []) [.own 25 X.length (omat (srtT X)), .any] := by
  have cI := stable_c X hl hn
  refine mcon_of_vc Tryz.mixed ⟨4, [], [156], []⟩ [] [0] Tryz.func125 (by decide) rfl rfl (by simp) (by simp) (by simp) (by decide) ?_
  rw [Tryz.ntmps125]
  simp [go_sem]
  refine ⟨_, _, cI, ?_⟩
  simp [go_sem]
set_option maxRecDepth 100000 in
theorem forestOf_c (X : List (List Int)) (hl : ∀ m ∈ X, m.length ≤ 1000000) (hn : X.length ≤ 19) :
    Con Tryz.prog 85 [.sl X.length (mat X)] (.own 25 X.length (omat (srtT X))) := by
  have cC := cloneRows_c X (by omega) (fun r h => by have := hl r h; omega)
  have cI := sortStable_c X hl hn
  refine con_of_vc Tryz.mixed ⟨4, [], [125], []⟩ Tryz.func85 (by decide) rfl (by simp) (by decide) (by simp [freshOK, freshL, go_sem]) ?_
  rw [Tryz.ntmps85]
  simp [go_sem]
  refine CallVC.of (cC) (by decide) ?_
  simp [go_sem]
  refine ⟨_, _, cI, ?_⟩
  simp [go_sem]
end Go.Proofs.YtpkgedaejcigeaaGreat


namespace Go.Proofs.YtpkgedaejcigeaaGreat
open Go.Abs
set_option linter.unusedSectionVars false
set_option linter.unusedVariables false
set_option linter.unusedSimpArgs false
set_option maxHeartbeats 2000000
set_option maxRecDepth 100000 in
theorem slEqual_c (a b : List Int) (ha : a.length ≤ 9223372036854775807) : Con Tryz.prog 88 [.sl a.length (avs a), .sl b.length (avs b)] (.bool (decide (a = b))) := by
  by_cases hl : a.length = b.length
  · have hi : (a.length : Int) = b.length := by omega
    refine con_of_vc Tryz.mixed ⟨7, [], [], []⟩ Tryz.func88 (by decide) rfl (by simp) (by decide) (by simp [freshOK, freshL, go_sem]) ?_
    rw [Tryz.ntmps88]
    simp [go_sem, hi]
    refine loop_inv (4 :: 5 :: List.range' 13 13) (fun i : Nat => [(13, .int i)]) (fun i => i ≤ b.length ∧ a.take i = b.take i) (fun i => b.length - i) 0 (by simp) (by simp [go_sem]) (by simp [go_sem]) ?_
    intro i hi
    simp [go_sem]
    refine ⟨fun h => ?_, fun h => ?_⟩ <;> simp at h
    · have h2 : i < a.length := by omega
      simp [go_sem, avs_drop h, avs_drop h2]
      refine ⟨by kernel_rfl, ⟨h2, by rintro rfl; simp at h2⟩, ⟨h, by rintro rfl; simp at h⟩, ?_⟩
      refine ⟨by kernel_rfl, ?_⟩
      simp [go_sem]
      refine ⟨fun h3 => ?_, fun h3 => ?_⟩ <;> simp at h3 <;> simp [go_sem]
      · rintro rfl; exact h3 rfl
      · refine ⟨by omega, i + 1, ⟨by omega, ?_⟩, by omega, Off_reset _ _ _ (by simp), by omega⟩
        rw [List.take_add_one, List.take_add_one, hi.2]
        rw [List.getElem?_eq_getElem h, List.getElem?_eq_getElem h2] at h3 ⊢
        simp only [Option.getD_some] at h3
        rw [h3]
    · simp [go_sem]
      have e : i = b.length := by omega
      subst e
      have := hi.2
      rw [List.take_length, ← hl, List.take_length] at this
      exact this
  · have e : decide (a = b) = false := by
      rw [decide_eq_false_iff_not]; intro h; exact hl (by rw [h])
    rw [e]
    have hi : ¬ (a.length : Int) = b.length := by omega
    refine con_of_vc Tryz.mixed ⟨7, [], [], []⟩ Tryz.func88 (by decide) rfl (by simp) (by decide) (by simp [freshOK, freshL, go_sem]) ?_
    rw [Tryz.ntmps88]
    simp [go_sem, hi]
end Go.Proofs.YtpkgedaejcigeaaGreat


namespace Go.Proofs.YtpkgedaejcigeaaGreat
open Go.Abs
set_option linter.unusedSectionVars false
set_option linter.unusedVariables false
set_option linter.unusedSimpArgs false
set_option maxHeartbeats 2000000
def runT (l : List (List Int)) (i : Nat) (s : Int) : Int := if 0 < i ∧ l[i - 1]?.getD [] ≠ l[i]?.getD [] then 1 else s + 1
def symP (g : List Int → Int) (l : List (List Int)) : Nat → Int × Int
  | 0 => (1, 0)
  | i + 1 => ((symP g l i).1 * (runT l i (symP g l i).2 * g (l[i]?.getD [])), runT l i (symP g l i).2)
def symF : Nat → List Int → Int
  | 0, _ => 1
  | n + 1, t => (symP (symF n) (srtT (brs (canF (n + 1) t))) (srtT (brs (canF (n + 1) t))).length).1
def okS : Nat → List Int → Bool
  | 0, _ => false
  | n + 1, t => lv0 t && decide (t.length ≤ n + 1) && lv0 (canF (n + 1) t) && decide ((srtT (brs (canF (n + 1) t))).length ≤ 19) &&
      (srtT (brs (canF (n + 1) t))).all (fun b => okS n b && decide (0 ≤ symF n b ∧ symF n b ≤ 1000000)) &&
      (List.range ((srtT (brs (canF (n + 1) t))).length + 1)).all fun i => decide (0 ≤ (symP (symF n) (srtT (brs (canF (n + 1) t))) i).1 ∧ (symP (symF n) (srtT (brs (canF (n + 1) t))) i).1 ≤ 1000000 ∧ 0 ≤ (symP (symF n) (srtT (brs (canF (n + 1) t))) i).2 ∧ (symP (symF n) (srtT (brs (canF (n + 1) t))) i).2 ≤ 100)
theorem okS_spec {n : Nat} {t : List Int} (h : okS (n + 1) t = true) : Lv t ∧ t.length ≤ n + 1 ∧ Lv (canF (n + 1) t) ∧ (srtT (brs (canF (n + 1) t))).length ≤ 19 ∧
    (∀ b ∈ srtT (brs (canF (n + 1) t)), okS n b = true ∧ 0 ≤ symF n b ∧ symF n b ≤ 1000000) ∧
    ∀ i, i ≤ (srtT (brs (canF (n + 1) t))).length → 0 ≤ (symP (symF n) (srtT (brs (canF (n + 1) t))) i).1 ∧ (symP (symF n) (srtT (brs (canF (n + 1) t))) i).1 ≤ 1000000 ∧ 0 ≤ (symP (symF n) (srtT (brs (canF (n + 1) t))) i).2 ∧ (symP (symF n) (srtT (brs (canF (n + 1) t))) i).2 ≤ 100 := by
  unfold okS at h
  simp only [Bool.and_eq_true, decide_eq_true_eq, List.all_eq_true] at h
  obtain ⟨⟨⟨⟨⟨h1, h2⟩, h3⟩, h4⟩, h5⟩, h6⟩ := h
  exact ⟨lv0_Lv h1, h2, lv0_Lv h3, h4, fun b hb => h5 b hb, fun i hi => h6 i (by simpa using Nat.lt_succ_of_le hi)⟩
theorem okS_len : ∀ {n : Nat} {t : List Int}, okS n t = true → t.length ≤ n
  | 0, t, h => by simp [okS] at h
  | n + 1, t, h => (okS_spec h).2.1
set_option maxRecDepth 100000 in
theorem symmetry_c : ∀ (n : Nat) (t : List Int), n ≤ 100 → okS n t = true → Con Tryz.prog 45 [.sl t.length (avs t)] (.int (symF n t))
  | 0, t, _, h => by simp [okS] at h
  | n + 1, t, hn, h => by
    obtain ⟨hLv, hl, hcv, hk, hb, hp⟩ := okS_spec h
    have ih := fun b (h : b ∈ srtT (brs (canF (n + 1) t))) => symmetry_c n b (by omega) (hb b h).1
    have hlen := fun b (h : b ∈ srtT (brs (canF (n + 1) t))) => okS_len (hb b h).1
    have cC := canonical_c (n + 1) t hn hLv hl
    have cl := canF_len (n + 1) t hLv hl
    have cB := branchesOf_c (canF (n + 1) t) (by omega) hcv
    rw [cl] at cB
    have cF := forestOf_c (brs (canF (n + 1) t)) (fun m hm => by have := hlen m ((srtT_perm _).mem_iff.2 hm); omega) (by have := hk; rw [srtT_len] at this; exact this)
    have sl := srtT_len (brs (canF (n + 1) t))
    rw [← sl] at cF cB
    have e1 : symF (n + 1) t = (symP (symF n) (srtT (brs (canF (n + 1) t))) (srtT (brs (canF (n + 1) t))).length).1 := rfl
    rw [e1]
    clear e1 sl cl
    generalize canF (n + 1) t = u at *
    generalize srtT (brs u) = l at *
    refine con_of_vc Tryz.mixed ⟨8, [11], [], []⟩ Tryz.func45 (by decide) rfl (by simp) (by decide) (by simp [freshOK, freshL, go_sem]) ?_
    rw [Tryz.ntmps45]
    simp [go_sem]
    refine CallVC.of (cC) (by decide) ?_
    simp [go_sem]
    refine CallVC.of (cB) (by decide) ?_
    simp [go_sem]
    refine CallVC.of (cF) (by decide) ?_
    simp [go_sem]
    refine loop_inv ([3, 5, 6, 7] ++ List.range' 14 26) (fun i : Nat => [(3, .int (symP (symF n) l i).1), (5, .int (symP (symF n) l i).2), (14, .int i)]) (fun i => i ≤ l.length) (fun i => l.length - i) 0 (by simp) (by simp [go_sem, symP]) (by simp [go_sem]) ?_
    intro i hi
    simp [go_sem]
    refine ⟨fun h => ?_, fun h => ?_⟩ <;> simp at h
    · have h0 := hp i hi
      have h1 := hp (i + 1) (by omega)
      have hm : l[i]?.getD [] ∈ l := by simp [h]
      have cS := ih _ hm
      have lS := hlen _ hm
      have gS := (hb _ hm).2
      have s1 : (symP (symF n) l (i + 1)).1 = (symP (symF n) l i).1 * (runT l i (symP (symF n) l i).2 * symF n (l[i]?.getD [])) := rfl
      have s2 : (symP (symF n) l (i + 1)).2 = runT l i (symP (symF n) l i).2 := rfl
      rw [s1, s2] at h1
      have hd := mat_drop h
      rw [s1.symm.trans rfl] at h1
      have pr : ∀ r g : Int, 0 ≤ r → r ≤ 100 → 0 ≤ g → g ≤ 1000000 → 0 ≤ r * g ∧ r * g ≤ 100000000 := fun r g a1 a2 a3 a4 => ⟨Int.mul_nonneg a1 a3, by have := Int.mul_le_mul a2 a4 a3 (by omega); omega⟩
      have q := pr _ _ h1.2.2.1 h1.2.2.2 gS.1 gS.2
      by_cases h00 : i = 0
      · subst h00
        have e : runT l 0 (symP (symF n) l 0).2 = (symP (symF n) l 0).2 + 1 := by unfold runT; rw [if_neg (by omega)]
        rw [e] at s1 s2 h1 q
        rw [s1] at h1
        generalize hO : (symP (symF n) l (0 + 1)).1 = o2 at *
        generalize hS : (symP (symF n) l (0 + 1)).2 = s2' at *
        generalize (symP (symF n) l 0).1 = o at *
        generalize (symP (symF n) l 0).2 = s at *
        generalize symF n (l[0]?.getD []) = g at *
        generalize l[0]?.getD [] = b at *
        have ne : ¬ l = [] := by rintro rfl; simp at h
        simp [go_sem, hd]
        refine ⟨⟨by omega, ne⟩, ⟨by omega, by omega⟩, ?_⟩
        refine CallVC.of (cS) (by decide) ?_
        simp [go_sem]
        refine ⟨⟨by omega, by omega⟩, ⟨by omega, by omega⟩, 0 + 1, by omega, by omega, Off_reset _ _ _ (by simp), ?_⟩
        rw [hO, hS, s1, s2]
        exact ⟨rfl, rfl, by omega⟩
      · obtain ⟨j, rfl⟩ : ∃ j, i = j + 1 := ⟨i - 1, by omega⟩
        have hj : j < l.length := by omega
        have hdj := mat_drop hj
        have hmj : l[j]?.getD [] ∈ l := by simp [hj]
        have lSj := hlen _ hmj
        have cE := slEqual_c (l[j]?.getD []) (l[j + 1]?.getD []) (by omega)
        have e : runT l (j + 1) (symP (symF n) l (j + 1)).2 = if l[j]?.getD [] = l[j + 1]?.getD [] then (symP (symF n) l (j + 1)).2 + 1 else 1 := by
          unfold runT
          rw [show j + 1 - 1 = j by omega]
          by_cases x : l[j]?.getD [] = l[j + 1]?.getD []
          · rw [if_neg (by simp [x]), if_pos x]
          · rw [if_pos ⟨by omega, x⟩, if_neg x]
        rw [e] at s1 s2 h1 q
        rw [s1] at h1
        generalize hO : (symP (symF n) l (j + 1 + 1)).1 = o2 at *
        generalize hS : (symP (symF n) l (j + 1 + 1)).2 = s2' at *
        generalize (symP (symF n) l (j + 1)).1 = o at *
        generalize (symP (symF n) l (j + 1)).2 = s at *
        generalize symF n (l[j + 1]?.getD []) = g at *
        generalize l[j + 1]?.getD [] = b at *
        generalize l[j]?.getD [] = b0 at *
        have hj1 : (0 : Int) < j + 1 := by omega
        have ne : ¬ l = [] := by rintro rfl; simp at h
        by_cases x : b0 = b
        · rw [decide_eq_true x] at cE
          rw [if_pos x] at s1 s2 h1 q
          simp [go_sem, hd, hdj, hj1]
          refine ⟨⟨by omega, by omega, ne⟩, ⟨by omega, by omega⟩, by omega, ⟨hj, ne⟩, ?_⟩
          refine CallVC.of (cE) (by decide) ?_
          simp [go_sem]
          refine CallVC.of (cS) (by decide) ?_
          simp [go_sem]
          refine ⟨⟨by omega, by omega⟩, ⟨by omega, by omega⟩, ⟨by omega, by omega⟩, j + 1 + 1, by omega, by omega, Off_reset _ _ _ (by simp), ?_⟩
          rw [hO, hS, s1, s2]
          exact ⟨rfl, rfl, by omega⟩
        · rw [decide_eq_false x] at cE
          rw [if_neg x] at s1 s2 h1 q
          rw [Int.one_mul] at s1 h1 q
          simp [go_sem, hd, hdj, hj1]
          refine ⟨⟨by omega, by omega, ne⟩, ⟨by omega, by omega⟩, by omega, ⟨hj, ne⟩, ?_⟩
          refine CallVC.of (cE) (by decide) ?_
          simp [go_sem]
          refine CallVC.of (cS) (by decide) ?_
          simp [go_sem]
          refine ⟨⟨by omega, by omega⟩, ⟨by omega, by omega⟩, ⟨by omega, by omega⟩, j + 1 + 1, by omega, by omega, Off_reset _ _ _ (by simp), ?_⟩
          rw [hO, hS, s1, s2]
          exact ⟨rfl, rfl, by omega⟩
    · have e : i = l.length := by omega
      subst e
      simp [go_sem]
end Go.Proofs.YtpkgedaejcigeaaGreat


namespace Go.Proofs.YtpkgedaejcigeaaGreat
open Go.Abs
set_option linter.unusedSectionVars false
set_option linter.unusedVariables false
set_option linter.unusedSimpArgs false
set_option maxHeartbeats 2000000
end Go.Proofs.YtpkgedaejcigeaaGreat


namespace Go.Proofs.YtpkgedaejcigeaaGreat
open Go.Abs
set_option linter.unusedSectionVars false
set_option linter.unusedVariables false
set_option linter.unusedSimpArgs false
set_option maxHeartbeats 2000000
def mapB (a : List Int) : Bool := decide (a.length = 38) && numsB a
set_option maxRecDepth 100000 in
theorem IsMap_c (a : List Int) (ha : a.length ≤ 9223372036854775807) : Con Tryz.prog 39 [.sl a.length (avs a)] (.bool (mapB a)) := by
  have cN := areNumbers_c a ha
  unfold mapB
  by_cases h : a.length = 38
  · have hi : (a.length : Int) = 38 := by omega
    rw [decide_eq_true h]
    refine con_of_vc Tryz.mixed ⟨3, [], [], []⟩ Tryz.func39 (by decide) rfl (by simp) (by decide) (by simp [freshOK, freshL, go_sem]) ?_
    rw [Tryz.ntmps39]
    simp [go_sem, hi]
    refine CallVC.of (cN) (by decide) ?_
    simp [go_sem]
  · have hi : ¬ (a.length : Int) = 38 := by omega
    rw [decide_eq_false h]
    refine con_of_vc Tryz.mixed ⟨3, [], [], []⟩ Tryz.func39 (by decide) rfl (by simp) (by decide) (by simp [freshOK, freshL, go_sem]) ?_
    rw [Tryz.ntmps39]
    simp [go_sem, hi]
end Go.Proofs.YtpkgedaejcigeaaGreat


namespace Go.Proofs.YtpkgedaejcigeaaGreat
open Go.Abs
set_option linter.unusedSectionVars false
set_option linter.unusedVariables false
set_option linter.unusedSimpArgs false
set_option maxHeartbeats 4000000
def hadS (s : Nat) (a v : List Int) : List Int := tb (fun j => a[j]?.getD 0 * v[j]?.getD 0 % 10007) s
@[simp] theorem hadS_len (s : Nat) (a v : List Int) : (hadS s a v).length = s := by simp [hadS]
theorem hadS_N (s : Nat) (a v : List Int) : Ns (hadS s a v) := tb_N fun j _ => isN_mod _
def hadL (s : Nat) (a : List Int) : List (List Int) → List Int
  | [] => a
  | v :: l => hadL s (hadS s a v) l
theorem hadL_app (s : Nat) (l r : List (List Int)) : ∀ a, hadL s a (l ++ r) = hadL s (hadL s a l) r := by
  induction l with
  | nil => intro a; rfl
  | cons v l ih => intro a; exact ih _
theorem hadL_take {s : Nat} {a : List Int} {l : List (List Int)} {i : Nat} (h : i < l.length) : hadL s a (l.take (i + 1)) = hadS s (hadL s a (l.take i)) (l[i]?.getD []) := by
  rw [List.take_add_one, List.getElem?_eq_getElem h, Option.toList_some, hadL_app]; rfl
theorem hadL_ok {s : Nat} {a : List Int} (h : a.length = s ∧ Ns a) (l : List (List Int)) : (hadL s a l).length = s ∧ Ns (hadL s a l) := by
  induction l generalizing a with
  | nil => exact h
  | cons v l ih => exact ih ⟨hadS_len _ _ _, hadS_N _ _ _⟩
def stwF (A : List (List Int)) (s : Nat) : Nat → List Int → List Int
  | 0, _ => List.replicate s 1
  | m + 1, t => hadL s (List.replicate s 1) ((brs t).map fun b => tim A (stwF A s m b))
theorem ones_ok (s : Nat) : (List.replicate s (1 : Int)).length = s ∧ Ns (List.replicate s (1 : Int)) := ⟨by simp, fun x hx => by
  rw [List.mem_replicate] at hx
  rw [hx.2]; exact ⟨by omega, by omega⟩⟩
theorem stwF_ok (A : List (List Int)) (s : Nat) : ∀ n t, (stwF A s n t).length = s ∧ Ns (stwF A s n t)
  | 0, t => ones_ok s
  | n + 1, t => hadL_ok (ones_ok s) _
def ovL (new old : List Int) (s j : Nat) : List Int := tb (fun k => if k < j then new[k]?.getD 0 else old[k]?.getD 0) s
@[simp] theorem ovL_len (new old : List Int) (s j : Nat) : (ovL new old s j).length = s := by simp [ovL]
theorem ovL_get {new old : List Int} {s j : Nat} (h : j < s) : (ovL new old s j)[j]?.getD 0 = old[j]?.getD 0 := by
  unfold ovL; rw [tb_get _ h, if_neg (by omega)]
theorem ovL_zero {new old : List Int} {s : Nat} (h : old.length = s) : ovL new old s 0 = old := by
  refine List.ext_getElem (by simp [h]) fun k h1 h2 => ?_
  simp [ovL, tb, h2]
theorem ovL_all {new old : List Int} {s : Nat} (h : new.length = s) : ovL new old s s = new := by
  refine List.ext_getElem (by simp [h]) fun k h1 h2 => ?_
  have : k < s := by omega
  simp [ovL, tb, h2, this]
theorem ovL_set {new old : List Int} {s j : Nat} (h : j < s) : (ovL new old s j).set j (new[j]?.getD 0) = ovL new old s (j + 1) := by
  refine List.ext_getElem (by simp) fun k h1 h2 => ?_
  have hk : k < s := by simpa using h2
  rw [List.getElem_set]
  by_cases e : j = k
  · subst e
    rw [if_pos rfl]
    simp [ovL, tb]
  · rw [if_neg e]
    have : k < j + 1 ↔ k < j := by omega
    simp [ovL, tb, this]
set_option maxRecDepth 100000 in
theorem stageWeights_c (A : List (List Int)) (B : List Int) (hT : Tab A B) :
    ∀ (n : Nat) (t : List Int), Lv t → t.length ≤ n → t.length ≤ 1048576 → Con Tryz.prog 123 [.agg [.sl A.length (mat A), .sl B.length (avs B)], .sl t.length (avs t)] (.own 2 B.length (avs (stwF A B.length n t)))
  | 0, t, hL, hn, _ => by have := hL.1; omega
  | n + 1, t, hL, hn, hl => by
    have hp := hT.pos
    have hle := hT.le
    have hAB := hT.len
    have cB := branchesOf_c t hl hL
    have ih := fun b (hb : b ∈ brs t) => stageWeights_c A B hT n b (brs_ok hL hb).1 (by have := (brs_ok hL hb).2; omega) (by have := (brs_ok hL hb).2; omega)
    have hcnt : (brs t).length < t.length := by
      have h := brs_many hL (i := t.length) hL.1 (Nat.le_refl _)
      rwa [List.take_of_length_le (Nat.le_refl _)] at h
    have hd : stwF A B.length (n + 1) t = hadL B.length (List.replicate B.length 1) ((brs t).map fun b => tim A (stwF A B.length n b)) := rfl
    rw [hd]
    refine con_of_vc Tryz.mixed ⟨10, [], [], []⟩ Tryz.func123 (by decide) rfl (by simp) (by decide) (by simp [freshOK, freshL, go_sem]) ?_
    rw [Tryz.ntmps123]
    simp [go_sem]
    refine CallVC.of (tab_c _ _ _ _) (by decide) ?_
    simp [go_sem]
    refine CallVC.of (Repeat_c 1 B.length hp (by omega)) (by decide) ?_
    simp [go_sem]
    refine CallVC.of (cB) (by decide) ?_
    simp [go_sem]
    generalize brs t = L at *
    refine loop_inv ([5, 7, 8, 9, 15] ++ List.range' 17 27) (fun i : Nat => [(5, .own 2 B.length (avs (hadL B.length (List.replicate B.length 1) ((L.map fun b => tim A (stwF A B.length n b)).take i)))), (15, .own 25 L.length (omat L)), (17, .int i)]) (fun i => i ≤ L.length) (fun i => L.length - i) 0 (by simp) (by simp [go_sem, hadL]) (by simp [go_sem]) ?_
    intro i hi
    by_cases hiL : i < L.length
    · have hii : (i : Int) < L.length := by omega
      have hb : L[i]?.getD [] ∈ L := by simp [hiL]
      have cS := ih _ hb
      have ok := stwF_ok A B.length n (L[i]?.getD [])
      have cA := applied_c A B (stwF A B.length n (L[i]?.getD [])) (by rw [ok.1]; exact hT.a) (by omega) (by omega) ok.2
      rw [ok.1] at cA
      have hm : i < (L.map fun b => tim A (stwF A B.length n b)).length := by simpa using hiL
      have ht := hadL_take (s := B.length) (a := List.replicate B.length 1) hm
      have hg : (L.map fun b => tim A (stwF A B.length n b))[i]?.getD [] = tim A (stwF A B.length n (L[i]?.getD [])) := by simp [hiL]
      rw [hg] at ht
      have o1 := hadL_ok (ones_ok B.length) ((L.map fun b => tim A (stwF A B.length n b)).take i)
      have o2 : (tim A (stwF A B.length n (L[i]?.getD []))).length = B.length ∧ Ns (tim A (stwF A B.length n (L[i]?.getD []))) := ⟨by simp [hAB], tim_N _ _⟩
      have hgt := omat_get hiL
      generalize tim A (stwF A B.length n (L[i]?.getD [])) = w at *
      generalize stwF A B.length n (L[i]?.getD []) = u at *
      generalize hadL B.length (List.replicate B.length 1) ((L.map fun b => tim A (stwF A B.length n b)).take i) = old at *
      generalize hnw : hadL B.length (List.replicate B.length 1) ((L.map fun b => tim A (stwF A B.length n b)).take (i + 1)) = new at *
      have hw : w.length = A.length := by omega
      simp [go_sem, hii, hgt]
      refine ⟨by kernel_rfl, ?_⟩
      refine CallD.of (cS) (by simp [roots, rootsL]) (by decide) ?_
      simp [go_sem]
      refine CallD.of (cA) (by simp [roots, rootsL]) (by decide) ?_
      simp [go_sem]
      refine ⟨by kernel_rfl, ?_⟩
      simp [go_sem]
      refine loop_inv ([5, 8, 9] ++ List.range' 27 16) (fun j : Nat => [(5, .own 2 B.length (avs (ovL new old B.length j))), (27, .int j)]) (fun j => j ≤ B.length) (fun j => B.length - j) 0 (by simp) (by simp [go_sem, ovL_zero o1.1]) (by simp [go_sem]) ?_
      intro j hj
      by_cases hjs : j < B.length
      · have hji : (j : Int) < A.length := by omega
        have hjw : j < w.length := by omega
        have hjo : j < (ovL new old B.length j).length := by simpa using hjs
        have g1 := avs_at hjo
        have g2 := avs_at hjw
        rw [ovL_get hjs] at g1
        have n1 := o1.2.get j
        have n2 := o2.2.get j
        have hs := ovL_set (new := new) (old := old) hjs
        have hnew : new[j]?.getD 0 = old[j]?.getD 0 * w[j]?.getD 0 % 10007 := by rw [ht]; exact tb_get _ hjs
        have fm := mul_fits n1 n2
        have cN := num_c _ fm.1 fm.2
        rw [← hnew] at cN
        have hset := avs_set (ovL new old B.length j) j (new[j]?.getD 0)
        rw [hs] at hset
        generalize old[j]?.getD 0 = x at *
        generalize w[j]?.getD 0 = y at *
        generalize new[j]?.getD 0 = z at *
        generalize ovL new old B.length j = O at *
        simp [go_sem, hji, g1, g2]
        refine ⟨by omega, fm, ?_⟩
        refine CallVC.of (cN) (by decide) ?_
        simp [go_sem]
        exact ⟨by omega, by omega, ⟨by omega, by omega⟩, j + 1, by omega, by omega, Off_reset _ _ _ (by simp), hset, by omega⟩
      · have e : j = B.length := by omega
        have hji : ¬ (j : Int) < A.length := by omega
        have nl : new.length = B.length := by rw [ht]; simp
        rw [e] at hji
        rw [e, ovL_all nl]
        simp [go_sem, hji]
        exact ⟨⟨by omega, by omega⟩, i + 1, by omega, by omega, (Off.reset (by intro x hx; simp at hx ⊢; omega) (by simp) (by simp [go_sem, Off_reset])), hnw.symm, by omega⟩
    · have e : i = L.length := by omega
      have e2 : (L.map fun b => tim A (stwF A B.length n b)).take i = L.map fun b => tim A (stwF A B.length n b) := List.take_of_length_le (by simp; omega)
      rw [e2]
      simp [go_sem, e]
set_option maxRecDepth 100000 in
theorem weight_c (A : List (List Int)) (B : List Int) (hT : Tab A B) (n : Nat) (t : List Int) (hL : Lv t) (hn : t.length ≤ n) (hl : t.length ≤ 1048576) :
    Con Tryz.prog 80 [.agg [.sl A.length (mat A), .sl B.length (avs B)], .sl t.length (avs t)] (.int (dotI B (stwF A B.length n t) % 10007)) := by
  have cS := stageWeights_c A B hT n t hL hn hl
  have ok := stwF_ok A B.length n t
  have hle := hT.le
  have cD := dot_c B (stwF A B.length n t) (by omega) (by omega) hT.b ok.2
  rw [ok.1] at cD
  refine con_of_vc Tryz.mixed ⟨5, [], [], []⟩ Tryz.func80 (by decide) rfl (by simp) (by decide) (by simp [freshOK, freshL, go_sem]) ?_
  rw [Tryz.ntmps80]
  simp [go_sem]
  refine ⟨by kernel_rfl, ?_⟩
  refine CallD.of (cS) (by simp [roots, rootsL]) (by decide) ?_
  simp [go_sem]
  refine CallD.of (cD) (by simp [roots, rootsL]) (by decide) ?_
  simp [go_sem]
  refine ⟨by kernel_rfl, ?_⟩
  simp [go_sem]
end Go.Proofs.YtpkgedaejcigeaaGreat


namespace Go.Proofs.YtpkgedaejcigeaaGreat
open Go.Abs
set_option linter.unusedSectionVars false
set_option linter.unusedVariables false
set_option linter.unusedSimpArgs false
set_option maxHeartbeats 1000000
def pF (t : List Int) : Nat → Option Nat
  | 0 => none
  | j + 1 => if t[j]?.getD 0 ≤ 1 then pF t j else some j
def qF (t : List Int) (v : Int) : Nat → Option Nat
  | 0 => none
  | j + 1 => if t[j]?.getD 0 = v then some j else qF t v j
def fiS (t : List Int) (d p : Nat) : Nat → List Int
  | 0 => t
  | k + 1 => (fiS t d p k).set (p + k) ((fiS t d p k)[p + k - d]?.getD 0)
@[simp] theorem fiS_len (t : List Int) (d p : Nat) : ∀ k, (fiS t d p k).length = t.length
  | 0 => rfl
  | k + 1 => by simp [fiS, fiS_len t d p k]
def genT : Nat → List Int → List (List Int)
  | 0, _ => []
  | k + 1, t => t :: match pF t t.length with
    | none => []
    | some p => match qF t (t[p]?.getD 0 - 1) p with
      | none => []
      | some q => genT k (fiS t (p - q) p (t.length - p))
def chkT : Nat → List Int → Bool
  | 0, _ => false
  | k + 1, t => t.all (fun x => decide (0 ≤ x ∧ x ≤ 100)) && match pF t t.length with
    | none => true
    | some p => match qF t (t[p]?.getD 0 - 1) p with
      | none => false
      | some q => chkT k (fiS t (p - q) p (t.length - p))
theorem qF_lt {t : List Int} {v : Int} : ∀ {j q : Nat}, qF t v j = some q → q < j ∧ t[q]?.getD 0 = v
  | j + 1, q, h => by
    rw [qF] at h
    split at h
    · injection h with h; subst h; exact ⟨by omega, by assumption⟩
    · have := qF_lt h; exact ⟨by omega, this.2⟩
set_option maxRecDepth 100000 in
theorem treesOf_c (n F : Nat) (hn : n ≤ 1000) (hF : F ≤ 1000000) (hc : chkT F (upTo n) = true) : Con Tryz.prog 63 [.int n] (.own 25 (genT F (upTo n)).length (omat (genT F (upTo n)))) := by
  refine con_of_vc Tryz.mixed ⟨9, [], [], []⟩ Tryz.func63 (by decide) rfl (by simp) (by decide) (by simp [freshOK, freshL, go_sem]) ?_
  rw [Tryz.ntmps63]
  simp [go_sem]
  refine loop_inv (3 :: 5 :: List.range' 12 8) (fun i : Nat => [(3, .own 2 i (avs (upTo i))), (12, .int i)]) (fun i => i ≤ n) (fun i => n - i) 0 (by simp) (by simp [go_sem, upTo]) (by simp [go_sem]) ?_
  intro i hi
  simp [go_sem]
  refine ⟨fun h => ?_, fun h => ?_⟩ <;> simp at h
  · simp [go_sem]
    refine ⟨⟨by omega, by omega⟩, by omega, i + 1, by omega, by omega, Off_reset _ _ _ (by simp), by rw [upTo_succ, avs_snoc]; exact ⟨rfl, rfl⟩, by omega⟩
  · have e : i = n := by omega
    subst e
    simp [go_sem]
    refine loop_inv (2 :: 3 :: 4 :: 6 :: 7 :: 8 :: List.range' 20 52) (fun x : Nat × List Int × List (List Int) => [(3, .own 2 i (avs x.2.1)), (4, .own 25 x.2.2.length (omat x.2.2))]) (fun x => x.2.2 ++ genT x.1 x.2.1 = genT F (upTo i) ∧ chkT x.1 x.2.1 = true ∧ x.2.1.length = i ∧ x.2.2.length + x.1 ≤ F) (fun x => x.1) (F, upTo i, []) ⟨by simp, hc, by simp, by simp⟩ (by simp [go_sem, omat_nil]) (by simp [go_sem]) ?_
    rintro ⟨k, t, done⟩ ⟨hg, hk, hl, hdl⟩
    simp only at hg hk hl hdl
    cases k with
    | zero => simp [chkT] at hk
    | succ k =>
      rw [chkT] at hk
      rw [genT] at hg
      simp only [Bool.and_eq_true] at hk
      obtain ⟨hb, hk⟩ := hk
      have hb2 : ∀ j : Nat, 0 ≤ t[j]?.getD 0 ∧ t[j]?.getD 0 ≤ 100 := fun j => by
        rcases Nat.lt_or_ge j t.length with hj | hj
        · have := (List.all_eq_true.1 hb) _ (List.getElem_mem hj)
          simp only [decide_eq_true_eq] at this
          simpa [hj] using this
        · simp [List.getElem?_eq_none hj]
      have cC := Clone_c t (by omega)
      rw [hl] at cC hk hg
      simp [go_sem]
      refine CallVC.of (cC) (by decide) ?_
      simp [go_sem]
      refine ⟨⟨by omega, by omega⟩, ⟨by omega, by omega⟩, ?_⟩
      refine loop_inv (6 :: List.range' 27 11) (fun j : Nat => [(6, .int ((j : Int) - 1))]) (fun j => j ≤ i ∧ pF t i = pF t j) (fun j => j) i ⟨by omega, rfl⟩ (by simp [go_sem]) (by simp [go_sem]) ?_
      rintro j ⟨hj, hpj⟩
      rcases j with _ | j
      · rw [hpj, pF] at hg
        simp [go_sem]
        rw [← hg, omat_app, omat_one, hl]
        exact ⟨by simp, rfl⟩
      · have hjt : j < t.length := by omega
        have ej : ((j + 1 : Nat) : Int) - 1 = j := by omega
        have j0 : (0 : Int) ≤ j := by omega
        by_cases ht : t[j]?.getD 0 ≤ 1
        · rw [pF, if_pos ht] at hpj
          simp [go_sem, ej, j0, avs_at hjt, ht]
          exact ⟨by omega, ⟨by omega, by omega⟩, j, ⟨by omega, hpj⟩, by omega, Off_reset _ _ _ (by simp), by omega⟩
        · rw [pF, if_neg ht] at hpj
          rw [hpj] at hg hk
          simp only at hg hk
          have jn : ¬ (j : Int) < 0 := by omega
          cases hq : qF t (t[j]?.getD 0 - 1) j with
          | none => rw [hq] at hk; simp at hk
          | some q =>
            rw [hq] at hg hk
            simp only at hg hk
            have hql := qF_lt hq
            have b1 := hb2 j
            simp [go_sem, ej, j0, avs_at hjt, ht, jn]
            refine ⟨by omega, ⟨by omega, by omega⟩, ?_⟩
            refine loop_inv (7 :: List.range' 43 12) (fun r : Nat => [(7, .int ((r : Int) - 1))]) (fun r => r ≤ j ∧ qF t (t[j]?.getD 0 - 1) r = some q) (fun r => r) j ⟨by omega, hq⟩ (by simp [go_sem]) (by simp [go_sem]) ?_
            rintro r ⟨hr, hqr⟩
            rcases r with _ | r
            · simp [qF] at hqr
            · have hrt : r < t.length := by omega
              have er : ((r + 1 : Nat) : Int) - 1 = r := by omega
              by_cases hv : t[r]?.getD 0 = t[j]?.getD 0 - 1
              · rw [qF, if_pos hv] at hqr
                injection hqr with hqr
                subst hqr
                simp [go_sem, er, avs_at hrt, avs_at hjt, hv]
                refine ⟨by kernel_rfl, by omega, by omega, ⟨by omega, by omega⟩, ?_⟩
                refine ⟨by kernel_rfl, ?_⟩
                simp [go_sem]
                refine loop_inv (3 :: 8 :: List.range' 56 16) (fun e : Nat => [(3, .own 2 i (avs (fiS t (j - r) j e))), (8, .int ((j + e : Nat) : Int))]) (fun e => j + e ≤ i) (fun e => i - e) 0 (by omega) (by simp [go_sem, fiS]) (by simp [go_sem]) ?_
                intro e he
                simp [go_sem]
                refine ⟨fun h => ?_, fun h => ?_⟩ <;> simp at h
                · have hlf := fiS_len t (j - r) j e
                  have k1 : j + e - (j - r) < (fiS t (j - r) j e).length := by omega
                  have k2 : j + e < (fiS t (j - r) j e).length := by omega
                  have ix : ((j : Int) + e - (j - r)) = ((j + e - (j - r) : Nat) : Int) := by omega
                  have hs : fiS t (j - r) j (e + 1) = (fiS t (j - r) j e).set (j + e) ((fiS t (j - r) j e)[j + e - (j - r)]?.getD 0) := rfl
                  generalize hF1 : fiS t (j - r) j (e + 1) = F1 at *
                  generalize fiS t (j - r) j e = F0 at *
                  have ix2 : ((j : Int) + e - (j - r)).toNat = j + e - (j - r) := by omega
                  have ij2 : ((j : Int) + e).toNat = j + e := by omega
                  simp [go_sem, ix2, avs_at k1, ij2]
                  refine ⟨⟨by omega, by omega⟩, ⟨by omega, by omega⟩, ⟨by omega, by omega⟩, ⟨by omega, by omega⟩, k2, ⟨by omega, by omega⟩, e + 1, by omega, by omega, Off_reset _ _ _ (by simp), ?_, by omega⟩
                  rw [hF1, hs, avs_set]
                · have en : e = i - j := by omega
                  subst en
                  have h1 : done ++ [t] ++ genT k (fiS t (j - r) j (i - j)) = genT F (upTo i) := by rw [← hg]; simp
                  simp [go_sem]
                  refine ⟨k, fiS t (j - r) j (i - j), done ++ [t], ⟨h1, hk, by rw [fiS_len]; exact hl, by simp; omega⟩, by omega, (by repeat (first | exact Off_reset _ _ _ (by simp) | (refine Off.reset (by intro x hx; simp at hx ⊢; omega) (by simp) ?_; simp -failIfUnchanged [go_sem, Off_reset]))), rfl, ?_⟩
                  rw [omat_app, omat_one, hl]
                  exact ⟨by simp, rfl⟩
              · rw [qF, if_neg hv] at hqr
                simp [go_sem, er, avs_at hrt, avs_at hjt, hv]
                refine ⟨by kernel_rfl, by omega, by omega, ⟨by omega, by omega⟩, ?_⟩
                refine ⟨by kernel_rfl, ?_⟩
                simp [go_sem]
                exact ⟨⟨by omega, by omega⟩, r, ⟨by omega, hqr⟩, by omega, Off_reset _ _ _ (by simp), by omega⟩
end Go.Proofs.YtpkgedaejcigeaaGreat


namespace Go.Proofs.YtpkgedaejcigeaaGreat
open Go.Abs
set_option linter.unusedSectionVars false
set_option linter.unusedVariables false
set_option linter.unusedSimpArgs false
set_option maxHeartbeats 1000000
def grwL : Nat → List Int → List (List Int) → List (List Int)
  | 0, t, L => if canF t.length t = t then L ++ [t] else L
  | k + 1, t, L => (List.range (t[t.length - 1]?.getD 0 + 1).toNat).foldl (fun (L : List (List Int)) (i : Nat) => grwL k (t ++ [t[t.length - 1]?.getD 0 + 1 - (i : Int)]) L) L
theorem trees_same : ∀ n : Nat, 1 ≤ n → n ≤ 6 → chkT 200 (upTo n) = true ∧ genT 200 (upTo n) = grwL (n - 1) [0] [] ∧ (genT 200 (upTo n)).all lvB = true := by
  have h : ∀ n ∈ [1, 2, 3, 4, 5, 6], (chkT 200 (upTo n) && decide (genT 200 (upTo n) = grwL (n - 1) [0] []) && (genT 200 (upTo n)).all lvB) = true := by decide +kernel
  intro n h1 h6
  have := h n (by simp; omega)
  simp only [Bool.and_eq_true, decide_eq_true_eq] at this
  exact ⟨this.1.1, this.1.2, this.2⟩
end Go.Proofs.YtpkgedaejcigeaaGreat


namespace Go.Proofs.YtpkgedaejcigeaaGreat
open Go.Abs CR
set_option linter.unusedSectionVars false
set_option linter.unusedVariables false
set_option linter.unusedSimpArgs false
set_option maxHeartbeats 1000000
structure Adj (A : List (List Int)) (B : List Int) (A' : List (List Int)) (B' : List Int) : Prop where
  tab : Tab A' B'
  len : B'.length = B.length
  a : ∀ r c, r < B.length → c < B.length → mx A' r c % 10007 = (B[B.length - 1 - c]?.getD 0 - mx A (B.length - 1 - r) (B.length - 1 - c)) % 10007
  b : ∀ r, r < B.length → B'[r]?.getD 0 % 10007 = B[B.length - 1 - r]?.getD 0 % 10007
theorem serEq.mul {a b c d : Ser Int} (h : serEq a b) (k : serEq c d) : serEq (a * c) (b * d) := fun i => cmul_mod i (fun j _ => h j) (fun j _ => k j)
theorem serEq.eq {a b c : Ser Int} (h : serEq a b) (k : b = c) : serEq a c := k ▸ h
end Go.Proofs.YtpkgedaejcigeaaGreat


namespace Go.Proofs.YtpkgedaejcigeaaGreat
open Go.Abs
set_option linter.unusedSectionVars false
set_option linter.unusedVariables false
set_option linter.unusedSimpArgs false
set_option maxHeartbeats 4000000
def denF : Nat → List Int → Int
  | 0, _ => 0
  | n + 1, t => (brs t).foldl (fun o b => o * denF n b) t.length
def denK (n : Nat) (t : List Int) (j : Nat) : Int := ((brs t).take j).foldl (fun o b => o * denF n b) t.length
def denOk : Nat → List Int → Bool
  | 0, _ => false
  | n + 1, t => (brs t).all (denOk n) && (List.range ((brs t).length + 1)).all fun j => decide (0 ≤ denK n t j ∧ denK n t j ≤ 1000000)
theorem denK_succ (n : Nat) {t : List Int} {j : Nat} (h : j < (brs t).length) : denK n t (j + 1) = denK n t j * denF n ((brs t)[j]?.getD []) := by
  unfold denK
  rw [List.take_add_one, List.foldl_append]
  simp [h]
set_option maxRecDepth 100000 in
theorem density_c : ∀ (n : Nat) (t : List Int), Lv t → t.length ≤ 1048576 → denOk n t = true → Con Tryz.prog 66 [.sl t.length (avs t)] (.int (denF n t))
  | 0, t, hL, hl, hd => by simp [denOk] at hd
  | n + 1, t, hL, hl, hd => by
    have cL := length_c t.length (avs t) (by omega)
    have cB := branchesOf_c t hl hL
    rw [denOk, Bool.and_eq_true] at hd
    obtain ⟨hd1, hd2⟩ := hd
    have ih := fun b (hb : b ∈ brs t) => density_c n b (brs_ok hL hb).1 (by have := (brs_ok hL hb).2; omega) (List.all_eq_true.1 hd1 b hb)
    have bd : ∀ j, j ≤ (brs t).length → 0 ≤ denK n t j ∧ denK n t j ≤ 1000000 := fun j hj => by
      have := List.all_eq_true.1 hd2 j (by simp; omega)
      simpa using this
    have hs := fun j (h : j < (brs t).length) => denK_succ n h
    have k0 : denK n t 0 = t.length := by simp [denK]
    have ke : denK n t (brs t).length = denF (n + 1) t := by rw [denK, List.take_length, denF]
    have hcnt : (brs t).length < t.length := brs_cnt hL
    rw [← ke]
    generalize denK n t = K at *
    generalize brs t = L at *
    refine con_of_vc Tryz.mixed ⟨6, [], [], []⟩ Tryz.func66 (by decide) rfl (by simp) (by decide) (by simp [freshOK, freshL, go_sem]) ?_
    rw [Tryz.ntmps66]
    simp [go_sem]
    refine CallVC.of (cL) (by decide) ?_
    simp [go_sem]
    refine CallVC.of (cB) (by decide) ?_
    simp [go_sem]
    refine loop_inv ([3, 5] ++ List.range' 11 9) (fun i : Nat => [(3, .int (K i)), (11, .int i)]) (fun i => i ≤ L.length) (fun i => L.length - i) 0 (by simp) (by simp [go_sem, k0]) (by simp [go_sem]) ?_
    intro i hi
    by_cases hiL : i < L.length
    · have hii : (i : Int) < L.length := by omega
      have hb : L[i]?.getD [] ∈ L := by simp [hiL]
      have cD := ih _ hb
      have hg := omat_get hiL
      have b0 := bd i hi
      have b1 := bd (i + 1) hiL
      have h1 := hs i hiL
      generalize denF n (L[i]?.getD []) = d at *
      generalize hk1 : K (i + 1) = k1 at *
      generalize K i = k at *
      simp [go_sem, hii, hg]
      refine CallVC.of (cD) (by decide) ?_
      simp [go_sem]
      rw [← h1]
      exact ⟨⟨by omega, by omega⟩, ⟨by omega, by omega⟩, i + 1, by omega, by omega, Off_reset _ _ _ (by simp), hk1.symm, by omega⟩
    · have e : i = L.length := by omega
      subst e
      have hii : ¬ (L.length : Int) < L.length := by omega
      simp [go_sem, hii]
def trN (k : Nat) : List (List Int) := (List.range k).flatMap fun i => genT 200 (upTo (i + 1))
theorem trN_succ (k : Nat) : trN (k + 1) = trN k ++ genT 200 (upTo (k + 1)) := by simp [trN, List.range_succ]
theorem trN_len : ∀ k, k ≤ 6 → (trN k).length ≤ 100 := by decide +kernel
theorem trN_len6 : (trN 6).length = 37 := by decide +kernel
def lvC (t : List Int) : Bool := decide (0 < t.length) && decide (t[0]?.getD 0 = 0) && (List.range t.length).all fun j => decide (j = 0) || decide (1 ≤ t[j]?.getD 0 ∧ t[j]?.getD 0 ≤ t[j - 1]?.getD 0 + 1)
theorem lvC_Lv {t : List Int} (h : lvC t = true) : Lv t := by
  unfold lvC at h
  simp only [Bool.and_eq_true, decide_eq_true_eq, List.all_eq_true, Bool.or_eq_true, List.mem_range] at h
  exact ⟨h.1.1, h.1.2, fun j h1 h2 => (h.2 j h2).resolve_left (by omega)⟩
theorem trN_all : (trN 6).all (fun t => lvC t && decide (t.length ≤ 6) && denOk 8 t) = true := by decide +kernel
theorem trN_at {t : List Int} (h : t ∈ trN 6) : Lv t ∧ t.length ≤ 6 ∧ denOk 8 t = true := by
  have := List.all_eq_true.1 trN_all t h
  simp only [Bool.and_eq_true, decide_eq_true_eq] at this
  exact ⟨lvC_Lv this.1.1, this.1.2, this.2⟩
set_option maxRecDepth 100000 in
theorem treesTo_c (n : Nat) (hn : n ≤ 6) : Con Tryz.prog 42 [.int n] (.own 25 (trN n).length (omat (trN n))) := by
  refine con_of_vc Tryz.mixed ⟨5, [], [], []⟩ Tryz.func42 (by decide) rfl (by simp) (by decide) (by simp [freshOK, freshL, go_sem]) ?_
  rw [Tryz.ntmps42]
  simp [go_sem]
  refine loop_inv ([3, 4] ++ List.range' 6 9) (fun i : Nat => [(3, .own 25 (trN i).length (omat (trN i))), (4, .int (i + 1))]) (fun i => i ≤ n) (fun i => n - i) 0 (by simp) (by simp [go_sem, trN, omat]) (by simp [go_sem]) ?_
  intro i hi
  have l0 := trN_len i (by omega)
  by_cases hin : i < n
  · have hii : (i : Int) + 1 ≤ n := by omega
    have cT := treesOf_c (i + 1) 200 (by omega) (by omega) (trees_same (i + 1) (by omega) (by omega)).1
    have l1 := trN_len (i + 1) (by omega)
    have ts := trN_succ i
    have tl := congrArg List.length ts
    rw [List.length_append] at tl
    have ot : omat (trN (i + 1)) = omat (trN i) ++ omat (genT 200 (upTo (i + 1))) := by rw [ts]; simp [omat]
    have ec : ((i + 1 : Nat) : Int) = (i : Int) + 1 := by omega
    rw [ec] at cT
    generalize genT 200 (upTo (i + 1)) = G at *
    simp [go_sem, hii]
    refine CallVC.of (cT) (by decide) ?_
    simp [go_sem]
    exact ⟨⟨by omega, by omega⟩, ⟨by omega, by omega⟩, i + 1, by omega, by omega, Off_reset _ _ _ (by simp), by rw [tl, ot]; exact ⟨rfl, rfl⟩, by omega⟩
  · have e : i = n := by omega
    subst e
    have hii : ¬ (i : Int) + 1 ≤ i := by omega
    simp [go_sem, hii]
def lacF (A : List (List Int)) (B : List Int) (t : List Int) : Int := (dotI B (stwF A B.length t.length t) % 10007 - pw (denF 8 t % 10007) 10005) % 10007
set_option maxRecDepth 100000 in
theorem lacking_c (A : List (List Int)) (B : List Int) (hT : Tab A B) (t : List Int) (ht : t ∈ trN 6) :
    Con Tryz.prog 90 [.agg [.sl A.length (mat A), .sl B.length (avs B)], .sl t.length (avs t)] (.int (lacF A B t)) := by
  obtain ⟨hL, h6, hd⟩ := trN_at ht
  have cW := weight_c A B hT t.length t hL (Nat.le_refl _) (by omega)
  have cD := density_c 8 t hL (by omega) hd
  have db : 0 ≤ denF 8 t ∧ denF 8 t ≤ 1000000 := by
    rw [denOk, Bool.and_eq_true] at hd
    have := List.all_eq_true.1 hd.2 (brs t).length (by simp)
    rw [denK, List.take_length] at this
    have e : denF 8 t = (brs t).foldl (fun o b => o * denF 7 b) t.length := rfl
    rw [e]
    simpa using this
  have cV := inv_c (denF 8 t % 10007) (isN_mod _)
  have wN : isN (dotI B (stwF A B.length t.length t) % 10007) := isN_mod _
  have pN : isN (pw (denF 8 t % 10007) 10005) := isN_mod _
  have hl : lacF A B t = (dotI B (stwF A B.length t.length t) % 10007 - pw (denF 8 t % 10007) 10005) % 10007 := rfl
  rw [hl]
  generalize dotI B (stwF A B.length t.length t) % 10007 = w at *
  generalize denF 8 t = d at *
  generalize pw (d % 10007) 10005 = v at *
  have w1 := wN.1
  have w2 := wN.2
  have v1 := pN.1
  have v2 := pN.2
  refine con_of_vc Tryz.mixed ⟨5, [], [], []⟩ Tryz.func90 (by decide) rfl (by simp) (by decide) (by simp [freshOK, freshL, go_sem]) ?_
  rw [Tryz.ntmps90]
  simp [go_sem]
  refine CallVC.of (cW) (by decide) ?_
  simp [go_sem]
  refine CallVC.of (cD) (by decide) ?_
  simp [go_sem]
  refine CallVC.of (num_c d (by omega) (by omega)) (by decide) ?_
  simp [go_sem]
  refine CallVC.of (cV) (by decide) ?_
  simp [go_sem]
  refine ⟨⟨by omega, by omega⟩, ?_⟩
  refine CallVC.of (num_c (w - v) (by omega) (by omega)) (by decide) ?_
  simp [go_sem]
def orT (A : List (List Int)) (B : List Int) : List (List Int) → Int
  | [] => 6
  | t :: l => if lacF A B t = 0 then orT A B l else (t.length : Int) - 1
set_option maxRecDepth 100000 in
theorem order_c (A : List (List Int)) (B : List Int) (hT : Tab A B) : Con Tryz.prog 48 [.agg [.sl A.length (mat A), .sl B.length (avs B)]] (.int (orT A B (trN 6))) := by
  have cT := treesTo_c 6 (by omega)
  have l6 := trN_len6
  have lc := fun t h => lacking_c A B hT t h
  have at6 := fun t h => (trN_at (t := t) h).2.1
  have e6 : ((6 : Nat) : Int) = 6 := rfl
  rw [e6] at cT
  generalize trN 6 = L at *
  refine con_of_vc Tryz.mixed ⟨5, [], [], []⟩ Tryz.func48 (by decide) rfl (by simp) (by decide) (by simp [freshOK, freshL, go_sem]) ?_
  rw [Tryz.ntmps48]
  simp [go_sem]
  refine CallVC.of (cT) (by decide) ?_
  simp [go_sem]
  refine loop_inv ([2, 4] ++ List.range' 7 12) (fun i : Nat => [(7, .int i)]) (fun i => i ≤ L.length ∧ orT A B (L.drop i) = orT A B L) (fun i => L.length - i) 0 (by simp) (by simp [go_sem]) (by simp [go_sem]) ?_
  rintro i ⟨hi, ho⟩
  by_cases hiL : i < L.length
  · have hii : (i : Int) < L.length := by omega
    have hb : L[i]?.getD [] ∈ L := by simp [hiL]
    have cK := lc _ hb
    have l7 := at6 _ hb
    have hg := omat_get hiL
    have hd : L.drop i = L[i]?.getD [] :: L.drop (i + 1) := by
      rw [List.getElem?_eq_getElem hiL, Option.getD_some]
      exact List.drop_eq_getElem_cons hiL
    rw [hd, orT] at ho
    have cL := length_c (L[i]?.getD []).length (avs (L[i]?.getD [])) (by omega)
    generalize L[i]?.getD [] = t at *
    generalize lacF A B t = z at *
    by_cases h0 : z = 0
    · rw [if_pos h0] at ho
      simp [go_sem, hii, hg]
      refine CallVC.of (cK) (by decide) ?_
      simp [go_sem]
      simp [go_sem, h0]
      exact ⟨⟨by omega, by omega⟩, i + 1, ⟨by omega, ho⟩, by omega, Off_reset _ _ _ (by simp), by omega⟩
    · rw [if_neg h0] at ho
      simp [go_sem, hii, hg]
      refine CallVC.of (cK) (by decide) ?_
      simp [go_sem]
      simp [go_sem, h0, hg]
      refine CallVC.of (cL) (by decide) ?_
      simp [go_sem]
      rw [← ho]
      exact ⟨⟨by omega, by omega⟩, rfl⟩
  · have e : i = L.length := by omega
    subst e
    have hii : ¬ (L.length : Int) < L.length := by omega
    rw [List.drop_length, orT] at ho
    rw [← ho]
    simp [go_sem, hii]
theorem OrderOf_c (A : List (List Int)) (B : List Int) (hT : Tab A B) : Con Tryz.prog 12 [.agg [.sl A.length (mat A), .sl B.length (avs B)]] (.tup [.int (orT A B (trN 6)), .int 0]) := by
  have hle := hT.le
  have hAB := hT.len
  have cI := IsTableau_c A B (by omega) (by omega) (fun r hr => by have := (hT.a r hr).1; omega)
  rw [tabB_iff.2 hT] at cI
  have cO := order_c A B hT
  refine con_of_vc Tryz.mixed ⟨4, [], [], []⟩ Tryz.func12 (by decide) rfl (by simp) (by decide) (by simp [freshOK, freshL, go_sem]) ?_
  rw [Tryz.ntmps12]
  simp [go_sem]
  refine CallVC.of (cI) (by decide) ?_
  simp [go_sem]
  refine CallVC.of (cO) (by decide) ?_
  simp [go_sem]
theorem orT_at {A : List (List Int)} {B : List Int} : ∀ {L : List (List Int)}, L.Pairwise (fun s t => s.length ≤ t.length) → (∀ t ∈ L, 0 < t.length ∧ t.length ≤ 6) → 0 ≤ orT A B L ∧ orT A B L ≤ 6 ∧ ∀ t ∈ L, (t.length : Int) ≤ orT A B L → lacF A B t = 0
  | [], _, _ => ⟨by simp [orT], by simp [orT], fun t ht => by simp at ht⟩
  | s :: L, hp, hb => by
    have ih := orT_at (A := A) (B := B) (List.pairwise_cons.1 hp).2 (fun t ht => hb t (by simp [ht]))
    have hs := hb s (by simp)
    rw [orT]
    by_cases h0 : lacF A B s = 0
    · rw [if_pos h0]
      refine ⟨ih.1, ih.2.1, fun t ht hl => ?_⟩
      rcases List.mem_cons.1 ht with rfl | ht
      · exact h0
      · exact ih.2.2 t ht hl
    · rw [if_neg h0]
      refine ⟨by omega, by omega, fun t ht hl => ?_⟩
      exfalso
      rcases List.mem_cons.1 ht with rfl | ht
      · omega
      · have := (List.pairwise_cons.1 hp).1 t ht
        omega
def srtB : List (List Int) → Bool
  | [] => true
  | s :: L => L.all (fun t => decide (s.length ≤ t.length)) && srtB L
theorem srtB_ok : ∀ {L : List (List Int)}, srtB L = true → L.Pairwise (fun s t => s.length ≤ t.length)
  | [], _ => .nil
  | s :: L, h => by
    rw [srtB, Bool.and_eq_true] at h
    exact .cons (fun t ht => by simpa using List.all_eq_true.1 h.1 t ht) (srtB_ok h.2)
theorem trN_srt : srtB (trN 6) = true := by decide +kernel
end Go.Proofs.YtpkgedaejcigeaaGreat


namespace Go.Proofs.YtpkgedaejcigeaaGreat
open Go.Abs
set_option linter.unusedSectionVars false
set_option linter.unusedVariables false
set_option linter.unusedSimpArgs false
set_option maxHeartbeats 1000000
end Go.Proofs.YtpkgedaejcigeaaGreat


namespace Go.Proofs.YtpkgedaejcigeaaGreat
open Go.Abs
set_option linter.unusedSectionVars false
set_option linter.unusedVariables false
set_option linter.unusedSimpArgs false
set_option maxHeartbeats 4000000
theorem trN_sym : (trN 6).all (fun t => okS 6 t) = true := by decide +kernel
theorem trN_okS {i : Nat} (h : i < 37) : okS 6 ((trN 6)[i]?.getD []) = true :=
  List.all_eq_true.1 trN_sym _ (memD [] (by rw [trN_len6]; exact h))
theorem trN_pos {j : Nat} (h : j < 37) : ((trN 6)[j]?.getD []).length ≠ 0 ∧ ((trN 6)[j]?.getD []).length ≤ 6 ∧ Lv ((trN 6)[j]?.getD []) := by
  have h1 := trN_at (memD [] (show j < (trN 6).length by rw [trN_len6]; exact h))
  have := h1.1.1
  exact ⟨by omega, h1.2.1, h1.1⟩
theorem okS_sym {n : Nat} {t : List Int} (h : okS (n + 1) t = true) : 0 ≤ symF (n + 1) t ∧ symF (n + 1) t ≤ 1000000 := by
  have := (okS_spec h).2.2.2.2.2 _ (Nat.le_refl _)
  exact ⟨this.1, this.2.1⟩
def facT (a : List Int) (i : Nat) : Int := a[i + 1]?.getD 0 * pw (symF 6 ((trN 6)[i]?.getD []) % 10007) 10005 % 10007
theorem facT_N (a : List Int) (i : Nat) : isN (facT a i) := isN_mod _
def rowT (f : List (List Mon)) (y a : List Int) (n : Nat) : Nat → List Int
  | 0 => if n = 0 then scalS y (a[0]?.getD 0) else List.replicate y.length 0
  | i + 1 => if ((trN 6)[i]?.getD []).length = n then plusS (rowT f y a n i) (edF f y 6 ((trN 6)[i]?.getD [])) (facT a i) else rowT f y a n i
theorem rowT_len (f : List (List Mon)) (y a : List Int) (n : Nat) : ∀ i, (rowT f y a n i).length = y.length
  | 0 => by rw [rowT]; split <;> simp
  | i + 1 => by rw [rowT]; split <;> simp [rowT_len f y a n i]
theorem rowT_N (f : List (List Mon)) (y a : List Int) (n : Nat) : ∀ i, Ns (rowT f y a n i)
  | 0 => by
    rw [rowT]; split
    · exact scalS_N _ _
    · intro x hx
      obtain ⟨_, rfl⟩ := List.mem_replicate.1 hx
      exact ⟨by omega, by omega⟩
  | i + 1 => by
    rw [rowT]; split
    · exact plusS_N _ _ _
    · exact rowT_N f y a n i
theorem rowT_same (f : List (List Mon)) (y a : List Int) (n i : Nat) : ∀ k, (∀ j, i ≤ j → j < i + k → ((trN 6)[j]?.getD []).length ≠ n) → rowT f y a n (i + k) = rowT f y a n i
  | 0, _ => rfl
  | k + 1, h => by
    rw [← Nat.add_assoc, rowT, if_neg (h (i + k) (by omega) (by omega)), rowT_same f y a n i k (fun j h1 h2 => h j h1 (by omega))]
def tsX (f : List (List Mon)) (y a : List Int) (k i : Nat) : List (List Int) := (List.range k).map fun n => rowT f y a n i
@[simp] theorem tsX_len (f : List (List Mon)) (y a : List Int) (k i : Nat) : (tsX f y a k i).length = k := by simp [tsX]
theorem tsX_succ (f : List (List Mon)) (y a : List Int) (k i : Nat) : tsX f y a (k + 1) i = tsX f y a k i ++ [rowT f y a k i] := by simp [tsX, List.range_succ]
theorem tsX_get (f : List (List Mon)) (y a : List Int) {k n : Nat} (i : Nat) (h : n < k) : (tsX f y a k i)[n]?.getD [] = rowT f y a n i := by simp [tsX, h]
end Go.Proofs.YtpkgedaejcigeaaGreat


namespace Go.Proofs.YtpkgedaejcigeaaGreat
open Go.Abs CR
set_option linter.unusedSectionVars false
set_option linter.unusedVariables false
set_option linter.unusedSimpArgs false
set_option maxHeartbeats 1000000
def isgT (t : List Int) : Int := ((fp 15 (symF 6 t % 10007).toNat 10005 : Nat) : Int)
def geL : List Int → List Int → Bool
  | _, [] => true
  | [], _ :: _ => false
  | a :: l, b :: m => if a = b then geL l m else decide (b < a)
def insD (t : List Int) : List (List Int) → List (List Int)
  | [] => [t]
  | s :: l => if geL t s = true then t :: s :: l else s :: insD t l
def srtD : List (List Int) → List (List Int)
  | [] => []
  | t :: l => insD t (srtD l)
def tsD : List (List Int) := srtD (trN 5)
def rtB (bs : List (List Int)) : List Int := 0 :: bs.flatMap (fun b => b.map (· + 1))
def genN (j : Nat) : List (List Int) := genT 200 (upTo j)
def forB (j : Nat) : Bool := ((enT tsD j).map (fun x => x.1)).isPerm ((genN (j + 1)).map brs) && ((enT tsD j).all (fun x => decide (x.2 * prodC isgT x.1 % 10007 = isgT (rtB x.1))) && (genN (j + 1)).all (fun t => decide (rtB (brs t) = t)))
theorem for_ok : (List.range 6).all forB = true := by decide +kernel
theorem for_at {j : Nat} (h : j < 6) : ((enT tsD j).map (fun x => x.1)).Perm ((genN (j + 1)).map brs) ∧ (∀ x ∈ enT tsD j, x.2 * prodC isgT x.1 % 10007 = isgT (rtB x.1)) ∧ ∀ t ∈ genN (j + 1), rtB (brs t) = t := by
  have h1 := List.all_eq_true.1 for_ok j (by simpa using h)
  unfold forB at h1
  simp only [Bool.and_eq_true, List.all_eq_true, decide_eq_true_eq] at h1
  exact ⟨List.isPerm_iff.1 h1.1, h1.2.1, h1.2.2⟩
def memB (j : Nat) : Bool := (genN (j + 1)).all (fun t => lvC t && decide (t.length = j + 1)) && (((trN 6).filter (fun t => decide (t.length = j + 1))).isPerm (genN (j + 1)) && (decide (5 ≤ j) || (tsD.filter (fun t => decide (t.length = j + 1))).isPerm (genN (j + 1))))
theorem mem_ok : (List.range 6).all memB = true := by decide +kernel
theorem mem_at {j : Nat} (h : j < 6) : (∀ t ∈ genN (j + 1), Lv t ∧ t.length = j + 1) ∧ ((trN 6).filter (fun t => decide (t.length = j + 1))).Perm (genN (j + 1)) ∧ (j < 5 → (tsD.filter (fun t => decide (t.length = j + 1))).Perm (genN (j + 1))) := by
  have h1 := List.all_eq_true.1 mem_ok j (by simpa using h)
  unfold memB at h1
  simp only [Bool.and_eq_true, Bool.or_eq_true, List.all_eq_true, decide_eq_true_eq] at h1
  refine ⟨fun t ht => ⟨lvC_Lv (h1.1 t ht).1, (h1.1 t ht).2⟩, List.isPerm_iff.1 h1.2.1, fun h5 => ?_⟩
  rcases h1.2.2 with h2 | h2
  · omega
  · exact List.isPerm_iff.1 h2
theorem tsD_ok : tsD.all (fun t => lvC t && decide (t.length ≤ 5)) = true := by decide +kernel
theorem tsD_at {t : List Int} (h : t ∈ tsD) : Lv t ∧ t.length ≤ 5 := by
  have := List.all_eq_true.1 tsD_ok t h
  simp only [Bool.and_eq_true, decide_eq_true_eq] at this
  exact ⟨lvC_Lv this.1, this.2⟩
theorem prodC_mul (g h : List Int → Int) : ∀ bs, prodC (fun b => g b * h b) bs = prodC g bs * prodC h bs
  | [] => rfl
  | b :: bs => by rw [prodC, prodC, prodC, prodC_mul g h bs]; ac_rfl
theorem prodC_mod {g h : List Int → Int} : ∀ {bs : List (List Int)}, (∀ b ∈ bs, g b % 10007 = h b % 10007) → prodC g bs % 10007 = prodC h bs % 10007
  | [], _ => rfl
  | b :: bs, hb => mod_mulc (hb b (by simp)) (prodC_mod fun c hc => hb c (by simp [hc]))
theorem sumL2_filter {β : Type} (p : β → Bool) (f : β → Int) : ∀ l : List β, sumL2 f (l.filter p) = sumL2 (fun b => if p b = true then f b else 0) l
  | [] => rfl
  | b :: l => by
    rw [List.filter_cons]
    by_cases h : p b = true
    · rw [if_pos h, sumL2, sumL2_filter p f l, sumL2, if_pos h]
    · rw [if_neg h, sumL2_filter p f l, sumL2, if_neg h, Int.zero_add]
theorem sumL2_dsum {β : Type} (f : β → Nat → Int) (n : Nat) : ∀ l : List β, dsum (fun q => sumL2 (fun b => f b q) l) n = sumL2 (fun b => dsum (f b) n) l
  | [] => by
    show dsum (fun _ => (0 : Int)) n = 0
    exact dsum_zero fun _ _ => rfl
  | b :: l => by
    rw [sumL2, ← sumL2_dsum f n l, ← dsum_plus]
    rfl
def FT (f : List (List Mon)) (y : List Int) (t : List Int) : List Int := edF f y 6 t
theorem edF_fuel (f : List (List Mon)) (y : List Int) : ∀ (m k : Nat) (t : List Int), Lv t → t.length ≤ m → m ≤ k → edF f y k t = edF f y m t
  | 0, k, t, ht, h0, _ => by have := ht.1; omega
  | m + 1, k, t, ht, h, hk => by
    obtain ⟨k', rfl⟩ : ∃ k', k = k' + 1 := ⟨k - 1, by omega⟩
    rw [edF, edF]
    congr 1
    refine List.map_congr_left fun b hb => ?_
    obtain ⟨h1, h2⟩ := brs_ok ht hb
    exact edF_fuel f y m k' b h1 (by omega) (by omega)
section
variable {f : List (List Mon)} {y : List Int} {z : Int} {n : Nat}
theorem FT_N (t : List Int) : Ns (FT f y t) := edF_N t
theorem FT_at (hy : y.length = n) {t : List Int} (ht : Lv t) (h6 : t.length ≤ 6) {k : Nat} (hk : k < f.length) : (FT f y t)[k]?.getD 0 = drvP y n ((brs t).map (FT f y)) (f[k]?.getD []) := by
  have e : (brs t).map (edF f y 5) = (brs t).map (FT f y) := List.map_congr_left fun b hb => by
    obtain ⟨h1, h2⟩ := brs_ok ht hb
    exact (edF_fuel f y 5 6 b h1 (by omega) (by omega)).symm
  unfold FT
  rw [edF, e, hy]
  unfold drvL
  rw [List.getElem?_map, List.getElem?_eq_getElem hk]
  rfl
theorem pow_zz (w m : Nat) : (pwr zz w : Ser Int) m = if m = w then 1 else 0 := by
  have := zw_mul (ofI 1) w m
  rw [mul1] at this
  rw [this]
  by_cases h : w ≤ m
  · rw [if_pos h, of_at]
    by_cases e : m = w
    · rw [if_pos e, if_pos (by omega)]
    · rw [if_neg e, if_neg (by omega)]
  · rw [if_neg h, if_neg (by omega)]
theorem uT_at (Y : Nat → Int) (C : List Int → Int) (F : List Int → List Int) (k m : Nat) : ∀ ts, (uT Y C F ts k : Ser Int) m = (if m = 0 then Y k else 0) + sumL2 (fun t => if t.length = m then (F t)[k]?.getD 0 * C t else 0) ts
  | [] => by
    show (ofI (Y k) : Ser Int) m = _ + 0
    rw [of_at, Int.add_zero]
  | t :: ts => by
    show (uT Y C F ts k + ofI ((F t)[k]?.getD 0) * zT C t : Ser Int) m = _
    rw [ser_add, uT_at Y C F k m ts, of_mul]
    have e : zT C t m = if t.length = m then C t else 0 := by
      unfold zT
      rw [of_mul, pow_zz]
      by_cases h : t.length = m
      · rw [if_pos h, if_pos h.symm, Int.mul_one]
      · rw [if_neg h, if_neg (fun x => h x.symm), Int.mul_zero]
    rw [e, sumL2]
    by_cases h : t.length = m
    · rw [if_pos h, if_pos h]; omega
    · rw [if_neg h, if_neg h, Int.mul_zero]; omega
theorem uT_gen (Y : Nat → Int) (C : List Int → Int) (F : List Int → List Int) (k : Nat) {m : Nat} (h : m < 5) : (uT Y C F tsD k : Ser Int) (m + 1) = sumL2 (fun t => (F t)[k]?.getD 0 * C t) (genN (m + 1)) := by
  rw [uT_at, if_neg (by omega), Int.zero_add, ← sumL2_perm _ ((mem_at (show m < 6 by omega)).2.2 h), sumL2_filter]
  refine sumL2_congr fun t _ => ?_
  by_cases e : t.length = m + 1
  · rw [if_pos e, if_pos (by simpa using e)]
  · rw [if_neg e, if_neg (by simpa using e)]
theorem uT_zero (Y : Nat → Int) (C : List Int → Int) (F : List Int → List Int) (k : Nat) : (uT Y C F tsD k : Ser Int) 0 = Y k := by
  rw [uT_at, if_pos rfl]
  have e : sumL2 (fun t => if t.length = 0 then (F t)[k]?.getD 0 * C t else 0) tsD = 0 := by
    have h : ∀ l : List (List Int), (∀ t ∈ l, 0 < t.length) → sumL2 (fun t => if t.length = 0 then (F t)[k]?.getD 0 * C t else 0) l = 0 := fun l => by
      induction l with
      | nil => intro _; rfl
      | cons t l ih =>
        intro h
        have := h t (by simp)
        rw [sumL2, if_neg (by omega), ih (fun s hs => h s (by simp [hs]))]; rfl
    exact h tsD fun t ht => (tsD_at ht).1.1
  rw [e, Int.add_zero]
theorem exp_aux {E : List (List (List Int) × Int)} {G : List (List Int)} (f1 : (E.map (fun x => x.1)).Perm (G.map brs)) (f2 : ∀ x ∈ E, x.2 * prodC isgT x.1 % 10007 = isgT (rtB x.1)) (f3 : ∀ t ∈ G, rtB (brs t) = t)
    (D : List (List Int) → Int) (g : List Int → Int) : sumL2 (fun x => x.2 * prodC (fun b => g b * isgT b) x.1 * D x.1) E % 10007 = sumL2 (fun t => isgT t * prodC g (brs t) * D (brs t)) G % 10007 := by
  have e1 : sumL2 (fun x => x.2 * prodC (fun b => g b * isgT b) x.1 * D x.1) E % 10007 = sumL2 (fun x : List (List Int) × Int => isgT (rtB x.1) * prodC g x.1 * D x.1) E % 10007 := by
    refine sumL2_mod fun x hx => ?_
    refine mod_mulc ?_ rfl
    rw [prodC_mul]
    have e : x.2 * (prodC g x.1 * prodC isgT x.1) = x.2 * prodC isgT x.1 * prodC g x.1 := by ac_rfl
    rw [e]
    refine mod_mulc ?_ rfl
    rw [← f2 x hx, Int.emod_emod_of_dvd _ (Int.dvd_refl _)]
  rw [e1]
  have e2 : sumL2 (fun x : List (List Int) × Int => isgT (rtB x.1) * prodC g x.1 * D x.1) E = sumL2 (fun bs => isgT (rtB bs) * prodC g bs * D bs) (E.map (fun x => x.1)) := (sumL2_map (fun bs => isgT (rtB bs) * prodC g bs * D bs) (fun x : List (List Int) × Int => x.1) E).symm
  rw [e2, sumL2_perm _ f1, sumL2_map]
  exact congrArg (· % 10007) (sumL2_congr fun t ht => by rw [f3 t ht])
theorem tree_exp (hf : FieldOk (n : Int) f) (hy : y.length = n) (hfl : f.length = n) (g : List Int → Int) {j k : Nat} (hj : j < 6) (hk : k < n) :
    (evM n (uT (fun k => y[k]?.getD 0) (fun b => g b * isgT b) (FT f y) tsD) (f[k]?.getD []) : Ser Int) j % 10007 = sumL2 (fun t => isgT t * prodC g (brs t) * (FT f y t)[k]?.getD 0) (genN (j + 1)) % 10007 := by
  have hn : n ≤ 3 := by have := hf.hi; omega
  have hp := hf.part _ (memD [] (show k < f.length by omega))
  have hL : LOk n (f[k]?.getD []) := by
    have := hf.lok _ (memD [] (show k < f.length by omega))
    rwa [hfl] at this
  obtain ⟨f1, f2, f3⟩ := for_at hj
  have h1 := tay n (fun k => y[k]?.getD 0) (fun b => g b * isgT b) (FT f y) tsD (fun t ht => (tsD_at ht).1.1) (f[k]?.getD []) hL j (by omega)
  have h2 := exp_aux f1 f2 f3 (fun bs => evM n (fun k => y[k]?.getD 0) (DerL n (bs.map (FT f y)) (f[k]?.getD []))) g
  have m := (mem_at hj).1
  refine h1.trans (h2.trans ?_)
  clear h1 h2 f1 f2 f3
  generalize genN (j + 1) = G at *
  refine sumL2_mod fun t ht => ?_
  obtain ⟨m1, m2⟩ := m t ht
  rw [FT_at hy m1 (by omega) (by omega)]
  refine mod_mulc rfl ?_
  have hv : ∀ v ∈ (brs t).map (FT f y), Ns v := fun v hv => by
    obtain ⟨b, _, rfl⟩ := List.mem_map.1 hv
    exact FT_N b
  have h3 := DerL_drv hn hy (by exact hp) hv
  rw [h3]
  unfold drvP
  split
  · rfl
  · exact (Int.emod_emod_of_dvd _ (Int.dvd_refl _)).symm
end
end Go.Proofs.YtpkgedaejcigeaaGreat


namespace Go.Proofs.YtpkgedaejcigeaaGreat
open Go.Abs CR
set_option linter.unusedSectionVars false
set_option linter.unusedVariables false
set_option linter.unusedSimpArgs false
set_option maxHeartbeats 1000000
theorem hadL_at (s : Nat) {i : Nat} (hi : i < s) : ∀ (l : List (List Int)) (a : List Int), (hadL s a l)[i]?.getD 0 % 10007 = a[i]?.getD 0 * prodC (fun v => v[i]?.getD 0) l % 10007
  | [], a => by rw [hadL, prodC, Int.mul_one]
  | v :: l, a => by
    rw [hadL, hadL_at s hi l, prodC]
    have e : (hadS s a v)[i]?.getD 0 = a[i]?.getD 0 * v[i]?.getD 0 % 10007 := tb_get _ hi
    rw [e, mul_mod_l, Int.mul_assoc]
theorem stwF_fuel (A : List (List Int)) (s : Nat) : ∀ (m k : Nat) (t : List Int), Lv t → t.length ≤ m → m ≤ k → stwF A s k t = stwF A s m t
  | 0, k, t, ht, h0, _ => by have := ht.1; omega
  | m + 1, k, t, ht, h, hk => by
    obtain ⟨k', rfl⟩ : ∃ k', k = k' + 1 := ⟨k - 1, by omega⟩
    rw [stwF, stwF]
    congr 1
    refine List.map_congr_left fun b hb => ?_
    obtain ⟨h1, h2⟩ := brs_ok ht hb
    rw [stwF_fuel A s m k' b h1 (by omega) (by omega)]
theorem prodC_map (g : List Int → Int) (h : List Int → List Int) : ∀ bs, prodC g (bs.map h) = prodC (fun b => g (h b)) bs
  | [] => rfl
  | b :: bs => by rw [List.map_cons, prodC, prodC_map g h bs, prodC]
theorem cgI_eq {a b : Int} (h : cgI.r a b) : a % 10007 = b % 10007 := h
theorem sw1 (a : Nat → Int) (w : Nat → List Int → Int) (I F : List Int → Int) (G : List (List Int)) (s : Nat) : dsum (fun q => a q * sumL2 (fun t => I t * w q t * F t) G) s = sumL2 (fun t => F t * (dsum (fun q => a q * w q t) s * I t)) G := by
  rw [dsum_congr (g := fun q => sumL2 (fun t => a q * (I t * w q t * F t)) G) (fun q _ => (sumL2_mul _ _ _).symm), sumL2_dsum (fun (b : List Int) (q : Nat) => a q * (I b * w q b * F b))]
  refine sumL2_congr fun b _ => ?_
  have e3 : F b * (dsum (fun q => a q * w q b) s * I b) = (F b * I b) * dsum (fun q => a q * w q b) s := by ac_rfl
  rw [e3, dsum_mul]
  exact dsum_congr fun q _ => by ac_rfl
theorem sw2 (a : Nat → Int) (w : Nat → List Int → Int) (I F : List Int → Int) (G : List (List Int)) (s : Nat) : dsum (fun q => a q * sumL2 (fun t => I t * w q t * F t) G) s = sumL2 (fun t => I t * dsum (fun q => a q * w q t) s * F t) G := by
  rw [sw1]
  exact sumL2_congr fun b _ => by ac_rfl
theorem sw3 (e I F : List Int → Int) (G : List (List Int)) : sumL2 (fun t => I t * e t * F t) G = sumL2 (fun t => F t * (e t * I t)) G := sumL2_congr fun b _ => by ac_rfl
theorem sw4 (k : Int) (e I F : List Int → Int) (G : List (List Int)) : k * sumL2 (fun t => I t * e t * F t) G = sumL2 (fun t => I t * (k * e t) * F t) G := by
  rw [← sumL2_mul]
  exact sumL2_congr fun b _ => by ac_rfl
section
variable {A : List (List Int)} {B : List Int} {f : List (List Mon)} {y : List Int} {n : Nat}
def wS (A : List (List Int)) (s : Nat) (i : Nat) (t : List Int) : Int := (stwF A s 6 t)[i]?.getD 0
def gS (A : List (List Int)) (s : Nat) (i : Nat) (t : List Int) : Int := dsum (fun q => (A[i]?.getD [])[q]?.getD 0 * wS A s q t) s
theorem wS_prod (hT : Tab A B) {i : Nat} (hi : i < B.length) {t : List Int} (ht : Lv t) (h6 : t.length ≤ 6) : wS A B.length i t % 10007 = prodC (gS A B.length i) (brs t) % 10007 := by
  unfold wS
  rw [stwF, hadL_at B.length hi, prodC_map]
  have e1 : (List.replicate B.length (1 : Int))[i]?.getD 0 = 1 := by simp [hi]
  rw [e1, Int.one_mul]
  refine prodC_mod fun b hb => ?_
  obtain ⟨h1, h2⟩ := brs_ok ht hb
  have hiA : i < A.length := by have := hT.len; omega
  have e2 : (tim A (stwF A B.length 5 b))[i]?.getD 0 = dotI (A[i]?.getD []) (stwF A B.length 5 b) % 10007 := by
    unfold tim
    rw [List.getElem?_map, List.getElem?_eq_getElem hiA]; rfl
  rw [e2, Int.emod_emod_of_dvd _ (Int.dvd_refl _), ← stwF_fuel A B.length 5 6 b h1 (by omega) (by omega)]
  rw [dotI_dsum _ _ B.length (hT.rws.at hiA).1 (stwF_ok A B.length 6 b).1]
  rfl
def kT (A : List (List Int)) (s : Nat) (f : List (List Mon)) (y : List Int) (i k j : Nat) : Int := sumL2 (fun t => isgT t * wS A s i t * (FT f y t)[k]?.getD 0) (genN (j + 1))
theorem stage_trees (hT : Tab A B) (hf : FieldOk (n : Int) f) (hy : y.length = n) (hN : Ns y) (hfl : f.length = n) : ∀ t, t ≤ 6 → ∀ i, i < B.length → ∀ k, k < n → ∀ j, j < t →
    en ((sloS A f (poS y) t)[i]?.getD []) k j % 10007 = kT A B.length f y i k j % 10007
  | 0, _, _, _, _, _, j, hj => by omega
  | t + 1, ht, i, hi, k, hk, j, hj => by
    have al := hT.len
    have hiA : i < A.length := by omega
    have hs : R7 n (poS y) := by rw [← hy]; exact po_R7 hN
    have rl : (A[i]?.getD []).length = B.length := (hT.rws.at hiA).1
    have kr : ∀ q, q < B.length → R7 n ((sloS A f (poS y) t)[q]?.getD []) := fun q hq => slo_R7 hfl hs t (by omega)
    rw [sloS_at f (poS y) t hiA]
    have hM := mv_R7 hs (A[i]?.getD []) (sloS A f (poS y) t) (A[i]?.getD []).length
    rw [fd_en (by omega) (by omega), hM.1]
    have cong : ∀ k', k' < n → ∀ j', j' < j + 1 → cgI.r (toU (mvS (poS y) (A[i]?.getD []) (sloS A f (poS y) t) (A[i]?.getD []).length) k' j') (uT (fun k => y[k]?.getD 0) (fun b => gS A B.length i b * isgT b) (FT f y) tsD k' j') := fun k' hk' j' hj' => by
      show en (mvS (poS y) (A[i]?.getD []) (sloS A f (poS y) t) (A[i]?.getD []).length) k' j' % 10007 = _ % 10007
      cases j' with
      | zero =>
        rw [mv_en0 hs _ _ _ hk', uT_zero]
        refine congrArg (· % 10007) ?_
        show ((poS y)[k']?.getD [])[0]?.getD 0 = _
        rw [poS_at (by omega)]; rfl
      | succ j' =>
        rw [mv_enS hs _ hk' (by omega) _ (fun q hq => kr q (by omega)), uT_gen _ _ _ _ (by omega)]
        have z : en (poS y) k' (j' + 1) = 0 := by
          show ((poS y)[k']?.getD [])[j' + 1]?.getD 0 = 0
          rw [poS_at (by omega)]
          show ([y[k']?.getD 0, 0, 0, 0, 0, 0, 0] : List Int)[j' + 1]?.getD 0 = 0
          match j', (show j' < 6 by omega) with
          | 0, _ => rfl
          | 1, _ => rfl
          | 2, _ => rfl
          | 3, _ => rfl
          | 4, _ => rfl
          | 5, _ => rfl
        rw [z, Int.zero_add, rl]
        have e1 : dsum (fun q => (A[i]?.getD [])[q]?.getD 0 * en ((sloS A f (poS y) t)[q]?.getD []) k' j') B.length % 10007 = dsum (fun q => (A[i]?.getD [])[q]?.getD 0 * kT A B.length f y q k' j') B.length % 10007 :=
          dsum_mod fun q hq => mod_mulc rfl (stage_trees hT hf hy hN hfl t (by omega) q hq k' hk' j' (by omega))
        rw [e1]
        refine congrArg (· % 10007) ?_
        exact sw1 (fun q => (A[i]?.getD [])[q]?.getD 0) (wS A B.length) isgT (fun t => (FT f y t)[k']?.getD 0) (genN (j' + 1)) B.length
    have h1 := Cg.evM (cgS cgI (j + 1)) (d := n) (fun q hq m hm => cong q hq m hm) (f[k]?.getD []) j (by omega)
    refine (cgI_eq h1).trans ?_
    rw [tree_exp hf hy hfl (gS A B.length i) (by omega) hk]
    unfold kT
    have m := (mem_at (show j < 6 by omega)).1
    generalize genN (j + 1) = G at *
    refine sumL2_mod fun b hb => mod_mulc (mod_mulc rfl ?_) rfl
    exact (wS_prod hT hi (m b hb).1 (by have := (m b hb).2; omega)).symm
theorem step_trees (hT : Tab A B) (hf : FieldOk (n : Int) f) (hy : y.length = n) (hN : Ns y) (hfl : f.length = n) {k j : Nat} (hk : k < n) (hj : j < 6) :
    en (steS A B f (poS y)) k (j + 1) % 10007 = sumL2 (fun t => isgT t * (dotI B (stwF A B.length 6 t) % 10007) * (FT f y t)[k]?.getD 0) (genN (j + 1)) % 10007 := by
  have al := hT.len
  have hs : R7 n (poS y) := by rw [← hy]; exact po_R7 hN
  have rl : ∀ i, i < A.length → (A[i]?.getD []).length = A.length := fun i hi => by rw [hT.len]; exact (hT.rws.at hi).1
  have kr : ∀ q, q < B.length → R7 n ((sloS A f (poS y) 7)[q]?.getD []) := fun q hq => slo_R7 hfl hs 7 (by omega)
  have e0 : en (steS A B f (poS y)) k (j + 1) % 10007 = (en (poS y) k (j + 1) + dsum (fun q => B[q]?.getD 0 * en ((sloS A f (poS y) 7)[q]?.getD []) k j) B.length) % 10007 := mv_enS hs B hk hj B.length kr
  have z : en (poS y) k (j + 1) = 0 := by
    show ((poS y)[k]?.getD [])[j + 1]?.getD 0 = 0
    rw [poS_at (by omega)]
    show ([y[k]?.getD 0, 0, 0, 0, 0, 0, 0] : List Int)[j + 1]?.getD 0 = 0
    match j, hj with
    | 0, _ => rfl
    | 1, _ => rfl
    | 2, _ => rfl
    | 3, _ => rfl
    | 4, _ => rfl
    | 5, _ => rfl
  rw [e0, z, Int.zero_add]
  have e1 : dsum (fun q => B[q]?.getD 0 * en ((sloS A f (poS y) 7)[q]?.getD []) k j) B.length % 10007 = dsum (fun q => B[q]?.getD 0 * kT A B.length f y q k j) B.length % 10007 :=
    dsum_mod fun q hq => mod_mulc rfl (((slo_steady hfl hs rl 6 (by omega) q (by omega) k hk j hj).symm).trans (stage_trees hT hf hy hN hfl 6 (Nat.le_refl _) q hq k hk j hj))
  rw [e1]
  have e2 := sw2 (fun q => B[q]?.getD 0) (wS A B.length) isgT (fun t => (FT f y t)[k]?.getD 0) (genN (j + 1)) B.length
  refine (congrArg (· % 10007) e2).trans ?_
  refine sumL2_mod fun b _ => mod_mulc (mod_mulc rfl ?_) rfl
  have e3 : dotI B (stwF A B.length 6 b) = dsum (fun q => B[q]?.getD 0 * wS A B.length q b) B.length := dotI_dsum _ _ B.length rfl (stwF_ok A B.length 6 b).1
  rw [← e3, Int.emod_emod_of_dvd _ (Int.dvd_refl _)]
end
def exN (t : List Int) : Int := ((fp 15 (denF 8 t % 10007).toNat 10005 : Nat) : Int)
def exB (j : Nat) : Bool := (genN (j + 1)).all fun t => decide (prodC exN (brs t) % 10007 = ((j : Int) + 1) * exN t % 10007)
theorem ex_ok : (List.range 6).all exB = true := by decide +kernel
theorem ex_at {j : Nat} (h : j < 6) {t : List Int} (ht : t ∈ genN (j + 1)) : prodC exN (brs t) % 10007 = ((j : Int) + 1) * exN t % 10007 := by
  have h1 := List.all_eq_true.1 ex_ok j (by simpa using h)
  exact of_decide_eq_true (List.all_eq_true.1 h1 t ht)
section
variable {f : List (List Mon)} {y : List Int} {n : Nat}
def flT (f : List (List Mon)) (y : List Int) (k j : Nat) : Int := sumL2 (fun t => isgT t * exN t * (FT f y t)[k]?.getD 0) (genN (j + 1))
theorem flow_trees (hf : FieldOk (n : Int) f) (hy : y.length = n) (hN : Ns y) (hfl : f.length = n) : ∀ j, j < 6 → ∀ k, k < n → toU (floS f y 6) k (j + 1) % 10007 = flT f y k j % 10007 := by
  have all : ∀ m, m ≤ 6 → ∀ j, j < m → ∀ k, k < n → toU (floS f y 6) k (j + 1) % 10007 = flT f y k j % 10007 := by
    intro m
    induction m with
    | zero => intro _ j hj; omega
    | succ m ih =>
      intro hm j hj k hk
      rcases Nat.lt_or_ge j m with h | h
      · exact ih (by omega) j h k hk
      have e : j = m := by omega
      subst e
      have f0 : ∀ k, k < n → toU (floS f y 6) k 0 = y[k]?.getD 0 := fun k hk => by
        have := floS_keep (f := f) (show k < y.length by omega) 0 (Nat.le_refl 0) 6
        rw [Nat.zero_add] at this
        show ((floS f y 6)[k]?.getD [])[0]?.getD 0 = y[k]?.getD 0
        rw [this, floS, poS_at (by omega)]; rfl
      have ode := floS_ode hf (by omega) hN k (by omega) j (by omega)
      rw [hfl] at ode
      have cong : ∀ k', k' < n → ∀ j', j' < j + 1 → cgI.r (toU (floS f y 6) k' j') (uT (fun k => y[k]?.getD 0) (fun b => exN b * isgT b) (FT f y) tsD k' j') := fun k' hk' j' hj' => by
        cases j' with
        | zero => rw [f0 k' hk', uT_zero]; exact cgI.refl _
        | succ j' =>
          rw [uT_gen _ _ _ _ (by omega)]
          refine cgI.trans (ih (by omega) j' (by omega) k' hk') (cgI.eq ?_)
          exact sw3 exN isgT (fun t => (FT f y t)[k']?.getD 0) (genN (j' + 1))
      have h1 := Cg.evM (cgS cgI (j + 1)) (d := n) (fun q hq m hm => cong q hq m hm) (f[k]?.getD []) j (by omega)
      have h2 := tree_exp hf hy hfl exN (j := j) (by omega) hk
      have h3 : (((j + 1 : Nat) : Int) * toU (floS f y 6) k (j + 1)) % 10007 = sumL2 (fun t => isgT t * prodC exN (brs t) * (FT f y t)[k]?.getD 0) (genN (j + 1)) % 10007 := (cgI_eq ode).trans ((cgI_eq h1).trans h2)
      have h4 : sumL2 (fun t => isgT t * prodC exN (brs t) * (FT f y t)[k]?.getD 0) (genN (j + 1)) % 10007 = ((j + 1 : Nat) : Int) * flT f y k j % 10007 := by
        have e1 := sw4 ((j + 1 : Nat) : Int) exN isgT (fun t => (FT f y t)[k]?.getD 0) (genN (j + 1))
        refine Eq.trans ?_ (congrArg (· % 10007) e1).symm
        refine sumL2_mod fun t ht => mod_mulc (mod_mulc rfl ?_) rfl
        rw [show ((j + 1 : Nat) : Int) = (j : Int) + 1 by omega]
        exact ex_at (by omega) ht
      have h5 := h3.trans h4
      have i6 := inv_6 j (by omega)
      generalize toU (floS f y 6) k (j + 1) = a at *
      generalize flT f y k j = b at *
      generalize pw ((j : Int) + 1) 10005 = w at *
      have ca : ∀ x : Int, x % 10007 = (((j + 1 : Nat) : Int) * x) * w % 10007 := fun x => by
        have e1 : ((j + 1 : Nat) : Int) * x * w = x * (((j + 1 : Nat) : Int) * w) := by ac_rfl
        rw [e1, Int.mul_emod x, i6, Int.mul_one, Int.emod_emod_of_dvd _ (Int.dvd_refl _)]
      rw [ca a, ca b]
      exact mod_mulc h5 rfl
  exact fun j hj => all 6 (Nat.le_refl _) j hj
end
end Go.Proofs.YtpkgedaejcigeaaGreat


namespace Go.Proofs.YtpkgedaejcigeaaGreat
open Go.Abs CR
set_option linter.unusedSectionVars false
set_option linter.unusedVariables false
set_option linter.unusedSimpArgs false
set_option maxHeartbeats 1000000
def mapW (a0 : Int) (W : List Int → Int) : List Int := a0 :: (trN 6).map W
theorem mapW_len (a0 : Int) (W : List Int → Int) : (mapW a0 W).length = 38 := by
  unfold mapW
  rw [List.length_cons, List.length_map, trN_len6]
theorem mapW_at (a0 : Int) (W : List Int → Int) {i : Nat} (h : i < 37) : (mapW a0 W)[i + 1]?.getD 0 = W ((trN 6)[i]?.getD []) := by
  have hl : i < (trN 6).length := by rw [trN_len6]; exact h
  unfold mapW
  rw [List.getElem?_cons_succ, List.getElem?_map, List.getElem?_eq_getElem hl]; rfl
theorem isgT_pw (t : List Int) : isgT t = pw (symF 6 t % 10007) 10005 := by
  unfold isgT
  rw [fp_pw, Int.toNat_of_nonneg (Int.emod_nonneg _ (by decide))]
theorem facT_W (a0 : Int) (W : List Int → Int) {i : Nat} (h : i < 37) : facT (mapW a0 W) i % 10007 = isgT ((trN 6)[i]?.getD []) * W ((trN 6)[i]?.getD []) % 10007 := by
  unfold facT
  rw [mapW_at a0 W h, Int.emod_emod_of_dvd _ (Int.dvd_refl _), ← isgT_pw, Int.mul_comm]
section
variable {f : List (List Mon)} {y : List Int} {n : Nat}
theorem rowT_sum (a0 : Int) (W : List Int → Int) {m : Nat} {k : Nat} (hk : k < y.length) (hy : Ns y) : ∀ i, i ≤ 37 → (rowT f y (mapW a0 W) m i)[k]?.getD 0 % 10007
      = ((if m = 0 then y[k]?.getD 0 * a0 else 0) + sumL2 (fun t => if t.length = m then isgT t * W t * (FT f y t)[k]?.getD 0 else 0) ((trN 6).take i)) % 10007
  | 0, _ => by
    rw [rowT, List.take_zero]
    by_cases h : m = 0
    · rw [if_pos h, if_pos h]
      have e : (scalS y ((mapW a0 W)[0]?.getD 0))[k]?.getD 0 = y[k]?.getD 0 * (a0 % 10007) % 10007 := tb_get (fun i => y[i]?.getD 0 * (a0 % 10007) % 10007) hk
      rw [e, Int.emod_emod_of_dvd _ (Int.dvd_refl _), mul_mod_r]
      show _ = (_ + 0) % 10007
      rw [Int.add_zero]
    · rw [if_neg h, if_neg h]
      simp [hk, sumL2]
  | i + 1, hi => by
    have ih := rowT_sum a0 W (m := m) hk hy i (by omega)
    have hl : i < (trN 6).length := by rw [trN_len6]; omega
    have e1 : (trN 6).take (i + 1) = (trN 6).take i ++ [(trN 6)[i]?.getD []] := by
      rw [List.take_succ_eq_append_getElem hl, List.getElem?_eq_getElem hl]; rfl
    rw [rowT, e1, sumL2_app]
    have e2 : sumL2 (fun t => if t.length = m then isgT t * W t * (FT f y t)[k]?.getD 0 else 0) [(trN 6)[i]?.getD []] = if ((trN 6)[i]?.getD []).length = m then isgT ((trN 6)[i]?.getD []) * W ((trN 6)[i]?.getD []) * (FT f y ((trN 6)[i]?.getD []))[k]?.getD 0 else 0 := Int.add_zero _
    rw [e2]
    have fw := facT_W a0 W (i := i) (by omega)
    generalize (trN 6)[i]?.getD [] = t at *
    generalize sumL2 (fun t => if t.length = m then isgT t * W t * (FT f y t)[k]?.getD 0 else 0) ((trN 6).take i) = S at *
    by_cases h : t.length = m
    · rw [if_pos h, if_pos h]
      have e3 : (plusS (rowT f y (mapW a0 W) m i) (edF f y 6 t) (facT (mapW a0 W) i))[k]?.getD 0 = ((rowT f y (mapW a0 W) m i)[k]?.getD 0 + facT (mapW a0 W) i % 10007 * (edF f y 6 t)[k]?.getD 0) % 10007 :=
        tb_get (fun j => ((rowT f y (mapW a0 W) m i)[j]?.getD 0 + facT (mapW a0 W) i % 10007 * (edF f y 6 t)[j]?.getD 0) % 10007) (by rw [rowT_len]; exact hk)
      rw [e3, Int.emod_emod_of_dvd _ (Int.dvd_refl _), ← Int.add_assoc]
      refine mod_addc ih ?_
      rw [mul_mod_l]
      exact mod_mulc fw rfl
    · rw [if_neg h, if_neg h, Int.add_zero]
      exact ih
theorem series_row (a0 : Int) (W : List Int → Int) {j k : Nat} (hk : k < y.length) (hy : Ns y) (hj : j < 6) : (rowT f y (mapW a0 W) (j + 1) 37)[k]?.getD 0 % 10007 = sumL2 (fun t => isgT t * W t * (FT f y t)[k]?.getD 0) (genN (j + 1)) % 10007 := by
  rw [rowT_sum a0 W hk hy 37 (Nat.le_refl _), if_neg (by omega), Int.zero_add, List.take_of_length_le (by rw [trN_len6]; exact Nat.le_refl _), ← sumL2_perm _ (mem_at hj).2.1, sumL2_filter]
  refine congrArg (· % 10007) (sumL2_congr fun t _ => ?_)
  by_cases e : t.length = j + 1
  · rw [if_pos e, if_pos (by simpa using e)]
  · rw [if_neg e, if_neg (by simpa using e)]
theorem series_first (a0 : Int) (W : List Int → Int) {k : Nat} (hk : k < y.length) (hy : Ns y) : (rowT f y (mapW a0 W) 0 37)[k]?.getD 0 % 10007 = y[k]?.getD 0 * a0 % 10007 := by
  have e : rowT f y (mapW a0 W) 0 (0 + 37) = rowT f y (mapW a0 W) 0 0 := rowT_same f y (mapW a0 W) 0 0 37 fun j _ h => (trN_pos (by omega)).1
  rw [Nat.zero_add] at e
  rw [e, rowT_sum a0 W hk hy 0 (by omega), if_pos rfl, List.take_zero]
  show (_ + 0) % 10007 = _
  rw [Int.add_zero]
theorem series_is (W : List Int → Int) {X : List (List Int)} (hy : y.length = n) (hN : Ns y) (n1 : 1 ≤ n) (hX : R7 n X) (h0 : ∀ k, k < n → en X k 0 = y[k]?.getD 0)
    (hS : ∀ k, k < n → ∀ j, j < 6 → en X k (j + 1) % 10007 = sumL2 (fun t => isgT t * W t * (FT f y t)[k]?.getD 0) (genN (j + 1)) % 10007) : tsX f y (mapW 1 W) 7 37 = turnS X := by
  have r0 := hX.row (k := 0) (by omega)
  refine List.ext_getElem (by rw [tsX_len, turnS_len, r0.1]) fun j h1 h2 => ?_
  have hj : j < 7 := by simpa using h1
  have e1 := tsX_get f y (mapW 1 W) 37 hj
  have e2 := turnS_at (a := X) (k := j) (by rw [r0.1]; exact hj)
  rw [List.getElem?_eq_getElem h1, Option.getD_some] at e1
  rw [List.getElem?_eq_getElem h2, Option.getD_some] at e2
  rw [e1, e2]
  refine List.ext_getElem (by rw [rowT_len]; simp [colS, hX.1, hy]) fun k k1 k2 => ?_
  have hk : k < n := by rw [rowT_len] at k1; omega
  have nA := (rowT_N f y (mapW 1 W) j 37).get k
  have nB := ((hX.row hk).2).get j
  have e3 := colS_at (a := X) (k := j) (i := k) (by rw [hX.1]; exact hk)
  rw [List.getElem?_eq_getElem k2, Option.getD_some] at e3
  rw [e3]
  have e4 : (rowT f y (mapW 1 W) j 37)[k]?.getD 0 % 10007 = en X k j % 10007 := by
    cases j with
    | zero => rw [series_first 1 W (by omega) hN, Int.mul_one, h0 k hk]
    | succ j => rw [series_row 1 W (by omega) hN (by omega), hS k hk j (by omega)]
  have e5 : en X k j = (X[k]?.getD [])[j]?.getD 0 := rfl
  rw [e5, Int.emod_eq_of_lt nA.1 (by have := nA.2; omega), Int.emod_eq_of_lt nB.1 (by have := nB.2; omega), List.getElem?_eq_getElem k1, Option.getD_some] at e4
  exact e4
variable {A : List (List Int)} {B : List Int}
def chW (A : List (List Int)) (B : List Int) (t : List Int) : Int := dotI B (stwF A B.length 6 t) % 10007
theorem po_first (hy : y.length = n) {k : Nat} (hk : k < n) : en (poS y) k 0 = y[k]?.getD 0 := by
  show ((poS y)[k]?.getD [])[0]?.getD 0 = _
  rw [poS_at (by omega)]; rfl
theorem ste_first (hy : y.length = n) (hN : Ns y) {k : Nat} (hk : k < n) : en (steS A B f (poS y)) k 0 = y[k]?.getD 0 := by
  have hs : R7 n (poS y) := by rw [← hy]; exact po_R7 hN
  have : en (steS A B f (poS y)) k 0 = en (poS y) k 0 := mv_en0 hs B _ _ hk
  rw [this, po_first hy hk]
theorem flo_first (hy : y.length = n) {k : Nat} (hk : k < n) : en (floS f y 6) k 0 = y[k]?.getD 0 := by
  have := floS_keep (f := f) (show k < y.length by omega) 0 (Nat.le_refl 0) 6
  rw [Nat.zero_add] at this
  show ((floS f y 6)[k]?.getD [])[0]?.getD 0 = y[k]?.getD 0
  rw [this, floS, poS_at (by omega)]; rfl
theorem flo_R7 (hy : y.length = n) (hN : Ns y) : R7 n (floS f y 6) := ⟨by rw [floS_len, hy], floS_row hN 6⟩
theorem series_step (hT : Tab A B) (hf : FieldOk (n : Int) f) (hy : y.length = n) (hN : Ns y) (hfl : f.length = n) : tsX f y (mapW 1 (chW A B)) 7 37 = turnS (steS A B f (poS y)) := by
  have hs : R7 n (poS y) := by rw [← hy]; exact po_R7 hN
  exact series_is (chW A B) hy hN (by have := hf.lo; omega) (ste_R7 hs) (fun k hk => ste_first hy hN hk) fun k hk j hj => step_trees hT hf hy hN hfl hk hj
theorem ord_same (hT : Tab A B) (hf : FieldOk (n : Int) f) (hy : y.length = n) (hN : Ns y) (hfl : f.length = n) {k j : Nat} (hk : k < n) (hj : j < 6) (ho : ((j + 1 : Nat) : Int) ≤ orT A B (trN 6)) :
    en (steS A B f (poS y)) k (j + 1) % 10007 = en (floS f y 6) k (j + 1) % 10007 := by
  rw [step_trees hT hf hy hN hfl hk hj]
  refine Eq.trans ?_ (flow_trees hf hy hN hfl j hj k hk).symm
  unfold flT
  obtain ⟨_, _, o3⟩ := orT_at (A := A) (B := B) (L := trN 6) (srtB_ok trN_srt) (fun t ht => ⟨(trN_at ht).1.1, (trN_at ht).2.1⟩)
  obtain ⟨m1, m2, _⟩ := mem_at hj
  refine sumL2_mod fun t ht => mod_mulc (mod_mulc rfl ?_) rfl
  have htr : t ∈ trN 6 := (List.mem_filter.1 (m2.symm.subset ht)).1
  obtain ⟨tL, tl⟩ := m1 t ht
  have h0 := o3 t htr (by rw [tl]; exact ho)
  unfold lacF at h0
  have e1 : stwF A B.length 6 t = stwF A B.length t.length t := stwF_fuel A B.length t.length 6 t tL (Nat.le_refl _) (by omega)
  have e2 : exN t = pw (denF 8 t % 10007) 10005 := by
    unfold exN
    rw [fp_pw, Int.toNat_of_nonneg (Int.emod_nonneg _ (by decide))]
  rw [e1, e2]
  generalize dotI B (stwF A B.length t.length t) = a at *
  have pn := pw_N (denF 8 t % 10007) 10005
  have := pn.1; have := pn.2
  generalize pw (denF 8 t % 10007) 10005 = b at *
  omega
theorem lo_ex (X : List (List Int)) (Z : List Int) : ∀ k, k ≤ 6 → (∀ j, 1 ≤ j → j ≤ 6 - k → X[j]?.getD [] = Z) → ∃ p, p ≤ 6 ∧ (∀ j, 1 ≤ j → j ≤ p → X[j]?.getD [] = Z) ∧ (p = 6 ∨ X[p + 1]?.getD [] ≠ Z)
  | 0, _, h => ⟨6, Nat.le_refl _, fun j a b => h j a (by omega), .inl rfl⟩
  | k + 1, hk, h => by
    by_cases e : X[6 - (k + 1) + 1]?.getD [] = Z
    · refine lo_ex X Z k (by omega) fun j a b => ?_
      by_cases ej : j = 6 - (k + 1) + 1
      · rw [ej]; exact e
      · exact h j a (by omega)
    · exact ⟨6 - (k + 1), by omega, h, .inr e⟩
theorem le_en (hy : y.length = n) (hN : Ns y) {k j : Nat} (hk : k < n) (hj : j < 7) : en (leS A B f y) k j = (en (steS A B f (poS y)) k j + 10006 * en (floS f y 6) k j) % 10007 := by
  have hs : R7 n (poS y) := by rw [← hy]; exact po_R7 hN
  have l7 := ((ste_R7 (A := A) (B := B) (f := f) hs).row hk).1
  show ((leS A B f y)[k]?.getD [])[j]?.getD 0 = _
  rw [leS_at (by omega)]
  exact tb_get (fun j => (((steS A B f (poS y))[k]?.getD [])[j]?.getD 0 + -1 % 10007 * ((floS f y 6)[k]?.getD [])[j]?.getD 0) % 10007) (by omega)
theorem turn_row {X : List (List Int)} (n1 : 1 ≤ n) (hX : R7 n X) {j : Nat} (hj : j < 7) : (turnS X)[j]?.getD [] = colS X j ∧ (colS X j).length = n ∧ ∀ k, k < n → (colS X j)[k]?.getD 0 = en X k j := by
  have r0 := hX.row (k := 0) (by omega)
  refine ⟨turnS_at (by rw [r0.1]; exact hj), by simp [colS, hX.1], fun k hk => colS_at (by rw [hX.1]; exact hk)⟩
theorem le_R7 (hy : y.length = n) (hN : Ns y) : R7 n (leS A B f y) := ⟨by rw [leS_len, hy], leS_row hN⟩
theorem err_sum (n1 : 1 ≤ n) (hy : y.length = n) (hN : Ns y) {j : Nat} (hj : j < 7) : pl5 ((turnS (leS A B f y))[j]?.getD []) ((turnS (floS f y 6))[j]?.getD []) = (turnS (steS A B f (poS y)))[j]?.getD [] := by
  have hs : R7 n (poS y) := by rw [← hy]; exact po_R7 hN
  have hS := ste_R7 (A := A) (B := B) (f := f) hs
  obtain ⟨a1, a2, a3⟩ := turn_row n1 (le_R7 (A := A) (B := B) (f := f) hy hN) hj
  obtain ⟨b1, b2, b3⟩ := turn_row n1 (flo_R7 (f := f) hy hN) hj
  obtain ⟨c1, c2, c3⟩ := turn_row n1 hS hj
  rw [a1, b1, c1]
  refine List.ext_getElem (by rw [pl5_len, a2, c2]) fun k k1 k2 => ?_
  have hk : k < n := by rw [c2] at k2; exact k2
  have e1 := pl5_get (a := colS (leS A B f y) j) (b := colS (floS f y 6) j) (i := k) (by rw [a2]; exact hk)
  rw [List.getElem?_eq_getElem k1, Option.getD_some, a3 k hk, b3 k hk, le_en hy hN hk hj] at e1
  have e2 := c3 k hk
  rw [List.getElem?_eq_getElem k2, Option.getD_some] at e2
  rw [e1, e2]
  have nB := ((hS.row hk).2).get j
  have e3 : en (steS A B f (poS y)) k j = ((steS A B f (poS y))[k]?.getD [])[j]?.getD 0 := rfl
  rw [← e3] at nB
  have := nB.1; have := nB.2
  omega
theorem err_zero (n1 : 1 ≤ n) (hT : Tab A B) (hf : FieldOk (n : Int) f) (hy : y.length = n) (hN : Ns y) (hfl : f.length = n) {j : Nat} (hj : j < 7) (ho : (j : Int) ≤ orT A B (trN 6)) : (turnS (leS A B f y))[j]?.getD [] = List.replicate n 0 := by
  obtain ⟨a1, a2, a3⟩ := turn_row n1 (le_R7 (A := A) (B := B) (f := f) hy hN) hj
  rw [a1]
  refine List.ext_getElem (by rw [a2]; simp) fun k k1 k2 => ?_
  have hk : k < n := by rw [a2] at k1; exact k1
  have e1 := a3 k hk
  rw [List.getElem?_eq_getElem k1, Option.getD_some, le_en hy hN hk hj] at e1
  rw [e1]
  have e2 : en (steS A B f (poS y)) k j % 10007 = en (floS f y 6) k j % 10007 := by
    cases j with
    | zero => rw [ste_first hy hN hk, flo_first hy hk]
    | succ j => exact ord_same hT hf hy hN hfl hk (by omega) ho
  simp
  omega
theorem lo_law (n1 : 1 ≤ n) (hT : Tab A B) (hf : FieldOk (n : Int) f) (hy : y.length = n) (hN : Ns y) (hfl : f.length = n) :
    ∃ p, loS (turnS (leS A B f y)) n = p ∧ p ≤ 6 ∧ orT A B (trN 6) ≤ p ∧ (∀ j, j ≤ p → (turnS (leS A B f y))[j]?.getD [] = List.replicate n 0) ∧ (p < 6 → (turnS (leS A B f y))[p + 1]?.getD [] ≠ List.replicate n 0) := by
  obtain ⟨o1, o2, _⟩ := orT_at (A := A) (B := B) (L := trN 6) (srtB_ok trN_srt) (fun t ht => ⟨(trN_at ht).1.1, (trN_at ht).2.1⟩)
  have z := fun j hj ho => err_zero (A := A) (B := B) n1 hT hf hy hN hfl (j := j) hj ho
  obtain ⟨p, p6, h1, h2⟩ := lo_ex (turnS (leS A B f y)) (List.replicate n 0) 6 (Nat.le_refl _) (fun j a b => by omega)
  have l7 : (turnS (leS A B f y)).length = 7 := by
    rw [turnS_len]; exact ((le_R7 (A := A) (B := B) (f := f) hy hN).row (k := 0) (by omega)).1
  refine ⟨p, loS_of l7 p6 h1 h2, p6, ?_, fun j hj => ?_, fun h6 => ?_⟩
  · rcases h2 with h2 | h2
    · omega
    · rcases Int.lt_or_le (p : Int) (orT A B (trN 6)) with h | h
      · exact (h2 (z (p + 1) (by omega) (by omega))).elim
      · exact h
  · cases j with
    | zero => exact z 0 (by omega) (by simpa using o1)
    | succ j => exact h1 (j + 1) (by omega) hj
  · rcases h2 with h2 | h2
    · omega
    · exact h2
end
end Go.Proofs.YtpkgedaejcigeaaGreat


namespace Go.Proofs.YtpkgedaejcigeaaGreat
open Go.Abs
set_option linter.unusedSectionVars false
set_option linter.unusedVariables false
set_option linter.unusedSimpArgs false
set_option maxHeartbeats 1000000
def frI (p q : Int) : Int := p % 10007 * pw (q % 10007) 10005 % 10007
theorem frI_N (p q : Int) : isN (frI p q) := isN_mod _
def sqL (s : Nat) (q : Int) (l : List Int) : List (List Int) := (List.range s).map fun i => tb (fun k => frI (l[i * s + k]?.getD 0) q) s
def rwL (q : Int) (l : List Int) : List Int := tb (fun i => frI (l[i]?.getD 0) q) l.length
theorem sq_lt {i k s : Nat} (hi : i < s) (hk : k < s) : i * s + k < s * s := by
  have h : (i + 1) * s ≤ s * s := Nat.mul_le_mul_right s (by omega)
  rw [Nat.succ_mul] at h
  omega
theorem fits_get {l : List Int} (h : ∀ x ∈ l, fits x) (k : Nat) : fits (l[k]?.getD 0) := by
  rcases Nat.lt_or_ge k l.length with hk | hk
  · exact h _ (by simp [hk])
  · rw [List.getElem?_eq_none hk]; exact ⟨by simp, by simp⟩
set_option maxRecDepth 100000 in
theorem l09Square_c (s : Nat) (q : Int) (l : List Int) (hs : s ≤ 8) (hl : l.length = s * s) (hq : fits q) (hN : ∀ x ∈ l, fits x) :
    Con Tryz.prog 172 [.int s, .int q, .sl l.length (avs l)] (.own 25 s (omat (sqL s q l))) := by
  have hd : sqL s q l = (List.range s).map fun i => tb (fun k => frI (l[i * s + k]?.getD 0) q) s := rfl
  have h64 : s * s ≤ 64 := by
    have := Nat.mul_le_mul hs hs
    omega
  rw [hd]
  refine con_of_vc Tryz.mixed ⟨11, [], [], []⟩ Tryz.func172 (by decide) rfl (by simp) (by decide) (by simp [freshOK, freshL, go_sem]) ?_
  rw [Tryz.ntmps172]
  simp [go_sem]
  refine loop_inv ([7, 8, 9, 10] ++ List.range' 12 28) (fun i : Nat => [(7, .own 25 i (omat ((List.range i).map fun i => tb (fun k => frI (l[i * s + k]?.getD 0) q) s))), (8, .int i)]) (fun i => i ≤ s) (fun i => s - i) 0 (by simp) (by simp [go_sem, omat]) (by simp [go_sem]) ?_
  intro i hi
  by_cases his : i < s
  · have hii : (i : Int) < s := by omega
    have os := omat_range_succ (fun i => tb (fun k => frI (l[i * s + k]?.getD 0) q) s) i
    rw [tb_len] at os
    simp [go_sem, hii]
    refine loop_inv ([9, 10] ++ List.range' 18 18) (fun k : Nat => [(9, .own 2 k (avs (tb (fun k => frI (l[i * s + k]?.getD 0) q) k))), (10, .int k)]) (fun k => k ≤ s) (fun k => s - k) 0 (by simp) (by simp [go_sem]) (by simp [go_sem]) ?_
    intro k hk
    by_cases hks : k < s
    · have hki : (k : Int) < s := by omega
      have hx : i * s + k < l.length := by rw [hl]; exact sq_lt his hks
      have ec : (i : Int) * (s : Int) = ((i * s : Nat) : Int) := by simp
      have hm : i * s ≤ 64 := by omega
      have ts := tb_succ (fun k => frI (l[i * s + k]?.getD 0) q) k
      have fx := fits_get hN (i * s + k)
      have cF := l01Frac_c (l[i * s + k]?.getD 0) q fx hq
      have fe : frI (l[i * s + k]?.getD 0) q = l[i * s + k]?.getD 0 % 10007 * pw (q % 10007) 10005 % 10007 := rfl
      rw [← fe] at cF
      have dr := avs_drop hx
      have ne : ¬ l = [] := by rintro rfl; simp at hx
      generalize hz : i * s = z at *
      rw [List.getD_eq_getElem?_getD] at dr
      generalize l[z + k]?.getD 0 = x at *
      have et : ((z : Int) + (k : Int)).toNat = z + k := by omega
      simp [go_sem, hki, ec, et, dr]
      refine ⟨by omega, ⟨by omega, by omega⟩, ⟨by omega, by omega, ne⟩, ?_⟩
      refine CallVC.of (cF) (by decide) ?_
      simp [go_sem]
      exact ⟨by omega, by omega, k + 1, by omega, by omega, Off_reset _ _ _ (by simp), by rw [ts, avs_snoc]; exact ⟨rfl, rfl⟩, by omega⟩
    · have e : k = s := by omega
      subst e
      simp [go_sem]
      exact ⟨⟨by omega, by omega⟩, by omega, i + 1, by omega, by omega, (Off.reset (by intro x hx; simp at hx ⊢; omega) (by simp) (by simp [go_sem, Off_reset])), by rw [os]; exact ⟨rfl, rfl⟩, by omega⟩
  · have e : i = s := by omega
    subst e
    simp [go_sem]
set_option maxRecDepth 100000 in
theorem l09Row_c (q : Int) (l : List Int) (hl : l.length ≤ 64) (hq : fits q) (hN : ∀ x ∈ l, fits x) :
    Con Tryz.prog 173 [.int q, .sl l.length (avs l)] (.own 2 l.length (avs (rwL q l))) := by
  have hd : rwL q l = tb (fun i => frI (l[i]?.getD 0) q) l.length := rfl
  rw [hd]
  refine con_of_vc Tryz.mixed ⟨7, [], [], []⟩ Tryz.func173 (by decide) rfl (by simp) (by decide) (by simp [freshOK, freshL, go_sem]) ?_
  rw [Tryz.ntmps173]
  simp [go_sem]
  refine loop_inv ([5, 6] ++ List.range' 8 15) (fun i : Nat => [(5, .own 2 i (avs (tb (fun i => frI (l[i]?.getD 0) q) i))), (6, .int i)]) (fun i => i ≤ l.length) (fun i => l.length - i) 0 (by simp) (by simp [go_sem]) (by simp [go_sem]) ?_
  intro i hi
  by_cases hil : i < l.length
  · have hii : (i : Int) < l.length := by omega
    have ts := tb_succ (fun i => frI (l[i]?.getD 0) q) i
    have fx := fits_get hN i
    have cF := l01Frac_c (l[i]?.getD 0) q fx hq
    have fe : frI (l[i]?.getD 0) q = l[i]?.getD 0 % 10007 * pw (q % 10007) 10005 % 10007 := rfl
    rw [← fe] at cF
    have dr := avs_drop hil
    have ne : ¬ l = [] := by rintro rfl; simp at hil
    rw [List.getD_eq_getElem?_getD] at dr
    generalize l[i]?.getD 0 = x at *
    simp [go_sem, hii, dr]
    refine ⟨ne, ?_⟩
    refine CallVC.of (cF) (by decide) ?_
    simp [go_sem]
    exact ⟨by omega, by omega, i + 1, by omega, by omega, Off_reset _ _ _ (by simp), by rw [ts, avs_snoc]; exact ⟨rfl, rfl⟩, by omega⟩
  · have e : i = l.length := by omega
    simp [go_sem, e]
set_option maxRecDepth 100000 in
theorem l01Root_r (a k : Int) (hk : 0 ≤ k) (hk2 : k ≤ 9223372036854775807) : RCon Tryz.prog 174 [.int a, .int k] (fun r o => o = [.any, .any] ∧ ∃ x : Int, -1 ≤ x ∧ x ≤ 10006 ∧ r = .int x) := by
  refine rcon_of_vcH Tryz.mixed ⟨6, [], [], []⟩ [] Tryz.func174 (by decide) rfl (by simp) (by simp) (by decide) ?_
  rw [Tryz.ntmps174]
  simp [go_sem]
  refine loop_inv (List.range' 4 12) (fun i : Nat => [(5, .int i)]) (fun i => i ≤ 10007) (fun i => 10007 - i) 0 (by simp) (by simp [go_sem]) (by simp [go_sem]) ?_
  intro i hi
  by_cases h : i < 10007
  · have hii : (i : Int) < 10007 := by omega
    have cP := l01Pow_c i k ⟨by omega, by omega⟩ hk hk2
    simp [go_sem, hii]
    refine CallVC.of (cP) (by decide) ?_
    simp [go_sem]
    refine ⟨fun h => ?_, fun h => ?_⟩ <;> simp at h
    · simp [go_sem]
      omega
    · simp [go_sem]
      exact ⟨⟨by omega, by omega⟩, i + 1, by omega, by omega, Off_reset _ _ _ (by simp), by omega⟩
  · have hii : ¬ (i : Int) < 10007 := by omega
    simp [go_sem, hii]
end Go.Proofs.YtpkgedaejcigeaaGreat


namespace Go.Proofs.YtpkgedaejcigeaaGreat
open Go.Abs
set_option linter.unusedSectionVars false
set_option linter.unusedVariables false
set_option linter.unusedSimpArgs false
set_option maxHeartbeats 4000000
theorem sqL_tab {s : Nat} (q p : Int) (l b : List Int) (h1 : 1 ≤ s) (h8 : s ≤ 8) (hb : b.length = s) : Tab (sqL s q l) (rwL p b) := by
  have bl : (rwL p b).length = s := by simp [rwL, hb]
  refine ⟨by omega, by omega, by rw [bl]; simp [sqL], tb_N fun k _ => frI_N _ _, fun r hr => ?_⟩
  obtain ⟨i, _, rfl⟩ := List.mem_map.1 hr
  exact ⟨by rw [bl]; simp, tb_N fun k _ => frI_N _ _⟩
theorem sqL_len (s : Nat) (q : Int) (l : List Int) : (sqL s q l).length = s := by simp [sqL]
theorem rwL_len (p : Int) (b : List Int) : (rwL p b).length = b.length := by simp [rwL]
def Tb8 (A : List (List Int)) (B : List Int) : Prop := Tab A B
theorem named_fin (s : Nat) (q p : Int) (l b : List Int) (h1 : 1 ≤ s) (h8 : s ≤ 8) (hb : b.length = s) :
    ∃ (A : List (List Int)) (B : List Int), Tb8 A B ∧ (s = A.length ∧ omat (sqL s q l) = omat A) ∧ s = B.length ∧ rwL p b = B :=
  ⟨sqL s q l, rwL p b, sqL_tab q p l b h1 h8 hb, ⟨(sqL_len s q l).symm, rfl⟩, by rw [rwL_len]; exact hb.symm, rfl⟩
set_option maxRecDepth 100000 in
theorem l09Named_r (nm : ByteArray) : RCon Tryz.prog 149 [.val (.string nm)] (fun r o => o = [.any] ∧ ∃ (A : List (List Int)) (B : List Int), Tb8 A B ∧ r = .agg [.own 25 A.length (omat A), .own 2 B.length (avs B)]) := by
  have sq := fun (s : Nat) (q : Int) (l : List Int) (h1 : s ≤ 8) (h2 : l.length = s * s) (h3 : fits q) (h4 : ∀ x ∈ l, fits x) => l09Square_c s q l h1 h2 h3 h4
  have rw_ := fun (q : Int) (l : List Int) (h1 : l.length ≤ 64) (h3 : fits q) (h4 : ∀ x ∈ l, fits x) => l09Row_c q l h1 h3 h4
  have f1 : fits 1 := ⟨by omega, by omega⟩
  have ff : ∀ n : Int, -100 ≤ n → n ≤ 100 → fits n := fun n h1 h2 => ⟨by omega, by omega⟩
  refine rcon_of_vcH Tryz.mixed ⟨5, [], [2000000 + 174], []⟩ [] Tryz.func149 (by decide) rfl (by simp) (by simp) (by decide) ?_
  rw [Tryz.ntmps149]
  simp [go_sem]
  refine ⟨fun h => ?_, fun h => ?_⟩
  · simp [go_sem]
    refine CallVC.of (sq 1 1 [0] (by omega) rfl (ff _ (by omega) (by omega)) (by simp [fits])) (by decide) ?_
    simp [go_sem]
    refine CallVC.of (rw_ 1 [1] (by simp) (ff _ (by omega) (by omega)) (by simp [fits])) (by decide) ?_
    simp [go_sem]
    exact named_fin 1 1 1 [0] [1] (by omega) (by omega) rfl
  simp [go_sem]
  refine ⟨fun h => ?_, fun h => ?_⟩
  · simp [go_sem]
    refine ⟨_, l01Root_r 3 2 (by omega) (by omega), ?_⟩
    rintro _ _ ⟨rfl, x, hx1, hx2, rfl⟩
    have n6 := frI_N 1 6
    have n4 := frI_N 1 4
    have c6 := l01Frac_c 1 6 f1 (ff _ (by omega) (by omega))
    have c4 := l01Frac_c 1 4 f1 (ff _ (by omega) (by omega))
    have e6 : frI 1 6 = 1 % 10007 * pw (6 % 10007) 10005 % 10007 := rfl
    have e4 : frI 1 4 = 1 % 10007 * pw (4 % 10007) 10005 % 10007 := rfl
    rw [← e6] at c6
    rw [← e4] at c4
    generalize frI 1 6 = y at *
    generalize frI 1 4 = z at *
    have fm : fits (x * y) := by
      have h1 : x * y ≤ 10006 * y := Int.mul_le_mul_of_nonneg_right hx2 n6.1
      have h2 : -1 * y ≤ x * y := Int.mul_le_mul_of_nonneg_right hx1 n6.1
      have := n6.1
      have := n6.2
      exact ⟨by omega, by omega⟩
    have cm := l01Mul_c x y fm
    have nm' : isN (x * y % 10007) := isN_mod _
    generalize x * y % 10007 = u at *
    have fs : fits (z - u) := sub_fits n4 nm'
    have fa : fits (z + u) := add_fits n4 nm'
    have cs := l01Sub_c z u fs
    have ca := l01Add_c z u fa
    have ns : isN ((z - u) % 10007) := isN_mod _
    have na : isN ((z + u) % 10007) := isN_mod _
    generalize (z - u) % 10007 = v at *
    generalize (z + u) % 10007 = w at *
    simp [go_sem]
    refine CallVC.of (c6) (by decide) ?_
    simp [go_sem]
    refine CallVC.of (cm) (by decide) ?_
    simp [go_sem]
    refine CallVC.of (c4) (by decide) ?_
    simp [go_sem]
    refine CallVC.of (cs) (by decide) ?_
    simp [go_sem]
    refine CallVC.of (ca) (by decide) ?_
    simp [go_sem]
    refine CallVC.of (rw_ 2 [1, 1] (by simp) (ff _ (by omega) (by omega)) (by simp [fits])) (by decide) ?_
    simp [go_sem]
    have hT : Tab [[z, v], [w, z]] (rwL 2 [1, 1]) := by
      refine ⟨by simp [rwL], by simp [rwL], by simp [rwL], tb_N fun k _ => frI_N _ _, fun r hr => ?_⟩
      simp at hr
      rcases hr with rfl | rfl
      · refine ⟨by simp [rwL], fun x hx => ?_⟩
        simp at hx
        rcases hx with rfl | rfl <;> assumption
      · refine ⟨by simp [rwL], fun x hx => ?_⟩
        simp at hx
        rcases hx with rfl | rfl <;> assumption
    exact ⟨[[z, v], [w, z]], rwL 2 [1, 1], hT, by simp [omat, avs], by simp [rwL]⟩
  simp [go_sem]
  refine ⟨fun h => ?_, fun h => ?_⟩
  · simp [go_sem]
    refine CallVC.of (sq 2 1 [0, 0, 1, 0] (by omega) rfl (ff _ (by omega) (by omega)) (by simp [fits])) (by decide) ?_
    simp [go_sem]
    refine CallVC.of (rw_ 2 [1, 1] (by simp) (ff _ (by omega) (by omega)) (by simp [fits])) (by decide) ?_
    simp [go_sem]
    exact named_fin 2 1 2 [0, 0, 1, 0] [1, 1] (by omega) (by omega) rfl
  simp [go_sem]
  refine ⟨fun h => ?_, fun h => ?_⟩
  · simp [go_sem]
    refine CallVC.of (sq 1 1 [1] (by omega) rfl (ff _ (by omega) (by omega)) (by simp [fits])) (by decide) ?_
    simp [go_sem]
    refine CallVC.of (rw_ 1 [1] (by simp) (ff _ (by omega) (by omega)) (by simp [fits])) (by decide) ?_
    simp [go_sem]
    exact named_fin 1 1 1 [1] [1] (by omega) (by omega) rfl
  simp [go_sem]
  refine ⟨fun h => ?_, fun h => ?_⟩
  · simp [go_sem]
    refine CallVC.of (sq 3 2 [0, 0, 0, 1, 0, 0, -2, 4, 0] (by omega) rfl (ff _ (by omega) (by omega)) (by simp [fits])) (by decide) ?_
    simp [go_sem]
    refine CallVC.of (rw_ 6 [1, 4, 1] (by simp) (ff _ (by omega) (by omega)) (by simp [fits])) (by decide) ?_
    simp [go_sem]
    exact named_fin 3 2 6 [0, 0, 0, 1, 0, 0, -2, 4, 0] [1, 4, 1] (by omega) (by omega) rfl
  simp [go_sem]
  refine ⟨fun h => ?_, fun h => ?_⟩
  · simp [go_sem]
    refine CallVC.of (sq 3 24 [0, 0, 0, 5, 8, -1, 4, 16, 4] (by omega) rfl (ff _ (by omega) (by omega)) (by simp [fits])) (by decide) ?_
    simp [go_sem]
    refine CallVC.of (rw_ 6 [1, 4, 1] (by simp) (ff _ (by omega) (by omega)) (by simp [fits])) (by decide) ?_
    simp [go_sem]
    exact named_fin 3 24 6 [0, 0, 0, 5, 8, -1, 4, 16, 4] [1, 4, 1] (by omega) (by omega) rfl
  simp [go_sem]
  refine ⟨fun h => ?_, fun h => ?_⟩
  · simp [go_sem]
    refine CallVC.of (sq 1 2 [1] (by omega) rfl (ff _ (by omega) (by omega)) (by simp [fits])) (by decide) ?_
    simp [go_sem]
    refine CallVC.of (rw_ 1 [1] (by simp) (ff _ (by omega) (by omega)) (by simp [fits])) (by decide) ?_
    simp [go_sem]
    exact named_fin 1 2 1 [1] [1] (by omega) (by omega) rfl
  simp [go_sem]
  refine ⟨fun h => ?_, fun h => ?_⟩
  · simp [go_sem]
    refine CallVC.of (sq 2 2 [0, 0, 1, 0] (by omega) rfl (ff _ (by omega) (by omega)) (by simp [fits])) (by decide) ?_
    simp [go_sem]
    refine CallVC.of (rw_ 1 [0, 1] (by simp) (ff _ (by omega) (by omega)) (by simp [fits])) (by decide) ?_
    simp [go_sem]
    exact named_fin 2 2 1 [0, 0, 1, 0] [0, 1] (by omega) (by omega) rfl
  simp [go_sem]
  refine ⟨fun h => ?_, fun h => ?_⟩
  · simp [go_sem]
    refine CallVC.of (sq 2 12 [5, -1, 9, 3] (by omega) rfl (ff _ (by omega) (by omega)) (by simp [fits])) (by decide) ?_
    simp [go_sem]
    refine CallVC.of (rw_ 4 [3, 1] (by simp) (ff _ (by omega) (by omega)) (by simp [fits])) (by decide) ?_
    simp [go_sem]
    exact named_fin 2 12 4 [5, -1, 9, 3] [3, 1] (by omega) (by omega) rfl
  simp [go_sem]
  refine ⟨fun h => ?_, fun h => ?_⟩
  · simp [go_sem]
    refine CallVC.of (sq 2 3 [0, 0, 2, 0] (by omega) rfl (ff _ (by omega) (by omega)) (by simp [fits])) (by decide) ?_
    simp [go_sem]
    refine CallVC.of (rw_ 4 [1, 3] (by simp) (ff _ (by omega) (by omega)) (by simp [fits])) (by decide) ?_
    simp [go_sem]
    exact named_fin 2 3 4 [0, 0, 2, 0] [1, 3] (by omega) (by omega) rfl
  simp [go_sem]
  refine ⟨fun h => ?_, fun h => ?_⟩
  · simp [go_sem]
    refine CallVC.of (sq 4 2 [0, 0, 0, 0, 1, 0, 0, 0, 0, 1, 0, 0, 0, 0, 2, 0] (by omega) rfl (ff _ (by omega) (by omega)) (by simp [fits])) (by decide) ?_
    simp [go_sem]
    refine CallVC.of (rw_ 6 [1, 2, 2, 1] (by simp) (ff _ (by omega) (by omega)) (by simp [fits])) (by decide) ?_
    simp [go_sem]
    exact named_fin 4 2 6 [0, 0, 0, 0, 1, 0, 0, 0, 0, 1, 0, 0, 0, 0, 2, 0] [1, 2, 2, 1] (by omega) (by omega) rfl
  simp [go_sem]
  refine CallVC.of (sq 2 2 [0, 0, 1, 1] (by omega) rfl (ff _ (by omega) (by omega)) (by simp [fits])) (by decide) ?_
  simp [go_sem]
  refine CallVC.of (rw_ 2 [1, 1] (by simp) (ff _ (by omega) (by omega)) (by simp [fits])) (by decide) ?_
  simp [go_sem]
  exact named_fin 2 2 2 [0, 0, 1, 1] [1, 1] (by omega) (by omega) rfl
end Go.Proofs.YtpkgedaejcigeaaGreat


namespace Go.Proofs.YtpkgedaejcigeaaGreat
open Go.Abs
set_option linter.unusedSectionVars false
set_option linter.unusedVariables false
set_option linter.unusedSimpArgs false
set_option maxHeartbeats 1000000
end Go.Proofs.YtpkgedaejcigeaaGreat


namespace Go.Proofs.YtpkgedaejcigeaaGreat
open Go.Abs
set_option linter.unusedSectionVars false
set_option linter.unusedVariables false
set_option linter.unusedSimpArgs false
set_option maxHeartbeats 1000000
def ptA (Ls : List (List Mon)) : Nat → AV
  | 0 => .val (.slice none 0 0)
  | i + 1 => .own 91 (i + 1) (oprt (Ls.take (i + 1)))
theorem ptA_zero (Ls : List (List Mon)) : ptA Ls 0 = .val (.slice none 0 0) := rfl
theorem ptA_succ (Ls : List (List Mon)) (i : Nat) : ptA Ls (i + 1) = .own 91 (i + 1) (oprt (Ls.take (i + 1))) := rfl
end Go.Proofs.YtpkgedaejcigeaaGreat


namespace Go.Proofs.YtpkgedaejcigeaaGreat
open Go.Abs
set_option linter.unusedSectionVars false
set_option linter.unusedVariables false
set_option linter.unusedSimpArgs false
set_option maxHeartbeats 1000000
def DrP (n : Nat) (p : List Mon) : Prop := p.length ≤ 3 ∧ ∀ m ∈ p, WOk n 3 m
theorem set_bump {w : List Int} {B : Int} {k : Nat} (hw : ∀ x ∈ w, 0 ≤ x ∧ x ≤ B) (hk : k < w.length) : ∀ x ∈ w.set k (w[k]?.getD 0 + 1), 0 ≤ x ∧ x ≤ B + 1 := fun x hx => by
  rcases List.mem_or_eq_of_mem_set hx with hx | rfl
  · have := hw x hx; omega
  · have := hw (w[k]?.getD 0) (by simp [hk])
    omega
set_option maxRecDepth 100000 in
theorem l13Draw_r (c : List Int) (σ : Src) (hc : Byt c) (hs : SOk σ) :
    RCon Tryz.prog 133 [srcA c σ] (fun r o => ∃ (τ : Src) (n : Nat) (f : List (List Mon)), SOk τ ∧ o = [srcA c τ] ∧ 1 ≤ n ∧ n ≤ 3 ∧ f.length = n ∧ (∀ p ∈ f, DrP n p) ∧ r = .agg [.int n, .own 91 n (oprt f)]) := by
  have c1 := l01Next_c c σ 3 hc hs
  have s1 := nx2_ok hc hs 3
  have b1 := nx1_b hc σ (n := 3) (by omega)
  obtain ⟨n, hn⟩ : ∃ n : Nat, 1 + nx1 c σ 3 = n := ⟨(1 + nx1 c σ 3).toNat, by omega⟩
  generalize nx1 c σ 3 = v1 at *
  generalize nx2 c σ 3 = σ1 at *
  simp only [srcA_eq] at *
  refine rcon_of_vcH Tryz.mixed ⟨10, [], [1000000 + 96, 1000000 + 97, 1000000 + 134], []⟩ [0] Tryz.func133 (by decide) rfl (by simp) (by simp) (by decide) ?_
  rw [Tryz.ntmps133]
  simp [go_sem]
  refine ⟨_, _, c1, ?_⟩
  simp [go_sem]
  refine ⟨⟨by omega, by omega⟩, ?_⟩
  rw [hn]
  refine loop_inv (0 :: 3 :: 4 :: 5 :: 6 :: 7 :: 8 :: 9 :: List.range' 14 46) (fun x : Src × List (List Mon) => [(0, .box 110 [.sl c.length (bys c), .int x.1.1, .val (.int .u64 x.1.2)]), (3, .box 30 [.int n, ptA x.2 x.2.length]), (4, .int x.2.length)]) (fun x => SOk x.1 ∧ x.2.length ≤ n ∧ ∀ p ∈ x.2, DrP n p) (fun x => n - x.2.length) (σ1, []) (by simp; exact s1) (by simp [go_sem, ptA_zero]) (by simp [go_sem]) ?_
  rintro ⟨τ, f⟩ ⟨h1, h2, h3⟩
  simp only at h1 h2 h3
  simp [go_sem]
  refine ⟨fun h => ?_, fun h => ?_⟩ <;> simp at h
  · have c4 := l01Next_c c τ 4 hc h1
    have s4 := nx2_ok hc h1 4
    have b4 := nx1_b hc τ (n := 4) (by omega)
    obtain ⟨m, hm⟩ : ∃ m : Nat, nx1 c τ 4 = m := ⟨(nx1 c τ 4).toNat, by omega⟩
    rw [hm] at c4 b4
    generalize nx2 c τ 4 = τ1 at *
    simp only [srcA_eq] at c4
    simp [go_sem]
    refine ⟨_, _, c4, ?_⟩
    simp [go_sem]
    refine loop_inv (0 :: 5 :: 6 :: 7 :: 8 :: 9 :: List.range' 23 31) (fun x : Src × List Mon × Nat => [(0, .box 110 [.sl c.length (bys c), .int x.1.1, .val (.int .u64 x.1.2)]), (5, .own 102 x.2.1.length (omons x.2.1)), (6, .int x.2.2)]) (fun x => SOk x.1 ∧ x.2.1.length + x.2.2 ≤ 3 ∧ ∀ m ∈ x.2.1, WOk n 3 m) (fun x => x.2.2) (τ1, [], m) ⟨s4, by simp; omega, by simp⟩ (by simp [go_sem]) (by simp [go_sem]) ?_
    rintro ⟨ρ, p, k⟩ ⟨g1, g2, g3⟩
    simp only at g1 g2 g3
    simp [go_sem]
    refine ⟨fun h => ?_, fun h => ?_⟩ <;> simp at h
    · have c5 := l01Pick_c c ρ [0, 1, 1, 2, 2, 3] hc g1 (by simp) (by simp)
      have m5 := pk_mem c hc ρ (xs := [0, 1, 1, 2, 2, 3]) (by simp)
      have s5 := nx2_ok hc g1 6
      obtain ⟨d0, hd0⟩ : ∃ d0 : Nat, pk c ρ [0, 1, 1, 2, 2, 3] = d0 := ⟨(pk c ρ [0, 1, 1, 2, 2, 3]).toNat, by simp at m5; omega⟩
      have hd3 : d0 ≤ 3 := by rw [hd0] at m5; simp at m5; omega
      have e6 : (([0, 1, 1, 2, 2, 3] : List Int).length : Int) = 6 := rfl
      rw [hd0, e6] at c5
      generalize nx2 c ρ 6 = ρ1 at *
      simp only [srcA_eq] at c5
      simp [go_sem]
      refine ⟨⟨by omega, by omega⟩, ?_⟩
      refine ⟨_, _, c5, ?_⟩
      simp [go_sem]
      rw [avs_repl]
      refine loop_inv (0 :: 7 :: 8 :: 9 :: List.range' 33 16) (fun x : Src × List Int × Nat => [(0, .box 110 [.sl c.length (bys c), .int x.1.1, .val (.int .u64 x.1.2)]), (7, .own 2 n (avs x.2.1)), (8, .int x.2.2)]) (fun x => SOk x.1 ∧ x.2.1.length = n ∧ x.2.2 ≤ 3 ∧ ∀ y ∈ x.2.1, 0 ≤ y ∧ y + x.2.2 ≤ 3) (fun x => x.2.2) (ρ1, List.replicate n 0, d0) ⟨s5, by simp, by simpa using hd3, by intro y hy; have := List.eq_of_mem_replicate hy; simp only; omega⟩ (by simp [go_sem]) (by simp [go_sem]) ?_
      rintro ⟨κ, w, d⟩ ⟨q1, q2, q3, q4⟩
      simp only at q1 q2 q3 q4
      simp [go_sem]
      refine ⟨fun h => ?_, fun h => ?_⟩ <;> simp at h
      · obtain ⟨e, rfl⟩ : ∃ e, d = e + 1 := ⟨d - 1, by omega⟩
        have hnn : 1 ≤ n := by omega
        have c6 := l01Next_c c κ n hc q1
        have s6 := nx2_ok hc q1 n
        have b6 := nx1_b hc κ (n := n) (by omega)
        obtain ⟨j, hj⟩ : ∃ j : Nat, nx1 c κ n = j := ⟨(nx1 c κ n).toNat, by omega⟩
        rw [hj] at c6 b6
        have hjn : j < w.length := by omega
        have hA := avs_at hjn
        have hB := set_bump (B := 3 - (e + 1)) (fun y hy => by have := q4 y hy; constructor <;> omega) hjn
        have wj := q4 (w[j]?.getD 0) (by simp [hjn])
        have hS := avs_set w j (w[j]?.getD 0 + 1)
        generalize w[j]?.getD 0 = u at *
        generalize nx2 c κ n = κ1 at *
        simp only [srcA_eq] at c6
        simp [go_sem]
        refine ⟨_, _, c6, ?_⟩
        simp [go_sem]
        simp [go_sem, hA]
        refine ⟨by omega, ⟨by omega, by omega⟩, by omega, by omega, by omega, κ1.1, κ1.2, w.set j (u + 1), e, ⟨s6, by simpa using q2, by omega, fun y hy => ?_⟩, by omega, Off_reset _ _ _ (by simp), ?_⟩
        · have := hB y hy; omega
        · simp [hS]
      · have e0 : d = 0 := by omega
        subst e0
        have c7 := l01Number_c c κ hc q1
        have h7 := nbV_ok hc q1
        have c8 := l13Put_c p (nbV c κ).1 w h7.1 (fun m hm => ⟨(g3 m hm).num, by have := (g3 m hm).len; omega⟩) (by omega) (by omega)
        have l8 := putL_len p (nbV c κ).1 w
        have w8 := putGo_wok (n := n) (B := 3) (c := (nbV c κ).1) (e := w) ⟨h7.1, q2, fun y hy => by have := q4 y hy; constructor <;> omega⟩ p (decide ((nbV c κ).1 = 0)) g3
        have w9 : ∀ m ∈ putL p (nbV c κ).1 w, WOk n 3 m := w8
        rw [q2] at c8
        generalize putL p (nbV c κ).1 w = p2 at *
        generalize nbV c κ = r7 at *
        simp only [srcA_eq] at c7
        simp [go_sem]
        refine ⟨_, _, c7, ?_⟩
        simp [go_sem]
        refine CallVC.of (c8) (by decide) ?_
        simp [go_sem]
        exact ⟨⟨by omega, by omega⟩, r7.2.1, r7.2.2, p2, k - 1, ⟨h7.2, by omega, fun a b hab => w9 (a, b) hab⟩, by omega, (Off.reset (by intro x hx; simp at hx ⊢; omega) (by simp) (by simp [go_sem, Off_reset])), ⟨rfl, rfl⟩, ⟨rfl, rfl⟩, by omega⟩
    · have k0 : k = 0 := by omega
      subst k0
      have hsn : ptA (f ++ [p]) (f.length + 1) = .own 91 (f.length + 1) (oprt f ++ [.own 102 p.length (omons p)]) := by
        rw [ptA_succ, List.take_of_length_le (by simp), oprt_app]; rfl
      have hdr : DrP n p := ⟨by omega, g3⟩
      rcases f with _ | ⟨q, f⟩
      · simp [go_sem, ptA_zero]
        refine ⟨ρ.1, ρ.2, [p], ⟨g1, by simp; omega, by simpa using hdr⟩, by simp; omega, (by repeat (first | exact Off_reset _ _ _ (by simp) | (refine Off.reset (by intro x hx; simp at hx ⊢; omega) (by simp) ?_; simp -failIfUnchanged [go_sem, Off_reset]))), ?_⟩
        exact ⟨⟨rfl, rfl⟩, rfl, by simp⟩
      · rw [List.length_cons] at *
        simp [go_sem, ptA_succ]
        refine ⟨⟨by omega, by omega⟩, by omega, ρ.1, ρ.2, q :: f ++ [p], ⟨g1, by simp; omega, fun t ht => ?_⟩, by simp; omega, (by repeat (first | exact Off_reset _ _ _ (by simp) | (refine Off.reset (by intro x hx; simp at hx ⊢; omega) (by simp) ?_; simp -failIfUnchanged [go_sem, Off_reset]))), ?_⟩
        · rcases List.mem_append.1 ht with ht | ht
          · exact h3 t ht
          · simp at ht; rw [ht]; exact hdr
        · have e1 : (q :: f ++ [p]).length = f.length + 1 + 1 := by simp
          rw [e1, hsn]
          exact ⟨⟨rfl, rfl⟩, rfl, by omega⟩
  · have e0 : f.length = n := by omega
    rcases f with _ | ⟨q, f⟩
    · simp at e0; omega
    · rw [List.length_cons] at *
      simp [go_sem, ptA_succ]
      exact ⟨τ.1, τ.2, h1, ⟨rfl, rfl⟩, n, by omega, by omega, q :: f, by simpa using e0, h3, rfl, e0, rfl⟩
def spr : Bool → List (List Mon) → List AV
  | true, p :: f => .own 102 p.length (mons p) :: oprt f
  | true, [] => []
  | false, f => oprt f
@[simp] theorem spr_len : ∀ (b : Bool) (f : List (List Mon)), (spr b f).length = f.length
  | true, p :: f => by simp [spr]
  | true, [] => rfl
  | false, f => by simp [spr]
@[simp] theorem spr_frz : ∀ (b : Bool) (f : List (List Mon)), frzL (spr b f) = prt f
  | true, p :: f => by simp [spr, frzL, frz, prt, mons_frz]
  | true, [] => rfl
  | false, f => by simp [spr]
def DrS (z : Int) (f : List (List Mon)) : Prop := -1 ≤ z ∧ z ≤ 4 ∧ f.length ≤ 4 ∧ ∀ p ∈ f, p.length ≤ 4 ∧ ∀ m ∈ p, m.2.length ≤ 3
theorem DrS.of {n : Nat} {f : List (List Mon)} (hn : n ≤ 3) (hl : f.length ≤ 3) (h : ∀ p ∈ f, DrP n p) {z : Int} (h1 : -1 ≤ z) (h2 : z ≤ 4) : DrS z f :=
  ⟨h1, h2, by omega, fun p hp => ⟨by have := (h p hp).1; omega, fun m hm => by have := ((h p hp).2 m hm).len; omega⟩⟩
end Go.Proofs.YtpkgedaejcigeaaGreat


namespace Go.Proofs.YtpkgedaejcigeaaGreat
open Go.Abs
set_option linter.unusedSectionVars false
set_option linter.unusedVariables false
set_option linter.unusedSimpArgs false
set_option maxHeartbeats 1000000
theorem oprt_cons (q : List Mon) (f : List (List Mon)) : oprt (q :: f) = .own 102 q.length (omons q) :: oprt f := rfl
set_option maxRecDepth 100000 in
theorem l13Spoil_r (c : List Int) (σ : Src) (hc : Byt c) (hs : SOk σ) :
    RCon Tryz.prog 93 [srcA c σ] (fun r o => ∃ (τ : Src) (z : Int) (b : Bool) (f : List (List Mon)), SOk τ ∧ o = [srcA c τ] ∧ DrS z f ∧ r = .agg [.int z, .own 91 f.length (spr b f)]) := by
  have cD := l13Draw_r c σ hc hs
  simp only [srcA_eq] at *
  refine rcon_of_vcH Tryz.mixed ⟨5, [48], [1000000 + 96, 1000000 + 97, 2000000 + 133], [2000614000117]⟩ [0] Tryz.func93 (by decide) rfl (by simp) (by simp) (by decide) ?_
  rw [Tryz.ntmps93]
  simp [go_sem]
  refine ⟨_, cD, ?_⟩
  rintro _ _ ⟨τ, n, f, h1, rfl, h2, h3, h4, h5, rfl⟩
  have c4 := l01Next_c c τ 40 hc h1
  have s4 := nx2_ok hc h1 40
  generalize nx1 c τ 40 = v at *
  generalize nx2 c τ 40 = τ1 at *
  simp only [srcA_eq] at c4
  simp [go_sem]
  refine ⟨_, _, c4, ?_⟩
  simp [go_sem]
  rcases f with _ | ⟨q, f⟩
  · simp at h4; omega
  · have hq : q.length ≤ 3 := (h5 q (by simp)).1
    by_cases v0 : v = 0
    · have c5 := l01Pick_c c τ1 [0, (n : Int) + 1, -1, 4] hc s4 (by simp) (by simp)
      have m5 := pk_mem c hc τ1 (xs := [0, (n : Int) + 1, -1, 4]) (by simp)
      have s5 := nx2_ok hc s4 4
      have e4 : (([0, (n : Int) + 1, -1, 4] : List Int).length : Int) = 4 := rfl
      rw [e4] at c5
      simp only [srcA_eq] at c5
      generalize pk c τ1 [0, (n : Int) + 1, -1, 4] = z at *
      generalize nx2 c τ1 4 = τ2 at *
      simp [go_sem, v0]
      refine ⟨⟨by omega, by omega⟩, ?_⟩
      refine ⟨_, _, c5, ?_⟩
      simp [go_sem]
      refine ⟨τ2.1, τ2.2, s5, ⟨rfl, rfl⟩, z, .inl ⟨q :: f, DrS.of h3 (by omega) h5 ?_ ?_, rfl, h4.symm, rfl⟩⟩
      all_goals (simp at m5; omega)
    · have hfs : DrS n (q :: f) := DrS.of h3 (by omega) h5 (by omega) (by omega)
      by_cases v1 : v = 1
      · have c5 := l01Pick_c c τ1 [0, 10007, 1] hc s4 (by simp) (by simp)
        have s5 := nx2_ok hc s4 3
        have e4 : (([0, 10007, 1] : List Int).length : Int) = 3 := rfl
        have c6 := l13One_c n 0 (by omega) (by omega)
        rw [e4] at c5
        simp only [srcA_eq] at c5
        generalize pk c τ1 [0, 10007, 1] = x at *
        generalize nx2 c τ1 3 = τ2 at *
        have fin : ∃ a b, SOk (a, b) ∧ ((τ2.1 : Int) = a ∧ τ2.2 = b) ∧ ∃ z, (∃ g, DrS z g ∧ (n : Int) = z ∧ n = g.length ∧ AV.own 102 (q.length + 1) (omons q ++ [AV.val (Value.int IntKind.i64 x), AV.own 2 n (avs (oneE n 0))]) :: oprt f = spr false g) ∨ ∃ g, DrS z g ∧ (n : Int) = z ∧ n = g.length ∧ AV.own 102 (q.length + 1) (omons q ++ [AV.val (Value.int IntKind.i64 x), AV.own 2 n (avs (oneE n 0))]) :: oprt f = spr true g := by
          refine ⟨τ2.1, τ2.2, s5, ⟨rfl, rfl⟩, n, .inl ⟨(q ++ [(x, oneE n 0)]) :: f, ⟨by omega, by omega, hfs.2.2.1, fun p hp => ?_⟩, rfl, h4.symm, ?_⟩⟩
          · rcases List.mem_cons.1 hp with rfl | hp
            · refine ⟨by simp; omega, fun m hm => ?_⟩
              rcases List.mem_append.1 hm with hm | hm
              · exact (hfs.2.2.2 q (by simp)).2 m hm
              · simp at hm; subst hm; simp [oneE]; omega
            · exact hfs.2.2.2 p (by simp [hp])
          · have e1 : ((oneE n 0).length : Nat) = n := by simp [oneE]
            rw [spr, oprt_cons, omons_app]
            simp [omons_cons, e1]
        simp [go_sem, v0, v1]
        rw [DrawVC4_app]
        refine ⟨fun i => if i = 8 then [.n 0 .any, .n 27 .any, .n 0 (.box 110 [.sl c.length (bys c), .int τ2.1, .val (.int .u64 τ2.2)]), .n 27 .any, .w 28 (.int x)] else [.w 31 (.own 2 n (avs (oneE n 0)))], by kernel_rfl, ?_, ?_, ?_⟩
        · simp [go_sem, oprt_cons]
          refine ⟨by omega, ?_⟩
          refine ⟨_, _, c5, ?_⟩
          simp [go_sem]
          refine CallD.of (c6) (by simp [roots, rootsL]) (by decide) ?_
          simp [go_sem]
          refine ⟨⟨by omega, by omega⟩, by omega, by kernel_rfl, ?_⟩
          exact fin
        · simp [go_sem, oprt_cons]
          refine ⟨by omega, ?_⟩
          refine ⟨_, _, c5, ?_⟩
          simp [go_sem]
          refine CallD.of (c6) (by simp [roots, rootsL]) (by decide) ?_
          simp [go_sem]
          refine ⟨⟨by omega, by omega⟩, by omega, by kernel_rfl, ?_⟩
          exact fin
        · simp [go_sem, oprt_cons]
          refine ⟨by omega, ?_⟩
          refine ⟨_, _, c5, ?_⟩
          simp [go_sem]
          refine CallD.of (c6) (by simp [roots, rootsL]) (by decide) ?_
          simp [go_sem]
          refine ⟨⟨by omega, by omega⟩, by omega, by kernel_rfl, ?_⟩
          exact fin
      · by_cases v2 : v = 2
        · have c5 := l01Pick_c c τ1 [4, -1, 1099511627776] hc s4 (by simp) (by simp)
          have s5 := nx2_ok hc s4 3
          have e4 : (([4, -1, 1099511627776] : List Int).length : Int) = 3 := rfl
          rw [e4] at c5
          simp only [srcA_eq] at c5
          generalize pk c τ1 [4, -1, 1099511627776] = x at *
          generalize nx2 c τ1 3 = τ2 at *
          simp [go_sem, v0, v1, v2]
          refine ⟨⟨by omega, by omega⟩, ?_⟩
          refine ⟨_, _, c5, ?_⟩
          simp [go_sem]
          refine ⟨by omega, τ2.1, τ2.2, s5, ⟨rfl, rfl⟩, n, .inr ⟨[(1, (List.replicate n 0).set 0 x)] :: f, ⟨by omega, by omega, hfs.2.2.1, fun p hp => ?_⟩, rfl, h4.symm, ?_⟩⟩
          · rcases List.mem_cons.1 hp with rfl | hp
            · exact ⟨by simp, by simp; omega⟩
            · exact hfs.2.2.2 p (by simp [hp])
          · have e1 : avs ((List.replicate n 0).set 0 x) = (List.replicate n (AV.val (.int .i64 0))).set 0 (.val (.int .i64 x)) := by rw [← avs_set, avs_repl]
            have e2 := avs_frz ((List.replicate n 0).set 0 x)
            rw [e1] at e2
            rw [e2, ← e1]
            simp [spr, oprt, mons_cons]
        · by_cases v3 : v = 3
          · simp [go_sem, v0, v1, v2, v3]
            refine ⟨⟨by simpa using h4, by omega, by omega⟩, τ1.1, τ1.2, s4, ⟨rfl, rfl⟩, n, .inl ⟨q :: f ++ [[]], ⟨by omega, by omega, by simp at h4 ⊢; omega, fun p hp => ?_⟩, rfl, by simp at h4 ⊢; omega, ?_⟩⟩
            · rcases List.mem_append.1 hp with hp | hp
              · exact hfs.2.2.2 p hp
              · simp at hp; subst hp; exact ⟨by simp, by simp⟩
            · rw [spr, oprt_app]; rfl
          · simp [go_sem, v0, v1, v2, v3]
            exact ⟨τ1.1, τ1.2, s4, ⟨rfl, rfl⟩, n, .inl ⟨q :: f, hfs, rfl, h4.symm, rfl⟩⟩
theorem RCon.fz {P : Program} {f : FuncId} {args : List AV} {R : AV → List AV → Prop} (h : RCon P f args R) : RCon P f args (fun r o => ∃ r0, R r0 o ∧ r = frz r0) := by
  refine ⟨h.1, fun w vs os F0 hl hn ho hF hr => (h.2 w vs os F0 hl hn ho hF hr).mono ?_⟩
  rintro e w' ⟨r, o, hR, v, orr, oo, F', k1, k2, k3, k4, k5, k6, k7, k8, k9⟩
  refine ⟨frz r, o, ⟨r, hR, rfl⟩, v, [], oo, fun b => F' b ∨ b ∈ orr, k1, k2, fun b hb => .inl (k3 b hb), fun b hb => hb.elim (k4 b) (fun hb => .inr ⟨(k9 b (.inl hb)).1, (k9 b (.inl hb)).2.1⟩), fun tm oss => (k5 tm oss).frz (fun b h => .inl h) (fun b h => .inr h), fun tm oss => ?_, k7, ?_, fun b hb => ?_⟩
  · have := RepTL.kl (w' := w') (F' := fun b => F' b ∨ b ∈ orr) (tm' := tm) (oss' := oss) [] (fun b hb => .inl hb) (fun _ _ _ _ h => h) (k6 tm oss) (fun _ _ => rfl)
    rwa [klL_nil] at this
  · simpa using (List.nodup_append.1 k8).2.1
  · rcases hb with hb | hb
    · simp at hb
    · obtain ⟨j1, j2, j3⟩ := k9 b (.inr hb)
      exact ⟨j1, j2, fun hf => hf.elim j3 (fun hf => (List.nodup_append.1 k8).2.2 b hf b hb rfl)⟩
end Go.Proofs.YtpkgedaejcigeaaGreat


namespace Go.Proofs.YtpkgedaejcigeaaGreat
open Go.Abs
set_option linter.unusedSectionVars false
set_option linter.unusedVariables false
set_option linter.unusedSimpArgs false
set_option maxHeartbeats 4000000
theorem str_all (cs : List ByteArray) (h : cs.length = 12) : ∀ k, k < 12 → ∃ b, (cs.map fun b => AV.val (.string b))[k]? = some (.val (.string b)) := fun k hk => ⟨cs[k]?.getD default, by simp [h, hk]⟩
set_option maxRecDepth 100000 in
theorem TableauNames_r : RCon Tryz.prog 148 [] (fun r o => o = [] ∧ ∃ L : List AV, (∀ k, k < 12 → ∃ b, L[k]? = some (.val (.string b))) ∧ r = .own 9 12 L) := by
  refine RCon.mono (R := fun r o => o = [] ∧ ∃ cs : List ByteArray, cs.length = 12 ∧ r = .own 9 12 (cs.map fun b => .val (.string b))) ?_ (fun r o h => ?_)
  · refine rcon_of_vcH Tryz.mixed ⟨1, [], [], []⟩ [] Tryz.func148 (by decide) rfl (by simp) (by simp) (by decide) ?_
    rw [Tryz.ntmps148]
    simp [go_sem]
    exact ⟨[_, _, _, _, _, _, _, _, _, _, _, _], rfl, rfl⟩
  · obtain ⟨h1, cs, h2, h3⟩ := h
    exact ⟨h1, _, str_all cs h2, h3⟩
def ptM : List (List Int) → AV
  | [] => .val (.slice none 0 0)
  | r :: A => .own 25 (A.length + 1) (omat (r :: A))
theorem ptM_nil : ptM [] = .val (.slice none 0 0) := rfl
theorem ptM_cons (r : List Int) (A : List (List Int)) : ptM (r :: A) = .own 25 (A.length + 1) (omat (r :: A)) := rfl
theorem ptM_pos {A : List (List Int)} (h : 1 ≤ A.length) : ptM A = .own 25 A.length (omat A) := by
  cases A with
  | nil => simp at h
  | cons r A => rfl
theorem Ns.set {l : List Int} (h : Ns l) (k : Nat) {x : Int} (hx : isN x) : Ns (l.set k x) := fun y hy => by
  rcases List.mem_or_eq_of_mem_set hy with hy | rfl
  · exact h y hy
  · exact hx
set_option maxRecDepth 100000 in
theorem l09Draw_r (c : List Int) (σ : Src) (m : Int) (hc : Byt c) (hs : SOk σ) (hm : 1 ≤ m) (hm8 : m ≤ 8) :
    RCon Tryz.prog 113 [srcA c σ, .int m] (fun r o => ∃ (τ : Src) (A : List (List Int)) (B : List Int), SOk τ ∧ o = [srcA c τ, .any] ∧ Tb8 A B ∧ r = .agg [.own 25 A.length (omat A), .own 2 B.length (avs B)]) := by
  have c1 := l01Next_c c σ 2 hc hs
  have s1 := nx2_ok hc hs 2
  simp only [srcA_eq] at *
  by_cases h4 : 4 ≤ m
  · refine rcon_of_vcH Tryz.mixed ⟨14, [], [1000000 + 96, 1000000 + 95, 2000000 + 148, 2000000 + 149], []⟩ [0] Tryz.func113 (by decide) rfl (by simp) (by simp) (by decide) ?_
    rw [Tryz.ntmps113]
    simp [go_sem]
    simp [go_sem, h4]
    refine ⟨_, _, c1, ?_⟩
    simp [go_sem]
    generalize nx1 c σ 2 = v at *
    generalize nx2 c σ 2 = τ0 at *
    by_cases v0 : v = 0
    · simp [go_sem, v0]
      refine ⟨_, TableauNames_r, ?_⟩
      rintro _ _ ⟨rfl, L, hL, rfl⟩
      have c9 := l01Next_c c τ0 12 hc s1
      have s9 := nx2_ok hc s1 12
      have b9 := nx1_b hc τ0 (n := 12) (by omega)
      obtain ⟨k, hk⟩ : ∃ k : Nat, nx1 c τ0 12 = k := ⟨(nx1 c τ0 12).toNat, by omega⟩
      rw [hk] at c9 b9
      generalize nx2 c τ0 12 = κ at *
      simp only [srcA_eq] at c9
      obtain ⟨b, hA⟩ := hL k (by omega)
      simp [go_sem]
      refine ⟨_, _, c9, ?_⟩
      simp [go_sem]
      simp [go_sem, hA]
      refine ⟨by omega, ?_⟩
      refine ⟨_, l09Named_r _, ?_⟩
      rintro _ _ ⟨rfl, A, B, hT, rfl⟩
      simp [go_sem]
      exact ⟨κ.1, κ.2, s9, ⟨rfl, rfl⟩, A, B, hT, ⟨rfl, rfl⟩, rfl, rfl⟩
    · simp [go_sem, v0]
      have h0 := s1
      have c4 := l01Next_c c τ0 m hc h0
      have s4 := nx2_ok hc h0 m
      have b4 := nx1_b hc τ0 (n := m) (by omega)
      obtain ⟨N, hN⟩ : ∃ N : Nat, 1 + nx1 c τ0 m = N := ⟨(1 + nx1 c τ0 m).toNat, by omega⟩
      generalize nx1 c τ0 m = v4 at *
      generalize nx2 c τ0 m = τ1 at *
      have N1 : 1 ≤ N := by omega
      have N8 : N ≤ 8 := by omega
      have c5 := l01Next_c c τ1 3 hc s4
      have s5 := nx2_ok hc s4 3
      generalize nx1 c τ1 3 = u at *
      generalize nx2 c τ1 3 = τ2 at *
      have c6 := l01List_c c τ2 N hc s5 (by omega)
      have L6 := lsV_ok (f := nbV c) (fun σ h => nbV_ok hc h) N τ2 s5
      generalize lsV (nbV c) N τ2 = r6 at *
      obtain ⟨B0, τ3⟩ := r6
      simp only at L6 c6
      obtain ⟨lB, nB, s6⟩ := L6
      simp only [srcA_eq] at c4 c5 c6
      refine ⟨_, _, c4, ?_⟩
      simp [go_sem]
      refine ⟨⟨by omega, by omega⟩, ?_⟩
      rw [hN]
      refine ⟨_, _, c5, ?_⟩
      simp [go_sem]
      refine ⟨_, _, c6, ?_⟩
      simp [go_sem]
      refine loop_inv (0 :: 8 :: List.range' 9 3 ++ List.range' 40 38) (fun x : Src × List (List Int) => [(0, .box 110 [.sl c.length (bys c), .int x.1.1, .val (.int .u64 x.1.2)]), (8, .box 27 [ptM x.2, .own 2 N (avs B0)]), (9, .int x.2.length)]) (fun x => SOk x.1 ∧ x.2.length ≤ N ∧ ∀ r ∈ x.2, r.length = N ∧ Ns r) (fun x => N - x.2.length) (τ3, []) ⟨s6, by simp, by simp⟩ (by simp [go_sem, ptM_nil]) (by simp [go_sem]) ?_
      rintro ⟨ρ, A⟩ ⟨h1, h2, h3⟩
      simp only at h1 h2 h3
      by_cases hA : A.length < N
      · have hAi : (A.length : Int) < N := by omega
        have c7 := l01List_c c ρ N hc h1 (by omega)
        have L7 := lsV_ok (f := nbV c) (fun σ h => nbV_ok hc h) N ρ h1
        generalize lsV (nbV c) N ρ = r7 at *
        obtain ⟨row0, κ⟩ := r7
        simp only at L7 c7
        obtain ⟨l7, n7, s7⟩ := L7
        simp only [srcA_eq] at c7
        simp [go_sem, hAi]
        refine ⟨_, _, c7, ?_⟩
        simp [go_sem]
        refine loop_inv (10 :: 11 :: List.range' 48 24) (fun x : List Int × Nat => [(10, .own 2 N (avs x.1)), (11, .int x.2)]) (fun x => x.1.length = N ∧ Ns x.1 ∧ x.2 ≤ N) (fun x => N - x.2) (row0, 0) ⟨l7, n7, by omega⟩ (by simp [go_sem]) (by simp [go_sem]) ?_
        rintro ⟨row, k⟩ ⟨g1, g2, g3⟩
        simp only at g1 g2 g3
        by_cases hk : k < N
        · have hki : (k : Int) < N := by omega
          have hkr : k < row.length := by omega
          have hS := avs_set row k 0
          by_cases u0 : u = 0
          · by_cases u1 : (A.length : Int) ≤ k
            · simp -implicitDefEqProofs [go_sem, hki, u0, u1, hS]
              refine ⟨hkr, ⟨by omega, by omega⟩, row.set k 0, k + 1, ⟨by simpa using g1, Ns.set g2 k ⟨by omega, by omega⟩, by omega⟩, by omega, Off_reset _ _ _ (by simp), rfl, by omega⟩
            · simp -implicitDefEqProofs [go_sem, hki, u0, u1]
              refine ⟨⟨by omega, by omega⟩, row, k + 1, ⟨g1, g2, by omega⟩, by omega, Off_reset _ _ _ (by simp), rfl, by omega⟩
          · by_cases u1 : u = 1
            · by_cases u2 : (A.length : Int) < k
              · simp -implicitDefEqProofs [go_sem, hki, u0, u1, u2, hS]
                refine ⟨hkr, ⟨by omega, by omega⟩, row.set k 0, k + 1, ⟨by simpa using g1, Ns.set g2 k ⟨by omega, by omega⟩, by omega⟩, by omega, Off_reset _ _ _ (by simp), rfl, by omega⟩
              · simp -implicitDefEqProofs [go_sem, hki, u0, u1, u2]
                refine ⟨⟨by omega, by omega⟩, row, k + 1, ⟨g1, g2, by omega⟩, by omega, Off_reset _ _ _ (by simp), rfl, by omega⟩
            · simp -implicitDefEqProofs [go_sem, hki, u0, u1]
              refine ⟨⟨by omega, by omega⟩, row, k + 1, ⟨g1, g2, by omega⟩, by omega, Off_reset _ _ _ (by simp), rfl, by omega⟩
        · have e : k = N := by omega
          subst e
          simp [go_sem]
          have h3' : ∀ r ∈ A ++ [row], r.length = k ∧ Ns r := fun r hr => by
            rcases List.mem_append.1 hr with hr | hr
            · exact h3 r hr
            · simp at hr; subst hr; exact ⟨g1, g2⟩
          have os : omat (A ++ [row]) = omat A ++ [.own 2 k (avs row)] := by rw [omat_app, omat_one, g1]
          rcases A with _ | ⟨r0, A⟩
          · simp [go_sem, ptM_nil]
            refine ⟨κ.1, κ.2, [row], ⟨s7, by simp; omega, by simpa using h3'⟩, by simp; omega, (by repeat (first | exact Off_reset _ _ _ (by simp) | (refine Off.reset (by intro x hx; simp at hx ⊢; omega) (by simp) ?_; simp -failIfUnchanged [go_sem, Off_reset]))), ⟨⟨rfl, rfl⟩, by simp [ptM_cons, omat_one, g1], by simp⟩⟩
          · simp only [List.length_cons] at hA h2 hAi
            have e5 : ptM (r0 :: A ++ [row]) = .own 25 (A.length + 1 + 1) (omat (r0 :: A) ++ [.own 2 k (avs row)]) := by
              show AV.own _ ((A ++ [row]).length + 1) (omat (r0 :: A ++ [row])) = _
              rw [os, List.length_append]; rfl
            simp [go_sem, ptM_cons]
            refine ⟨⟨by omega, by omega⟩, ⟨by omega, by omega⟩, κ.1, κ.2, r0 :: A ++ [row], ⟨s7, by simp; omega, h3'⟩, by simp; omega, (by repeat (first | exact Off_reset _ _ _ (by simp) | (refine Off.reset (by intro x hx; simp at hx ⊢; omega) (by simp) ?_; simp -failIfUnchanged [go_sem, Off_reset]))), ⟨⟨rfl, rfl⟩, e5.symm, by simp⟩⟩
      · have e : A.length = N := by omega
        have hpt := ptM_pos (A := A) (by omega)
        rw [hpt, e]
        have c8 := l01Next_c c ρ 2 hc h1
        have s8 := nx2_ok hc h1 2
        generalize nx1 c ρ 2 = v8 at *
        generalize nx2 c ρ 2 = κ at *
        simp only [srcA_eq] at c8
        have fin : ∀ B : List Int, B.length = N → Ns B → ∃ a b, SOk (a, b) ∧ ((κ.1 : Int) = a ∧ κ.2 = b) ∧ ∃ A' B', Tb8 A' B' ∧ (N = A'.length ∧ omat A = omat A') ∧ N = B'.length ∧ B = B' := fun B hB nB => by
          refine ⟨κ.1, κ.2, s8, ⟨rfl, rfl⟩, A, B, ⟨by omega, by omega, by omega, nB, fun r hr => ?_⟩, ⟨e.symm, rfl⟩, hB.symm, rfl⟩
          rw [hB]; exact h3 r hr
        simp [go_sem, e]
        refine ⟨_, _, c8, ?_⟩
        simp [go_sem]
        by_cases v80 : v8 = 0
        · simp [go_sem, v80]
          refine loop_inv (12 :: 13 :: List.range' 81 12) (fun x : Int × Nat => [(12, .int x.1), (13, .int x.2)]) (fun x => isN x.1 ∧ 1 ≤ x.2 ∧ x.2 ≤ N) (fun x => N - x.2) (0, 1) ⟨⟨by simp, by simp⟩, by simp, by simp; omega⟩ (by simp [go_sem]) (by simp [go_sem]) ?_
          rintro ⟨q, i⟩ ⟨g1, g2, g3⟩
          simp only at g1 g2 g3
          by_cases hi : i < N
          · have hii : (i : Int) < N := by omega
            have hib : i < B0.length := by omega
            have hb := nB.get i
            have fa := add_fits g1 hb
            have cA := l01Add_c q (B0[i]?.getD 0) fa
            have hat := avs_at hib
            generalize B0[i]?.getD 0 = b at *
            simp [go_sem, hii, hat]
            refine CallVC.of (cA) (by decide) ?_
            simp [go_sem]
            exact ⟨⟨by omega, by omega⟩, (q + b) % 10007, i + 1, ⟨isN_mod _, by omega, by omega⟩, by omega, Off_reset _ _ _ (by simp), rfl, by omega⟩
          · have hii : ¬ (i : Int) < N := by omega
            have cS := l01Sub_c 1 q (sub_fits ⟨by omega, by omega⟩ g1)
            have nS : isN ((1 - q) % 10007) := isN_mod _
            generalize (1 - q) % 10007 = x at *
            have hset := avs_set B0 0 x
            simp [go_sem, hii]
            refine ⟨by kernel_rfl, ?_⟩
            refine CallD.of (cS) (by simp [roots, rootsL]) (by decide) ?_
            simp [go_sem]
            refine ⟨by omega, by omega, ?_⟩
            refine ⟨by kernel_rfl, ?_⟩
            simp [go_sem]
            simp only [hset]
            obtain ⟨a, b, k1, k2, A', B', k3, k4, k5, k6⟩ := fin (B0.set 0 x) (by simpa using lB) (Ns.set nB 0 nS)
            exact ⟨a, b, k1, k2, A', B', k3, k4, k5, by rw [k6]⟩
        · simp [go_sem, v80]
          exact fin B0 lB nB
  · refine rcon_of_vcH Tryz.mixed ⟨14, [], [1000000 + 96, 1000000 + 95, 2000000 + 148, 2000000 + 149], []⟩ [0] Tryz.func113 (by decide) rfl (by simp) (by simp) (by decide) ?_
    rw [Tryz.ntmps113]
    simp [go_sem]
    simp [go_sem, h4]
    have τ0h : ∃ τ0 : Src, τ0 = σ := ⟨σ, rfl⟩
    obtain ⟨τ0, rfl⟩ := τ0h
    have h0 := hs
    clear c1 s1 hs
    have c4 := l01Next_c c τ0 m hc h0
    have s4 := nx2_ok hc h0 m
    have b4 := nx1_b hc τ0 (n := m) (by omega)
    obtain ⟨N, hN⟩ : ∃ N : Nat, 1 + nx1 c τ0 m = N := ⟨(1 + nx1 c τ0 m).toNat, by omega⟩
    generalize nx1 c τ0 m = v4 at *
    generalize nx2 c τ0 m = τ1 at *
    have N1 : 1 ≤ N := by omega
    have N8 : N ≤ 8 := by omega
    have c5 := l01Next_c c τ1 3 hc s4
    have s5 := nx2_ok hc s4 3
    generalize nx1 c τ1 3 = u at *
    generalize nx2 c τ1 3 = τ2 at *
    have c6 := l01List_c c τ2 N hc s5 (by omega)
    have L6 := lsV_ok (f := nbV c) (fun σ h => nbV_ok hc h) N τ2 s5
    generalize lsV (nbV c) N τ2 = r6 at *
    obtain ⟨B0, τ3⟩ := r6
    simp only at L6 c6
    obtain ⟨lB, nB, s6⟩ := L6
    simp only [srcA_eq] at c4 c5 c6
    refine ⟨_, _, c4, ?_⟩
    simp [go_sem]
    refine ⟨⟨by omega, by omega⟩, ?_⟩
    rw [hN]
    refine ⟨_, _, c5, ?_⟩
    simp [go_sem]
    refine ⟨_, _, c6, ?_⟩
    simp [go_sem]
    refine loop_inv (0 :: 8 :: List.range' 9 3 ++ List.range' 40 38) (fun x : Src × List (List Int) => [(0, .box 110 [.sl c.length (bys c), .int x.1.1, .val (.int .u64 x.1.2)]), (8, .box 27 [ptM x.2, .own 2 N (avs B0)]), (9, .int x.2.length)]) (fun x => SOk x.1 ∧ x.2.length ≤ N ∧ ∀ r ∈ x.2, r.length = N ∧ Ns r) (fun x => N - x.2.length) (τ3, []) ⟨s6, by simp, by simp⟩ (by simp [go_sem, ptM_nil]) (by simp [go_sem]) ?_
    rintro ⟨ρ, A⟩ ⟨h1, h2, h3⟩
    simp only at h1 h2 h3
    by_cases hA : A.length < N
    · have hAi : (A.length : Int) < N := by omega
      have c7 := l01List_c c ρ N hc h1 (by omega)
      have L7 := lsV_ok (f := nbV c) (fun σ h => nbV_ok hc h) N ρ h1
      generalize lsV (nbV c) N ρ = r7 at *
      obtain ⟨row0, κ⟩ := r7
      simp only at L7 c7
      obtain ⟨l7, n7, s7⟩ := L7
      simp only [srcA_eq] at c7
      simp [go_sem, hAi]
      refine ⟨_, _, c7, ?_⟩
      simp [go_sem]
      refine loop_inv (10 :: 11 :: List.range' 48 24) (fun x : List Int × Nat => [(10, .own 2 N (avs x.1)), (11, .int x.2)]) (fun x => x.1.length = N ∧ Ns x.1 ∧ x.2 ≤ N) (fun x => N - x.2) (row0, 0) ⟨l7, n7, by omega⟩ (by simp [go_sem]) (by simp [go_sem]) ?_
      rintro ⟨row, k⟩ ⟨g1, g2, g3⟩
      simp only at g1 g2 g3
      by_cases hk : k < N
      · have hki : (k : Int) < N := by omega
        have hkr : k < row.length := by omega
        have hS := avs_set row k 0
        by_cases u0 : u = 0
        · by_cases u1 : (A.length : Int) ≤ k
          · simp -implicitDefEqProofs [go_sem, hki, u0, u1, hS]
            refine ⟨hkr, ⟨by omega, by omega⟩, row.set k 0, k + 1, ⟨by simpa using g1, Ns.set g2 k ⟨by omega, by omega⟩, by omega⟩, by omega, Off_reset _ _ _ (by simp), rfl, by omega⟩
          · simp -implicitDefEqProofs [go_sem, hki, u0, u1]
            refine ⟨⟨by omega, by omega⟩, row, k + 1, ⟨g1, g2, by omega⟩, by omega, Off_reset _ _ _ (by simp), rfl, by omega⟩
        · by_cases u1 : u = 1
          · by_cases u2 : (A.length : Int) < k
            · simp -implicitDefEqProofs [go_sem, hki, u0, u1, u2, hS]
              refine ⟨hkr, ⟨by omega, by omega⟩, row.set k 0, k + 1, ⟨by simpa using g1, Ns.set g2 k ⟨by omega, by omega⟩, by omega⟩, by omega, Off_reset _ _ _ (by simp), rfl, by omega⟩
            · simp -implicitDefEqProofs [go_sem, hki, u0, u1, u2]
              refine ⟨⟨by omega, by omega⟩, row, k + 1, ⟨g1, g2, by omega⟩, by omega, Off_reset _ _ _ (by simp), rfl, by omega⟩
          · simp -implicitDefEqProofs [go_sem, hki, u0, u1]
            refine ⟨⟨by omega, by omega⟩, row, k + 1, ⟨g1, g2, by omega⟩, by omega, Off_reset _ _ _ (by simp), rfl, by omega⟩
      · have e : k = N := by omega
        subst e
        simp [go_sem]
        have h3' : ∀ r ∈ A ++ [row], r.length = k ∧ Ns r := fun r hr => by
          rcases List.mem_append.1 hr with hr | hr
          · exact h3 r hr
          · simp at hr; subst hr; exact ⟨g1, g2⟩
        have os : omat (A ++ [row]) = omat A ++ [.own 2 k (avs row)] := by rw [omat_app, omat_one, g1]
        rcases A with _ | ⟨r0, A⟩
        · simp [go_sem, ptM_nil]
          refine ⟨κ.1, κ.2, [row], ⟨s7, by simp; omega, by simpa using h3'⟩, by simp; omega, (by repeat (first | exact Off_reset _ _ _ (by simp) | (refine Off.reset (by intro x hx; simp at hx ⊢; omega) (by simp) ?_; simp -failIfUnchanged [go_sem, Off_reset]))), ⟨⟨rfl, rfl⟩, by simp [ptM_cons, omat_one, g1], by simp⟩⟩
        · simp only [List.length_cons] at hA h2 hAi
          have e5 : ptM (r0 :: A ++ [row]) = .own 25 (A.length + 1 + 1) (omat (r0 :: A) ++ [.own 2 k (avs row)]) := by
            show AV.own _ ((A ++ [row]).length + 1) (omat (r0 :: A ++ [row])) = _
            rw [os, List.length_append]; rfl
          simp [go_sem, ptM_cons]
          refine ⟨⟨by omega, by omega⟩, ⟨by omega, by omega⟩, κ.1, κ.2, r0 :: A ++ [row], ⟨s7, by simp; omega, h3'⟩, by simp; omega, (by repeat (first | exact Off_reset _ _ _ (by simp) | (refine Off.reset (by intro x hx; simp at hx ⊢; omega) (by simp) ?_; simp -failIfUnchanged [go_sem, Off_reset]))), ⟨⟨rfl, rfl⟩, e5.symm, by simp⟩⟩
    · have e : A.length = N := by omega
      have hpt := ptM_pos (A := A) (by omega)
      rw [hpt, e]
      have c8 := l01Next_c c ρ 2 hc h1
      have s8 := nx2_ok hc h1 2
      generalize nx1 c ρ 2 = v8 at *
      generalize nx2 c ρ 2 = κ at *
      simp only [srcA_eq] at c8
      have fin : ∀ B : List Int, B.length = N → Ns B → ∃ a b, SOk (a, b) ∧ ((κ.1 : Int) = a ∧ κ.2 = b) ∧ ∃ A' B', Tb8 A' B' ∧ (N = A'.length ∧ omat A = omat A') ∧ N = B'.length ∧ B = B' := fun B hB nB => by
        refine ⟨κ.1, κ.2, s8, ⟨rfl, rfl⟩, A, B, ⟨by omega, by omega, by omega, nB, fun r hr => ?_⟩, ⟨e.symm, rfl⟩, hB.symm, rfl⟩
        rw [hB]; exact h3 r hr
      simp [go_sem, e]
      refine ⟨_, _, c8, ?_⟩
      simp [go_sem]
      by_cases v80 : v8 = 0
      · simp [go_sem, v80]
        refine loop_inv (12 :: 13 :: List.range' 81 12) (fun x : Int × Nat => [(12, .int x.1), (13, .int x.2)]) (fun x => isN x.1 ∧ 1 ≤ x.2 ∧ x.2 ≤ N) (fun x => N - x.2) (0, 1) ⟨⟨by simp, by simp⟩, by simp, by simp; omega⟩ (by simp [go_sem]) (by simp [go_sem]) ?_
        rintro ⟨q, i⟩ ⟨g1, g2, g3⟩
        simp only at g1 g2 g3
        by_cases hi : i < N
        · have hii : (i : Int) < N := by omega
          have hib : i < B0.length := by omega
          have hb := nB.get i
          have fa := add_fits g1 hb
          have cA := l01Add_c q (B0[i]?.getD 0) fa
          have hat := avs_at hib
          generalize B0[i]?.getD 0 = b at *
          simp [go_sem, hii, hat]
          refine CallVC.of (cA) (by decide) ?_
          simp [go_sem]
          exact ⟨⟨by omega, by omega⟩, (q + b) % 10007, i + 1, ⟨isN_mod _, by omega, by omega⟩, by omega, Off_reset _ _ _ (by simp), rfl, by omega⟩
        · have hii : ¬ (i : Int) < N := by omega
          have cS := l01Sub_c 1 q (sub_fits ⟨by omega, by omega⟩ g1)
          have nS : isN ((1 - q) % 10007) := isN_mod _
          generalize (1 - q) % 10007 = x at *
          have hset := avs_set B0 0 x
          simp [go_sem, hii]
          refine ⟨by kernel_rfl, ?_⟩
          refine CallD.of (cS) (by simp [roots, rootsL]) (by decide) ?_
          simp [go_sem]
          refine ⟨by omega, by omega, ?_⟩
          refine ⟨by kernel_rfl, ?_⟩
          simp [go_sem]
          simp only [hset]
          obtain ⟨a, b, k1, k2, A', B', k3, k4, k5, k6⟩ := fin (B0.set 0 x) (by simpa using lB) (Ns.set nB 0 nS)
          exact ⟨a, b, k1, k2, A', B', k3, k4, k5, by rw [k6]⟩
      · simp [go_sem, v80]
        exact fin B0 lB nB
end Go.Proofs.YtpkgedaejcigeaaGreat


namespace Go.Proofs.YtpkgedaejcigeaaGreat
open Go.Abs
set_option linter.unusedSectionVars false
set_option linter.unusedVariables false
set_option linter.unusedSimpArgs false
set_option maxHeartbeats 4000000
theorem RCon.rep {P : Program} {f : FuncId} {args : List AV} {R R' : AV → List AV → Prop} (h : RCon P f args R)
    (hR : ∀ r o, R r o → ∃ r', R' r' o ∧ ∀ (w : World) (F : Nat → Prop) (tm : Nat → Value) (oss : Nat → List Nat) (v : Value) (os : List Nat), RepT P w F tm oss r v os → RepT P w F tm oss r' v os) : RCon P f args R' := by
  refine ⟨h.1, fun w vs os F0 hl hn ho hF hr => (h.2 w vs os F0 hl hn ho hF hr).mono ?_⟩
  rintro e w' ⟨r, o, hr0, v, orr, oo, F', k1, k2, k3, k4, k5, k6⟩
  obtain ⟨r', h1, h2⟩ := hR r o hr0
  exact ⟨r', o, h1, v, orr, oo, F', k1, k2, k3, k4, fun tm oss => h2 _ _ _ _ _ _ (k5 tm oss), k6⟩
theorem rep_nils {P : Program} {w : World} {F : Nat → Prop} {tm : Nat → Value} {oss : Nat → List Nat} {v : Value} {os : List Nat}
    (h : RepT P w F tm oss (.agg [.val (.slice none 0 0), .val (.slice none 0 0)]) v os) : RepT P w F tm oss (.agg [.sl 0 [], .sl 0 []]) v os := by
  cases h with
  | cell c v os h => cases h
  | agg cs vs os hl h =>
    refine .agg _ vs os (by simpa using hl) ?_
    cases h with
    | cons c v o cs vs os' h t =>
      cases t with
      | cons c2 v2 o2 cs2 vs2 os2 h2 t2 =>
        refine .cons _ _ _ _ _ _ ?_ (.cons _ _ _ _ _ _ ?_ t2)
        · cases h with
          | cell _ _ _ h => cases h with | val _ _ => exact .cell _ _ _ (.sl0 none 0)
        · cases h2 with
          | cell _ _ _ h => cases h with | val _ _ => exact .cell _ _ _ (.sl0 none 0)
def Sz (A : List (List Int)) (B : List Int) : Prop := A.length ≤ 9 ∧ B.length ≤ 9 ∧ ∀ r ∈ A, r.length ≤ 9
theorem Tab.sz {A : List (List Int)} {B : List Int} (h : Tab A B) : Sz A B := by
  have h1 := h.le
  have h2 := h.len
  refine ⟨by omega, by omega, fun r hr => ?_⟩
  have := (h.a r hr).1
  omega
theorem omat_cons (r : List Int) (A : List (List Int)) : omat (r :: A) = .own 2 r.length (avs r) :: omat A := rfl
def FrT (r : AV) (A : List (List Int)) (B : List Int) : Prop := frz r = .agg [.sl A.length (mat A), .sl B.length (avs B)]
set_option maxRecDepth 100000 in
theorem l09Spoil_r (c : List Int) (σ : Src) (m : Int) (hc : Byt c) (hs : SOk σ) (hm : 1 ≤ m) (hm8 : m ≤ 8) :
    RCon Tryz.prog 67 [srcA c σ, .int m] (fun r o => ∃ (τ : Src), SOk τ ∧ o = [srcA c τ, .any] ∧ (r = .agg [.val (.slice none 0 0), .val (.slice none 0 0)] ∨ ∃ (A : List (List Int)) (B : List Int), Sz A B ∧ FrT r A B)) := by
  have cD := l09Draw_r c σ m hc hs hm hm8
  simp only [srcA_eq] at *
  refine rcon_of_vcH Tryz.mixed ⟨6, [46], [1000000 + 96, 1000000 + 97, 2000000 + 113], [2000607000110]⟩ [0] Tryz.func67 (by decide) rfl (by simp) (by simp) (by decide) ?_
  rw [Tryz.ntmps67]
  simp [go_sem]
  refine ⟨_, cD, ?_⟩
  rintro _ _ ⟨τ, A, B, h1, rfl, hT, rfl⟩
  have c4 := l01Next_c c τ 40 hc h1
  have s4 := nx2_ok hc h1 40
  generalize nx1 c τ 40 = v at *
  generalize nx2 c τ 40 = τ1 at *
  have hz := Tab.sz hT
  have hp := Tab.pos hT
  have hl := Tab.len hT
  have hle := Tab.le hT
  simp only [srcA_eq] at c4
  simp [go_sem]
  refine ⟨_, _, c4, ?_⟩
  simp [go_sem]
  by_cases v0 : v = 0
  · have ef := avs_frz (B ++ [1])
    rw [avs_snoc] at ef
    simp [go_sem, v0]
    exact ⟨⟨by omega, by omega⟩, τ1.1, τ1.2, s4, ⟨rfl, rfl⟩, A, B ++ [1], ⟨hz.1, by simp; omega, hz.2.2⟩, by simp [FrT, frz, frzL, avs_snoc, ef]⟩
  · by_cases v1 : v = 1
    · rcases A with _ | ⟨r0, A⟩
      · simp at hl; omega
      · have hr0 := hz.2.2 r0 (by simp)
        have fin : ∃ a b, SOk (a, b) ∧ ((τ1.1 : Int) = a ∧ τ1.2 = b) ∧ ∃ A_1 B_1, Sz A_1 B_1 ∧ FrT (.agg [.own 25 (A.length + 1) (.own 2 (r0.length + 1) (avs r0 ++ [.int 1]) :: omat A), .own 2 B.length (avs B)]) A_1 B_1 := by
          refine ⟨τ1.1, τ1.2, s4, ⟨rfl, rfl⟩, (r0 ++ [1]) :: A, B, ⟨hz.1, hz.2.1, fun r hr => ?_⟩, ?_⟩
          · rcases List.mem_cons.1 hr with rfl | hr
            · have := hT.le; have := (hT.a r0 (by simp)).1; simp; omega
            · exact hz.2.2 r (by simp [hr])
          · have e : omat ((r0 ++ [1]) :: A) = .own 2 (r0.length + 1) (avs r0 ++ [.int 1]) :: omat A := by rw [omat_cons, avs_snoc, List.length_append]; rfl
            unfold FrT
            rw [← e]
            simp [frz, frzL]
        simp [go_sem, v0, v1]
        rw [DrawVC4_app]
        refine ⟨fun i => [], by kernel_rfl, ?_, ?_, ?_⟩
        · simp [go_sem, omat_cons]
          refine ⟨⟨by omega, by omega⟩, by kernel_rfl, ?_⟩
          exact fin
        · simp [go_sem, omat_cons]
          refine ⟨⟨by omega, by omega⟩, by kernel_rfl, ?_⟩
          exact fin
        · simp [go_sem, omat_cons]
          refine ⟨⟨by omega, by omega⟩, by kernel_rfl, ?_⟩
          exact fin
    · by_cases v2 : v = 2
      · have c5 := l01Pick_c c τ1 [-1, 10007] hc s4 (by simp) (by simp)
        have s5 := nx2_ok hc s4 2
        have e4 : (([-1, 10007] : List Int).length : Int) = 2 := rfl
        rw [e4] at c5
        simp only [srcA_eq] at c5
        generalize pk c τ1 [-1, 10007] = x at *
        generalize nx2 c τ1 2 = τ2 at *
        rcases A with _ | ⟨r0, A⟩
        · simp at hl; omega
        · simp [go_sem, v0, v1, v2, omat_cons]
          refine ⟨by kernel_rfl, ?_⟩
          refine ⟨_, _, c5, ?_⟩
          simp [go_sem]
          have hr0 : r0.length = B.length := (hT.a r0 (by simp)).1
          have hset := avs_set r0 0 x
          refine ⟨by omega, ?_⟩
          refine ⟨by kernel_rfl, ?_⟩
          simp [go_sem]
          simp only [hset]
          refine ⟨τ2.1, τ2.2, s5, ⟨rfl, rfl⟩, (r0.set 0 x) :: A, B, ⟨hz.1, hz.2.1, fun r hr => ?_⟩, ?_⟩
          · rcases List.mem_cons.1 hr with rfl | hr
            · simp; omega
            · exact hz.2.2 r (by simp [hr])
          · have e : omat ((r0.set 0 x) :: A) = .own 2 r0.length (avs (r0.set 0 x)) :: omat A := by rw [omat_cons, List.length_set]
            unfold FrT
            rw [← e]
            simp [frz, frzL]
      · by_cases v3 : v = 3
        · simp [go_sem, v0, v1, v2, v3]
          exact ⟨τ1.1, s4, rfl⟩
        · by_cases v4 : v = 4
          · simp [go_sem, v0, v1, v2, v3, v4]
            refine ⟨by omega, τ1.1, τ1.2, s4, ⟨rfl, rfl⟩, A.tail, B, ⟨by simp; omega, hz.2.1, fun r hr => hz.2.2 r (List.mem_of_mem_tail hr)⟩, ?_⟩
            have e : List.take (A.length - 1) (mat A).tail = mat A.tail := by rw [List.take_of_length_le (by simp)]; simp [mat]
            unfold FrT
            rw [e]
            simp [frz, frzL]
          · simp [go_sem, v0, v1, v2, v3, v4]
            exact ⟨τ1.1, τ1.2, s4, ⟨rfl, rfl⟩, A, B, hz, by simp [FrT, frz, frzL]⟩
theorem l09Spoil_f (c : List Int) (σ : Src) (m : Int) (hc : Byt c) (hs : SOk σ) (hm : 1 ≤ m) (hm8 : m ≤ 8) :
    RCon Tryz.prog 67 [srcA c σ, .int m] (fun r o => ∃ (τ : Src) (A : List (List Int)) (B : List Int), SOk τ ∧ o = [srcA c τ, .any] ∧ Sz A B ∧ r = .agg [.sl A.length (mat A), .sl B.length (avs B)]) := by
  refine RCon.rep (RCon.fz (l09Spoil_r c σ m hc hs hm hm8)) (fun r o h => ?_)
  obtain ⟨r0, ⟨τ, h1, h2, h3⟩, rfl⟩ := h
  rcases h3 with rfl | ⟨A, B, hz, hf⟩
  · exact ⟨_, ⟨τ, [], [], h1, h2, ⟨by simp, by simp, by simp⟩, rfl⟩, fun w F tm oss v os h => rep_nils h⟩
  · unfold FrT at hf
    exact ⟨_, ⟨τ, A, B, h1, h2, hz, hf⟩, fun w F tm oss v os h => h⟩
end Go.Proofs.YtpkgedaejcigeaaGreat


namespace Go.Proofs.YtpkgedaejcigeaaGreat
open Go.Abs
set_option linter.unusedSectionVars false
set_option linter.unusedVariables false
set_option linter.unusedSimpArgs false
set_option maxHeartbeats 1000000
theorem RCon.fzi {P : Program} {f : FuncId} {args : List AV} {R : AV → List AV → Prop} (h : RCon P f args R) (hR : ∀ r o, R r o → ∃ (z : Value) (e n : Nat) (cs : List AV), r = .agg [.val z, .own e n cs]) :
    RCon P f args (fun r o => ∃ (z : Value) (e n : Nat) (cs : List AV), R (.agg [.val z, .own e n cs]) o ∧ r = .agg [.val z, .own e n (frzL cs)]) := by
  refine ⟨h.1, fun w vs os F0 hl hn ho hF hr => (h.2 w vs os F0 hl hn ho hF hr).mono ?_⟩
  rintro e0 w' ⟨r, o, hRr, v, orr, oo, F', k1, k2, k3, k4, k5, k6, k7, k8, k9⟩
  obtain ⟨z, e, n, cs, rfl⟩ := hR r o hRr
  have oouts : ∀ (F2 : Nat → Prop), (∀ b, F' b → F2 b) → ∀ tm oss, RepTL P w' F2 tm oss o vs oo := fun F2 hF2 tm oss => by
    have := RepTL.kl (w' := w') (F' := F2) (tm' := tm) (oss' := oss) [] hF2 (fun _ _ _ _ h => h) (k6 tm oss) (fun _ _ => rfl)
    rwa [klL_nil] at this
  have h1 := k5 (fun _ => undef) (fun _ => [])
  generalize hcc : AV.agg [.val z, .own e n cs] = cc at h1
  generalize hoo : orr = oq at h1
  cases h1 with
  | agg cs' vs' os' hl' hL =>
    simp only [AV.agg.injEq] at hcc
    subst hcc
    cases hL with
    | cons c1 v0 os0 cs1 vs1 os1 hA hB =>
    cases hA with
    | cell c1 v0 os0 hA =>
    cases hA with
    | val z hw =>
    cases hB with
    | cons c2 v1 osc cs2 vs2 os2 hC hD =>
    cases hD with
    | nil =>
    cases hC with
    | cell c2 v1 osc hC =>
    cases hC with
    | own0 e =>
      refine ⟨_, o, ⟨z, e, 0, [], hRr, rfl⟩, _, [], oo, F', k1, k2, k3, k4, fun tm oss => .agg _ _ [] (by simpa using hl') (.cons _ _ [] _ _ [] (.cell _ _ _ (.val _ hw)) (.cons _ _ [] _ _ [] (.cell _ _ _ (.own0 e)) (.nil _))), k6, k7, ?_, fun b hb => k9 b (.inr (by simpa using hb))⟩
      simpa using (List.nodup_append.1 k8).2.1
    | own b e n cap c cs ok hb1 hn1 hc1 hl1 =>
      have hoo' : orr = b :: ok := by simpa using hoo
      subst hoo'
      have hnd := (List.nodup_append.1 k8)
      have hnd2 := List.nodup_cons.1 hnd.1
      refine ⟨_, o, ⟨z, e, n, cs, hRr, rfl⟩, _, [b], oo, fun x => F' x ∨ x ∈ ok, k1, k2, fun x hx => .inl (k3 x hx), fun x hx => hx.elim (k4 x) (fun hx => .inr ⟨(k9 x (.inl (by simp [hx]))).1, (k9 x (.inl (by simp [hx]))).2.1⟩),
        fun tm oss => .agg _ _ [b] (by simpa using hl') (.cons _ _ [] _ _ [b] (.cell _ _ _ (.val _ hw)) (.cons _ _ [b] _ _ [] (.cell _ _ _ (.own b e n cap c _ [] hb1 hn1 hc1 ?_)) (.nil _))), fun tm oss => oouts _ (fun x hx => .inl hx) tm oss, k7, ?_, fun x hx => ?_⟩
      · exact RepL.frz (fun x hx => .inl hx) hl1 (fun x hx => .inr hx)
      · refine List.nodup_append.2 ⟨by simp, hnd.2.1, fun x hx y hy e => ?_⟩
        simp at hx
        exact hnd.2.2 b (by simp) y hy (hx ▸ e)
      · rcases hx with hx | hx
        · simp at hx
          subst hx
          obtain ⟨j1, j2, j3⟩ := k9 x (.inl (by simp))
          exact ⟨j1, j2, fun hf => hf.elim j3 hnd2.1⟩
        · obtain ⟨j1, j2, j3⟩ := k9 x (.inr hx)
          exact ⟨j1, j2, fun hf => hf.elim j3 (fun hf => hnd.2.2 x (by simp [hf]) x hx rfl)⟩
  | cell c v os h => subst hcc; cases h
  | any v => simp at hcc
  | tup cs' vs' os' hl' hL => simp at hcc
  | fn f cs' vs' os' hl' hL => simp at hcc
  | bor s p v h => simp at hcc
  | ptr s p off u b h hb => simp at hcc
  | slp s p off n cap u b h hb hn => simp at hcc
theorem l13Spoil_i (c : List Int) (σ : Src) (hc : Byt c) (hs : SOk σ) :
    RCon Tryz.prog 93 [srcA c σ] (fun r o => ∃ (τ : Src) (z : Int) (f : List (List Mon)), SOk τ ∧ o = [srcA c τ] ∧ DrS z f ∧ r = .agg [.int z, .own 91 f.length (prt f)]) := by
  refine (RCon.fzi (l13Spoil_r c σ hc hs) ?_).mono ?_
  · rintro r o ⟨τ, z, b, f, h1, h2, h3, rfl⟩
    exact ⟨_, _, _, _, rfl⟩
  · rintro r o ⟨z, e, n, cs, ⟨τ, z', b, f, h1, h2, h3, h4⟩, rfl⟩
    simp only [AV.agg.injEq, List.cons.injEq, AV.val.injEq, AV.own.injEq, and_true] at h4
    obtain ⟨rfl, rfl, rfl, rfl⟩ := h4
    exact ⟨τ, z', f, h1, h2, h3, by rw [spr_frz]⟩
end Go.Proofs.YtpkgedaejcigeaaGreat


namespace Go.Proofs.YtpkgedaejcigeaaGreat
open Go.Abs
set_option linter.unusedSectionVars false
set_option linter.unusedVariables false
set_option linter.unusedSimpArgs false
set_option maxHeartbeats 1000000
theorem prt_at {f : List (List Mon)} {k : Nat} (h : k < f.length) : (prt f)[k]? = some (.sl (f[k]?.getD []).length (mons (f[k]?.getD []))) := by simp [prt, h]
theorem mons_take2 : ∀ p : List Mon, mons (p.take 2) = (mons p).take 4
  | [] => rfl
  | [a] => by rw [mons_cons]; rfl
  | a :: b :: p => by simp [mons_cons]
@[simp] theorem prt_frz (f : List (List Mon)) : frzL (prt f) = prt f := by
  induction f with
  | nil => rfl
  | cons p f ih => simp only [prt, List.map_cons] at ih ⊢; simp [frzL, frz, ih]
theorem prt_set (f : List (List Mon)) (k : Nat) (p : List Mon) : (prt f).set k (.sl p.length (mons p)) = prt (f.set k p) := by simp [prt, List.map_set]
set_option maxRecDepth 100000 in
theorem l14Small_r (c : List Int) (σ : Src) (hc : Byt c) (hs : SOk σ) :
    RCon Tryz.prog 54 [srcA c σ] (fun r o => ∃ (τ : Src) (z : Int) (f : List (List Mon)), SOk τ ∧ o = [srcA c τ] ∧ DrS z f ∧ r = .agg [.int z, .own 91 f.length (prt f)]) := by
  have c1 := l13Spoil_i c σ hc hs
  simp only [srcA_eq] at *
  refine rcon_of_vcH Tryz.mixed ⟨6, [], [2000000 + 93], []⟩ [0] Tryz.func54 (by decide) rfl (by simp) (by simp) (by decide) ?_
  rw [Tryz.ntmps54]
  simp [go_sem]
  refine ⟨_, c1, ?_⟩
  rintro _ _ ⟨τ, z, f, h1, rfl, hD, rfl⟩
  simp [go_sem]
  refine loop_inv (0 :: 3 :: 4 :: List.range' 8 17) (fun x : Src × (Int × List (List Mon)) × Nat => [(0, .box 110 [.sl c.length (bys c), .int x.1.1, .val (.int .u64 x.1.2)]), (3, .box 30 [.int x.2.1.1, .own 91 x.2.1.2.length (prt x.2.1.2)]), (4, .int x.2.2)]) (fun x => SOk x.1 ∧ DrS x.2.1.1 x.2.1.2 ∧ x.2.2 ≤ 6) (fun x => 6 - x.2.2) (τ, (z, f), 0) ⟨h1, hD, by simp⟩ (by simp [go_sem]) (by simp [go_sem]) ?_
  rintro ⟨ρ, ⟨y, g⟩, n⟩ ⟨q1, q2, q3⟩
  simp only at q1 q2 q3
  have cS := l13Spoil_i c ρ hc q1
  have cI := l13Is_c y g ⟨by have := q2.2.2.1; omega, fun p hp => ⟨by have := (q2.2.2.2 p hp).1; omega, fun q hq => by have := (q2.2.2.2 p hp).2 q hq; omega⟩⟩
  simp only [srcA_eq] at cS
  by_cases hn : (n : Int) < 6
  · by_cases hy : 2 < y
    · simp [go_sem, hn, hy]
      refine ⟨_, cS, ?_⟩
      rintro _ _ ⟨κ, z2, f2, j1, rfl, j2, rfl⟩
      simp [go_sem]
      exact ⟨⟨by omega, by omega⟩, κ.1, κ.2, z2, f2, n + 1, ⟨j1, j2, by omega⟩, by omega, (by repeat (first | exact Off_reset _ _ _ (by simp) | (refine Off.reset (by intro x hx; simp at hx ⊢; omega) (by simp) ?_; simp -failIfUnchanged [go_sem, Off_reset]))), ⟨rfl, rfl⟩, ⟨rfl, rfl, rfl⟩, by omega⟩
    · by_cases hg : 2 < (g.length : Int)
      · simp [go_sem, hn, hy, hg]
        refine ⟨_, cS, ?_⟩
        rintro _ _ ⟨κ, z2, f2, j1, rfl, j2, rfl⟩
        simp [go_sem]
        exact ⟨⟨by omega, by omega⟩, κ.1, κ.2, z2, f2, n + 1, ⟨j1, j2, by omega⟩, by omega, (by repeat (first | exact Off_reset _ _ _ (by simp) | (refine Off.reset (by intro x hx; simp at hx ⊢; omega) (by simp) ?_; simp -failIfUnchanged [go_sem, Off_reset]))), ⟨rfl, rfl⟩, ⟨rfl, rfl, rfl⟩, by omega⟩
      · simp [go_sem, hn, hy, hg]
        refine CallVC.of (cI) (by decide) ?_
        simp [go_sem]
        cases hT : fieldB y g with
        | false =>
          simp [go_sem]
          exact ⟨ρ.1, ρ.2, q1, ⟨rfl, rfl⟩, y, g, q2, rfl, rfl, rfl⟩
        | true =>
          simp [go_sem]
          refine loop_inv (3 :: 5 :: List.range' 27 24) (fun x : List (List Mon) × Nat => [(3, .box 30 [.int y, .own 91 x.1.length (prt x.1)]), (5, .int x.2)]) (fun x => DrS y x.1) (fun x => 4 - x.2) (g, 0) q2 (by simp [go_sem]) (by simp [go_sem]) ?_
          rintro ⟨e, i⟩ r1
          simp only at r1
          have r14 := r1.2.2.1
          simp [go_sem]
          refine ⟨fun h => ?_, fun h => ?_⟩ <;> simp at h
          · have hie : i < e.length := by omega
            have hp := r1.2.2.2 (e[i]?.getD []) (by simp [hie])
            have hA := prt_at hie
            have hS := prt_set e i ((e[i]?.getD []).take 2)
            obtain ⟨p, hpe⟩ : ∃ p, e[i]?.getD [] = p := ⟨_, rfl⟩
            rw [hpe] at hp hA hS
            simp [go_sem, hA]
            refine ⟨hie, ?_⟩
            by_cases hp2 : 2 < (p.length : Int)
            · simp [go_sem, hp2, hA]
              refine ⟨by kernel_rfl, hie, by omega, hie, ?_⟩
              refine ⟨by kernel_rfl, ?_⟩
              simp [go_sem]
              refine ⟨⟨by omega, by omega⟩, e.set i (p.take 2), ?_, i + 1, by omega, (by repeat (first | exact Off_reset _ _ _ (by simp) | (refine Off.reset (by intro x hx; simp at hx ⊢; omega) (by simp) ?_; simp -failIfUnchanged [go_sem, Off_reset]))), ?_⟩
              · refine ⟨r1.1, r1.2.1, by simpa using r14, fun t ht => ?_⟩
                rcases List.mem_or_eq_of_mem_set ht with ht | rfl
                · exact r1.2.2.2 t ht
                · exact ⟨by simp; omega, fun m hm => hp.2 m (List.mem_of_mem_take hm)⟩
              · have e2 : (p.take 2).length = 2 := by simp; omega
                have e4 : mons (p.take 2) = (mons p).take 4 := mons_take2 p
                rw [e2, e4] at hS
                simp [hS]
            · simp [go_sem, hp2]
              exact ⟨⟨by omega, by omega⟩, e, r1, i + 1, by omega, (by repeat (first | exact Off_reset _ _ _ (by simp) | (refine Off.reset (by intro x hx; simp at hx ⊢; omega) (by simp) ?_; simp -failIfUnchanged [go_sem, Off_reset]))), ⟨rfl, rfl⟩, by omega⟩
          · simp [go_sem]
            exact ⟨ρ.1, ρ.2, q1, ⟨rfl, rfl⟩, y, e, r1, rfl, rfl, rfl⟩
  · simp [go_sem, hn]
    refine CallVC.of (cI) (by decide) ?_
    simp [go_sem]
    cases hT : fieldB y g with
    | false =>
      simp [go_sem]
      exact ⟨ρ.1, ρ.2, q1, ⟨rfl, rfl⟩, y, g, q2, rfl, rfl, rfl⟩
    | true =>
      simp [go_sem]
      refine loop_inv (3 :: 5 :: List.range' 27 24) (fun x : List (List Mon) × Nat => [(3, .box 30 [.int y, .own 91 x.1.length (prt x.1)]), (5, .int x.2)]) (fun x => DrS y x.1) (fun x => 4 - x.2) (g, 0) q2 (by simp [go_sem]) (by simp [go_sem]) ?_
      rintro ⟨e, i⟩ r1
      simp only at r1
      have r14 := r1.2.2.1
      simp [go_sem]
      refine ⟨fun h => ?_, fun h => ?_⟩ <;> simp at h
      · have hie : i < e.length := by omega
        have hp := r1.2.2.2 (e[i]?.getD []) (by simp [hie])
        have hA := prt_at hie
        have hS := prt_set e i ((e[i]?.getD []).take 2)
        obtain ⟨p, hpe⟩ : ∃ p, e[i]?.getD [] = p := ⟨_, rfl⟩
        rw [hpe] at hp hA hS
        simp [go_sem, hA]
        refine ⟨hie, ?_⟩
        by_cases hp2 : 2 < (p.length : Int)
        · simp [go_sem, hp2, hA]
          refine ⟨by kernel_rfl, hie, by omega, hie, ?_⟩
          refine ⟨by kernel_rfl, ?_⟩
          simp [go_sem]
          refine ⟨⟨by omega, by omega⟩, e.set i (p.take 2), ?_, i + 1, by omega, (by repeat (first | exact Off_reset _ _ _ (by simp) | (refine Off.reset (by intro x hx; simp at hx ⊢; omega) (by simp) ?_; simp -failIfUnchanged [go_sem, Off_reset]))), ?_⟩
          · refine ⟨r1.1, r1.2.1, by simpa using r14, fun t ht => ?_⟩
            rcases List.mem_or_eq_of_mem_set ht with ht | rfl
            · exact r1.2.2.2 t ht
            · exact ⟨by simp; omega, fun m hm => hp.2 m (List.mem_of_mem_take hm)⟩
          · have e2 : (p.take 2).length = 2 := by simp; omega
            have e4 : mons (p.take 2) = (mons p).take 4 := mons_take2 p
            rw [e2, e4] at hS
            simp [hS]
        · simp [go_sem, hp2]
          exact ⟨⟨by omega, by omega⟩, e, r1, i + 1, by omega, (by repeat (first | exact Off_reset _ _ _ (by simp) | (refine Off.reset (by intro x hx; simp at hx ⊢; omega) (by simp) ?_; simp -failIfUnchanged [go_sem, Off_reset]))), ⟨rfl, rfl⟩, by omega⟩
      · simp [go_sem]
        exact ⟨ρ.1, ρ.2, q1, ⟨rfl, rfl⟩, y, e, r1, rfl, rfl, rfl⟩
end Go.Proofs.YtpkgedaejcigeaaGreat


namespace Go.Proofs.YtpkgedaejcigeaaGreat
open Go.Abs
set_option linter.unusedSectionVars false
set_option linter.unusedVariables false
set_option linter.unusedSimpArgs false
set_option maxHeartbeats 1000000
def ptN (z : Int) : Nat := if 1 ≤ z ∧ z ≤ 3 then z.toNat else 2
theorem ptN_b (z : Int) : 1 ≤ ptN z ∧ ptN z ≤ 3 := by unfold ptN; split <;> omega
def ptV (c : List Int) (σ : Src) (z : Int) : List Int × Src :=
  if nx1 c (lsV (nbV c) (ptN z) σ).2 40 = 0 then ((lsV (nbV c) (ptN z) σ).1 ++ [0], nx2 c (lsV (nbV c) (ptN z) σ).2 40)
  else if nx1 c (lsV (nbV c) (ptN z) σ).2 40 = 1 then ((lsV (nbV c) (ptN z) σ).1.set 0 (pk c (nx2 c (lsV (nbV c) (ptN z) σ).2 40) [-1, 10007]), nx2 c (nx2 c (lsV (nbV c) (ptN z) σ).2 40) 2)
  else ((lsV (nbV c) (ptN z) σ).1, nx2 c (lsV (nbV c) (ptN z) σ).2 40)
set_option maxRecDepth 100000 in
theorem l13DrawPoint_g (c : List Int) (σ : Src) (z : Int) (f : List (List Mon)) (hc : Byt c) (hs : SOk σ) :
    GCon Tryz.prog 55 [srcA c σ, .agg [.int z, .sl f.length (prt f)]] (.own 2 (ptV c σ z).1.length (avs (ptV c σ z).1)) [srcA c (ptV c σ z).2, .agg [.int z, .sl f.length (prt f)]] := by
  have hb := ptN_b z
  have hnz : (if 1 ≤ z ∧ z ≤ 3 then z else 2) = (ptN z : Int) := by unfold ptN; split <;> omega
  unfold ptV
  generalize ptN z = n at *
  have cL := l01List_c c σ n hc hs (by omega)
  have hL := lsV_ok (f := nbV c) (fun σ h => nbV_ok hc h) n σ hs
  generalize lsV (nbV c) n σ = r at *
  obtain ⟨y, σ1⟩ := r
  obtain ⟨hy, hN, s1⟩ := hL
  simp only at hy hN s1 cL ⊢
  subst hy
  have c4 := l01Next_c c σ1 40 hc s1
  have s4 := nx2_ok hc s1 40
  generalize nx1 c σ1 40 = v at *
  generalize nx2 c σ1 40 = τ1 at *
  have cP := l01Pick_c c τ1 [-1, 10007] hc s4 (by simp) (by simp)
  have e2 : (([-1, 10007] : List Int).length : Int) = 2 := rfl
  rw [e2] at cP
  generalize pk c τ1 [-1, 10007] = x at *
  generalize nx2 c τ1 2 = τ2 at *
  simp only [srcA_eq] at *
  have a0 := avs_set y 0 x
  by_cases v0 : v = 0
  · simp only [v0, if_true]
    by_cases hz : 1 ≤ z ∧ z ≤ 3
    · rw [if_pos hz] at hnz
      subst hnz
      refine gcon_of_vc Tryz.mixed ⟨7, [], [1000000 + 95, 1000000 + 96, 1000000 + 97], []⟩ [4] [0, 1] Tryz.func55 (by decide) rfl rfl (by simp) (by simp) (by decide) ?_
      rw [Tryz.ntmps55]
      simp [go_sem]
      refine CallVC.of (l01In_c _ 1 3) (by decide) ?_
      simp [go_sem]
      simp [go_sem, hz.1, hz.2]
      refine ⟨_, _, cL, ?_⟩
      simp [go_sem]
      refine ⟨_, _, c4, ?_⟩
      simp [go_sem]
      simp [go_sem, v0]
      exact ⟨⟨by omega, by omega⟩, by simp [avs], rfl, rfl⟩
    · rw [if_neg hz] at hnz
      have hz' : (decide (1 ≤ z) && decide (z ≤ 3)) = false := by simp; omega
      refine gcon_of_vc Tryz.mixed ⟨7, [], [1000000 + 95, 1000000 + 96, 1000000 + 97], []⟩ [4] [0, 1] Tryz.func55 (by decide) rfl rfl (by simp) (by simp) (by decide) ?_
      rw [Tryz.ntmps55]
      simp [go_sem]
      refine CallVC.of (l01In_c z 1 3) (by decide) ?_
      rw [hz']
      simp [go_sem]
      rw [hnz]
      refine ⟨_, _, cL, ?_⟩
      simp [go_sem]
      refine ⟨_, _, c4, ?_⟩
      simp [go_sem]
      simp [go_sem, v0]
      exact ⟨⟨by omega, by omega⟩, by simp [avs], rfl, rfl⟩
  · by_cases v1 : v = 1
    · simp only [v0, v1, if_true, if_false]
      have v0' : ¬ v = 0 := v0
      by_cases hz : 1 ≤ z ∧ z ≤ 3
      · rw [if_pos hz] at hnz
        subst hnz
        refine gcon_of_vc Tryz.mixed ⟨7, [], [1000000 + 95, 1000000 + 96, 1000000 + 97], []⟩ [4] [0, 1] Tryz.func55 (by decide) rfl rfl (by simp) (by simp) (by decide) ?_
        rw [Tryz.ntmps55]
        simp [go_sem]
        refine CallVC.of (l01In_c _ 1 3) (by decide) ?_
        simp [go_sem]
        simp [go_sem, hz.1, hz.2]
        refine ⟨_, _, cL, ?_⟩
        simp [go_sem]
        refine ⟨_, _, c4, ?_⟩
        simp [go_sem]
        simp [go_sem, v0, v1]
        refine ⟨_, _, cP, ?_⟩
        simp [go_sem]
        exact ⟨by omega, a0, rfl, rfl⟩
      · rw [if_neg hz] at hnz
        have hz' : (decide (1 ≤ z) && decide (z ≤ 3)) = false := by simp; omega
        refine gcon_of_vc Tryz.mixed ⟨7, [], [1000000 + 95, 1000000 + 96, 1000000 + 97], []⟩ [4] [0, 1] Tryz.func55 (by decide) rfl rfl (by simp) (by simp) (by decide) ?_
        rw [Tryz.ntmps55]
        simp [go_sem]
        refine CallVC.of (l01In_c z 1 3) (by decide) ?_
        rw [hz']
        simp [go_sem]
        rw [hnz]
        refine ⟨_, _, cL, ?_⟩
        simp [go_sem]
        refine ⟨_, _, c4, ?_⟩
        simp [go_sem]
        simp [go_sem, v0, v1]
        refine ⟨_, _, cP, ?_⟩
        simp [go_sem]
        exact ⟨by omega, a0, rfl, rfl⟩
    · simp only [v0, v1, if_false]
      by_cases hz : 1 ≤ z ∧ z ≤ 3
      · rw [if_pos hz] at hnz
        subst hnz
        refine gcon_of_vc Tryz.mixed ⟨7, [], [1000000 + 95, 1000000 + 96, 1000000 + 97], []⟩ [4] [0, 1] Tryz.func55 (by decide) rfl rfl (by simp) (by simp) (by decide) ?_
        rw [Tryz.ntmps55]
        simp [go_sem]
        refine CallVC.of (l01In_c _ 1 3) (by decide) ?_
        simp [go_sem]
        simp [go_sem, hz.1, hz.2]
        refine ⟨_, _, cL, ?_⟩
        simp [go_sem]
        refine ⟨_, _, c4, ?_⟩
        simp [go_sem]
        simp [go_sem, v0, v1]
        exact ⟨rfl, rfl⟩
      · rw [if_neg hz] at hnz
        have hz' : (decide (1 ≤ z) && decide (z ≤ 3)) = false := by simp; omega
        refine gcon_of_vc Tryz.mixed ⟨7, [], [1000000 + 95, 1000000 + 96, 1000000 + 97], []⟩ [4] [0, 1] Tryz.func55 (by decide) rfl rfl (by simp) (by simp) (by decide) ?_
        rw [Tryz.ntmps55]
        simp [go_sem]
        refine CallVC.of (l01In_c z 1 3) (by decide) ?_
        rw [hz']
        simp [go_sem]
        rw [hnz]
        refine ⟨_, _, cL, ?_⟩
        simp [go_sem]
        refine ⟨_, _, c4, ?_⟩
        simp [go_sem]
        simp [go_sem, v0, v1]
        exact ⟨rfl, rfl⟩
end Go.Proofs.YtpkgedaejcigeaaGreat


namespace Go.Proofs.YtpkgedaejcigeaaGreat
open Go.Abs
set_option linter.unusedSectionVars false
set_option linter.unusedVariables false
set_option linter.unusedSimpArgs false
set_option maxHeartbeats 1000000
theorem ptV_len {c : List Int} (hc : Byt c) {σ : Src} (hs : SOk σ) (z : Int) : (ptV c σ z).1.length ≤ 4 := by
  have hL := (lsV_ok (f := nbV c) (fun σ h => nbV_ok hc h) (ptN z) σ hs).1
  have hb := ptN_b z
  unfold ptV
  split
  · simp; omega
  · split
    · simp; omega
    · simp only; omega
theorem l14Small_f (c : List Int) (σ : Src) (hc : Byt c) (hs : SOk σ) :
    RCon Tryz.prog 54 [srcA c σ] (fun r o => ∃ (τ : Src) (z : Int) (f : List (List Mon)), SOk τ ∧ o = [srcA c τ] ∧ DrS z f ∧ r = .agg [.int z, .sl f.length (prt f)]) := by
  refine (RCon.fz (l14Small_r c σ hc hs)).mono ?_
  rintro r o ⟨_, ⟨τ, z, f, h1, h2, h3, rfl⟩, rfl⟩
  refine ⟨τ, z, f, h1, h2, h3, ?_⟩
  simp [frz, frzL]
end Go.Proofs.YtpkgedaejcigeaaGreat


namespace Go.Proofs.YtpkgedaejcigeaaGreat
open Go.Abs
set_option linter.unusedSectionVars false
set_option linter.unusedVariables false
set_option linter.unusedSimpArgs false
set_option maxHeartbeats 4000000
theorem ptV_ok {c : List Int} (hc : Byt c) {σ : Src} (hs : SOk σ) (z : Int) : SOk (ptV c σ z).2 := by
  have hL := (lsV_ok (f := nbV c) (fun σ h => nbV_ok hc h) (ptN z) σ hs).2.2
  have s1 := nx2_ok hc hL 40
  unfold ptV
  split
  · exact s1
  · split
    · exact nx2_ok hc s1 2
    · exact s1
set_option maxRecDepth 100000 in
theorem l15Draw_r (c : List Int) (m : Int) (hc : Byt c) (hm : 1 ≤ m) (hm8 : m ≤ 8) :
    RCon Tryz.prog 27 [.sl c.length (bys c), .int m] (fun r o => o = [.any, .any] ∧ ∃ (τ : Src) (A : List (List Int)) (B : List Int) (z : Int) (f : List (List Mon)) (y : List Int), SOk τ ∧ Sz A B ∧ DrS z f ∧ y.length ≤ 4 ∧
      r = .tup [srcA c τ, .agg [.sl A.length (mat A), .sl B.length (avs B)], .agg [.int z, .sl f.length (prt f)], .own 2 y.length (avs y)]) := by
  have c0 := l01From_r c hc
  refine rcon_of_vcH Tryz.mixed ⟨11, [], [1000000 + 55, 2000000 + 53, 2000000 + 54, 2000000 + 67], [2000400990510]⟩ [] Tryz.func27 (by decide) rfl (by simp) (by simp) (by decide) ?_
  rw [Tryz.ntmps27]
  simp [go_sem]
  refine ⟨_, c0, ?_⟩
  rintro _ _ ⟨rfl, h, rfl⟩
  have c1 := l09Spoil_f c (0, h) m hc (by unfold SOk; simp) hm hm8
  simp only [srcA_eq] at *
  simp [go_sem]
  refine ⟨_, c1, ?_⟩
  rintro _ _ ⟨τ1, A, B, h1, rfl, hz, rfl⟩
  have c2 := l14Small_f c τ1 hc h1
  simp only [srcA_eq] at *
  simp [go_sem]
  refine ⟨_, c2, ?_⟩
  rintro _ _ ⟨τ, z, f, h2, rfl, hD, rfl⟩
  have c3 := l13DrawPoint_g c τ z f hc h2
  have hl := ptV_len hc h2 z
  have ok := ptV_ok hc h2 z
  generalize ptV c τ z = r at *
  simp only [srcA_eq] at *
  simp [go_sem]
  have fin : ∃ a b, SOk (a, b) ∧ ∃ x x_1, Sz x x_1 ∧ ∃ x_2 x_3, DrS x_2 x_3 ∧ ∃ x_4 : List Int, x_4.length ≤ 4 ∧ ((r.2.1 : Int) = a ∧ r.2.2 = b) ∧ ((A.length = x.length ∧ mat A = mat x) ∧ B.length = x_1.length ∧ B = x_1) ∧ (z = x_2 ∧ f.length = x_3.length ∧ prt f = prt x_3) ∧ r.1.length = x_4.length ∧ r.1 = x_4 :=
    ⟨r.2.1, r.2.2, ok, A, B, hz, z, f, hD, r.1, hl, ⟨rfl, rfl⟩, ⟨⟨rfl, rfl⟩, rfl, rfl⟩, ⟨rfl, rfl, rfl⟩, rfl, rfl⟩
  rw [DrawVC5_app]
  refine ⟨fun i => if i = 5 then [.n 8 .any, .n 8 (.box 110 [.sl c.length (bys c), .int r.2.1, .val (.int .u64 r.2.2)]), .w 23 (.own 2 r.1.length (avs r.1))] else [], by kernel_rfl, ?_, ?_⟩
  · simp [go_sem]
    refine ⟨_, _, c3, ?_⟩
    simp [go_sem]
    refine ⟨by kernel_rfl, ?_⟩
    exact fin
  · simp [go_sem]
    refine ⟨_, _, c3, ?_⟩
    simp [go_sem]
    refine ⟨by kernel_rfl, ?_⟩
    exact fin
end Go.Proofs.YtpkgedaejcigeaaGreat


namespace Go.Proofs.YtpkgedaejcigeaaGreat
open Go.Abs
set_option linter.unusedSectionVars false
set_option linter.unusedVariables false
set_option linter.unusedSimpArgs false
set_option maxHeartbeats 4000000
set_option maxRecDepth 100000 in
theorem character_c (A : List (List Int)) (B : List Int) (hT : Tab A B) : Con Tryz.prog 37 [.agg [.sl A.length (mat A), .sl B.length (avs B)]] (.own 2 38 (avs (mapW 1 (chW A B)))) := by
  have cT := treesTo_c 6 (by omega)
  have l6 := trN_len6
  have at6 := fun t h => trN_at (t := t) h
  have e6 : ((6 : Nat) : Int) = 6 := rfl
  rw [e6] at cT
  have hd : mapW 1 (chW A B) = 1 :: (trN 6).map (chW A B) := rfl
  rw [hd]
  generalize trN 6 = L at *
  rw [l6] at cT
  refine con_of_vc Tryz.mixed ⟨6, [], [], []⟩ Tryz.func37 (by decide) rfl (by simp) (by decide) (by simp [freshOK, freshL, go_sem]) ?_
  rw [Tryz.ntmps37]
  simp [go_sem]
  refine CallVC.of (cT) (by decide) ?_
  simp [go_sem]
  refine loop_inv (3 :: 5 :: List.range' 9 11) (fun i : Nat => [(3, .own 2 (i + 1) (avs (1 :: (L.map (chW A B)).take i))), (9, .int i)]) (fun i => i ≤ 37) (fun i => 37 - i) 0 (by simp) (by simp [go_sem, avs]) (by simp [go_sem]) ?_
  intro i hi
  by_cases h : i < 37
  · have hii : (i : Int) < 37 := by omega
    have hL : i < L.length := by omega
    have hm := memD [] hL
    obtain ⟨t1, t2, _⟩ := at6 _ hm
    have cW := weight_c A B hT 6 (L[i]?.getD []) t1 t2 (by omega)
    have og := omat_get hL
    have hM : i < (L.map (chW A B)).length := by rw [List.length_map]; exact hL
    have tk : (L.map (chW A B)).take (i + 1) = (L.map (chW A B)).take i ++ [dotI B (stwF A B.length 6 (L[i]?.getD [])) % 10007] := by
      rw [List.take_succ_eq_append_getElem hM, List.getElem_map, List.getElem?_eq_getElem hL]; rfl
    have ll : ((L.map (chW A B)).take i).length = i := by rw [List.length_take]; omega
    generalize dotI B (stwF A B.length 6 (L[i]?.getD [])) % 10007 = w at *
    generalize L[i]?.getD [] = t at *
    simp [go_sem, hii, og]
    refine CallVC.of (cW) (by decide) ?_
    simp [go_sem]
    refine ⟨⟨by omega, by omega⟩, ⟨by omega, by omega⟩, i + 1, by omega, by omega, Off_reset _ _ _ (by simp), ?_, by omega⟩
    rw [tk]
    refine ⟨by omega, ?_⟩
    rw [← List.cons_append, avs_snoc]
  · have e : i = 37 := by omega
    subst e
    have tk : (L.map (chW A B)).take 37 = L.map (chW A B) := List.take_of_length_le (by rw [List.length_map]; omega)
    rw [tk]
    simp [go_sem]
set_option maxRecDepth 100000 in
theorem CharacterOf_c (A : List (List Int)) (B : List Int) (hT : Tab A B) : Con Tryz.prog 10 [.agg [.sl A.length (mat A), .sl B.length (avs B)]] (.tup [.own 2 38 (avs (mapW 1 (chW A B))), .int 0]) := by
  have hle := hT.le
  have hAB := hT.len
  have cI := IsTableau_c A B (by omega) (by omega) (fun r hr => by have := (hT.a r hr).1; omega)
  rw [tabB_iff.2 hT] at cI
  have cC := character_c A B hT
  refine con_of_vc Tryz.mixed ⟨4, [], [], []⟩ Tryz.func10 (by decide) rfl (by simp) (by decide) (by simp [freshOK, freshL, go_sem]) ?_
  rw [Tryz.ntmps10]
  simp [go_sem]
  refine CallVC.of (cI) (by decide) ?_
  simp [go_sem]
  refine CallVC.of (cC) (by decide) ?_
  simp [go_sem]
set_option maxRecDepth 100000 in
theorem DrawStepSeries_r (c : List Int) (hc : Byt c) :
    RCon Tryz.prog 6 [.sl c.length (bys c)] (fun r o => o = [.any] ∧ ∃ (A : List (List Int)) (B : List Int) (z : Int) (f : List (List Mon)) (y : List Int), Sz A B ∧ DrS z f ∧ y.length ≤ 4 ∧
      r = .tup [.agg [.sl A.length (mat A), .sl B.length (avs B)], .agg [.int z, .sl f.length (prt f)], .own 2 y.length (avs y)]) := by
  have c0 := l15Draw_r c 4 hc (by omega) (by omega)
  simp only [srcA_eq] at *
  refine rcon_of_vcH Tryz.mixed ⟨9, [], [2000000 + 27], []⟩ [] Tryz.func6 (by decide) rfl (by simp) (by simp) (by decide) ?_
  rw [Tryz.ntmps6]
  simp [go_sem]
  refine ⟨_, c0, ?_⟩
  rintro _ _ ⟨rfl, τ, A, B, z, f, y, h1, h2, h3, h4, rfl⟩
  simp [go_sem]
  refine ⟨by kernel_rfl, ?_⟩
  refine ⟨by kernel_rfl, ?_⟩
  simp [go_sem]
  exact ⟨A, B, h2, z, f, h3, y, h4, ⟨⟨rfl, rfl⟩, rfl, rfl⟩, ⟨rfl, rfl, rfl⟩, rfl, rfl⟩
theorem mapW_N {W : List Int → Int} (h : ∀ t, isN (W t)) : Ns (mapW 1 W) := fun x hx => by
  unfold mapW at hx
  rcases List.mem_cons.1 hx with rfl | hx
  · exact ⟨by decide, by decide⟩
  · obtain ⟨t, _, rfl⟩ := List.mem_map.1 hx
    exact h t
theorem mapW_map {W : List Int → Int} (h : ∀ t, isN (W t)) : mapB (mapW 1 W) = true := by
  unfold mapB
  rw [mapW_len, numsB_N.2 (mapW_N h)]
  rfl
end Go.Proofs.YtpkgedaejcigeaaGreat


namespace Go.Proofs.YtpkgedaejcigeaaGreat
open Go.Abs
set_option linter.unusedSectionVars false
set_option linter.unusedVariables false
end Go.Proofs.YtpkgedaejcigeaaGreat


namespace Go.Proofs.YtpkgedaejcigeaaGreat
open Go.Abs
set_option linter.unusedSectionVars false
set_option linter.unusedVariables false
set_option linter.unusedSimpArgs false
set_option maxHeartbeats 4000000
def trE (a : List Int) (z : Int) (f : List (List Mon)) (y : List Int) : Int := if (mapB a && fieldB z f) = false then 1 else if vecB z y = false then 2 else 0
def trX (a : List Int) (z : Int) (f : List (List Mon)) (y : List Int) : List (List Int) := if trE a z f y = 0 then tsX f y a 7 37 else []
def trR (a : List Int) (z : Int) (f : List (List Mon)) (y : List Int) : AV := .tup [.own 25 (trX a z f y).length (omat (trX a z f y)), .int (trE a z f y)]
theorem tsX_set (f : List (List Mon)) (y a : List Int) (k i : Nat) (h : ((trN 6)[i]?.getD []).length < k) :
    (tsX f y a k i).set ((trN 6)[i]?.getD []).length (plusS (rowT f y a ((trN 6)[i]?.getD []).length i) (edF f y 6 ((trN 6)[i]?.getD [])) (facT a i)) = tsX f y a k (i + 1) := by
  refine List.ext_getElem (by simp) fun n h1 h2 => ?_
  have hn : n < k := by simpa using h2
  rw [List.getElem_set]
  have e : (tsX f y a k (i + 1))[n] = rowT f y a n (i + 1) := by simp only [tsX, List.getElem_map, List.getElem_range]
  rw [e]
  by_cases hx : ((trN 6)[i]?.getD []).length = n
  · subst hx
    rw [if_pos rfl, rowT, if_pos rfl]
  · rw [if_neg hx, rowT, if_neg hx]
    simp only [tsX, List.getElem_map, List.getElem_range]
set_option maxRecDepth 100000 in
theorem TreeSeries_c (a : List Int) (z : Int) (f : List (List Mon)) (y : List Int) (ha : a.length ≤ 1048576) (hs : Small f) (hy : y.length ≤ 1048576) :
    Con Tryz.prog 11 [.sl a.length (avs a), .agg [.int z, .sl f.length (prt f)], .sl y.length (avs y)] (trR a z f y) := by
  have cM := IsMap_c a (by omega)
  have cF := IsField_c z f hs
  have cP := isVector_c z f.length (prt f) y (by omega)
  unfold trR trX trE
  cases h2 : fieldB z f with
  | false =>
    rw [h2] at cF
    rw [Bool.and_false]
    refine Con.n1 _ ?_
    refine con_of_vc Tryz.mixed ⟨13, [], [], []⟩ Tryz.func11 (by decide) rfl (by simp) (by decide) (by simp [freshOK, freshL, go_sem]) ?_
    rw [Tryz.ntmps11]
    simp [go_sem]
    refine CallVC.of (cF) (by decide) ?_
    simp [go_sem]
  | true =>
    rw [h2] at cF
    cases h1 : mapB a with
    | false =>
      rw [h1] at cM
      refine Con.n1 _ ?_
      refine con_of_vc Tryz.mixed ⟨13, [], [], []⟩ Tryz.func11 (by decide) rfl (by simp) (by decide) (by simp [freshOK, freshL, go_sem]) ?_
      rw [Tryz.ntmps11]
      simp [go_sem]
      refine CallVC.of (cF) (by decide) ?_
      simp [go_sem]
      refine CallVC.of (cM) (by decide) ?_
      simp [go_sem]
    | true =>
      rw [h1] at cM
      cases h3 : vecB z y with
      | false =>
        rw [h3] at cP
        refine Con.n1 _ ?_
        refine con_of_vc Tryz.mixed ⟨13, [], [], []⟩ Tryz.func11 (by decide) rfl (by simp) (by decide) (by simp [freshOK, freshL, go_sem]) ?_
        rw [Tryz.ntmps11]
        simp [go_sem]
        refine CallVC.of (cF) (by decide) ?_
        simp [go_sem]
        refine CallVC.of (cM) (by decide) ?_
        simp [go_sem]
        refine CallVC.of (cP) (by decide) ?_
        simp [go_sem]
      | true =>
        rw [h3] at cP
        have hF := fieldB_iff.1 h2
        have hm : a.length = 38 ∧ numsB a = true := by unfold mapB at h1; simpa using h1
        have hv : (y.length : Int) = z ∧ numsB y = true := by unfold vecB at h3; simpa using h3
        have aN := numsB_N.1 hm.2
        have yN := numsB_N.1 hv.2
        have z1 := hF.lo
        have z3 := hF.hi
        have fl := hF.len
        have hl := hv.1
        have am := hm.1
        subst hl
        have n0 := aN.get 0
        have cS := scaled_c y (a[0]?.getD 0) yN ⟨by have := n0.1; omega, by have := n0.2; omega⟩ (by omega)
        have cPl := polynomials_c y.length f hF hs
        have cTr := treesTo_c 6 (by omega)
        rw [trN_len6] at cTr
        have a0 := avs_drop (xs := a) (k := 0) (by omega)
        rw [List.drop_zero, List.getD_eq_getElem?_getD, Nat.zero_add, List.drop_one] at a0
        have b0 : AV.val (.int .i64 (a[0]?.getD 0)) :: avs a.tail = avs a := a0.symm
        have ane : ¬ a = [] := by rintro rfl; simp at am
        simp only [Bool.and_self, Bool.true_eq_false, if_false, if_true]
        rw [tsX_len]
        refine con_of_vc Tryz.mixed ⟨13, [44], [], []⟩ Tryz.func11 (by decide) rfl (by simp) (by decide) (by simp [freshOK, freshL, go_sem]) ?_
        rw [Tryz.ntmps11]
        simp [go_sem]
        refine CallVC.of (cF) (by decide) ?_
        simp [go_sem]
        refine CallVC.of (cM) (by decide) ?_
        simp [go_sem]
        refine CallVC.of (cP) (by decide) ?_
        simp [go_sem]
        rw [a0]
        simp [go_sem]
        rw [b0]
        refine ⟨⟨by omega, ane⟩, ?_⟩
        refine CallVC.of (cS) (by decide) ?_
        simp [go_sem]
        refine loop_inv ([8] ++ List.range' 33 9) (fun n : Nat => [(8, .own 25 (n + 1) (omat (tsX f y a (n + 1) 0))), (33, .int n)]) (fun n => n ≤ 6) (fun n => 6 - n) 0 (by simp) (by simp [go_sem, tsX, omat, rowT]) (by simp [go_sem]) ?_
        intro n hn
        by_cases hn6 : n < 6
        · have hni : (n : Int) < 6 := by omega
          have hts := tsX_succ f y a (n + 1) 0
          have hr : rowT f y a (n + 1) 0 = List.replicate y.length 0 := by rw [rowT, if_neg (by omega)]
          simp [go_sem, hni]
          refine ⟨⟨by omega, by omega⟩, ⟨by omega, by omega⟩, ⟨by omega, by omega⟩, n + 1, by omega, by omega, Off_reset _ _ _ (by simp), ⟨rfl, ?_⟩, by omega⟩
          rw [hts, omat_app, omat_one, rowT_len, hr, avs_repl]
        · have e : n = 6 := by omega
          subst e
          simp [go_sem]
          refine CallVC.of (cPl) (by decide) ?_
          simp [go_sem]
          refine CallVC.of (cTr) (by decide) ?_
          simp [go_sem]
          refine loop_inv ([8, 10, 11, 12] ++ List.range' 46 32) (fun i : Nat => [(8, .own 25 7 (omat (tsX f y a 7 i))), (46, .int i)]) (fun i => i ≤ 37) (fun i => 37 - i) 0 (by simp) (by simp [go_sem]) (by simp [go_sem]) ?_
          intro i hi
          by_cases hi37 : i < 37
          · have hii : (i : Int) < 37 := by omega
            have hiT : i < (trN 6).length := by rw [trN_len6]; exact hi37
            have md := mat_drop hiT
            have neT : ¬ trN 6 = [] := by intro e; have := trN_len6; rw [e] at this; simp at this
            have ho := trN_okS hi37
            have hv := (trN_pos hi37).2
            have st := tsX_set f y a 7 i (by omega)
            have fN := facT_N a i
            have fa : facT a i = a[i + 1]?.getD 0 * pw (symF 6 ((trN 6)[i]?.getD []) % 10007) 10005 % 10007 := rfl
            have gt := tsX_get f y a i (show ((trN 6)[i]?.getD []).length < 7 by omega)
            have ad := avs_drop (xs := a) (k := i + 1) (by omega)
            rw [List.getD_eq_getElem?_getD] at ad
            have xN := aN.get (i + 1)
            have oB := okS_sym ho
            have cY := symmetry_c 6 _ (by omega) ho
            have cE := differential_c y.length f y hF hs yN rfl 6 ((trN 6)[i]?.getD []) hv.2 hv.1 (by omega)
            have eL := edF_len (f := f) (y := y) (n := 6) (by omega) ((trN 6)[i]?.getD [])
            have eN := edF_N (f := f) (y := y) (n := 6) ((trN 6)[i]?.getD [])
            have rL := rowT_len f y a ((trN 6)[i]?.getD []).length i
            have rN := rowT_N f y a ((trN 6)[i]?.getD []).length i
            have gm := omat_get2 (A := tsX f y a 7 i) (k := ((trN 6)[i]?.getD []).length) (by simp; omega)
            rw [gt, rL] at gm
            have cPs := plus_c (rowT f y a ((trN 6)[i]?.getD []).length i) (edF f y 6 ((trN 6)[i]?.getD [])) (facT a i) rN eN ⟨by have := fN.1; omega, by have := fN.2; omega⟩ (by omega) (by omega)
            have os := omat_set (tsX f y a 7 i) ((trN 6)[i]?.getD []).length (plusS (rowT f y a ((trN 6)[i]?.getD []).length i) (edF f y 6 ((trN 6)[i]?.getD [])) (facT a i))
            rw [st, plusS_len, rL] at os
            rw [eL] at cPs
            rw [rL] at cPs
            clear st gt ho
            have Yl := tsX_len f y a 7 i
            generalize hX : tsX f y a 7 (i + 1) = X at *
            generalize tsX f y a 7 i = Y at *
            generalize plusS (rowT f y a ((trN 6)[i]?.getD []).length i) (edF f y 6 ((trN 6)[i]?.getD [])) (facT a i) = P at *
            generalize rowT f y a ((trN 6)[i]?.getD []).length i = R at *
            generalize edF f y 6 ((trN 6)[i]?.getD []) = e at *
            generalize symF 6 ((trN 6)[i]?.getD []) = w at *
            generalize (trN 6)[i]?.getD [] = t at *
            generalize hx : a[i + 1]?.getD 0 = x at *
            have pN : isN (pw (w % 10007) 10005) := isN_mod _
            have c1 := num_c w (by omega) (by omega)
            have c2 := inv_c (w % 10007) (isN_mod w)
            have f3 := mul_fits xN pN
            have c3 := num_c (x * pw (w % 10007) 10005) f3.1 f3.2
            rw [← fa] at c3
            generalize facT a i = k at *
            generalize pw (w % 10007) 10005 = pq at *
            simp [go_sem, hii, md]
            refine ⟨neT, by kernel_rfl, ⟨by omega, by omega⟩, ⟨by omega, by omega, ane⟩, ?_⟩
            simp [go_sem, ad, hx]
            refine CallD.of cY (by simp [go_sem, roots, rootsL]) (by decide) ?_
            simp [go_sem]
            refine CallD.of (c1) (by simp [roots, rootsL]) (by decide) ?_
            simp [go_sem]
            refine CallD.of (c2) (by simp [roots, rootsL]) (by decide) ?_
            simp [go_sem]
            refine ⟨f3, ?_⟩
            refine CallD.of (c3) (by simp [roots, rootsL]) (by decide) ?_
            simp [go_sem]
            refine ⟨by kernel_rfl, ?_⟩
            simp [go_sem]
            simp [go_sem, gm]
            refine ⟨by kernel_rfl, by omega, ?_⟩
            refine CallD.of (cE) (by simp [roots, rootsL]) (by decide) ?_
            simp [go_sem]
            simp [go_sem, gm]
            refine CallD.of cPs (by simp [go_sem, roots, rootsL]) (by decide) ?_
            simp [go_sem, os]
            refine ⟨by omega, by omega, ?_⟩
            refine ⟨by kernel_rfl, ?_⟩
            simp [go_sem]
            refine ⟨⟨by omega, by omega⟩, i + 1, by omega, by omega, Off_reset _ _ _ (by simp), ?_⟩
            rw [hX]
            exact ⟨rfl, by omega⟩
          · have e : i = 37 := by omega
            subst e
            simp [go_sem]
end Go.Proofs.YtpkgedaejcigeaaGreat


namespace Go.Proofs.YtpkgedaejcigeaaGreat
open Go.ChangeShapes Go.WideShapes Go.ChangeAt Go.RowKit Go.Abs Go.Deep
set_option linter.unusedSectionVars false
set_option linter.unusedVariables false
section
variable {H : Type} {enc : TypeId × Value → H} {w : World} {sp : Nat → Bool} {held : Bool} {base : Nat}
theorem kids : Kids Tryz.prog (· < Tryz.prog.types.size) := kids_rows (by kernel_rfl) (by kernel_rfl)
theorem full : ∀ t e, t < Tryz.prog.types.size → Tryz.prog.underlying t = some (.slice e) → 0 < Tryz.prog.cellsOf e := slices_full_of Tryz.prog (by kernel_rfl)
theorem flat1 {α β : Type} (g : α → β) : ∀ qs : List α, qs.flatMap (fun a => [g a]) = qs.map g
  | [] => rfl
  | a :: qs => by rw [List.flatMap_cons, flat1 g qs]; rfl
theorem rep_one {F : Nat → Prop} {tm : Nat → Value} {oss : Nat → List Nat} {c : AV} {v : Value} (h : RepL Tryz.prog w F [c] [v] []) : RepT Tryz.prog w F tm oss c v [] := .cell _ _ _ (RepL.one h)
set_option maxRecDepth 100000 in
theorem repV {F : Nat → Prop} {tm : Nat → Value} {oss : Nat → List Nat} {t e : TypeId} {v : Value} {c : AV} {r : Reach} {b0 : Nat} (ht : Tryz.prog.underlying t = some (.slice e)) (hv : Value.okWide Tryz.prog w r b0 t v) (h : RepL Tryz.prog w F [c] v.cells.toList []) :
    RepT Tryz.prog w F tm oss c v [] := by
  have hc : v.cells.toList = [v] := by
    simp only [Value.okWide, ht] at hv
    cases v <;> simp_all [Value.cells, Cell.okWide, Cell.ok]
  rw [hc] at h
  exact rep_one h
end
end Go.Proofs.YtpkgedaejcigeaaGreat


namespace Go.Proofs.YtpkgedaejcigeaaGreat
open Go.Abs
set_option linter.unusedSectionVars false
set_option linter.unusedVariables false
set_option linter.unusedSimpArgs false
set_option maxHeartbeats 1000000
open Go.ChangeShapes Go.WideShapes Go.ChangeAt Go.RowKit Go.Deep
theorem big_c (c : List Int) (hl : c.length ≤ 9223372036854775807) : Con Tryz.prog 5 [.sl c.length (bys c)] (.bool (decide (4096 < c.length))) := by
  refine con_of_vc Tryz.mixed ⟨3, [], [], []⟩ Tryz.func5 (by decide) rfl (by simp) (by decide) (by simp [freshOK, freshL, go_sem]) ?_
  rw [Tryz.ntmps5]
  simp [go_sem]
  omega
section
variable {H : Type} {enc : TypeId × Value → H} {w : World} {sp : Nat → Bool} {held : Bool} {base : Nat}
theorem open_bys {n : Nat} {cs : List Value} {x : DataW H × List MemPlace} (h : DataW.trod enc Tryz.prog w base sp held n 22 cs = some x) :
    ∃ xs : List Int, (∀ z ∈ xs, 0 ≤ z ∧ z ≤ 255) ∧ xs.length ≤ 9223372036854775807 ∧ RepL Tryz.prog w (fun b => b < w.heap.size) [.sl xs.length (bys xs)] cs [] ∧ cs.length = 1 := by
  obtain ⟨qs, h1, h2, h3, h4⟩ := open_sl (f := fun z : Int => [AV.val (.int .u8 z)]) (Good := fun z => (Lit.int .u8 z).wf = true) Tryz.underlying22 (s := 1) (by kernel_rfl) (by decide) (fun _ => rfl)
    (fun n cs y hy => by obtain ⟨z, k1, k2, _⟩ := open_i Tryz.underlying5 hy; exact ⟨z, k1, k2⟩) h
  refine ⟨qs, fun z hz => ?_, h2, by rw [flat1] at h3; exact h3, h4⟩
  have := h1 z hz
  simp [Lit.wf, IntKind.min, IntKind.max, IntKind.signed, IntKind.bits] at this
  omega
end
end Go.Proofs.YtpkgedaejcigeaaGreat


namespace Go.Proofs.YtpkgedaejcigeaaGreat
open Go.Abs
set_option linter.unusedSectionVars false
set_option linter.unusedVariables false
set_option linter.unusedSimpArgs false
set_option maxHeartbeats 1000000
set_option maxRecDepth 100000 in
theorem likeRows5_c (a b : List (List Int)) (ha : a.length ≤ 1048576) (hr : ∀ r ∈ a, r.length ≤ 1048576) : Con Tryz.prog 9 [.sl a.length (mat a), .sl b.length (mat b)] (.bool (decide (a = b))) := by
  by_cases hl : a.length = b.length
  · have hl2 : (a.length : Int) = b.length := by omega
    refine con_of_vc Tryz.mixed ⟨5, [], [], []⟩ Tryz.func9 (by decide) rfl (by simp) (by decide) (by simp [freshOK, freshL, go_sem]) ?_
    rw [Tryz.ntmps9]
    simp [go_sem]
    simp [go_sem, hl]
    refine loop_inv (4 :: 5 :: List.range' 11 16) (fun i : Nat => [(5, .int i)]) (fun i => i ≤ b.length ∧ ∀ j, j < i → a[j]?.getD [] = b[j]?.getD []) (fun i => b.length - i) 0 (by simp) (by simp [go_sem]) (by simp [go_sem]) ?_
    rintro i ⟨hi, hj⟩
    simp [go_sem]
    refine ⟨fun h => ?_, fun h => ?_⟩ <;> simp at h
    · have hib : i < b.length := by omega
      have hia : i < a.length := by omega
      have na : ¬ a = [] := by rintro rfl; simp at hia
      have nb : ¬ b = [] := by rintro rfl; simp at hib
      have hA := mat_drop hia
      have hB := mat_drop hib
      have hra := hr (a[i]?.getD []) (by simp [hia])
      have cL := likeInts_c (a[i]?.getD []) (b[i]?.getD []) (by omega)
      obtain ⟨x, hx⟩ : ∃ x, a[i]?.getD [] = x := ⟨_, rfl⟩
      obtain ⟨y, hy⟩ : ∃ y, b[i]?.getD [] = y := ⟨_, rfl⟩
      rw [hx] at hA cL hra
      rw [hy] at hB cL
      simp [go_sem, hA, hB]
      refine ⟨by kernel_rfl, ⟨hib, na⟩, ⟨hib, nb⟩, ?_⟩
      refine CallD.of (cL) (by simp [roots, rootsL]) (by decide) ?_
      simp [go_sem]
      refine ⟨by kernel_rfl, ?_⟩
      simp [go_sem]
      by_cases hxy : x = y
      · simp [go_sem, hxy]
        refine ⟨⟨by omega, by omega⟩, i + 1, ⟨by omega, fun j hj2 => ?_⟩, by omega, Off_reset _ _ _ (by simp), by omega⟩
        rcases Nat.lt_or_ge j i with h3 | h3
        · exact hj j h3
        · have : j = i := by omega
          subst this
          rw [hx, hy, hxy]
      · have e : ¬ a = b := fun e => hxy (by rw [← hx, ← hy, e])
        simp [go_sem, hxy, e]
    · have e : a = b := by
        refine List.ext_getElem hl fun k h1 h2 => ?_
        have := hj k (by omega)
        simpa [h1, h2] using this
      simp [go_sem, e]
  · have e : ¬ a = b := fun e => hl (by rw [e])
    have hl2 : ¬ (a.length : Int) = b.length := by omega
    refine con_of_vc Tryz.mixed ⟨5, [], [], []⟩ Tryz.func9 (by decide) rfl (by simp) (by decide) (by simp [freshOK, freshL, go_sem]) ?_
    rw [Tryz.ntmps9]
    simp [go_sem]
    simp [go_sem, hl2, e]
end Go.Proofs.YtpkgedaejcigeaaGreat


namespace Go.Proofs.YtpkgedaejcigeaaGreat
open Go.Abs
set_option linter.unusedSectionVars false
set_option linter.unusedVariables false
set_option linter.unusedSimpArgs false
set_option maxHeartbeats 4000000
theorem DrS.small51 {z : Int} {f : List (List Mon)} (h : DrS z f) : Small f := ⟨by have := h.2.2.1; omega, fun p hp => ⟨by have := (h.2.2.2 p hp).1; omega, fun q hq => by have := (h.2.2.2 p hp).2 q hq; omega⟩⟩
set_option maxRecDepth 100000 in
theorem FnStepTrees_c (c : List Int) (hl : c.length ≤ 9223372036854775807) (hb : ∀ x ∈ c, 0 ≤ x ∧ x ≤ 255) : Con Tryz.prog 3 [.sl c.length (bys c)] (.bool true) := by
  have cB := big_c c hl
  by_cases hc4 : 4096 < c.length
  · refine con_of_vc Tryz.mixed ⟨24, [], [2000000 + 6], []⟩ Tryz.func3 (by decide) rfl (by simp) (by decide) (by simp [freshOK, freshL, go_sem]) ?_
    rw [Tryz.ntmps3]
    simp [go_sem]
    refine CallVC.of (cB) (by decide) ?_
    simp [go_sem]
    simp [go_sem, hc4]
  · have hc : Byt c := ⟨by omega, hb⟩
    have cD := DrawStepSeries_r c hc
    refine con_of_vc Tryz.mixed ⟨24, [], [2000000 + 6], []⟩ Tryz.func3 (by decide) rfl (by simp) (by decide) (by simp [freshOK, freshL, go_sem]) ?_
    rw [Tryz.ntmps3]
    simp [go_sem]
    refine CallVC.of (cB) (by decide) ?_
    simp [go_sem]
    simp [go_sem, hc4]
    refine ⟨_, cD, ?_⟩
    rintro _ _ ⟨rfl, A, B, z, f, y, hz, hD, hy4, rfl⟩
    have hS := hD.small51
    have c1 := StepSeries_c A B z f y (by have := hz.1; omega) (by have := hz.2.1; omega) (fun r h => by have := hz.2.2 r h; omega) hS (by omega)
    have c2 := specStepSeries_c A B z f y (by have := hz.1; omega) (by have := hz.2.1; omega) (fun r h => by have := hz.2.2 r h; omega) hS (by omega)
    have cLo := LocalOrder_c A B z f y (by have := hz.1; omega) (by have := hz.2.1; omega) (fun r h => by have := hz.2.2 r h; omega) hS (by omega)
    have cLe := LocalError_c A B z f y (by have := hz.1; omega) (by have := hz.2.1; omega) (fun r h => by have := hz.2.2 r h; omega) hS (by omega)
    have cF := FlowSeries_c z f y hS (by omega)
    unfold ssR at c1 c2
    unfold loR at cLo
    unfold lrR at cLe
    unfold fsR at cF
    have ok := ssX_ok A B z f y
    have c3 := likeRows5_c (ssX A B z f y) (ssX A B z f y) (by omega) (fun r hr => by have := ok.2 r hr; omega)
    simp only [decide_true] at c3
    simp [go_sem]
    refine CallVC.of (c1) (by decide) ?_
    simp [go_sem]
    refine CallVC.of (c2) (by decide) ?_
    simp [go_sem]
    refine CallVC.of (c3) (by decide) ?_
    simp [go_sem]
    by_cases hE : stE A B z f y = 0
    · obtain ⟨hT, hF, yl, yN⟩ := stE_ok hE
      have z1 := hF.lo
      have z3 := hF.hi
      have fl := hF.len
      obtain ⟨n, rfl⟩ : ∃ n : Nat, z = n := ⟨z.toNat, by omega⟩
      have hyn : y.length = n := by omega
      have hfn : f.length = n := by omega
      have n1 : 1 ≤ n := by omega
      have hFb : fieldB n f = true := fieldB_iff.2 hF
      have x1 : ssX A B n f y = turnS (steS A B f (poS y)) := by unfold ssX; rw [if_pos hE]
      have x2 : lrX A B n f y = turnS (leS A B f y) := by unfold lrX; rw [if_pos hE]
      have e4 : fpE n f y = 0 := by unfold fpE; rw [if_pos hFb, if_pos (vecB_iff.2 ⟨by omega, yN⟩)]
      have x3 : fsX n f y = turnS (floS f y 6) := by unfold fsX; rw [if_pos e4]
      have cC := CharacterOf_c A B hT
      have mB : mapB (mapW 1 (chW A B)) = true := mapW_map fun t => isN_mod _
      have cT := TreeSeries_c (mapW 1 (chW A B)) n f y (by rw [mapW_len]; omega) hS (by omega)
      have eT : trE (mapW 1 (chW A B)) n f y = 0 := by
        unfold trE
        rw [mB, hFb, vecB_iff.2 ⟨by omega, yN⟩]; rfl
      have xT : trX (mapW 1 (chW A B)) n f y = turnS (steS A B f (poS y)) := by
        unfold trX
        rw [if_pos eT, series_step hT hF hyn yN hfn]
      unfold trR at cT
      rw [eT, xT, mapW_len] at cT
      have cO := OrderOf_c A B hT
      obtain ⟨p, lp, p6, po, pz, pn⟩ := lo_law (A := A) (B := B) n1 hT hF hyn yN hfn
      have xo : loX A B n f y = p := by unfold loX; rw [if_pos hE, hyn, lp]
      have es := fun j hj => err_sum (A := A) (B := B) (f := f) n1 hyn yN (j := j) hj
      have hs : R7 n (poS y) := by rw [← hyn]; exact po_R7 yN
      have rS := fun j hj => turn_row (j := j) n1 (ste_R7 (A := A) (B := B) (f := f) hs) hj
      have rL := fun j hj => turn_row (j := j) n1 (le_R7 (A := A) (B := B) (f := f) hyn yN) hj
      have rF := fun j hj => turn_row (j := j) n1 (flo_R7 (f := f) hyn yN) hj
      have nS := fun j hj => (rS j hj).1 ▸ (rS j hj).2.1
      have nL := fun j hj => (rL j hj).1 ▸ (rL j hj).2.1
      have nF := fun j hj => (rF j hj).1 ▸ (rF j hj).2.1
      have NL : ∀ j, j < 7 → Ns ((turnS (leS A B f y))[j]?.getD []) := fun j hj => by
        rw [(rL j hj).1]
        exact colS_N (fun r hr => (leS_row yN r hr).2) j
      have NF : ∀ j, j < 7 → Ns ((turnS (floS f y 6))[j]?.getD []) := fun j hj => by
        rw [(rF j hj).1]
        exact colS_N (fun r hr => (floS_row yN 6 r hr).2) j
      have lS : (turnS (steS A B f (poS y))).length = 7 := by rw [turnS_len]; exact ((ste_R7 (A := A) (B := B) (f := f) hs).row (k := 0) (by omega)).1
      have lL : (turnS (leS A B f y)).length = 7 := by rw [turnS_len]; exact ((le_R7 (A := A) (B := B) (f := f) hyn yN).row (k := 0) (by omega)).1
      have lF : (turnS (floS f y 6)).length = 7 := by rw [turnS_len]; exact ((flo_R7 (f := f) hyn yN).row (k := 0) (by omega)).1
      rw [x1] at c3
      rw [x2, lL, hE] at cLe
      rw [x3, lF, e4] at cF
      rw [lS] at cT
      rw [xo, hE] at cLo
      rw [x1, hE]
      clear rS rL rF xT eT mB x1 x2 x3 c1 c2 lp xo hD hz ok
      generalize mapW 1 (chW A B) = a at *
      generalize orT A B (trN 6) = p0 at *
      generalize turnS (steS A B f (poS y)) = S at *
      generalize turnS (leS A B f y) = E at *
      generalize turnS (floS f y 6) = G at *
      rw [lS] at c3 ⊢
      have pi : ¬ (p : Int) < p0 := by omega
      have pi6 : ¬ (6 : Int) < p := by omega
      simp [go_sem, hE]
      refine CallVC.of (cC) (by decide) ?_
      simp [go_sem]
      refine CallVC.of (cT) (by decide) ?_
      simp [go_sem]
      refine CallVC.of (cO) (by decide) ?_
      simp [go_sem]
      refine CallVC.of (cLo) (by decide) ?_
      simp [go_sem]
      refine CallVC.of (cLe) (by decide) ?_
      simp [go_sem]
      refine CallVC.of (cF) (by decide) ?_
      simp [go_sem]
      refine CallVC.of (c3) (by decide) ?_
      simp [go_sem]
      simp [go_sem, pi, pi6]
      refine ⟨⟨by omega, by omega⟩, ?_⟩
      rw [avs_repl]
      refine loop_inv (2 :: 23 :: List.range' 148 49) (fun i : Nat => [(23, .int i)]) (fun i => i ≤ 7) (fun i => 7 - i) 0 (by simp) (by simp [go_sem]) (by simp [go_sem]) ?_
      intro i hi
      by_cases h7 : i < 7
      · have hii : (i : Int) < 7 := by omega
        have oE := omat_get (A := E) (k := i) (by omega)
        have oG := omat_get (A := G) (k := i) (by omega)
        have oS := omat_get (A := S) (k := i) (by omega)
        rw [nL i h7] at oE
        rw [nF i h7] at oG
        rw [nS i h7] at oS
        have cP := plus5_c (E[i]?.getD []) (G[i]?.getD []) (by rw [nL i h7]; omega) (by rw [nL i h7, nF i h7]) (NL i h7) (NF i h7)
        rw [nL i h7, nF i h7, es i h7] at cP
        have cQ := likeInts_c (S[i]?.getD []) (S[i]?.getD []) (by rw [nS i h7]; omega)
        rw [nS i h7] at cQ
        simp only [decide_true] at cQ
        have cZ := likeInts_c (E[i]?.getD []) (List.replicate n 0) (by rw [nL i h7]; omega)
        rw [nL i h7, List.length_replicate] at cZ
        have z1 := pz i
        have z2 := pn
        have zi : i = p + 1 → E[i]?.getD [] ≠ List.replicate n 0 := fun e => by rw [e]; exact pn (by omega)
        generalize E[i]?.getD [] = Ei at *
        generalize G[i]?.getD [] = Gi at *
        generalize S[i]?.getD [] = Si at *
        by_cases ip : i ≤ p
        · rw [z1 ip] at cZ oE cP
          simp only [decide_true] at cZ
          have ipi : (i : Int) ≤ p := by omega
          have ne : ¬ (i : Int) = p + 1 := by omega
          have ne2 : ¬ i = p + 1 := by omega
          simp [go_sem, hii, oE, oG, oS]
          refine ⟨by kernel_rfl, ?_⟩
          repeat refine ⟨by omega, ?_⟩
          refine CallD.of (cP) (by simp [roots, rootsL]) (by decide) ?_
          simp [go_sem]
          simp [go_sem, oS]
          repeat refine ⟨by omega, ?_⟩
          refine CallD.of (cQ) (by simp [roots, rootsL]) (by decide) ?_
          simp [go_sem]
          simp [go_sem, ip, oE]
          repeat refine ⟨by omega, ?_⟩
          refine CallD.of (cZ) (by simp [roots, rootsL]) (by decide) ?_
          simp [go_sem]
          simp [go_sem, ne, ne2]
          refine ⟨⟨by omega, by omega⟩, ?_⟩
          refine ⟨by kernel_rfl, ?_⟩
          simp [go_sem]
          exact ⟨⟨by omega, by omega⟩, i + 1, by omega, by omega, Off_reset _ _ _ (by simp), by omega⟩
        · have ipi : ¬ (i : Int) ≤ p := by omega
          by_cases e1 : i = p + 1
          · have hz := zi e1
            subst e1
            simp only [hz, decide_false] at cZ
            have np : ¬ p + 1 ≤ p := by omega
            have hii2 : (p : Int) + 1 < 7 := by omega
            simp [go_sem, hii2, oE, oG, oS]
            refine ⟨by kernel_rfl, ?_⟩
            repeat refine ⟨by omega, ?_⟩
            refine CallD.of (cP) (by simp [roots, rootsL]) (by decide) ?_
            simp [go_sem]
            simp [go_sem, oS]
            repeat refine ⟨by omega, ?_⟩
            refine CallD.of (cQ) (by simp [roots, rootsL]) (by decide) ?_
            simp [go_sem]
            have np2 : decide ((p : Int) + 1 ≤ p) = false := decide_eq_false (by omega)
            rw [np2]
            simp [go_sem, oE]
            refine ⟨⟨by omega, by omega⟩, ?_⟩
            repeat refine ⟨by omega, ?_⟩
            refine CallD.of (cZ) (by simp [roots, rootsL]) (by decide) ?_
            simp [go_sem]
            refine ⟨by kernel_rfl, ?_⟩
            simp [go_sem]
            exact ⟨⟨by omega, by omega⟩, p + 1 + 1, by omega, by omega, Off_reset _ _ _ (by simp), by omega⟩
          · have ei : ¬ (i : Int) = p + 1 := by omega
            simp [go_sem, hii, oE, oG, oS]
            refine ⟨by kernel_rfl, ?_⟩
            repeat refine ⟨by omega, ?_⟩
            refine CallD.of (cP) (by simp [roots, rootsL]) (by decide) ?_
            simp [go_sem]
            simp [go_sem, oS]
            repeat refine ⟨by omega, ?_⟩
            refine CallD.of (cQ) (by simp [roots, rootsL]) (by decide) ?_
            simp [go_sem]
            simp [go_sem, ip, e1, ei]
            refine ⟨⟨by omega, by omega⟩, ?_⟩
            refine ⟨by kernel_rfl, ?_⟩
            simp [go_sem]
            exact ⟨⟨by omega, by omega⟩, i + 1, by omega, by omega, Off_reset _ _ _ (by simp), by omega⟩
      · have e : i = 7 := by omega
        subst e
        simp [go_sem]
    · simp [go_sem, hE]
end Go.Proofs.YtpkgedaejcigeaaGreat

