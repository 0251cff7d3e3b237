/- Texts of the own layer and contracts, part 7: Q37 V0 V1 W1 W3 W22 B0 B1 B2 B3 Q10 W23 Q36 W24 W25 W26 O W2 Q4 E0 E14 V3 V4 V5 Q11 Q12 Q13 Q5 P7 Q6 Q7 Q8 Q14 Q15 Q16 Q17 Q18 Q19 Q20 Q21 Q22 Q23 Q24 Q25 Q26 Q30 V6 V7 V8 E1 E17 L37. -/
import Derived.Test.YtoeikpioonlmfaaGreatRows
import Derived.WalkKit
import Derived.ProofKit
import Derived.OpenShut
import Derived.Test.YtoeikpioonlmfaaGreatM6
namespace Go.Proofs.YtoeikpioonlmfaaGreat
open Go.Abs
set_option linter.unusedSectionVars false
set_option linter.unusedVariables false
set_option linter.unusedSimpArgs false
set_option maxHeartbeats 1000000
theorem ltL_tri : ∀ {a b : List Int}, a.length = b.length → a ≠ b → ltL a b = false → ltL b a = true
  | [], [], _, h, _ => absurd rfl h
  | x :: a, y :: b, hl, h, h2 => by
    simp only [ltL] at h2 ⊢
    by_cases e : x = y
    · subst e
      simp only [if_true] at h2 ⊢
      exact ltL_tri (by simpa using hl) (fun e => h (by rw [e])) h2
    · rw [if_neg e] at h2
      rw [if_neg (fun x => e x.symm)]
      simp at h2 ⊢
      omega
def Srt (L : List Mon) : Prop := L.Pairwise (fun a b => ltL a.2 b.2 = true)
def Nzl (L : List Mon) : Prop := ∀ m ∈ L, 1 ≤ m.1 ∧ m.1 ≤ 10006
theorem putGo_keys {c : Int} {e : List Int} : ∀ (l : List Mon) (done : Bool), ∀ x ∈ putGo c e l done, (∃ m ∈ l, x.2 = m.2) ∨ (done = false ∧ x.2 = e)
  | [], true, x, hx => by simp [putGo] at hx
  | [], false, x, hx => by simp [putGo] at hx; rw [hx]; exact .inr ⟨rfl, rfl⟩
  | a :: l, done, x, hx => by
    have one : ∀ b : Mon, b.2 = a.2 → x ∈ (if b.1 = 0 then [] else [b]) → (∃ m ∈ a :: l, x.2 = m.2) ∨ (done = false ∧ x.2 = e) := fun b hb hxx => by
      split at hxx
      · simp at hxx
      · simp at hxx; exact .inl ⟨a, by simp, by rw [hxx, hb]⟩
    have tl : ∀ d, (d = true ∨ d = done) → x ∈ putGo c e l d → (∃ m ∈ a :: l, x.2 = m.2) ∨ (done = false ∧ x.2 = e) := fun d hd hxx => by
      rcases putGo_keys l d x hxx with ⟨m, hm, hk⟩ | ⟨h1, h2⟩
      · exact .inl ⟨m, by simp [hm], hk⟩
      · rcases hd with rfl | rfl
        · simp at h1
        · exact .inr ⟨h1, h2⟩
    rw [putGo] at hx
    split at hx
    · rcases List.mem_append.1 hx with hx | hx
      · exact one ((a.1 + c) % 10007, a.2) rfl hx
      · exact tl true (.inl rfl) hx
    · split at hx
      · rename_i h
        rcases List.mem_cons.1 hx with hx | hx
        · exact .inr ⟨h.1, by rw [hx]⟩
        · rcases List.mem_append.1 hx with hx | hx
          · exact one a rfl hx
          · exact tl true (.inl rfl) hx
      · rcases List.mem_append.1 hx with hx | hx
        · exact one a rfl hx
        · exact tl done (.inr rfl) hx
theorem putGo_srt {n : Nat} {c : Int} {e : List Int} (he : e.length = n) : ∀ (l : List Mon) (done : Bool), (∀ m ∈ l, m.2.length = n) → Srt l → Srt (putGo c e l done)
  | [], true, _, _ => by simp [putGo, Srt]
  | [], false, _, _ => by simp [putGo, Srt]
  | a :: l, done, hl, hs => by
    obtain ⟨h1, h2⟩ := List.pairwise_cons.1 hs
    have ih := fun d => putGo_srt (c := c) he l d (fun m hm => hl m (by simp [hm])) h2
    have cons : ∀ (b : Mon) (d : Bool), b.2 = a.2 → (d = true ∨ ltL a.2 e = true) → Srt ((if b.1 = 0 then [] else [b]) ++ putGo c e l d) := fun b d hb hd => by
      split
      · exact ih d
      · refine List.pairwise_cons.2 ⟨fun x hx => ?_, ih d⟩
        rw [hb]
        rcases putGo_keys l d x hx with ⟨m, hm, hk⟩ | ⟨h3, h4⟩
        · rw [hk]; exact h1 m hm
        · rw [h4]
          rcases hd with rfl | hd
          · simp at h3
          · exact hd
    rw [putGo]
    split
    · exact cons ((a.1 + c) % 10007, a.2) true rfl (.inl rfl)
    · rename_i n1
      split
      · rename_i h
        refine List.pairwise_cons.2 ⟨fun x hx => ?_, cons a true rfl (.inl rfl)⟩
        have key : (∃ m ∈ a :: l, x.2 = m.2) := by
          rcases List.mem_append.1 hx with hx | hx
          · split at hx
            · simp at hx
            · simp at hx; exact ⟨a, by simp, by rw [hx]⟩
          · rcases putGo_keys l true x hx with ⟨m, hm, hk⟩ | ⟨h3, _⟩
            · exact ⟨m, by simp [hm], hk⟩
            · simp at h3
        obtain ⟨m, hm, hk⟩ := key
        show ltL e x.2 = true
        rw [hk]
        rcases List.mem_cons.1 hm with rfl | hm
        · exact h.2
        · exact ltL_trans h.2 (h1 m hm)
      · rename_i n2
        cases done with
        | true => exact cons a true rfl (.inl rfl)
        | false =>
          have ne : a.2 ≠ e := fun x => n1 ⟨rfl, x⟩
          have nl : ltL e a.2 = false := by
            cases hb : ltL e a.2 with
            | false => rfl
            | true => exact absurd ⟨rfl, hb⟩ n2
          exact cons a false rfl (.inr (ltL_tri (by rw [he, hl a (by simp)]) (fun x => ne x.symm) nl))
theorem putGo_nz {c : Int} {e : List Int} (hc : 1 ≤ c ∧ c ≤ 10006) : ∀ (l : List Mon) (done : Bool), Nzl l → Nzl (putGo c e l done)
  | [], true, _ => by simp [putGo, Nzl]
  | [], false, _ => by intro m hm; simp [putGo] at hm; rw [hm]; exact hc
  | a :: l, done, hl => by
    have ha := hl a (by simp)
    have ih := fun d => putGo_nz (e := e) hc l d (fun m hm => hl m (by simp [hm]))
    have one : ∀ b : Mon, (b.1 = 0 ∨ 1 ≤ b.1 ∧ b.1 ≤ 10006) → ∀ L, Nzl L → Nzl ((if b.1 = 0 then [] else [b]) ++ L) := fun b hb L hL m hm => by
      rcases List.mem_append.1 hm with hm | hm
      · split at hm
        · simp at hm
        · rename_i h; simp at hm; rw [hm]; rcases hb with hb | hb; exact absurd hb h; exact hb
      · exact hL m hm
    rw [putGo]
    split
    · exact one ((a.1 + c) % 10007, a.2) (by simp only; omega) _ (ih true)
    · split
      · intro m hm
        rcases List.mem_cons.1 hm with rfl | hm
        · exact hc
        · exact one a (.inr ha) _ (ih true) m hm
      · exact one a (.inr ha) _ (ih done)
theorem putGo_done {c c' : Int} {e : List Int} : ∀ l : List Mon, putGo c e l true = putGo c' e l true
  | [] => rfl
  | a :: l => by rw [putGo_t, putGo_t, putGo_done l]
theorem putL_nz {L : List Mon} {c : Int} {e : List Int} (hc : isN c) (hL : Nzl L) : Nzl (putL L c e) := by
  unfold putL
  by_cases h : c = 0
  · rw [decide_eq_true h, putGo_done (c' := 1)]
    exact putGo_nz ⟨by omega, by omega⟩ L true hL
  · exact putGo_nz ⟨by have := hc.1; omega, by have := hc.2; omega⟩ L _ hL
theorem plusL_srt {n : Nat} {B k : Int} : ∀ (q p : List Mon), (∀ m ∈ q, WOk n B m) → (∀ m ∈ p, WOk n B m) → Srt p ∧ Nzl p → Srt (plusL p k q) ∧ Nzl (plusL p k q)
  | [], _, _, _, h => h
  | m :: q, p, hq, hp, h => by
    have hm := hq m (by simp)
    exact plusL_srt q _ (fun a ha => hq a (by simp [ha])) (putGo_wok ⟨isN_mod _, hm.len, hm.pw⟩ p _ hp) ⟨putGo_srt hm.len p _ (fun a ha => (hp a ha).len) h.1, putL_nz (isN_mod _) h.2⟩
theorem cfL_at {n : Nat} (hn : n ≤ 3) : ∀ {L : List Mon}, (∀ m ∈ L, m.2.length = n) → Srt L → ∀ m ∈ L, cfL L (keyOf m.2) = m.1
  | a :: L, hl, hs, m, hm => by
    obtain ⟨h1, h2⟩ := List.pairwise_cons.1 hs
    have ne : ∀ b ∈ L, keyOf a.2 ≠ keyOf b.2 := fun b hb e => by
      have := keyOf_inj (by rw [hl a (by simp), hl b (by simp [hb])]) (by rw [hl a (by simp)]; exact hn) e
      have h3 := h1 b hb
      rw [this, ltL_irr] at h3
      simp at h3
    rw [cfL_cons]
    rcases List.mem_cons.1 hm with rfl | hm
    · rw [if_pos rfl]
      have : cfL L (keyOf m.2) = 0 := by
        unfold cfL coef
        exact sumI_zero (fun b hb => if_neg (ne b hb))
      rw [this]; omega
    · rw [if_neg (fun e => ne m hm e.symm), cfL_at hn (fun b hb => hl b (by simp [hb])) h2 m hm]; omega
theorem plusL_cf (k : Int) (K : Key) : ∀ (q p : List Mon), cfL (plusL p k q) K % 10007 = (cfL p K + k * cfL q K) % 10007
  | [], p => by simp [plusL, cfL, coef, sumI]
  | m :: q, p => by
    rw [plusL, plusL_cf k K q, cfL_cons, Int.add_emod, putL_cf, Int.mul_add]
    by_cases h : K = keyOf m.2
    · simp only [h, if_true]; omega
    · simp only [h, if_false]; omega
def pcf (p q : List Mon) (K : Key) : Int := sumI (fun a => sumI (fun b => if K = keyOf (addE a.2 b.2) then a.1 * b.1 else 0) q) p
theorem prodRow_cf (a : Mon) (K : Key) : ∀ (q acc : List Mon), cfL (prodRow a acc q) K % 10007 = (cfL acc K + sumI (fun b => if K = keyOf (addE a.2 b.2) then a.1 * b.1 else 0) q) % 10007
  | [], acc => by simp [prodRow, sumI]
  | b :: q, acc => by
    rw [prodRow, prodRow_cf a K q, Int.add_emod, putL_cf]
    simp only [sumI]
    by_cases h : K = keyOf (addE a.2 b.2)
    · simp only [h, if_true]; omega
    · simp only [h, if_false]; omega
theorem prodGo_cf (q : List Mon) (K : Key) : ∀ (p acc : List Mon), cfL (prodGo acc q p) K % 10007 = (cfL acc K + pcf p q K) % 10007
  | [], acc => by simp [prodGo, pcf, sumI]
  | a :: p, acc => by
    rw [prodGo, prodGo_cf q K p, Int.add_emod, prodRow_cf]
    simp only [pcf, sumI]
    omega
theorem prodL_cf (p q : List Mon) (K : Key) : cfL (prodL p q) K % 10007 = pcf p q K % 10007 := by
  unfold prodL
  rw [prodGo_cf]; simp [cfL, coef, sumI]
theorem keyOf_add {a b : List Int} (hl : a.length = b.length) (h3 : a.length ≤ 3) : keyOf (addE a b) = addK (keyOf a) (keyOf b) := by
  match a, b, hl, h3 with
  | [], [], _, _ => rfl
  | [x], [y], _, _ => simp [keyOf, addE, addK]
  | [x, x'], [y, y'], _, _ => simp [keyOf, addE, addK]
  | [x, x', x''], [y, y', y''], _, _ => simp [keyOf, addE, addK]
theorem cfT_prE (e : Key × Int) (K : Key) : ∀ E : List (Key × Int), cfT (prE e E) K = sumI (fun d => if K = addK e.1 d.1 then e.2 * d.2 else 0) E
  | [] => rfl
  | d :: E => by
    show cfT ((addK e.1 d.1, e.2 * d.2) :: prE e E) K = _
    simp only [sumI, ← cfT_prE e K E]; rfl
theorem cfT_prT (K : Key) (E : List (Key × Int)) : ∀ D : List (Key × Int), cfT (prT D E) K = sumI (fun e => sumI (fun d => if K = addK e.1 d.1 then e.2 * d.2 else 0) E) D
  | [] => rfl
  | e :: D => by
    rw [prT_cons, cfT_app, cfT_prE, cfT_prT K E D]; rfl
end Go.Proofs.YtoeikpioonlmfaaGreat


namespace Go.Proofs.YtoeikpioonlmfaaGreat
open Go.Abs Go.Shelf Go.Sort
set_option linter.unusedSectionVars false
set_option linter.unusedVariables false
set_option linter.unusedSimpArgs false
set_option maxHeartbeats 1000000
theorem ltL_tot : ∀ {a b : List Int}, a ≠ b → ltL a b = false → ltL b a = true
  | [], [], h, _ => absurd rfl h
  | [], y :: b, _, h => by simp [ltL] at h
  | x :: a, [], _, _ => by simp [ltL]
  | x :: a, y :: b, h, h2 => by
    simp only [ltL] at h2 ⊢
    by_cases e : x = y
    · subst e
      simp only [if_true] at h2 ⊢
      exact ltL_tot (fun e => h (by rw [e])) h2
    · rw [if_neg e] at h2
      rw [if_neg (fun x => e x.symm)]
      simp at h2 ⊢
      omega
theorem cmpL_neg (a b : List Int) : decide (cmpL a b < 0) = ltL a b := by
  have h := cmpL_lt a b
  cases hl : ltL a b <;> rw [hl] at h <;> simp at h ⊢ <;> omega
theorem swo_mon : SWO (Go.Proofs.ltOf fun m n : Mon => cmpL m.2 n.2) := by
  have e : (Go.Proofs.ltOf fun m n : Mon => cmpL m.2 n.2) = fun m n => ltL m.2 n.2 := by
    funext m n; exact cmpL_neg _ _
  rw [e]
  refine ⟨fun m => ltL_irr _, fun _ _ _ => ltL_trans, fun x y z h1 h2 => ?_⟩
  cases h3 : ltL x.2 z.2 with
  | false => rfl
  | true =>
    by_cases e : x.2 = y.2
    · rw [← e, h3] at h2; exact h2
    · have := ltL_trans (ltL_tot e h1) h3
      rw [this] at h2; exact h2
theorem srt_two : ∀ {L : List Mon}, Srt L → ∀ a ∈ L, ∀ b ∈ L, a = b ∨ ltL a.2 b.2 = true ∨ ltL b.2 a.2 = true
  | [], _, a, ha, _, _ => by simp at ha
  | m :: L, h, a, ha, b, hb => by
    obtain ⟨h1, h2⟩ := List.pairwise_cons.1 h
    rcases List.mem_cons.1 ha with ha2 | ha2
    · rcases List.mem_cons.1 hb with hb2 | hb2
      · exact .inl (ha2.trans hb2.symm)
      · exact .inr (.inl (by rw [ha2]; exact h1 b hb2))
    · rcases List.mem_cons.1 hb with hb2 | hb2
      · exact .inr (.inr (by rw [hb2]; exact h1 a ha2))
      · exact srt_two h2 a ha2 b hb2
theorem part1_c [DrawK] (m n : Mon) (hm : m.2.length ≤ 1000) (hn : n.2.length ≤ 1000) :
    Con Tryz.prog 194 [.agg [.int m.1, .sl m.2.length (avs m.2)], .agg [.int n.1, .sl n.2.length (avs n.2)]] (.int (cmpL m.2 n.2)) := by
  refine con_of_vc Tryz.mixed ⟨5, [], [], []⟩ Tryz.func194 (by decide) rfl (by simp) (by decide) (by simp [freshOK, freshL, go_sem]) ?_
  rw [Tryz.ntmps194]
  simp [go_sem]
  refine CallVC.of (Compare_c m.2 n.2 (by omega) (by omega)) (by decide) ?_
  simp [go_sem]
theorem sort_unique {ys L : List Mon} (hp : ys.Perm L) (hS : Srt L) (hy : ys.Pairwise (fun x y => ¬ cmpL y.2 x.2 < 0)) : ys = L := by
  have hy' : ys.Pairwise (fun x y => ltL y.2 x.2 = false) := hy.imp (fun {a b} h => by
    have := cmpL_neg b.2 a.2
    rw [← this]; simpa using h)
  have hL' : L.Pairwise (fun x y => ltL y.2 x.2 = false) := hS.imp (fun {a b} h => by
    cases h2 : ltL b.2 a.2 with
    | false => rfl
    | true => have := ltL_trans h h2; rw [ltL_irr] at this; simp at this)
  refine hp.eq_of_pairwise (fun a b ha hb h1 h2 => ?_) hy' hL'
  rcases srt_two hS a (hp.mem_iff.1 ha) b hb with h | h | h
  · exact h
  · rw [h2] at h; simp at h
  · rw [h1] at h; simp at h
theorem sortMon_c (X L : List Mon) (hX : X.Perm L) (hS : Srt L) (hl : ∀ m ∈ L, m.2.length ≤ 1000) (hn : L.length ≤ 1048576) :
    MCon Tryz.prog 193 [.own 97 X.length (omons X), .val (.func (.func 194) #[] #[])] (.tup []) [.own 97 X.length (omons L), .any] := by
  have hxl := hX.length_eq
  have hm : ∀ m ∈ X, m.2.length ≤ 1000 := fun m hm => hl m (hX.mem_iff.1 hm)
  obtain ⟨ys, h1, h2, h3⟩ := sort_mcon Tryz.sortMon 2 Tryz.isAgg97 Tryz.sizeOf97 ⟨_, Tryz.func193, by decide, rfl⟩ (fun m : Mon => [.int m.1, .own 2 m.2.length (avs m.2)]) (fun m n => cmpL m.2 n.2) swo_mon 194 97 (by kernel_rfl) X (fun _ _ => rfl) (omons_fresh X)
    (fun x hx y hy => by simpa [frzL, frz] using @part1_c ⟨1⟩ x y (hm x hx) (hm y hy)) (by omega)
  have e : ys = L := sort_unique (h1.trans hX) hS h2
  subst e
  exact h3
theorem pref1 {P : Program} {f : FuncId} {n m : Nat} {cs : List AV} {r : AV} (h : Con P f [.sl n (cs.take m)] r) : Con P f [.sl n cs] r := by
  refine ⟨h.1, fun w vs hl hr => h.2 w vs (by simpa using hl) fun tm oss => ?_⟩
  have h1 := hr tm oss
  obtain ⟨v, rfl⟩ := List.length_eq_one_iff.1 hl.symm
  generalize ho : ([] : List Nat) = os at h1
  cases h1 with
  | cons _ _ o1 _ _ o2 h2 h3 =>
    cases h3
    have e : o1 = [] := by simpa using ho.symm
    subst e
    refine .cons _ _ [] _ _ [] ?_ (.nil _)
    cases h2 with
    | cell _ _ _ hc =>
      refine .cell _ _ _ ?_
      cases hc with
      | sl0 base cap => simpa using RepC.sl0 base cap
      | sl b off _ cap c e fr _ hF hb hL hn => exact .sl b off _ cap c e fr _ hF hb (hL.pref m) hn
theorem CloneN_c (k : List Int) (n : Nat) (hn : n ≤ k.length) (hl : k.length ≤ 1048576) : Con Tryz.prog 117 [.sl n (avs k)] (.own 2 n (avs (k.take n))) := by
  have h := Clone_c (k.take n) (by simp; omega)
  have e : (k.take n).length = n := by simp [hn]
  have e2 : avs (k.take n) = (avs k).take n := by simp [avs, List.map_take]
  rw [e, e2] at h
  rw [e2]
  exact pref1 h
def restM (n : Nat) (es : List (Key × Int)) : List Mon := (es.filter fun e => decide (e.2 ≠ 0)).map fun e => (e.2, [e.1.1, e.1.2.1, e.1.2.2].take n)
theorem restM_split (n : Nat) (l1 l2 : List (Key × Int)) (e : Key × Int) : (restM n (l1 ++ e :: l2)).Perm (if e.2 = 0 then restM n (l1 ++ l2) else (e.2, [e.1.1, e.1.2.1, e.1.2.2].take n) :: restM n (l1 ++ l2)) := by
  unfold restM
  by_cases h : e.2 = 0
  · simp [h]
  · rw [if_neg h]
    have e1 : decide (e.2 ≠ 0) = true := by simp [h]
    rw [List.filter_append, List.filter_cons, e1, if_pos rfl, List.filter_append, List.map_append, List.map_append, List.map_cons]
    exact List.perm_middle
theorem keyOf_take {m : Mon} {n : Nat} (hm : m.2.length = n) (hn : n ≤ 3) : [(keyOf m.2).1, (keyOf m.2).2.1, (keyOf m.2).2.2].take n = m.2 := by
  obtain ⟨a, e⟩ := m
  subst hm
  rcases e with _ | ⟨a, _ | ⟨b, _ | ⟨c, _ | ⟨d, e⟩⟩⟩⟩
  all_goals first | rfl | (simp at hn)
theorem restM_perm {c : Key → Option Int} {n : Nat} {L : List Mon} (hn : n ≤ 3) (hS : Srt L) (hL : ∀ k a, (c k = some a ∧ a ≠ 0) ↔ (k, a) ∈ L.map keyM) (hl : ∀ m ∈ L, m.2.length = n) {es : List (Key × Int)} (he : Enum c es) : (restM n es).Perm L := by
  have hmem : ∀ k a, (k, a) ∈ es ↔ c k = some a := fun k a => ⟨fun h => he.val _ h, fun h => by
    by_cases hx : ∃ p ∈ es, p.1 = k
    · obtain ⟨p, hp, rfl⟩ := hx
      have := he.val p hp
      rw [h] at this
      injection this with this
      subst this
      exact hp
    · have := he.out k (fun p hp e => hx ⟨p, hp, e⟩)
      rw [h] at this; simp at this⟩
  have hin : ∀ e ∈ es, e.2 ≠ 0 → ∃ m ∈ L, keyM m = e := fun e he h0 => by
    have := (hL e.1 e.2).1 ⟨(hmem _ _).1 he, h0⟩
    obtain ⟨m, hm, h⟩ := List.mem_map.1 this
    exact ⟨m, hm, h⟩
  have hmono : ∀ e ∈ es, e.2 ≠ 0 → ∃ m ∈ L, keyM m = e ∧ (e.2, [e.1.1, e.1.2.1, e.1.2.2].take n) = m := fun e he h0 => by
    obtain ⟨m, hm, rfl⟩ := hin e he h0
    refine ⟨m, hm, rfl, ?_⟩
    show (m.1, [(keyOf m.2).1, (keyOf m.2).2.1, (keyOf m.2).2.2].take n) = m
    rw [keyOf_take (hl m hm) hn]
  have hLn : L.Nodup := hS.imp (fun {a b} h e => by rw [e, ltL_irr] at h; simp at h)
  refine (List.perm_ext_iff_of_nodup ?_ hLn).2 fun m => ?_
  · unfold restM
    rw [List.nodup_iff_pairwise_ne, List.pairwise_map, List.pairwise_filter]
    refine List.Pairwise.imp_of_mem (fun {a b} ha hb h h1 h2 e => ?_) he.nd
    simp at h1 h2
    obtain ⟨m1, _, g1, g2⟩ := hmono a ha h1
    obtain ⟨m2, _, g3, g4⟩ := hmono b hb h2
    rw [g2, g4] at e
    rw [← g1, ← g3, e] at h
    exact h rfl
  · unfold restM
    rw [List.mem_map]
    constructor
    · rintro ⟨e, h1, rfl⟩
      obtain ⟨h1, h2⟩ := List.mem_filter.1 h1
      obtain ⟨m, hm, _, h⟩ := hmono e h1 (by simpa using h2)
      rw [h]; exact hm
    · intro hm
      have h1 := (hL (keyOf m.2) m.1).2 (List.mem_map.2 ⟨m, hm, rfl⟩)
      refine ⟨(keyOf m.2, m.1), List.mem_filter.2 ⟨(hmem _ _).2 h1.1, by simpa using h1.2⟩, ?_⟩
      show (m.1, [(keyOf m.2).1, (keyOf m.2).2.1, (keyOf m.2).2.2].take n) = m
      rw [keyOf_take (hl m hm) hn]
set_option maxRecDepth 100000 in
theorem part_c (c : Key → Option Int) (n : Nat) (L : List Mon) (h1n : 1 ≤ n) (hn : n ≤ 3) (hS : Srt L) (hL : ∀ k a, (c k = some a ∧ a ≠ 0) ↔ (k, a) ∈ L.map keyM) (hl : ∀ m ∈ L, m.2.length = n) (hLl : L.length ≤ 1048576) :
    Con Tryz.prog 136 [.fmp c, .int n] (.own 97 L.length (omons L)) := by
  refine con_of_vc Tryz.mixed ⟨8, [], [193], []⟩ Tryz.func136 (by decide) rfl (by simp) (by decide) (by simp [freshOK, freshL, go_sem]) ?_
  rw [Tryz.ntmps136]
  simp [go_sem]
  intro es hes
  have hp := restM_perm hn hS hL hl hes
  refine loop_inv (5 :: 6 :: 7 :: List.range' 10 16) (fun x : List Mon × Option (Key × Int) × List (Key × Int) => [(5, .own 97 x.1.length (omons x.1)), (10, .it x.2.1 x.2.2)]) (fun x => (x.1 ++ restM n x.2.2).Perm L) (fun x => x.2.2.length) ([], none, es) (by simpa using hp) (by simp [go_sem]) (by simp [go_sem]) ?_
  rintro ⟨X, l, rem⟩ hX
  simp only at hX
  have hXl : X.length ≤ L.length := by have := hX.length_eq; simp at this; omega
  simp [go_sem, keyAV]
  refine ⟨fun hr => ?_, fun l1 k0 k1 k2 x l2 hr => ?_⟩
  · subst hr
    have hX' : X.Perm L := by simpa [restM] using hX
    refine ⟨_, _, sortMon_c X L hX' hS (fun m hm => by have := hl m hm; omega) hLl, ?_⟩
    simp [go_sem]
    exact hX'.length_eq
  · subst hr
    refine ⟨fun h => ?_, fun h => ?_⟩ <;> simp at h
    · have cC := CloneN_c [k0, k1, k2] n (by simpa using hn) (by simp)
      simp [go_sem, avs]
      refine ⟨⟨by omega, by omega⟩, ?_⟩
      refine CallVC.of (cC) (by decide) ?_
      simp [go_sem]
      have hp2 : ((X ++ [(x, [k0, k1, k2].take n)]) ++ restM n (l1 ++ l2)).Perm L := by
        refine List.Perm.trans ?_ hX
        rw [List.append_assoc]
        have := (restM_split n l1 l2 ((k0, k1, k2), x)).symm
        rw [if_neg h] at this
        exact List.Perm.append_left X this
      have hl3 : ([k0, k1, k2].take n).length = n := by simp; omega
      have hxl := hp2.length_eq
      simp at hxl
      refine ⟨⟨by omega, by omega⟩, X ++ [(x, [k0, k1, k2].take n)], some ((k0, k1, k2), x), l1 ++ l2, hp2, by simp, Off_reset _ _ _ (by simp), ?_⟩
      simp [omons_app, omons_one, hl3]
    · have hp2 : (X ++ restM n (l1 ++ l2)).Perm L := by
        refine List.Perm.trans ?_ hX
        have := (restM_split n l1 l2 ((k0, k1, k2), x)).symm
        rw [if_pos h] at this
        exact List.Perm.append_left X this
      simp [go_sem]
      refine ⟨X, some ((k0, k1, k2), x), l1 ++ l2, hp2, by simp, Off_reset _ _ _ (by simp), ?_⟩
      simp
end Go.Proofs.YtoeikpioonlmfaaGreat


namespace Go.Proofs.YtoeikpioonlmfaaGreat
open Go.Abs
set_option linter.unusedSectionVars false
set_option linter.unusedVariables false
set_option linter.unusedSimpArgs false
set_option maxHeartbeats 1000000
theorem cfL_key : ∀ {L : List Mon} {K : Key}, cfL L K ≠ 0 → ∃ m ∈ L, keyOf m.2 = K
  | [], K, h => absurd rfl h
  | m :: L, K, h => by
    by_cases e : K = keyOf m.2
    · exact ⟨m, by simp, e.symm⟩
    · rw [cfL_cons, if_neg e, Int.zero_add] at h
      obtain ⟨m', h1, h2⟩ := cfL_key h
      exact ⟨m', by simp [h1], h2⟩
theorem part_list {c : Key → Option Int} {n : Nat} {L : List Mon} (hn : n ≤ 3) (hc : MapN c) (hS : Srt L) (hZ : Nzl L) (hl : ∀ m ∈ L, m.2.length = n) (hv : ∀ K, gv c K % 10007 = cfL L K % 10007) (k : Key) (a : Int) :
    (c k = some a ∧ a ≠ 0) ↔ (k, a) ∈ L.map keyM := by
  have hv := hv k
  constructor
  · rintro ⟨h1, h2⟩
    have ha := hc k a h1
    have g : gv c k = a := by simp [gv, h1]
    rw [g] at hv
    have h3 : cfL L k ≠ 0 := fun e => by rw [e] at hv; have := ha.1; have := ha.2; omega
    obtain ⟨m, hm, rfl⟩ := cfL_key h3
    have e := cfL_at hn hl hS m hm
    have hz := hZ m hm
    rw [e] at hv
    have : m.1 = a := by have := ha.1; have := ha.2; omega
    exact List.mem_map.2 ⟨m, hm, by rw [← this]; rfl⟩
  · intro h
    obtain ⟨m, hm, e⟩ := List.mem_map.1 h
    have e1 : keyOf m.2 = k := congrArg Prod.fst e
    have e2 : m.1 = a := congrArg Prod.snd e
    subst e1 e2
    have hz := hZ m hm
    rw [cfL_at hn hl hS m hm] at hv
    cases hc' : c (keyOf m.2) with
    | none => simp [gv, hc'] at hv; omega
    | some b =>
      have hb := hc _ _ hc'
      have g : gv c (keyOf m.2) = b := by simp [gv, hc']
      rw [g] at hv
      have : b = m.1 := by have := hb.1; have := hb.2; omega
      exact ⟨by rw [this], by omega⟩
theorem part_c2 {c : Key → Option Int} {n : Nat} {L : List Mon} (h1n : 1 ≤ n) (hn : n ≤ 3) (hc : MapN c) (hS : Srt L) (hZ : Nzl L) (hl : ∀ m ∈ L, m.2.length = n) (hLl : L.length ≤ 1048576) (hv : ∀ K, gv c K % 10007 = cfL L K % 10007) :
    Con Tryz.prog 136 [.fmp c, .int n] (.own 97 L.length (omons L)) :=
  part_c c n L h1n hn hS (part_list hn hc hS hZ hl hv) hl hLl
def ptA (Ls : List (List Mon)) : Nat → AV
  | 0 => .val (.slice none 0 0)
  | i + 1 => .own 92 (i + 1) (oprt (Ls.take (i + 1)))
theorem ptA_zero (Ls : List (List Mon)) : ptA Ls 0 = .val (.slice none 0 0) := rfl
theorem ptA_succ (Ls : List (List Mon)) (i : Nat) : ptA Ls (i + 1) = .own 92 (i + 1) (oprt (Ls.take (i + 1))) := rfl
theorem oprt_snoc (Ls : List (List Mon)) {i : Nat} (h : i < Ls.length) : oprt (Ls.take (i + 1)) = oprt (Ls.take i) ++ [.own 97 (Ls[i]?.getD []).length (omons (Ls[i]?.getD []))] := by
  rw [List.take_add_one, List.getElem?_eq_getElem h, Option.toList_some, oprt_app]; simp [oprt, h]
theorem fmps_drop {cs : List (Key → Option Int)} {k : Nat} (h : k < cs.length) : (cs.map AV.fmp).drop k = .fmp (cs[k]?.getD mzero) :: (cs.drop (k + 1)).map AV.fmp := by
  rw [← List.map_drop, List.drop_eq_getElem_cons h, List.map_cons]; simp [h]
set_option maxRecDepth 100000 in
theorem fieldOf_c (n : Nat) (cs : List (Key → Option Int)) (Ls : List (List Mon)) (hl : cs.length = Ls.length) (h0 : 0 < cs.length) (h3 : cs.length ≤ 3)
    (hp : ∀ i, i < cs.length → Con Tryz.prog 136 [.fmp (cs[i]?.getD mzero), .int n] (.own 97 (Ls[i]?.getD []).length (omons (Ls[i]?.getD [])))) :
    Con Tryz.prog 65 [.int n, .sl cs.length (cs.map AV.fmp)] (.agg [.int n, .own 92 Ls.length (oprt Ls)]) := by
  refine con_of_vc Tryz.mixed ⟨8, [], [], []⟩ Tryz.func65 (by decide) rfl (by simp) (by decide) (by simp [freshOK, freshL, go_sem]) ?_
  rw [Tryz.ntmps65]
  simp [go_sem]
  refine loop_inv (5 :: 7 :: List.range' 12 13) (fun i : Nat => [(5, .box 26 [.int n, ptA Ls i]), (12, .int i)]) (fun i => i ≤ cs.length) (fun i => cs.length - i) 0 (by simp) (by simp [go_sem, ptA]) (by simp [go_sem]) ?_
  intro i hi
  simp [go_sem]
  refine ⟨fun h => ?_, fun h => ?_⟩ <;> simp at h
  · have hif := h
    have cp := hp i hif
    rcases i with _ | j
    · simp [go_sem, ptA_zero, fmps_drop hif]
      refine ⟨⟨hif, fun e => by rw [e] at hif; simp at hif⟩, by kernel_rfl, ?_⟩
      refine CallD.of (cp) (by simp [roots, rootsL]) (by decide) ?_
      simp [go_sem]
      refine ⟨by kernel_rfl, ?_⟩
      simp [go_sem]
      have hs := oprt_snoc Ls (i := 0) (by omega)
      refine ⟨1, by omega, by omega, Off_reset _ _ _ (by simp), ?_, by simp⟩
      rw [ptA_succ, hs]
      simp [oprt]
    · simp [go_sem, ptA_succ, fmps_drop hif]
      refine ⟨⟨by omega, by omega, fun e => by rw [e] at hif; simp at hif⟩, by kernel_rfl, ?_⟩
      refine CallD.of (cp) (by simp [roots, rootsL]) (by decide) ?_
      simp [go_sem]
      have hs := oprt_snoc Ls (i := j + 1) (by omega)
      refine ⟨⟨by omega, by omega, by omega⟩, ?_⟩
      refine ⟨by kernel_rfl, ?_⟩
      simp [go_sem]
      refine ⟨by omega, j + 1 + 1, by omega, by omega, Off_reset _ _ _ (by simp), ?_, by omega⟩
      rw [ptA_succ, hs]
  · have e : i = cs.length := by omega
    subst e
    obtain ⟨j, hj⟩ : ∃ j, cs.length = j + 1 := ⟨cs.length - 1, by omega⟩
    have e2 : ptA Ls cs.length = .own 92 Ls.length (oprt Ls) := by
      rw [hj, ptA_succ, ← hj, hl, List.take_length]
    rw [e2]
    simp [go_sem]
end Go.Proofs.YtoeikpioonlmfaaGreat


namespace Go.Proofs.YtoeikpioonlmfaaGreat
open Go.Abs
set_option linter.unusedSectionVars false
set_option linter.unusedVariables false
set_option linter.unusedSimpArgs false
set_option maxHeartbeats 1000000
def DrP (n : Nat) (p : List Mon) : Prop := p.length ≤ 3 ∧ ∀ m ∈ p, WOk n 3 m
theorem set_bump {w : List Int} {B : Int} {k : Nat} (hw : ∀ x ∈ w, 0 ≤ x ∧ x ≤ B) (hk : k < w.length) : ∀ x ∈ w.set k (w[k]?.getD 0 + 1), 0 ≤ x ∧ x ≤ B + 1 := fun x hx => by
  rcases List.mem_or_eq_of_mem_set hx with hx | rfl
  · have := hw x hx; omega
  · have := hw (w[k]?.getD 0) (by simp [hk])
    omega
set_option maxRecDepth 100000 in
theorem l13Draw_r (c : List Int) (σ : Src) (hc : Byt c) (hs : SOk σ) :
    RCon Tryz.prog 130 [srcA c σ] (fun r o => ∃ (τ : Src) (n : Nat) (f : List (List Mon)), SOk τ ∧ o = [srcA c τ] ∧ 1 ≤ n ∧ n ≤ 3 ∧ f.length = n ∧ (∀ p ∈ f, DrP n p) ∧ r = .agg [.int n, .own 92 n (oprt f)]) := by
  have c1 := l01Next_c c σ 3 hc hs
  have s1 := nx2_ok hc hs 3
  have b1 := nx1_b hc σ (n := 3) (by omega)
  obtain ⟨n, hn⟩ : ∃ n : Nat, 1 + nx1 c σ 3 = n := ⟨(1 + nx1 c σ 3).toNat, by omega⟩
  generalize nx1 c σ 3 = v1 at *
  generalize nx2 c σ 3 = σ1 at *
  simp only [srcA_eq] at *
  refine rcon_of_vcH Tryz.mixed ⟨10, [], [1000000 + 57, 1000000 + 157, 1000000 + 178], []⟩ [0] Tryz.func130 (by decide) rfl (by simp) (by simp) (by decide) ?_
  rw [Tryz.ntmps130]
  simp [go_sem]
  refine ⟨_, _, c1, ?_⟩
  simp [go_sem]
  refine ⟨⟨by omega, by omega⟩, ?_⟩
  rw [hn]
  refine loop_inv (0 :: 3 :: 4 :: 5 :: 6 :: 7 :: 8 :: 9 :: List.range' 14 46) (fun x : Src × List (List Mon) => [(0, .box 147 [.sl c.length (bys c), .int x.1.1, .val (.int .u64 x.1.2)]), (3, .box 26 [.int n, ptA x.2 x.2.length]), (4, .int x.2.length)]) (fun x => SOk x.1 ∧ x.2.length ≤ n ∧ ∀ p ∈ x.2, DrP n p) (fun x => n - x.2.length) (σ1, []) (by simp; exact s1) (by simp [go_sem, ptA_zero]) (by simp [go_sem]) ?_
  rintro ⟨τ, f⟩ ⟨h1, h2, h3⟩
  simp only at h1 h2 h3
  simp [go_sem]
  refine ⟨fun h => ?_, fun h => ?_⟩ <;> simp at h
  · have c4 := l01Next_c c τ 4 hc h1
    have s4 := nx2_ok hc h1 4
    have b4 := nx1_b hc τ (n := 4) (by omega)
    obtain ⟨m, hm⟩ : ∃ m : Nat, nx1 c τ 4 = m := ⟨(nx1 c τ 4).toNat, by omega⟩
    rw [hm] at c4 b4
    generalize nx2 c τ 4 = τ1 at *
    simp only [srcA_eq] at c4
    simp [go_sem]
    refine ⟨_, _, c4, ?_⟩
    simp [go_sem]
    refine loop_inv (0 :: 5 :: 6 :: 7 :: 8 :: 9 :: List.range' 23 31) (fun x : Src × List Mon × Nat => [(0, .box 147 [.sl c.length (bys c), .int x.1.1, .val (.int .u64 x.1.2)]), (5, .own 97 x.2.1.length (omons x.2.1)), (6, .int x.2.2)]) (fun x => SOk x.1 ∧ x.2.1.length + x.2.2 ≤ 3 ∧ ∀ m ∈ x.2.1, WOk n 3 m) (fun x => x.2.2) (τ1, [], m) ⟨s4, by simp; omega, by simp⟩ (by simp [go_sem]) (by simp [go_sem]) ?_
    rintro ⟨ρ, p, k⟩ ⟨g1, g2, g3⟩
    simp only at g1 g2 g3
    simp [go_sem]
    refine ⟨fun h => ?_, fun h => ?_⟩ <;> simp at h
    · have c5 := l01Pick_c c ρ [0, 1, 1, 2, 2, 3] hc g1 (by simp) (by simp)
      have m5 := pk_mem c hc ρ (xs := [0, 1, 1, 2, 2, 3]) (by simp)
      have s5 := nx2_ok hc g1 6
      obtain ⟨d0, hd0⟩ : ∃ d0 : Nat, pk c ρ [0, 1, 1, 2, 2, 3] = d0 := ⟨(pk c ρ [0, 1, 1, 2, 2, 3]).toNat, by simp at m5; omega⟩
      have hd3 : d0 ≤ 3 := by rw [hd0] at m5; simp at m5; omega
      have e6 : (([0, 1, 1, 2, 2, 3] : List Int).length : Int) = 6 := rfl
      rw [hd0, e6] at c5
      generalize nx2 c ρ 6 = ρ1 at *
      simp only [srcA_eq] at c5
      simp [go_sem]
      refine ⟨⟨by omega, by omega⟩, ?_⟩
      refine ⟨_, _, c5, ?_⟩
      simp [go_sem]
      rw [avs_repl]
      refine loop_inv (0 :: 7 :: 8 :: 9 :: List.range' 33 16) (fun x : Src × List Int × Nat => [(0, .box 147 [.sl c.length (bys c), .int x.1.1, .val (.int .u64 x.1.2)]), (7, .own 2 n (avs x.2.1)), (8, .int x.2.2)]) (fun x => SOk x.1 ∧ x.2.1.length = n ∧ x.2.2 ≤ 3 ∧ ∀ y ∈ x.2.1, 0 ≤ y ∧ y + x.2.2 ≤ 3) (fun x => x.2.2) (ρ1, List.replicate n 0, d0) ⟨s5, by simp, by simpa using hd3, by intro y hy; have := List.eq_of_mem_replicate hy; simp only; omega⟩ (by simp [go_sem]) (by simp [go_sem]) ?_
      rintro ⟨κ, w, d⟩ ⟨q1, q2, q3, q4⟩
      simp only at q1 q2 q3 q4
      simp [go_sem]
      refine ⟨fun h => ?_, fun h => ?_⟩ <;> simp at h
      · obtain ⟨e, rfl⟩ : ∃ e, d = e + 1 := ⟨d - 1, by omega⟩
        have hnn : 1 ≤ n := by omega
        have c6 := l01Next_c c κ n hc q1
        have s6 := nx2_ok hc q1 n
        have b6 := nx1_b hc κ (n := n) (by omega)
        obtain ⟨j, hj⟩ : ∃ j : Nat, nx1 c κ n = j := ⟨(nx1 c κ n).toNat, by omega⟩
        rw [hj] at c6 b6
        have hjn : j < w.length := by omega
        have hA := avs_at hjn
        have hB := set_bump (B := 3 - (e + 1)) (fun y hy => by have := q4 y hy; constructor <;> omega) hjn
        have wj := q4 (w[j]?.getD 0) (by simp [hjn])
        have hS := avs_set w j (w[j]?.getD 0 + 1)
        generalize w[j]?.getD 0 = u at *
        generalize nx2 c κ n = κ1 at *
        simp only [srcA_eq] at c6
        simp [go_sem]
        refine ⟨_, _, c6, ?_⟩
        simp [go_sem]
        simp [go_sem, hA]
        refine ⟨by omega, ⟨by omega, by omega⟩, by omega, by omega, by omega, κ1.1, κ1.2, w.set j (u + 1), e, ⟨s6, by simpa using q2, by omega, fun y hy => ?_⟩, by omega, Off_reset _ _ _ (by simp), ?_⟩
        · have := hB y hy; omega
        · simp [hS]
      · have e0 : d = 0 := by omega
        subst e0
        have c7 := l01Number_c c κ hc q1
        have h7 := nbV_ok hc q1
        have c8 := l13Put_c p (nbV c κ).1 w h7.1 (fun m hm => ⟨(g3 m hm).num, by have := (g3 m hm).len; omega⟩) (by omega) (by omega)
        have l8 := putL_len p (nbV c κ).1 w
        have w8 := putGo_wok (n := n) (B := 3) (c := (nbV c κ).1) (e := w) ⟨h7.1, q2, fun y hy => by have := q4 y hy; constructor <;> omega⟩ p (decide ((nbV c κ).1 = 0)) g3
        have w9 : ∀ m ∈ putL p (nbV c κ).1 w, WOk n 3 m := w8
        rw [q2] at c8
        generalize putL p (nbV c κ).1 w = p2 at *
        generalize nbV c κ = r7 at *
        simp only [srcA_eq] at c7
        simp [go_sem]
        refine ⟨_, _, c7, ?_⟩
        simp [go_sem]
        refine CallVC.of (c8) (by decide) ?_
        simp [go_sem]
        exact ⟨⟨by omega, by omega⟩, r7.2.1, r7.2.2, p2, k - 1, ⟨h7.2, by omega, fun a b hab => w9 (a, b) hab⟩, by omega, (Off.reset (by intro x hx; simp at hx ⊢; omega) (by simp) (by simp [go_sem, Off_reset])), ⟨rfl, rfl⟩, ⟨rfl, rfl⟩, by omega⟩
    · have k0 : k = 0 := by omega
      subst k0
      have hsn : ptA (f ++ [p]) (f.length + 1) = .own 92 (f.length + 1) (oprt f ++ [.own 97 p.length (omons p)]) := by
        rw [ptA_succ, List.take_of_length_le (by simp), oprt_app]; rfl
      have hdr : DrP n p := ⟨by omega, g3⟩
      rcases f with _ | ⟨q, f⟩
      · simp [go_sem, ptA_zero]
        refine ⟨ρ.1, ρ.2, [p], ⟨g1, by simp; omega, by simpa using hdr⟩, by simp; omega, (by repeat (first | exact Off_reset _ _ _ (by simp) | (refine Off.reset (by intro x hx; simp at hx ⊢; omega) (by simp) ?_; simp -failIfUnchanged [go_sem, Off_reset]))), ?_⟩
        exact ⟨⟨rfl, rfl⟩, rfl, by simp⟩
      · rw [List.length_cons] at *
        simp [go_sem, ptA_succ]
        refine ⟨⟨by omega, by omega⟩, by omega, ρ.1, ρ.2, q :: f ++ [p], ⟨g1, by simp; omega, fun t ht => ?_⟩, by simp; omega, (by repeat (first | exact Off_reset _ _ _ (by simp) | (refine Off.reset (by intro x hx; simp at hx ⊢; omega) (by simp) ?_; simp -failIfUnchanged [go_sem, Off_reset]))), ?_⟩
        · rcases List.mem_append.1 ht with ht | ht
          · exact h3 t ht
          · simp at ht; rw [ht]; exact hdr
        · have e1 : (q :: f ++ [p]).length = f.length + 1 + 1 := by simp
          rw [e1, hsn]
          exact ⟨⟨rfl, rfl⟩, rfl, by omega⟩
  · have e0 : f.length = n := by omega
    rcases f with _ | ⟨q, f⟩
    · simp at e0; omega
    · rw [List.length_cons] at *
      simp [go_sem, ptA_succ]
      exact ⟨τ.1, τ.2, h1, ⟨rfl, rfl⟩, n, by omega, by omega, q :: f, by simpa using e0, h3, rfl, e0, rfl⟩
def spr : Bool → List (List Mon) → List AV
  | true, p :: f => .own 97 p.length (mons p) :: oprt f
  | true, [] => []
  | false, f => oprt f
@[simp] theorem spr_len : ∀ (b : Bool) (f : List (List Mon)), (spr b f).length = f.length
  | true, p :: f => by simp [spr]
  | true, [] => rfl
  | false, f => by simp [spr]
@[simp] theorem spr_frz : ∀ (b : Bool) (f : List (List Mon)), frzL (spr b f) = prt f
  | true, p :: f => by simp [spr, frzL, frz, prt, mons_frz]
  | true, [] => rfl
  | false, f => by simp [spr]
def DrS (z : Int) (f : List (List Mon)) : Prop := -1 ≤ z ∧ z ≤ 4 ∧ f.length ≤ 4 ∧ ∀ p ∈ f, p.length ≤ 4 ∧ ∀ m ∈ p, m.2.length ≤ 3
theorem DrS.of {n : Nat} {f : List (List Mon)} (hn : n ≤ 3) (hl : f.length ≤ 3) (h : ∀ p ∈ f, DrP n p) {z : Int} (h1 : -1 ≤ z) (h2 : z ≤ 4) : DrS z f :=
  ⟨h1, h2, by omega, fun p hp => ⟨by have := (h p hp).1; omega, fun m hm => by have := ((h p hp).2 m hm).len; omega⟩⟩
end Go.Proofs.YtoeikpioonlmfaaGreat


namespace Go.Proofs.YtoeikpioonlmfaaGreat
open Go.Abs
set_option linter.unusedSectionVars false
set_option linter.unusedVariables false
set_option linter.unusedSimpArgs false
set_option maxHeartbeats 1000000
theorem oprt_cons (q : List Mon) (f : List (List Mon)) : oprt (q :: f) = .own 97 q.length (omons q) :: oprt f := rfl
set_option maxRecDepth 100000 in
theorem l13Spoil_r (c : List Int) (σ : Src) (hc : Byt c) (hs : SOk σ) :
    RCon Tryz.prog 89 [srcA c σ] (fun r o => ∃ (τ : Src) (z : Int) (b : Bool) (f : List (List Mon)), SOk τ ∧ o = [srcA c τ] ∧ DrS z f ∧ r = .agg [.int z, .own 92 f.length (spr b f)]) := by
  have cD := l13Draw_r c σ hc hs
  simp only [srcA_eq] at *
  refine rcon_of_vcH Tryz.mixed ⟨5, [48], [1000000 + 57, 1000000 + 157, 2000000 + 130], [2000614000117]⟩ [0] Tryz.func89 (by decide) rfl (by simp) (by simp) (by decide) ?_
  rw [Tryz.ntmps89]
  simp [go_sem]
  refine ⟨_, cD, ?_⟩
  rintro _ _ ⟨τ, n, f, h1, rfl, h2, h3, h4, h5, rfl⟩
  have c4 := l01Next_c c τ 40 hc h1
  have s4 := nx2_ok hc h1 40
  generalize nx1 c τ 40 = v at *
  generalize nx2 c τ 40 = τ1 at *
  simp only [srcA_eq] at c4
  simp [go_sem]
  refine ⟨_, _, c4, ?_⟩
  simp [go_sem]
  rcases f with _ | ⟨q, f⟩
  · simp at h4; omega
  · have hq : q.length ≤ 3 := (h5 q (by simp)).1
    by_cases v0 : v = 0
    · have c5 := l01Pick_c c τ1 [0, (n : Int) + 1, -1, 4] hc s4 (by simp) (by simp)
      have m5 := pk_mem c hc τ1 (xs := [0, (n : Int) + 1, -1, 4]) (by simp)
      have s5 := nx2_ok hc s4 4
      have e4 : (([0, (n : Int) + 1, -1, 4] : List Int).length : Int) = 4 := rfl
      rw [e4] at c5
      simp only [srcA_eq] at c5
      generalize pk c τ1 [0, (n : Int) + 1, -1, 4] = z at *
      generalize nx2 c τ1 4 = τ2 at *
      simp [go_sem, v0]
      refine ⟨⟨by omega, by omega⟩, ?_⟩
      refine ⟨_, _, c5, ?_⟩
      simp [go_sem]
      refine ⟨τ2.1, τ2.2, s5, ⟨rfl, rfl⟩, z, .inl ⟨q :: f, DrS.of h3 (by omega) h5 ?_ ?_, rfl, h4.symm, rfl⟩⟩
      all_goals (simp at m5; omega)
    · have hfs : DrS n (q :: f) := DrS.of h3 (by omega) h5 (by omega) (by omega)
      by_cases v1 : v = 1
      · have c5 := l01Pick_c c τ1 [0, 10007, 1] hc s4 (by simp) (by simp)
        have s5 := nx2_ok hc s4 3
        have e4 : (([0, 10007, 1] : List Int).length : Int) = 3 := rfl
        have c6 := l13One_c n 0 (by omega) (by omega)
        rw [e4] at c5
        simp only [srcA_eq] at c5
        generalize pk c τ1 [0, 10007, 1] = x at *
        generalize nx2 c τ1 3 = τ2 at *
        have fin : ∃ a b, SOk (a, b) ∧ ((τ2.1 : Int) = a ∧ τ2.2 = b) ∧ ∃ z, (∃ g, DrS z g ∧ (n : Int) = z ∧ n = g.length ∧ AV.own 97 (q.length + 1) (omons q ++ [AV.val (Value.int IntKind.i64 x), AV.own 2 n (avs (oneE n 0))]) :: oprt f = spr false g) ∨ ∃ g, DrS z g ∧ (n : Int) = z ∧ n = g.length ∧ AV.own 97 (q.length + 1) (omons q ++ [AV.val (Value.int IntKind.i64 x), AV.own 2 n (avs (oneE n 0))]) :: oprt f = spr true g := by
          refine ⟨τ2.1, τ2.2, s5, ⟨rfl, rfl⟩, n, .inl ⟨(q ++ [(x, oneE n 0)]) :: f, ⟨by omega, by omega, hfs.2.2.1, fun p hp => ?_⟩, rfl, h4.symm, ?_⟩⟩
          · rcases List.mem_cons.1 hp with rfl | hp
            · refine ⟨by simp; omega, fun m hm => ?_⟩
              rcases List.mem_append.1 hm with hm | hm
              · exact (hfs.2.2.2 q (by simp)).2 m hm
              · simp at hm; subst hm; simp [oneE]; omega
            · exact hfs.2.2.2 p (by simp [hp])
          · have e1 : ((oneE n 0).length : Nat) = n := by simp [oneE]
            rw [spr, oprt_cons, omons_app]
            simp [omons_cons, e1]
        simp [go_sem, v0, v1]
        rw [DrawVC4_app]
        refine ⟨fun i => if i = 8 then [.n 0 .any, .n 27 .any, .n 0 (.box 147 [.sl c.length (bys c), .int τ2.1, .val (.int .u64 τ2.2)]), .n 27 .any, .w 28 (.int x)] else [.w 31 (.own 2 n (avs (oneE n 0)))], by kernel_rfl, ?_, ?_, ?_⟩
        · simp [go_sem, oprt_cons]
          refine ⟨by omega, ?_⟩
          refine ⟨_, _, c5, ?_⟩
          simp [go_sem]
          refine CallD.of (c6) (by simp [roots, rootsL]) (by decide) ?_
          simp [go_sem]
          refine ⟨⟨by omega, by omega⟩, by omega, by kernel_rfl, ?_⟩
          exact fin
        · simp [go_sem, oprt_cons]
          refine ⟨by omega, ?_⟩
          refine ⟨_, _, c5, ?_⟩
          simp [go_sem]
          refine CallD.of (c6) (by simp [roots, rootsL]) (by decide) ?_
          simp [go_sem]
          refine ⟨⟨by omega, by omega⟩, by omega, by kernel_rfl, ?_⟩
          exact fin
        · simp [go_sem, oprt_cons]
          refine ⟨by omega, ?_⟩
          refine ⟨_, _, c5, ?_⟩
          simp [go_sem]
          refine CallD.of (c6) (by simp [roots, rootsL]) (by decide) ?_
          simp [go_sem]
          refine ⟨⟨by omega, by omega⟩, by omega, by kernel_rfl, ?_⟩
          exact fin
      · by_cases v2 : v = 2
        · have c5 := l01Pick_c c τ1 [4, -1, 1099511627776] hc s4 (by simp) (by simp)
          have s5 := nx2_ok hc s4 3
          have e4 : (([4, -1, 1099511627776] : List Int).length : Int) = 3 := rfl
          rw [e4] at c5
          simp only [srcA_eq] at c5
          generalize pk c τ1 [4, -1, 1099511627776] = x at *
          generalize nx2 c τ1 3 = τ2 at *
          simp [go_sem, v0, v1, v2]
          refine ⟨⟨by omega, by omega⟩, ?_⟩
          refine ⟨_, _, c5, ?_⟩
          simp [go_sem]
          refine ⟨by omega, τ2.1, τ2.2, s5, ⟨rfl, rfl⟩, n, .inr ⟨[(1, (List.replicate n 0).set 0 x)] :: f, ⟨by omega, by omega, hfs.2.2.1, fun p hp => ?_⟩, rfl, h4.symm, ?_⟩⟩
          · rcases List.mem_cons.1 hp with rfl | hp
            · exact ⟨by simp, by simp; omega⟩
            · exact hfs.2.2.2 p (by simp [hp])
          · have e1 : avs ((List.replicate n 0).set 0 x) = (List.replicate n (AV.val (.int .i64 0))).set 0 (.val (.int .i64 x)) := by rw [← avs_set, avs_repl]
            have e2 := avs_frz ((List.replicate n 0).set 0 x)
            rw [e1] at e2
            rw [e2, ← e1]
            simp [spr, oprt, mons_cons]
        · by_cases v3 : v = 3
          · simp [go_sem, v0, v1, v2, v3]
            refine ⟨⟨by simpa using h4, by omega, by omega⟩, τ1.1, τ1.2, s4, ⟨rfl, rfl⟩, n, .inl ⟨q :: f ++ [[]], ⟨by omega, by omega, by simp at h4 ⊢; omega, fun p hp => ?_⟩, rfl, by simp at h4 ⊢; omega, ?_⟩⟩
            · rcases List.mem_append.1 hp with hp | hp
              · exact hfs.2.2.2 p hp
              · simp at hp; subst hp; exact ⟨by simp, by simp⟩
            · rw [spr, oprt_app]; rfl
          · simp [go_sem, v0, v1, v2, v3]
            exact ⟨τ1.1, τ1.2, s4, ⟨rfl, rfl⟩, n, .inl ⟨q :: f, hfs, rfl, h4.symm, rfl⟩⟩
theorem RCon.fz {P : Program} {f : FuncId} {args : List AV} {R : AV → List AV → Prop} (h : RCon P f args R) : RCon P f args (fun r o => ∃ r0, R r0 o ∧ r = frz r0) := by
  refine ⟨h.1, fun w vs os F0 hl hn ho hF hr => (h.2 w vs os F0 hl hn ho hF hr).mono ?_⟩
  rintro e w' ⟨r, o, hR, v, orr, oo, F', k1, k2, k3, k4, k5, k6, k7, k8, k9⟩
  refine ⟨frz r, o, ⟨r, hR, rfl⟩, v, [], oo, fun b => F' b ∨ b ∈ orr, k1, k2, fun b hb => .inl (k3 b hb), fun b hb => hb.elim (k4 b) (fun hb => .inr ⟨(k9 b (.inl hb)).1, (k9 b (.inl hb)).2.1⟩), fun tm oss => (k5 tm oss).frz (fun b h => .inl h) (fun b h => .inr h), fun tm oss => ?_, k7, ?_, fun b hb => ?_⟩
  · have := RepTL.kl (w' := w') (F' := fun b => F' b ∨ b ∈ orr) (tm' := tm) (oss' := oss) [] (fun b hb => .inl hb) (fun _ _ _ _ h => h) (k6 tm oss) (fun _ _ => rfl)
    rwa [klL_nil] at this
  · simpa using (List.nodup_append.1 k8).2.1
  · rcases hb with hb | hb
    · simp at hb
    · obtain ⟨j1, j2, j3⟩ := k9 b (.inr hb)
      exact ⟨j1, j2, fun hf => hf.elim j3 (fun hf => (List.nodup_append.1 k8).2.2 b hf b hb rfl)⟩
theorem l13Spoil_f (c : List Int) (σ : Src) (hc : Byt c) (hs : SOk σ) :
    RCon Tryz.prog 89 [srcA c σ] (fun r o => ∃ (τ : Src) (z : Int) (f : List (List Mon)), SOk τ ∧ o = [srcA c τ] ∧ DrS z f ∧ r = .agg [.int z, .sl f.length (prt f)]) := by
  refine (RCon.fz (l13Spoil_r c σ hc hs)).mono ?_
  rintro r o ⟨_, ⟨τ, z, b, f, h1, h2, h3, rfl⟩, rfl⟩
  refine ⟨τ, z, f, h1, h2, h3, ?_⟩
  simp [frz, frzL]
end Go.Proofs.YtoeikpioonlmfaaGreat


namespace Go.Proofs.YtoeikpioonlmfaaGreat
open Go.Abs
set_option linter.unusedSectionVars false
set_option linter.unusedVariables false
set_option linter.unusedSimpArgs false
set_option maxHeartbeats 4000000
theorem l13Draw_f (c : List Int) (σ : Src) (hc : Byt c) (hs : SOk σ) :
    RCon Tryz.prog 130 [srcA c σ] (fun r o => ∃ (τ : Src) (n : Nat) (f : List (List Mon)), SOk τ ∧ o = [srcA c τ] ∧ 1 ≤ n ∧ n ≤ 3 ∧ f.length = n ∧ (∀ p ∈ f, DrP n p) ∧ r = .agg [.int n, .sl n (prt f)]) := by
  refine (RCon.fz (l13Draw_r c σ hc hs)).mono ?_
  rintro r o ⟨_, ⟨τ, n, f, h1, h2, h3, h4, h5, h6, rfl⟩, rfl⟩
  refine ⟨τ, n, f, h1, h2, h3, h4, h5, h6, ?_⟩
  simp [frz, frzL]
set_option maxRecDepth 100000 in
theorem l13Two_r (c : List Int) (hc : Byt c) :
    RCon Tryz.prog 54 [.sl c.length (bys c)] (fun r o => o = [.any] ∧ ∃ (z : Int) (f : List (List Mon)) (n : Nat) (g : List (List Mon)), DrS z f ∧ 1 ≤ n ∧ n ≤ 3 ∧ g.length = n ∧ (∀ p ∈ g, DrP n p) ∧
      r = .tup [.agg [.int z, .sl f.length (prt f)], .agg [.int n, .sl n (prt g)]]) := by
  have c0 := l01From_r c hc
  refine rcon_of_vcH Tryz.mixed ⟨8, [], [2000000 + 55, 2000000 + 89, 2000000 + 130], []⟩ [] Tryz.func54 (by decide) rfl (by simp) (by simp) (by decide) ?_
  rw [Tryz.ntmps54]
  simp [go_sem]
  refine ⟨_, c0, ?_⟩
  rintro _ _ ⟨rfl, h, rfl⟩
  have c1 := l13Spoil_f c (0, h) hc (by unfold SOk; simp)
  simp only [srcA_eq] at *
  simp [go_sem]
  refine ⟨_, c1, ?_⟩
  rintro _ _ ⟨τ, z, f, h1, rfl, hf, rfl⟩
  have c2 := l13Draw_f c τ hc h1
  simp only [srcA_eq] at *
  simp [go_sem]
  refine ⟨_, c2, ?_⟩
  rintro _ _ ⟨τ1, n, g, h2, rfl, n1, n2, hg, hgp, rfl⟩
  simp [go_sem]
  refine loop_inv ([4, 6, 7] ++ List.range' 14 13) (fun x : Src × List (List Mon) × Nat => [(4, .box 147 [.sl c.length (bys c), .int x.1.1, .val (.int .u64 x.1.2)]), (6, .box 26 [.int x.2.1.length, .sl x.2.1.length (prt x.2.1)]), (7, .int x.2.2)])
    (fun x => SOk x.1 ∧ (1 ≤ x.2.1.length ∧ x.2.1.length ≤ 3 ∧ ∀ p ∈ x.2.1, DrP x.2.1.length p) ∧ x.2.2 ≤ 8) (fun x => 8 - x.2.2) (τ1, g, 0) ⟨h2, by rw [hg]; exact ⟨n1, n2, hgp⟩, by simp⟩ (by simp [go_sem, hg]) (by simp [go_sem]) ?_
  rintro ⟨σ, q, k⟩ ⟨s1, s2, s3⟩
  simp only at s1 s2 s3
  have fin : True := trivial
  by_cases hk : k < 8
  · have hki : (k : Int) < 8 := by omega
    by_cases hz : (q.length : Int) = z
    · simp [go_sem, hki, hz]
      refine ⟨by kernel_rfl, ?_⟩
      refine ⟨by kernel_rfl, ?_⟩
      simp [go_sem]
      exact ⟨z, f, hf, q.length, s2.1, s2.2.1, q, rfl, s2.2.2, by simp; exact hz.symm⟩
    · have c3 := l13Draw_f c σ hc s1
      simp only [srcA_eq] at c3
      simp [go_sem, hki, hz]
      refine ⟨_, c3, ?_⟩
      rintro _ _ ⟨τ2, n3, g3, h3, rfl, m1, m2, hg3, hgp3, rfl⟩
      simp [go_sem]
      exact ⟨⟨by omega, by omega⟩, τ2.1, τ2.2, g3, k + 1, ⟨h3, by rw [hg3]; exact ⟨m1, m2, hgp3⟩, by omega⟩, by omega, (by repeat (first | exact Off_reset _ _ _ (by simp) | (refine Off.reset (by intro x hx; simp at hx ⊢; omega) (by simp) ?_; simp -failIfUnchanged [go_sem, Off_reset]))), ⟨rfl, rfl⟩, by simp [hg3], by omega⟩
  · have hki : ¬ (k : Int) < 8 := by omega
    simp [go_sem, hki]
    refine ⟨by kernel_rfl, ?_⟩
    refine ⟨by kernel_rfl, ?_⟩
    simp [go_sem]
    exact ⟨z, f, hf, q.length, s2.1, s2.2.1, q, rfl, s2.2.2, by simp⟩
end Go.Proofs.YtoeikpioonlmfaaGreat


namespace Go.Proofs.YtoeikpioonlmfaaGreat
set_option linter.unusedSectionVars false
set_option linter.unusedVariables false
set_option linter.unusedSimpArgs false
set_option maxHeartbeats 1000000
abbrev Mx := Nat → Nat → Int
def sgd (i : Nat) : Int := if i % 2 = 0 then 1 else -1
theorem sgd_succ (i : Nat) : sgd (i + 1) = - sgd i := by
  unfold sgd
  by_cases h : i % 2 = 0
  · rw [if_pos h, if_neg (by omega)]
  · rw [if_neg h, if_pos (by omega)]; rfl
def dsum (f : Nat → Int) : Nat → Int
  | 0 => 0
  | n + 1 => dsum f n + f n
theorem dsum_congr {f g : Nat → Int} : ∀ {n : Nat}, (∀ i, i < n → f i = g i) → dsum f n = dsum g n
  | 0, _ => rfl
  | n + 1, h => by rw [dsum, dsum, dsum_congr (fun i hi => h i (by omega)), h n (by omega)]
theorem dsum_lin (f g : Nat → Int) (k : Int) : ∀ n : Nat, dsum (fun i => f i + k * g i) n = dsum f n + k * dsum g n
  | 0 => by simp [dsum]
  | n + 1 => by rw [dsum, dsum, dsum, dsum_lin f g k n, Int.mul_add]; omega
theorem dsum_zero {f : Nat → Int} : ∀ {n : Nat}, (∀ i, i < n → f i = 0) → dsum f n = 0
  | 0, _ => rfl
  | n + 1, h => by rw [dsum, dsum_zero (fun i hi => h i (by omega)), h n (by omega)]; rfl
theorem dsum_one {f : Nat → Int} {k : Nat} : ∀ {n : Nat}, k < n → (∀ i, i < n → i ≠ k → f i = 0) → dsum f n = f k
  | 0, h, _ => by omega
  | n + 1, h, hz => by
    rw [dsum]
    by_cases e : k = n
    · subst e
      rw [dsum_zero (fun i hi => hz i (by omega) (by omega)), Int.zero_add]
    · rw [dsum_one (n := n) (by omega) (fun i hi hne => hz i (by omega) hne), hz n (by omega) (by omega), Int.add_zero]
theorem dsum_two {f : Nat → Int} {k : Nat} : ∀ {n : Nat}, k + 1 < n → (∀ i, i < n → i ≠ k → i ≠ k + 1 → f i = 0) → dsum f n = f k + f (k + 1)
  | 0, h, _ => by omega
  | n + 1, h, hz => by
    rw [dsum]
    by_cases e : k + 1 = n
    · subst e
      rw [dsum_one (k := k) (by omega) (fun i hi hne => hz i (by omega) hne (by omega))]
    · rw [dsum_two (n := n) (by omega) (fun i hi h1 h2 => hz i (by omega) h1 h2), hz n (by omega) (by omega) (by omega), Int.add_zero]
def mnr (M : Mx) (i : Nat) : Mx := fun r c => M (if r < i then r else r + 1) (c + 1)
def det : Nat → Mx → Int
  | 0, _ => 1
  | n + 1, M => dsum (fun i => sgd i * M i 0 * det n (mnr M i)) (n + 1)
def updR (M : Mx) (i : Nat) (w : Nat → Int) : Mx := fun r => if r = i then w else M r
theorem updR_self (M : Mx) (i : Nat) : updR M i (M i) = M := funext fun r => by
  unfold updR; split
  · rename_i h; rw [h]
  · rfl
theorem updR_at (M : Mx) (i : Nat) (w : Nat → Int) : updR M i w i = w := by simp [updR]
theorem updR_ne (M : Mx) {i r : Nat} (w : Nat → Int) (h : r ≠ i) : updR M i w r = M r := by simp [updR, h]
theorem updR_comm (M : Mx) {i j : Nat} (h : i ≠ j) (v w : Nat → Int) : updR (updR M i v) j w = updR (updR M j w) i v := funext fun r => by
  unfold updR
  by_cases h1 : r = i
  · subst h1; rw [if_neg h, if_pos rfl, if_pos rfl]
  · rw [if_neg h1, if_neg h1]
theorem mnr_self (M : Mx) (i : Nat) (w : Nat → Int) : mnr (updR M i w) i = mnr M i := funext fun r => funext fun c => by
  unfold mnr updR
  rw [if_neg (by split <;> omega)]
theorem mnr_ne (M : Mx) {i j : Nat} (w : Nat → Int) (h : j ≠ i) : mnr (updR M i w) j = updR (mnr M j) (if i < j then i else i - 1) (fun c => w (c + 1)) := funext fun r => funext fun c => by
  unfold mnr updR
  by_cases h1 : (if r < j then r else r + 1) = i
  · have h2 : r = if i < j then i else i - 1 := by
      split at h1 <;> split <;> omega
    rw [if_pos h1, if_pos h2]
  · have h2 : ¬ r = if i < j then i else i - 1 := by
      split at h1 <;> split <;> omega
    rw [if_neg h1, if_neg h2]
theorem det_cong {p : Int} : ∀ {n : Nat} {M N : Mx}, (∀ r c, r < n → c < n → M r c % p = N r c % p) → det n M % p = det n N % p
  | 0, _, _, _ => rfl
  | n + 1, M, N, h => by
    rw [det, det]
    have gen : ∀ m : Nat, m ≤ n + 1 → dsum (fun i => sgd i * M i 0 * det n (mnr M i)) m % p = dsum (fun i => sgd i * N i 0 * det n (mnr N i)) m % p := by
      intro m
      induction m with
      | zero => intro _; rfl
      | succ m ih =>
        intro hm
        rw [dsum, dsum, Int.add_emod, ih (by omega), Int.add_emod (dsum (fun i => sgd i * N i 0 * det n (mnr N i)) m)]
        have e1 := h m 0 (by omega) (by omega)
        have e2 := det_cong (p := p) (n := n) (M := mnr M m) (N := mnr N m) (fun r c hr hc => h _ _ (by split <;> omega) (by omega))
        have e3 : (sgd m * M m 0 * det n (mnr M m)) % p = (sgd m * N m 0 * det n (mnr N m)) % p := by
          rw [Int.mul_emod, Int.mul_emod (sgd m), e1, e2, ← Int.mul_emod (sgd m), ← Int.mul_emod]
        rw [e3]
    exact gen _ (Nat.le_refl _)
theorem det_lin : ∀ {n : Nat} (M : Mx) {i : Nat} (u v : Nat → Int) (k : Int), i < n → det n (updR M i (fun c => u c + k * v c)) = det n (updR M i u) + k * det n (updR M i v)
  | 0, _, _, _, _, _, h => by omega
  | n + 1, M, i, u, v, k, h => by
    rw [det, det, det, ← dsum_lin]
    refine dsum_congr fun j hj => ?_
    by_cases e : j = i
    · subst e
      simp only [mnr_self, updR_at]
      generalize det n (mnr M j) = d
      rw [Int.mul_add, Int.add_mul]
      congr 1
      ac_rfl
    · simp only [mnr_ne M _ e, updR_ne M _ e]
      rw [det_lin (n := n) (mnr M j) (fun c => u (c + 1)) (fun c => v (c + 1)) k (by split <;> omega), Int.mul_add]
      congr 1
      ac_rfl
theorem det_adj : ∀ {n : Nat} (M : Mx) {i : Nat}, i + 1 < n → M i = M (i + 1) → det n M = 0
  | 0, _, _, h, _ => by omega
  | n + 1, M, i, h, he => by
    rw [det, dsum_two (k := i) h]
    · have hm : mnr M (i + 1) = mnr M i := funext fun r => funext fun c => by
        unfold mnr
        by_cases h1 : r < i
        · rw [if_pos (by omega), if_pos h1]
        · by_cases h2 : r = i
          · subst h2; rw [if_pos (by omega), if_neg (by omega), he]
          · rw [if_neg (by omega), if_neg (by omega)]
      rw [hm, ← he, sgd_succ, Int.neg_mul, Int.neg_mul]
      omega
    · intro j hj h1 h2
      have hz : det n (mnr M j) = 0 := by
        by_cases hlt : i < j
        · refine det_adj (mnr M j) (i := i) (by omega) (funext fun c => ?_)
          unfold mnr
          rw [if_pos hlt, if_pos (by omega), he]
        · obtain ⟨i', rfl⟩ : ∃ i', i = i' + 1 := ⟨i - 1, by omega⟩
          refine det_adj (mnr M j) (i := i') (by omega) (funext fun c => ?_)
          unfold mnr
          rw [if_neg (by omega), if_neg (by omega), he]
      rw [hz, Int.mul_zero]
theorem det_swap1 {n : Nat} (M : Mx) {i : Nat} (h : i + 1 < n) (u v : Nat → Int) : det n (updR (updR M i u) (i + 1) v) = - det n (updR (updR M i v) (i + 1) u) := by
  have hne : i ≠ i + 1 := by omega
  have z := fun w : Nat → Int => det_adj (n := n) (updR (updR M i w) (i + 1) w) h (by rw [updR_at, updR_ne _ _ hne, updR_at])
  have s := z (fun c => u c + 1 * v c)
  rw [det_lin _ u v 1 h, updR_comm _ hne, updR_comm _ hne, det_lin _ u v 1 (by omega), det_lin _ u v 1 (by omega)] at s
  have zu := z u
  have zv := z v
  rw [updR_comm _ hne] at zu zv
  rw [updR_comm _ hne, updR_comm (M) hne v u]
  omega
theorem det_eq : ∀ {n : Nat} (k : Nat) (M : Mx) {i : Nat}, i + k + 1 < n → M i = M (i + k + 1) → det n M = 0
  | n, 0, M, i, h, he => det_adj M h he
  | n, k + 1, M, i, h, he => by
    have hne : i + k + 1 ≠ i + (k + 1) + 1 := by omega
    have e0 : M = updR (updR M (i + k + 1) (M (i + k + 1))) (i + k + 1 + 1) (M (i + k + 1 + 1)) := by rw [updR_self, updR_self]
    rw [e0, det_swap1 M (i := i + k + 1) (by omega)]
    have := det_eq k (updR (updR M (i + k + 1) (M (i + k + 1 + 1))) (i + k + 1 + 1) (M (i + k + 1))) (i := i) (n := n) (by omega) (by
      rw [updR_ne _ _ (show i ≠ i + k + 1 + 1 by omega), updR_ne _ _ (show i ≠ i + k + 1 by omega), updR_ne _ _ (show i + k + 1 ≠ i + k + 1 + 1 by omega), updR_at]
      exact he)
    rw [this]; rfl
theorem det_same {n : Nat} (M : Mx) {i j : Nat} (hi : i < n) (hj : j < n) (hne : i ≠ j) (he : M i = M j) : det n M = 0 := by
  by_cases h : i < j
  · have e : j = i + (j - i - 1) + 1 := by omega
    rw [e] at he
    exact det_eq (j - i - 1) M (by omega) he
  · have e : i = j + (i - j - 1) + 1 := by omega
    rw [e] at he
    exact det_eq (i - j - 1) M (by omega) he.symm
theorem det_nil {n : Nat} (M : Mx) {i : Nat} (hi : i < n) (hz : ∀ c, M i c = 0) : det n M = 0 := by
  have := det_lin M (M i) (M i) 1 hi
  have e : (fun c => M i c + 1 * M i c) = M i := funext fun c => by rw [hz c]; rfl
  rw [e, updR_self] at this
  omega
theorem det_swap {n : Nat} (M : Mx) {i j : Nat} (hi : i < n) (hj : j < n) (hne : i ≠ j) (u v : Nat → Int) : det n (updR (updR M i u) j v) = - det n (updR (updR M i v) j u) := by
  have z := fun w : Nat → Int => det_same (n := n) (updR (updR M i w) j w) hi hj hne (by rw [updR_at, updR_ne _ _ hne, updR_at])
  have s := z (fun c => u c + 1 * v c)
  rw [det_lin _ u v 1 hj, updR_comm _ hne, updR_comm _ hne, det_lin _ u v 1 hi, det_lin _ u v 1 hi] at s
  have zu := z u
  have zv := z v
  rw [updR_comm _ hne] at zu zv
  rw [updR_comm _ hne, updR_comm (M) hne v u]
  omega
def idM : Mx := fun r c => if r = c then 1 else 0
theorem mnr_id : mnr idM 0 = idM := funext fun r => funext fun c => by simp [mnr, idM]
theorem det_one : ∀ n : Nat, det n idM = 1
  | 0 => rfl
  | n + 1 => by
    rw [det, dsum_one (k := 0) (by omega) (fun i hi hne => by simp [idM, hne]), mnr_id, det_one n]
    simp [sgd, idM]
def updC (M : Mx) (k : Nat) (b : Nat → Int) : Mx := fun r c => if c = k then b r else M r c
theorem det_col : ∀ {n k : Nat} (b : Nat → Int), k < n → det n (updC idM k b) = b k
  | 0, _, _, h => by omega
  | n + 1, 0, b, _ => by
    rw [det, dsum_one (k := 0) (by omega)]
    · have e : mnr (updC idM 0 b) 0 = idM := funext fun r => funext fun c => by simp [mnr, updC, idM]
      rw [e, det_one]
      simp [sgd, updC]
    · intro i hi hne
      rw [det_nil (mnr (updC idM 0 b) i) (i := 0) (by omega) (fun c => by
        have : (0 : Nat) < i := by omega
        simp [mnr, updC, idM, this]), Int.mul_zero]
  | n + 1, k + 1, b, h => by
    rw [det, dsum_one (k := 0) (by omega)]
    · have e : mnr (updC idM (k + 1) b) 0 = updC idM k (fun r => b (r + 1)) := funext fun r => funext fun c => by simp [mnr, updC, idM]
      rw [e, det_col _ (by omega)]
      simp [sgd, updC, idM]
    · intro i hi hne
      have : updC idM (k + 1) b i 0 = 0 := by simp [updC, idM, hne]
      rw [this]; simp
end Go.Proofs.YtoeikpioonlmfaaGreat


namespace Go.Proofs.YtoeikpioonlmfaaGreat
set_option linter.unusedSectionVars false
set_option linter.unusedVariables false
set_option linter.unusedSimpArgs false
set_option maxHeartbeats 1000000
end Go.Proofs.YtoeikpioonlmfaaGreat


namespace Go.Proofs.YtoeikpioonlmfaaGreat
set_option linter.unusedSectionVars false
set_option linter.unusedVariables false
set_option linter.unusedSimpArgs false
set_option maxHeartbeats 1000000
def sel (W : Mx) (g : Nat → Nat) : Mx := fun r c => W r (g c)
theorem sel_upd (W : Mx) (i : Nat) (w : Nat → Int) (g : Nat → Nat) : sel (updR W i w) g = updR (sel W g) i (fun c => w (g c)) := funext fun r => funext fun c => by
  unfold sel updR; split <;> rfl
def RowEq (n w : Nat) (W W' : Mx) : Prop := ∃ s t : Int, s * t % 10007 = 1 ∧ ∀ g : Nat → Nat, (∀ c, c < n → g c < w) → det n (sel W g) * s % 10007 = det n (sel W' g) % 10007
theorem RowEq.refl (n w : Nat) (W : Mx) : RowEq n w W W := ⟨1, 1, rfl, fun g hg => by rw [Int.mul_one]⟩
theorem mul_mod_l (a b : Int) : a % 10007 * b % 10007 = a * b % 10007 := by rw [Int.mul_emod, Int.emod_emod_of_dvd _ (Int.dvd_refl _), ← Int.mul_emod]
theorem RowEq.trans {n w : Nat} {W X Y : Mx} (h : RowEq n w W X) (k : RowEq n w X Y) : RowEq n w W Y := by
  obtain ⟨s, t, h1, h2⟩ := h
  obtain ⟨s', t', k1, k2⟩ := k
  refine ⟨s * s', t * t', ?_, fun g hg => ?_⟩
  · have e : s * s' * (t * t') = (s * t) * (s' * t') := by ac_rfl
    rw [e, Int.mul_emod, h1, k1]; rfl
  · rw [← k2 g hg, ← Int.mul_assoc, ← mul_mod_l, h2 g hg, mul_mod_l]
theorem RowEq.swap {n w : Nat} (W : Mx) {i j : Nat} (hi : i < n) (hj : j < n) (hne : i ≠ j) : RowEq n w W (updR (updR W i (W j)) j (W i)) :=
  ⟨-1, -1, rfl, fun g hg => by
    rw [sel_upd, sel_upd]
    have e : sel W g = updR (updR (sel W g) i (fun c => W i (g c))) j (fun c => W j (g c)) := by
      have e1 : (fun c => W i (g c)) = sel W g i := rfl
      have e2 : (fun c => W j (g c)) = sel W g j := rfl
      rw [e1, e2, updR_self, updR_self]
    have h := det_swap (sel W g) hi hj hne (fun c => W j (g c)) (fun c => W i (g c))
    rw [h, ← e]
    congr 1
    omega⟩
theorem RowEq.full {n : Nat} {W W' : Mx} (h : RowEq n (n + 1) W W') (hid : ∀ r c, r < n → c < n → W' r c % 10007 = idM r c % 10007) :
    ∃ s : Int, det n W * s % 10007 = 1 ∧ ∀ k, k < n → W' k n % 10007 = det n (updC W k (fun r => W r n)) * s % 10007 := by
  obtain ⟨s, t, h1, h2⟩ := h
  refine ⟨s, ?_, fun k hk => ?_⟩
  · have := h2 id (fun c hc => by show c < n + 1; omega)
    have e : ∀ X : Mx, sel X id = X := fun X => rfl
    rw [e, e, det_cong (p := 10007) (N := idM) hid, det_one] at this
    exact this
  · have := h2 (fun c => if c = k then n else c) (fun c hc => by show (if c = k then n else c) < n + 1; split <;> omega)
    have e : sel W (fun c => if c = k then n else c) = updC W k (fun r => W r n) := funext fun r => funext fun c => by
      by_cases hc : c = k
      · simp [sel, updC, hc]
      · simp [sel, updC, hc]
    rw [e] at this
    rw [this, det_cong (p := 10007) (N := updC idM k (fun r => W' r n)), det_col _ hk]
    intro r c hr hc
    by_cases hck : c = k
    · simp [sel, updC, hck]
    · simp [sel, updC, hck]; exact hid r c hr hc
end Go.Proofs.YtoeikpioonlmfaaGreat


namespace Go.Proofs.YtoeikpioonlmfaaGreat
open Go.Abs
set_option linter.unusedSectionVars false
set_option linter.unusedVariables false
set_option linter.unusedSimpArgs false
set_option maxHeartbeats 1000000
def Rws (w : Nat) (m : List (List Int)) : Prop := ∀ r ∈ m, r.length = w ∧ Ns r
theorem Rws.at {w : Nat} {m : List (List Int)} (h : Rws w m) {i : Nat} (hi : i < m.length) : (m[i]?.getD []).length = w ∧ Ns (m[i]?.getD []) := h _ (by simp [hi])
theorem Rws.set {w : Nat} {m : List (List Int)} (h : Rws w m) {i : Nat} {r : List Int} (hr : r.length = w ∧ Ns r) : Rws w (m.set i r) := fun x hx => by
  rcases List.mem_or_eq_of_mem_set hx with hx | rfl
  · exact h x hx
  · exact hr
end Go.Proofs.YtoeikpioonlmfaaGreat


namespace Go.Proofs.YtoeikpioonlmfaaGreat
open Go.Abs
set_option linter.unusedSectionVars false
set_option linter.unusedVariables false
set_option linter.unusedSimpArgs false
set_option maxHeartbeats 1000000
@[go_sem] theorem klW_bor (W : List Nat) (s : Nat) (p : List Nat) : kl W (.bor s p) = if W.contains s then .any else .bor s p := by rw [kl]
@[go_sem] theorem klW_ptr (W : List Nat) (s : Nat) (p : List Nat) (o : Nat) : kl W (.ptr s p o) = if W.contains s then .any else .ptr s p o := by rw [kl]
theorem evL_N (y : List Int) (f : List (List Mon)) : Ns (evL y f) := by
  intro x hx
  obtain ⟨p, _, rfl⟩ := List.mem_map.1 hx
  exact isN_mod _
theorem omat_get {A : List (List Int)} {k : Nat} (h : k < A.length) : (omat A)[k]? = some (.own 2 (A[k]?.getD []).length (avs (A[k]?.getD []))) := by simp [omat, h]
end Go.Proofs.YtoeikpioonlmfaaGreat


namespace Go.Proofs.YtoeikpioonlmfaaGreat
open Go.Abs
set_option linter.unusedSectionVars false
set_option linter.unusedVariables false
set_option linter.unusedSimpArgs false
set_option maxHeartbeats 4000000
set_option maxRecDepth 100000 in
theorem l01Square_r (c : List Int) (σ : Src) (n m : Nat) (hc : Byt c) (hs : SOk σ) (hn : n ≤ 100) (hm : m ≤ 100) :
    RCon Tryz.prog 59 [srcA c σ, .int n, .int m] (fun r o => ∃ (τ : Src) (A : List (List Int)), SOk τ ∧ o = [srcA c τ, .any, .any] ∧ A.length = n ∧ Rws m A ∧ r = .own 35 n (omat A)) := by
  simp only [srcA_eq] at *
  refine rcon_of_vcH Tryz.mixed ⟨10, [], [1000000 + 133, 1000000 + 57], []⟩ [0] Tryz.func59 (by decide) rfl (by simp) (by simp) (by decide) ?_
  rw [Tryz.ntmps59]
  simp [go_sem]
  refine loop_inv ([0, 7, 8, 9] ++ List.range' 11 25) (fun x : Src × List (List Int) => [(0, .box 147 [.sl c.length (bys c), .int x.1.1, .val (.int .u64 x.1.2)]), (7, .own 35 x.2.length (omat x.2)), (8, .int x.2.length)])
    (fun x => SOk x.1 ∧ x.2.length ≤ n ∧ Rws m x.2) (fun x => n - x.2.length) (σ, []) ⟨hs, by simp, fun r hr => by simp at hr⟩ (by simp [go_sem, omat]) (by simp [go_sem]) ?_
  rintro ⟨ρ, A⟩ ⟨h1, h2, h3⟩
  simp only at h1 h2 h3
  by_cases hA : A.length < n
  · have hAi : (A.length : Int) < n := by omega
    have c7 := l01List_c c ρ m hc h1 (by omega)
    have L7 := lsV_ok (f := nbV c) (fun σ h => nbV_ok hc h) m ρ h1
    generalize lsV (nbV c) m ρ = r7 at *
    obtain ⟨row, κ⟩ := r7
    simp only at L7 c7
    obtain ⟨l7, n7, s7⟩ := L7
    have c5 := l01Next_c c κ 5 hc s7
    have s5 := nx2_ok hc s7 5
    generalize nx1 c κ 5 = u at *
    generalize nx2 c κ 5 = κ1 at *
    simp only [srcA_eq] at c7 c5
    have snoc : ∀ r : List Int, r.length = m → omat (A ++ [r]) = omat A ++ [.own 2 m (avs r)] := fun r hr => by simp [omat, hr]
    have rws : ∀ r : List Int, r.length = m → Ns r → Rws m (A ++ [r]) := fun r hr hN x hx => by
      rcases List.mem_append.1 hx with hx | hx
      · exact h3 x hx
      · simp at hx; subst hx; exact ⟨hr, hN⟩
    by_cases h0 : 0 < A.length
    · have h0i : (0 : Int) < A.length := by omega
      simp [go_sem, hAi]
      refine ⟨_, _, c7, ?_⟩
      simp [go_sem]
      simp [go_sem, h0, h0i]
      refine ⟨_, _, c5, ?_⟩
      simp [go_sem]
      have hk : A.length - 1 < A.length := by omega
      have hc1 : (A.length : Int) - 1 = ((A.length - 1 : Nat) : Int) := by omega
      have hg := omat_get (A := A) (k := A.length - 1) hk
      have rA := h3.at hk
      have cO := l01Own_c (A[A.length - 1]?.getD []) (by omega)
      by_cases u0 : u = 0
      · simp [go_sem, u0, hc1, hg]
        refine ⟨by omega, hk, ?_⟩
        generalize A[A.length - 1]?.getD [] = last at *
        refine CallVC.of (cO) (by decide) ?_
        simp [go_sem]
        have sn := snoc last rA.1
        rw [← rA.1] at sn
        exact ⟨⟨by omega, by omega⟩, ⟨by omega, by omega⟩, κ1.1, κ1.2, A ++ [last], ⟨s5, by simp; omega, rws last rA.1 rA.2⟩, by simp; omega, (by repeat (first | exact Off_reset _ _ _ (by simp) | (refine Off.reset (by intro x hx; simp at hx ⊢; omega) (by simp) ?_; simp -failIfUnchanged [go_sem, Off_reset]))), ⟨rfl, rfl⟩, by rw [sn]; simp, by simp⟩
      · simp [go_sem, u0]
        exact ⟨⟨by omega, by omega⟩, ⟨by omega, by omega⟩, κ1.1, κ1.2, A ++ [row], ⟨s5, by simp; omega, rws row l7 n7⟩, by simp; omega, (by repeat (first | exact Off_reset _ _ _ (by simp) | (refine Off.reset (by intro x hx; simp at hx ⊢; omega) (by simp) ?_; simp -failIfUnchanged [go_sem, Off_reset]))), ⟨rfl, rfl⟩, by rw [snoc row l7]; simp, by simp⟩
    · have e0 : A = [] := List.eq_nil_of_length_eq_zero (by omega)
      subst e0
      have hA0 : 0 < n := by simpa using hA
      simp [go_sem, hAi, hA0]
      refine ⟨_, _, c7, ?_⟩
      simp [go_sem]
      have sn := snoc row l7
      have rs := rws row l7 n7
      simp only [List.nil_append] at sn rs
      exact ⟨κ.1, κ.2, [row], ⟨s7, by simp; omega, rs⟩, by simp; omega, (by repeat (first | exact Off_reset _ _ _ (by simp) | (refine Off.reset (by intro x hx; simp at hx ⊢; omega) (by simp) ?_; simp -failIfUnchanged [go_sem, Off_reset]))), ⟨rfl, rfl⟩, by rw [sn]; exact ⟨rfl, rfl⟩, by simp⟩
  · have hAi : ¬ (A.length : Int) < n := by omega
    simp [go_sem, hAi]
    exact ⟨ρ.1, ρ.2, h1, ⟨rfl, rfl⟩, A, by omega, h3, by omega, rfl⟩
end Go.Proofs.YtoeikpioonlmfaaGreat


namespace Go.Proofs.YtoeikpioonlmfaaGreat
open Go.Abs
set_option linter.unusedSectionVars false
set_option linter.unusedVariables false
set_option linter.unusedSimpArgs false
set_option maxHeartbeats 1000000
def rowOk (A : List (List Int)) (r : List Int) : Bool := decide (r.length = (A[0]?.getD []).length) && numsB r
def matB (A : List (List Int)) : Bool := decide (1 ≤ A.length ∧ A.length ≤ 8) && (decide (1 ≤ (A[0]?.getD []).length ∧ (A[0]?.getD []).length ≤ 8) && A.all (rowOk A))
theorem matB_iff {A : List (List Int)} : matB A = true ↔ (1 ≤ A.length ∧ A.length ≤ 8) ∧ (1 ≤ (A[0]?.getD []).length ∧ (A[0]?.getD []).length ≤ 8) ∧ ∀ r ∈ A, r.length = (A[0]?.getD []).length ∧ Ns r := by
  unfold matB rowOk
  simp only [Bool.and_eq_true, decide_eq_true_eq, List.all_eq_true, numsB_N]
theorem at0 {A : List (List Int)} (h : 0 < A.length) : mat A = .sl (A[0]?.getD []).length (avs (A[0]?.getD [])) :: mat A.tail := by cases A with | nil => simp at h | cons x l => simp [mat]
set_option maxRecDepth 100000 in
theorem l01Matrix_c (A : List (List Int)) (hl : A.length ≤ 9223372036854775807) (hr : ∀ r ∈ A, r.length ≤ 9223372036854775807) :
    Con Tryz.prog 132 [.sl A.length (mat A)] (.int (if matB A = true then 0 else 1)) := by
  by_cases h1 : 1 ≤ A.length ∧ A.length ≤ 8
  · have m0 := at0 (A := A) (by omega)
    have h0 : (A[0]?.getD []) ∈ A := by simp [show 0 < A.length by omega]
    have r0 := hr _ h0
    have n1 : ¬ (A.length : Int) < 1 := by omega
    have n2 : ¬ (8 : Int) < A.length := by omega
    have n0 : ¬ A = [] := by rintro rfl; simp at h1
    by_cases h2 : 1 ≤ (A[0]?.getD []).length ∧ (A[0]?.getD []).length ≤ 8
    · have n3 : ¬ ((A[0]?.getD []).length : Int) < 1 := by omega
      have n4 : ¬ (8 : Int) < (A[0]?.getD []).length := by omega
      have fine : matB A = A.all (rowOk A) := by unfold matB; rw [decide_eq_true h1, decide_eq_true h2]; rfl
      refine con_of_vc Tryz.mixed ⟨4, [], [], []⟩ Tryz.func132 (by decide) rfl (by simp) (by decide) (by simp [freshOK, freshL, go_sem]) ?_
      rw [Tryz.ntmps132]
      simp [go_sem]
      simp [go_sem, n1, n2, m0, n3, n4]
      simp only [← m0]
      refine ⟨by omega, ?_⟩
      refine loop_inv (2 :: 3 :: List.range' 26 24) (fun i : Nat => [(3, .int i)]) (fun i => i ≤ A.length ∧ (∀ r ∈ A.take i, rowOk A r = true)) (fun i => A.length - i) 0 (by simp) (by simp [go_sem]) (by simp [go_sem]) ?_
      rintro i ⟨hi, hp⟩
      simp [go_sem]
      refine ⟨fun h => ?_, fun h => ?_⟩ <;> simp at h
      · have hif : i < A.length := by omega
        have hx : A[i]?.getD [] ∈ A := by simp [hif]
        have hx2 := hr _ hx
        have cn := l01Numbers_c (A[i]?.getD []) hx2
        have hno : rowOk A (A[i]?.getD []) = false → matB A = false := fun hh => by
          rw [fine, List.all_eq_false]; exact ⟨_, hx, by simp [hh]⟩
        simp [go_sem, mat_drop hif]
        simp [go_sem, m0]
        simp only [← m0]
        generalize hR : A[i]?.getD [] = R at *
        by_cases c1 : R.length = (A[0]?.getD []).length
        · have c1' : (R.length : Int) = (A[0]?.getD []).length := by omega
          simp [go_sem, mat_drop hif, hR, c1']
          refine ⟨by kernel_rfl, ⟨hif, n0⟩, ⟨by omega, n0⟩, ⟨hif, n0⟩, ?_⟩
          cases hn : numsB R with
          | true =>
            rw [hn] at cn
            refine CallD.of (cn) (by simp [roots, rootsL]) (by decide) ?_
            simp [go_sem]
            refine ⟨by kernel_rfl, ?_⟩
            simp [go_sem]
            refine ⟨by omega, i + 1, ⟨by omega, take_all hif hp ?_⟩, by omega, Off_reset _ _ _ (by simp), by omega⟩
            have : A[i] = R := by rw [← hR]; simp [hif]
            rw [this]; unfold rowOk; rw [hn, decide_eq_true c1]; rfl
          | false =>
            rw [hn] at cn
            refine CallD.of (cn) (by simp [roots, rootsL]) (by decide) ?_
            simp [go_sem]
            refine ⟨by kernel_rfl, ?_⟩
            simp [go_sem]
            rw [hno (by unfold rowOk; rw [hn]; simp)]
        · have c1' : ¬ (R.length : Int) = (A[0]?.getD []).length := by omega
          simp [go_sem, c1']
          refine ⟨by kernel_rfl, ⟨hif, n0⟩, ⟨by omega, n0⟩, ?_⟩
          refine ⟨by kernel_rfl, ?_⟩
          simp [go_sem]
          rw [hno (by unfold rowOk; rw [decide_eq_false c1]; rfl)]
      · simp [go_sem]
        rw [List.take_of_length_le (by omega)] at hp
        rw [fine, List.all_eq_true.2 hp]
    · have hm : matB A = false := by unfold matB; rw [decide_eq_true h1, decide_eq_false h2]; rfl
      rw [hm]
      by_cases n3 : ((A[0]?.getD []).length : Int) < 1
      · refine con_of_vc Tryz.mixed ⟨4, [], [], []⟩ Tryz.func132 (by decide) rfl (by simp) (by decide) (by simp [freshOK, freshL, go_sem]) ?_
        rw [Tryz.ntmps132]
        simp [go_sem]
        simp [go_sem, n1, n2, m0, n3]
        omega
      · have n4 : (8 : Int) < (A[0]?.getD []).length := by omega
        refine con_of_vc Tryz.mixed ⟨4, [], [], []⟩ Tryz.func132 (by decide) rfl (by simp) (by decide) (by simp [freshOK, freshL, go_sem]) ?_
        rw [Tryz.ntmps132]
        simp [go_sem]
        simp [go_sem, n1, n2, m0, n3, n4]
        omega
  · have hm : matB A = false := by unfold matB; rw [decide_eq_false h1]; rfl
    rw [hm]
    by_cases n1 : (A.length : Int) < 1
    · refine con_of_vc Tryz.mixed ⟨4, [], [], []⟩ Tryz.func132 (by decide) rfl (by simp) (by decide) (by simp [freshOK, freshL, go_sem]) ?_
      rw [Tryz.ntmps132]
      simp [go_sem]
      simp [go_sem, n1]
    · have n2 : (8 : Int) < A.length := by omega
      refine con_of_vc Tryz.mixed ⟨4, [], [], []⟩ Tryz.func132 (by decide) rfl (by simp) (by decide) (by simp [freshOK, freshL, go_sem]) ?_
      rw [Tryz.ntmps132]
      simp [go_sem]
      simp [go_sem, n1, n2]
end Go.Proofs.YtoeikpioonlmfaaGreat


namespace Go.Proofs.YtoeikpioonlmfaaGreat
open Go.Abs
set_option linter.unusedSectionVars false
set_option linter.unusedVariables false
set_option linter.unusedSimpArgs false
set_option maxHeartbeats 4000000
def linK (row : List Int) : Nat → List Mon
  | 0 => []
  | k + 1 => putL (linK row k) (row[k]?.getD 0) (oneE row.length k)
theorem linK_ok {n : Nat} {row : List Int} (hl : row.length = n) (hN : Ns row) : ∀ k, k ≤ n → (linK row k).length ≤ k ∧ ∀ m ∈ linK row k, WOk n 1 m
  | 0, _ => ⟨by simp [linK], fun m hm => by simp [linK] at hm⟩
  | k + 1, hk => by
    have ih := linK_ok hl hN k (by omega)
    have h1 := putL_len (linK row k) (row[k]?.getD 0) (oneE row.length k)
    refine ⟨by rw [linK]; omega, fun m hm => ?_⟩
    rw [linK] at hm
    rw [hl] at hm
    exact putGo_wok (n := n) (B := 1) ⟨hN.get k, (oneE_wok (n := n) (k := k)).len, (oneE_wok (n := n) (k := k)).pw⟩ _ _ ih.2 m hm
set_option maxRecDepth 100000 in
theorem l13Linear_c (row : List Int) (h3 : row.length ≤ 8) (hN : Ns row) : Con Tryz.prog 80 [.sl row.length (avs row)] (.own 97 (linK row row.length).length (omons (linK row row.length))) := by
  refine con_of_vc Tryz.mixed ⟨5, [], [], []⟩ Tryz.func80 (by decide) rfl (by simp) (by decide) (by simp [freshOK, freshL, go_sem]) ?_
  rw [Tryz.ntmps80]
  simp [go_sem]
  refine loop_inv ([3, 4] ++ List.range' 6 16) (fun k : Nat => [(3, .own 97 (linK row k).length (omons (linK row k))), (4, .int k)]) (fun k => k ≤ row.length) (fun k => row.length - k) 0 (by simp) (by simp [go_sem, linK, omons]) (by simp [go_sem]) ?_
  intro k hk
  by_cases hkr : k < row.length
  · have hki : (k : Int) < row.length := by omega
    have ne : ¬ row = [] := by rintro rfl; simp at hkr
    have ok := linK_ok rfl hN k hk
    have cO := l13One_c row.length k (by omega) hkr
    have cP := l13Put_c (linK row k) (row[k]?.getD 0) (oneE row.length k) (hN.get k) (fun m hm => ⟨(ok.2 m hm).num, by have := (ok.2 m hm).len; omega⟩) (by omega) (by simp; omega)
    rw [oneE_len] at cP
    have e1 : linK row (k + 1) = putL (linK row k) (row[k]?.getD 0) (oneE row.length k) := rfl
    rw [← e1] at cP
    generalize hL1 : linK row (k + 1) = L1 at *
    simp [go_sem, hki, avs_drop hkr]
    refine ⟨by kernel_rfl, ne, ?_⟩
    refine CallD.of (cO) (by simp [roots, rootsL]) (by decide) ?_
    simp [go_sem]
    refine CallD.of (cP) (by simp [roots, rootsL]) (by decide) ?_
    simp [go_sem]
    refine ⟨by kernel_rfl, ?_⟩
    simp [go_sem]
    exact ⟨by omega, k + 1, by omega, by omega, Off_reset _ _ _ (by simp), by rw [hL1]; exact ⟨rfl, rfl⟩, by omega⟩
  · have e : k = row.length := by omega
    subst e
    have hki : ¬ (row.length : Int) < row.length := by omega
    simp [go_sem, hki]
def linF (m : List (List Int)) : List (List Mon) := m.map fun r => linK r r.length
theorem linF_len (m : List (List Int)) : (linF m).length = m.length := by simp [linF]
theorem linF_get {m : List (List Int)} {i : Nat} (h : i < m.length) : (linF m)[i]?.getD [] = linK (m[i]?.getD []) (m[i]?.getD []).length := by simp [linF, h]
theorem linF_ok {n : Nat} {m : List (List Int)} (hr : Rws n m) (hn : n ≤ 3) : ∀ p ∈ linF m, DrP n p := fun p hp => by
  obtain ⟨r, h, rfl⟩ := List.mem_map.1 hp
  have q := hr r h
  have ok := linK_ok q.1 q.2 r.length (by omega)
  exact ⟨by omega, fun x hx => (ok.2 x hx).le (by omega)⟩
set_option maxRecDepth 100000 in
theorem specLinearField_c (m : List (List Int)) (h1 : 1 ≤ m.length) (h3 : m.length ≤ 3) (hr : Rws m.length m) :
    Con Tryz.prog 58 [.sl m.length (mat m)] (.tup [.agg [.int m.length, .own 92 m.length (oprt (linF m))], .int 0]) := by
  have h0 : 0 < m.length := by omega
  have r0 := hr.at h0
  have cM := l01Matrix_c m (by omega) (fun r h => by have := (hr r h).1; omega)
  have hM : matB m = true := matB_iff.2 ⟨by omega, by omega, fun r h => ⟨by have := (hr r h).1; omega, (hr r h).2⟩⟩
  rw [if_pos hM] at cM
  have m0 := mat_drop (xss := m) (k := 0) h0
  simp only [List.drop_zero] at m0
  have m1 : AV.sl (m[0]?.getD []).length (avs (m[0]?.getD [])) :: mat m.tail = mat m := by cases m with | nil => simp at h0 | cons x l => simp [mat]
  have ne : ¬ m = [] := by rintro rfl; simp at h0
  have r0l : (m[0]?.getD []).length = m.length := r0.1
  have ll := linF_len m
  have n3 : ¬ (3 : Int) < m.length := by omega
  refine con_of_vc Tryz.mixed ⟨6, [], [], []⟩ Tryz.func58 (by decide) rfl (by simp) (by decide) (by simp [freshOK, freshL, go_sem]) ?_
  rw [Tryz.ntmps58]
  simp [go_sem]
  refine CallVC.of (cM) (by decide) ?_
  simp [go_sem]
  simp [go_sem, m0]
  simp only [m1]
  refine ⟨⟨h0, ne⟩, ?_⟩
  simp [go_sem, r0l, n3]
  refine loop_inv ([4, 5] ++ List.range' 26 16) (fun i : Nat => [(4, .box 26 [.int m.length, ptA (linF m) i]), (5, .int i)]) (fun i => i ≤ m.length) (fun i => m.length - i) 0 (by simp) (by simp [go_sem, ptA]) (by simp [go_sem]) ?_
  intro i hi
  by_cases hin : i < m.length
  · have hii : (i : Int) < m.length := by omega
    have ri := hr.at hin
    have cL := l13Linear_c (m[i]?.getD []) (by omega) ri.2
    have lg := linF_get hin
    have sn := oprt_snoc (linF m) (i := i) (by omega)
    rw [← lg] at cL
    cases i with
    | zero =>
      have hz : 0 < m.length := hin
      have hrw : m[0]'hin = m[0]?.getD [] := by simp [hin]
      generalize hrow : m[0]?.getD [] = row at *
      simp [go_sem, hz, mat_drop hin, hrow, hrw, ptA_zero]
      refine ⟨by kernel_rfl, ne, ?_⟩
      refine CallD.of (cL) (by simp [roots, rootsL]) (by decide) ?_
      simp [go_sem]
      refine ⟨by kernel_rfl, ?_⟩
      simp [go_sem]
      rw [List.take_zero] at sn
      exact ⟨1, by omega, by omega, Off_reset _ _ _ (by simp), by rw [ptA_succ, sn]; simp [oprt], by simp⟩
    | succ j =>
      have hj : (j : Int) + 1 < m.length := by omega
      simp [go_sem, hj, mat_drop hin, ptA_succ]
      refine ⟨by kernel_rfl, ⟨by omega, ne⟩, ?_⟩
      refine CallD.of (cL) (by simp [roots, rootsL]) (by decide) ?_
      simp [go_sem]
      refine ⟨⟨by omega, by omega, by omega⟩, ?_⟩
      refine ⟨by kernel_rfl, ?_⟩
      simp [go_sem]
      exact ⟨⟨by omega, by omega⟩, j + 1 + 1, by omega, by omega, Off_reset _ _ _ (by simp), by rw [ptA_succ, sn], by omega⟩
  · have e : i = m.length := by omega
    subst e
    have hii : ¬ (m.length : Int) < m.length := by omega
    obtain ⟨j, hj⟩ : ∃ j, m.length = j + 1 := ⟨m.length - 1, by omega⟩
    have pa : ptA (linF m) m.length = .own 92 m.length (oprt (linF m)) := by
      rw [hj, ptA, ← hj, List.take_of_length_le (by omega)]
    simp [go_sem, hii, pa]
end Go.Proofs.YtoeikpioonlmfaaGreat


namespace Go.Proofs.YtoeikpioonlmfaaGreat
open Go.Abs
set_option linter.unusedSectionVars false
set_option linter.unusedVariables false
set_option linter.unusedSimpArgs false
set_option maxHeartbeats 4000000
theorem DrS.small {z : Int} {f : List (List Mon)} (h : DrS z f) : Small f := ⟨by have := h.2.2.1; omega, fun p hp => ⟨by have := (h.2.2.2 p hp).1; omega, fun q hq => by have := (h.2.2.2 p hp).2 q hq; omega⟩⟩
set_option maxRecDepth 100000 in
theorem DrawBracketFields_r (c : List Int) (hc : Byt c) :
    RCon Tryz.prog 9 [.sl c.length (bys c)] (fun r o => o = [.any] ∧ ∃ (z : Int) (f : List (List Mon)) (w : Int) (g : List (List Mon)) (x : AV), DrS z f ∧ DrS w g ∧ frz x = .sl g.length (prt g) ∧ r = .tup [.agg [.int z, .sl f.length (prt f)], .agg [.int w, x]]) := by
  have c1 := l13Two_r c hc
  have c0 := l01From_r c hc
  refine rcon_of_vcH Tryz.mixed ⟨7, [], [1000000 + 57, 2000000 + 54, 2000000 + 55, 2000000 + 59], []⟩ [] Tryz.func9 (by decide) rfl (by simp) (by simp) (by decide) ?_
  rw [Tryz.ntmps9]
  simp [go_sem]
  refine ⟨_, c1, ?_⟩
  rintro _ _ ⟨rfl, z, f, n, g, hf, n1, n2, hg, hgp, rfl⟩
  simp [go_sem]
  refine ⟨_, c0, ?_⟩
  rintro _ _ ⟨rfl, h, rfl⟩
  have hfs := hf.small
  have cI := l13Is_c z f hfs
  have hgs : DrS (n : Int) g := DrS.of n2 (by omega) hgp (by omega) (by omega)
  simp only [srcA_eq] at *
  simp [go_sem]
  refine CallVC.of (cI) (by decide) ?_
  simp [go_sem]
  cases hB : fieldB z f with
  | false =>
    simp [go_sem]
    refine ⟨by kernel_rfl, ?_⟩
    refine ⟨by kernel_rfl, ?_⟩
    simp [go_sem]
    exact ⟨z, f, hf, n, g, hgs, _, by simp [frz, hg], ⟨rfl, rfl, rfl⟩, rfl, rfl⟩
  | true =>
    have c2 := l01Next_c c (0, h) 2 hc (by unfold SOk; simp)
    have s2 := nx2_ok hc (σ := (0, h)) (by unfold SOk; simp) 2
    generalize nx1 c (0, h) 2 = u at *
    generalize nx2 c (0, h) 2 = κ at *
    simp only [srcA_eq] at c2
    simp [go_sem]
    refine ⟨_, _, c2, ?_⟩
    simp [go_sem]
    by_cases u0 : u = 0
    · obtain ⟨f1, f2, f3, f4⟩ := fieldB_iff.1 hB
      have zl : z = ((f.length : Nat) : Int) := by omega
      have c3 := l01Square_r c κ f.length f.length hc s2 (by omega) (by omega)
      simp only [srcA_eq] at c3
      rw [← zl] at c3
      simp [go_sem, u0]
      refine ⟨_, c3, ?_⟩
      rintro _ _ ⟨τ, A, h4, rfl, hA, hAr, rfl⟩
      have c4 := specLinearField_c A (by omega) (by omega) (by rw [hA]; exact hAr)
      rw [hA] at c4
      have lF : (linF A).length = f.length := by rw [linF_len]; exact hA
      have dF : DrS (f.length : Int) (linF A) := DrS.of (n := f.length) (by omega) (by omega) (linF_ok hAr (by omega)) (by omega) (by omega)
      simp [go_sem]
      refine CallVC.of (c4) (by decide) ?_
      simp [go_sem]
      refine ⟨by kernel_rfl, ?_⟩
      refine ⟨by kernel_rfl, ?_⟩
      simp [go_sem]
      exact ⟨z, f, hf, f.length, linF A, dF, _, by simp [frz, lF], ⟨rfl, rfl, rfl⟩, rfl, rfl⟩
    · simp [go_sem, u0]
      refine ⟨by kernel_rfl, ?_⟩
      refine ⟨by kernel_rfl, ?_⟩
      simp [go_sem]
      exact ⟨z, f, hf, n, g, hgs, _, by simp [frz, hg], ⟨rfl, rfl, rfl⟩, rfl, rfl⟩
theorem DrawBracketFields_f (c : List Int) (hc : Byt c) :
    RCon Tryz.prog 9 [.sl c.length (bys c)] (fun r o => o = [.any] ∧ ∃ (z : Int) (f : List (List Mon)) (w : Int) (g : List (List Mon)), DrS z f ∧ DrS w g ∧ r = .tup [.agg [.int z, .sl f.length (prt f)], .agg [.int w, .sl g.length (prt g)]]) := by
  refine (RCon.fz (DrawBracketFields_r c hc)).mono ?_
  rintro r o ⟨_, ⟨h1, z, f, w, g, x, h2, h3, h4, rfl⟩, rfl⟩
  refine ⟨h1, z, f, w, g, h2, h3, ?_⟩
  simp [frz, frzL, h4]
end Go.Proofs.YtoeikpioonlmfaaGreat


namespace Go.Proofs.YtoeikpioonlmfaaGreat
open Go.Abs
set_option linter.unusedSectionVars false
set_option linter.unusedVariables false
set_option linter.unusedSimpArgs false
set_option maxHeartbeats 4000000
set_option maxRecDepth 100000 in
theorem likeField5_c (z : Int) (f : List (List Mon)) (hs : Small f) : Con Tryz.prog 12 [.agg [.int z, .sl f.length (prt f)], .agg [.int z, .sl f.length (prt f)]] (.bool true) := by
  obtain ⟨fl, fp⟩ := hs
  refine con_of_vc Tryz.mixed ⟨7, [], [], []⟩ Tryz.func12 (by decide) rfl (by simp) (by decide) (by simp [freshOK, freshL, go_sem]) ?_
  rw [Tryz.ntmps12]
  simp [go_sem]
  refine loop_inv ([4, 5, 6] ++ List.range' 21 71) (fun i : Nat => [(5, .int i)]) (fun i => i ≤ f.length) (fun i => f.length - i) 0 (by simp) (by simp [go_sem]) (by simp [go_sem]) ?_
  intro i hi
  by_cases hin : i < f.length
  · have hii : (i : Int) < f.length := by omega
    have ne : ¬ f = [] := by rintro rfl; simp at hin
    have fm := fp (f[i]?.getD []) (by simp [hin])
    have hrw : f[i]'hin = f[i]?.getD [] := by simp [hin]
    have pd := prt_drop hin
    generalize hp : f[i]?.getD [] = p at *
    obtain ⟨pl, pm⟩ := fm
    simp [go_sem, hii, pd, hp, hrw]
    refine ⟨by kernel_rfl, ne, ?_⟩
    refine ⟨by kernel_rfl, ?_⟩
    simp [go_sem]
    refine loop_inv ([4, 6] ++ List.range' 41 51) (fun k : Nat => [(6, .int k)]) (fun k => k ≤ p.length) (fun k => p.length - k) 0 (by simp) (by simp [go_sem]) (by simp [go_sem]) ?_
    intro k hk
    by_cases hkp : k < p.length
    · have hki : (k : Int) < p.length := by omega
      have pne : ¬ p = [] := by rintro rfl; simp at hkp
      have md := mons_drop hkp
      have md1 := mons_drop1 hkp
      have qm := pm (p[k]?.getD (0, [])) (by simp [hkp])
      have hqw : p[k]'hkp = p[k]?.getD (0, []) := by simp [hkp]
      have cL := likeInts_c (p[k]?.getD (0, [])).2 (p[k]?.getD (0, [])).2 (by omega)
      simp only [decide_true] at cL
      generalize hq : p[k]?.getD (0, []) = q at *
      simp [go_sem, hki, pd, hp, hrw, md, md1, hq, hqw]
      refine ⟨⟨hin, ne⟩, by kernel_rfl, ⟨hin, ne⟩, pne, ⟨hin, ne⟩, pne, ⟨hin, ne⟩, pne, ⟨hin, ne⟩, pne, ?_⟩
      refine CallD.of (cL) (by simp [roots, rootsL]) (by decide) ?_
      simp [go_sem]
      refine ⟨by kernel_rfl, ?_⟩
      simp [go_sem]
      exact ⟨by omega, k + 1, by omega, by omega, Off_reset _ _ _ (by simp), by omega⟩
    · have e : k = p.length := by omega
      subst e
      have hki : ¬ (p.length : Int) < p.length := by omega
      simp [go_sem, hki, pd, hp, hrw]
      exact ⟨⟨hin, ne⟩, ⟨by omega, by omega⟩, i + 1, by omega, by omega, (Off.reset (by intro x hx; simp at hx ⊢; omega) (by simp) (by simp [go_sem, Off_reset])), by omega⟩
  · have e : i = f.length := by omega
    subst e
    have hii : ¬ (f.length : Int) < f.length := by omega
    simp [go_sem, hii]
end Go.Proofs.YtoeikpioonlmfaaGreat


namespace Go.Proofs.YtoeikpioonlmfaaGreat
open Go.ChangeShapes Go.WideShapes Go.ChangeAt Go.RowKit Go.Abs Go.Deep
set_option linter.unusedSectionVars false
set_option linter.unusedVariables false
section
variable {H : Type} {enc : TypeId × Value → H} {w : World} {sp : Nat → Bool} {held : Bool} {base : Nat}
theorem kids : Kids Tryz.prog (· < Tryz.prog.types.size) := kids_rows (by kernel_rfl) (by kernel_rfl)
theorem full : ∀ t e, t < Tryz.prog.types.size → Tryz.prog.underlying t = some (.slice e) → 0 < Tryz.prog.cellsOf e := slices_full_of Tryz.prog (by kernel_rfl)
theorem flat1 {α β : Type} (g : α → β) : ∀ qs : List α, qs.flatMap (fun a => [g a]) = qs.map g
  | [] => rfl
  | a :: qs => by rw [List.flatMap_cons, flat1 g qs]; rfl
theorem rep_one {F : Nat → Prop} {tm : Nat → Value} {oss : Nat → List Nat} {c : AV} {v : Value} (h : RepL Tryz.prog w F [c] [v] []) : RepT Tryz.prog w F tm oss c v [] := .cell _ _ _ (RepL.one h)
set_option maxRecDepth 100000 in
theorem repV {F : Nat → Prop} {tm : Nat → Value} {oss : Nat → List Nat} {t e : TypeId} {v : Value} {c : AV} {r : Reach} {b0 : Nat} (ht : Tryz.prog.underlying t = some (.slice e)) (hv : Value.okWide Tryz.prog w r b0 t v) (h : RepL Tryz.prog w F [c] v.cells.toList []) :
    RepT Tryz.prog w F tm oss c v [] := by
  have hc : v.cells.toList = [v] := by
    simp only [Value.okWide, ht] at hv
    cases v <;> simp_all [Value.cells, Cell.okWide, Cell.ok]
  rw [hc] at h
  exact rep_one h
end
end Go.Proofs.YtoeikpioonlmfaaGreat


namespace Go.Proofs.YtoeikpioonlmfaaGreat
open Go.Abs
set_option linter.unusedSectionVars false
set_option linter.unusedVariables false
set_option linter.unusedSimpArgs false
set_option maxHeartbeats 1000000
open Go.ChangeShapes Go.WideShapes Go.ChangeAt Go.RowKit Go.Deep
theorem big_c (c : List Int) (hl : c.length ≤ 9223372036854775807) : Con Tryz.prog 8 [.sl c.length (bys c)] (.bool (decide (4096 < c.length))) := by
  refine con_of_vc Tryz.mixed ⟨3, [], [], []⟩ Tryz.func8 (by decide) rfl (by simp) (by decide) (by simp [freshOK, freshL, go_sem]) ?_
  rw [Tryz.ntmps8]
  simp [go_sem]
  omega
section
variable {H : Type} {enc : TypeId × Value → H} {w : World} {sp : Nat → Bool} {held : Bool} {base : Nat}
theorem open_bys {n : Nat} {cs : List Value} {x : DataW H × List MemPlace} (h : DataW.trod enc Tryz.prog w base sp held n 22 cs = some x) :
    ∃ xs : List Int, (∀ z ∈ xs, 0 ≤ z ∧ z ≤ 255) ∧ xs.length ≤ 9223372036854775807 ∧ RepL Tryz.prog w (fun b => b < w.heap.size) [.sl xs.length (bys xs)] cs [] ∧ cs.length = 1 := by
  obtain ⟨qs, h1, h2, h3, h4⟩ := open_sl (f := fun z : Int => [AV.val (.int .u8 z)]) (Good := fun z => (Lit.int .u8 z).wf = true) Tryz.underlying22 (s := 1) (by kernel_rfl) (by decide) (fun _ => rfl)
    (fun n cs y hy => by obtain ⟨z, k1, k2, _⟩ := open_i Tryz.underlying5 hy; exact ⟨z, k1, k2⟩) h
  refine ⟨qs, fun z hz => ?_, h2, by rw [flat1] at h3; exact h3, h4⟩
  have := h1 z hz
  simp [Lit.wf, IntKind.min, IntKind.max, IntKind.signed, IntKind.bits] at this
  omega
end
end Go.Proofs.YtoeikpioonlmfaaGreat


namespace Go.Proofs.YtoeikpioonlmfaaGreat
open Go.Abs
set_option linter.unusedSectionVars false
set_option linter.unusedVariables false
set_option linter.unusedSimpArgs false
set_option maxHeartbeats 1000000
def sum3 (k : Key) : Int := k.1 + k.2.1 + k.2.2
def DegLe (C : Key → Int) (D : Int) : Prop := ∀ k, NN k → D < sum3 k → C k = 0
theorem sum3_inc (i : Nat) (k : Key) : sum3 (inc i k) = sum3 k + 1 := by
  obtain ⟨a, b, c⟩ := k
  unfold inc sum3
  split
  · simp; omega
  · split <;> (simp; omega)
theorem DegLe.der {C : Key → Int} {D : Int} (h : DegLe C D) (i : Nat) : DegLe (der i C) (D - 1) := by
  intro k hk hd
  unfold Go.Proofs.YtoeikpioonlmfaaGreat.der
  rw [h (inc i k) (hk.inc i) (by rw [sum3_inc]; omega), Int.mul_zero]
theorem DegLe.alo {C : Key → Int} {D : Int} (h : DegLe C D) (v : Nat → Int) : ∀ n, DegLe (alo v C n) (D - 1)
  | 0 => fun _ _ _ => rfl
  | n + 1 => fun k hk hd => by
    show Go.Proofs.YtoeikpioonlmfaaGreat.alo v C n k + v n * Go.Proofs.YtoeikpioonlmfaaGreat.der n C k = 0
    rw [DegLe.alo h v n k hk hd, h.der n k hk hd]; simp
theorem DegLe.dv {n : Nat} : ∀ (vs : List (List Int)) {C : Key → Int} {D : Int}, DegLe C D → DegLe (Dv n vs C) (D - vs.length)
  | [], C, D, h => by simpa [Dv] using h
  | v :: vs, C, D, h => by
    have := DegLe.dv (n := n) vs (h.alo (yat v) n)
    rw [Dv]
    intro k hk hd
    exact this k hk (by simp at hd; omega)
theorem sum3_key {e : List Int} (h : e.length ≤ 3) : sum3 (keyOf e) = e.sum := by
  match e, h with
  | [], _ => rfl
  | [a], _ => simp [sum3, keyOf]
  | [a, b], _ => simp [sum3, keyOf]
  | [a, b, c], _ => simp [sum3, keyOf]; omega
theorem part_deg {n : Nat} {p : List Mon} (hn : n ≤ 3) (hp : partB (n : Int) p = true) : DegLe (cfL p) 3 := by
  intro k hk hd
  unfold cfL coef
  refine sumI_zero (fun m hm => if_neg (fun e => ?_))
  have ho := partB_mem hp hm
  have := ho.deg
  rw [e, sum3_key (by have := ho.len; omega)] at hd
  omega
theorem along_zero {n : Nat} {p : List Mon} {y : List Int} (hn : n ≤ 3) (hp : partB (n : Int) p = true) (vs : List (List Int)) (hv : 3 < vs.length) :
    Val (yat y) (gv (DvM n vs (polF p))) % 10007 = 0 := by
  rw [Val_eqv _ (DvM_gv n vs (polF p))]
  have e : gv (polF p) = cfL p := funext (polF_gv (keys_nd (by omega) hp))
  rw [e]
  have hd := (part_deg hn hp).dv (n := n) vs
  have : Val (yat y) (Dv n vs (cfL p)) = 0 := by
    unfold Val
    refine sumI_zero (fun k hk => ?_)
    have hN := NN.box hk
    obtain ⟨a, b, c⟩ := hN
    rw [hd k (NN.box hk) (by unfold sum3; omega), Int.zero_mul]
  rw [this]; rfl
theorem DvM_snoc (n : Nat) (v : List Int) : ∀ (vs : List (List Int)) (c : Key → Option Int), DvM n (vs ++ [v]) c = aloM v (DvM n vs c) n
  | [], c => rfl
  | u :: vs, c => by rw [List.cons_append, DvM, DvM_snoc n v vs, DvM]
theorem DvM_take {n : Nat} {vs : List (List Int)} {i : Nat} (h : i < vs.length) (c : Key → Option Int) : DvM n (vs.take (i + 1)) c = aloM (vs[i]?.getD []) (DvM n (vs.take i) c) n := by
  rw [List.take_add_one, List.getElem?_eq_getElem h, Option.toList_some, DvM_snoc]; rfl
theorem DvM_kok {n : Nat} (hn : n ≤ 3) : ∀ (vs : List (List Int)) {c : Key → Option Int}, (∀ k x, c k = some x → isN x ∧ KOk n k) → ∀ k x, DvM n vs c k = some x → isN x ∧ KOk n k
  | [], c, h => h
  | v :: vs, c, h => DvM_kok hn vs (aloM_kok hn h n (Nat.le_refl n))
def drvP (y : List Int) (n : Nat) (vs : List (List Int)) (p : List Mon) : Int := if 3 < vs.length then 0 else alongS y n vs p % 10007
def drvL (y : List Int) (n : Nat) (vs : List (List Int)) (f : List (List Mon)) : List Int := f.map (drvP y n vs)
@[simp] theorem drvL_len (y : List Int) (n : Nat) (vs : List (List Int)) (f : List (List Mon)) : (drvL y n vs f).length = f.length := by simp [drvL]
theorem drvL_take {y : List Int} {n : Nat} {vs : List (List Int)} {f : List (List Mon)} {i : Nat} (h : i < f.length) : drvL y n vs (f.take (i + 1)) = drvL y n vs (f.take i) ++ [drvP y n vs (f[i]?.getD [])] := by
  rw [drvL, drvL, List.take_add_one, List.map_append, List.getElem?_eq_getElem h]; rfl
theorem drvP_eq {n : Nat} {p : List Mon} {y : List Int} (hn : n ≤ 3) (hl : y.length = n) (hp : partB (n : Int) p = true) (vs : List (List Int)) :
    Val (yat y) (gv (DvM n vs (polF p))) % 10007 = drvP y n vs p := by
  unfold drvP
  by_cases h : 3 < vs.length
  · rw [if_pos h, along_zero hn hp vs h]
  · rw [if_neg h, along_eq hn hl hp vs]
@[simp] theorem mat_frz (A : List (List Int)) : frzL (mat A) = mat A := by
  induction A with
  | nil => rfl
  | cons r A ih => simp only [mat, List.map_cons, frzL] at ih ⊢; rw [ih]; rfl
def Vecs (n : Nat) (vs : List (List Int)) : Prop := ∀ v ∈ vs, v.length = n ∧ Ns v
set_option maxRecDepth 100000 in
theorem derivativeAt_c (z : Int) (f : List (List Mon)) (y : List Int) (vs : List (List Int)) (hf : FieldOk z f) (hs : Small f) (hy : Ns y) (hl : (y.length : Int) = z) (hv : Vecs y.length vs) (hvl : vs.length ≤ 1048576) :
    Con Tryz.prog 74 [.sl f.length (fpols f), .sl y.length (avs y), .sl vs.length (mat vs)] (.own 2 f.length (avs (drvL y y.length vs f))) := by
  have fl := hs.1
  have z3 := hf.hi
  refine con_of_vc Tryz.mixed ⟨12, [27], [], []⟩ Tryz.func74 (by decide) rfl (by simp) (by decide) (by simp [freshOK, freshL, go_sem]) ?_
  rw [Tryz.ntmps74]
  simp [go_sem]
  refine loop_inv (7 :: 9 :: 11 :: List.range' 15 21) (fun i : Nat => [(7, .own 2 i (avs (drvL y y.length vs (f.take i)))), (15, .int i)]) (fun i => i ≤ f.length) (fun i => f.length - i) 0 (by simp) (by simp [go_sem, drvL]) (by simp [go_sem]) ?_
  intro i hi
  simp [go_sem]
  refine ⟨fun h => ?_, fun h => ?_⟩ <;> simp at h
  · have hif := h
    have hx : f[i]?.getD [] ∈ f := by simp [h]
    have hdl := drvL_take (y := y) (n := y.length) (vs := vs) h
    have hpp : partB (y.length : Int) (f[i]?.getD []) = true := by rw [hl]; exact hf.part _ hx
    have hq : ∀ kk x, polF (f[i]?.getD []) kk = some x → isN x ∧ KOk y.length kk := fun kk x hkx => polF_kok (by omega) hpp hkx
    simp [go_sem, fpols_drop hif]
    refine ⟨⟨hif, by rintro rfl; simp at hif⟩, ?_⟩
    refine loop_inv (9 :: 11 :: List.range' 21 8) (fun j : Nat => [(9, .fmp (DvM y.length (vs.take j) (polF (f[i]?.getD [])))), (21, .int j)]) (fun j => j ≤ vs.length) (fun j => vs.length - j) 0 (by simp) (by simp [go_sem, DvM]) (by simp [go_sem]) ?_
    intro j hj
    simp [go_sem]
    refine ⟨fun h => ?_, fun h => ?_⟩ <;> simp at h
    · have hvm : vs[j]?.getD [] ∈ vs := by simp [h]
      have hvj := hv _ hvm
      have cA := along_c (n := y.length) (DvM y.length (vs.take j) (polF (f[i]?.getD []))) (vs[j]?.getD []) hvj.2 hvj.1 (by omega) (DvM_kok (by omega) _ hq)
      have ht := DvM_take (n := y.length) h (polF (f[i]?.getD []))
      simp [go_sem, mat_drop h]
      refine ⟨⟨h, by rintro rfl; simp at h⟩, ?_⟩
      refine CallVC.of (cA) (by decide) ?_
      simp [go_sem]
      exact ⟨by omega, j + 1, by omega, by omega, Off_reset _ _ _ (by simp), ht.symm, by omega⟩
    · have e : j = vs.length := by omega
      subst e
      have cV := value_c2 (DvM y.length vs (polF (f[i]?.getD []))) y hy (by omega) (DvM_kok (by omega) _ hq)
      rw [drvP_eq (by omega) rfl hpp] at cV
      rw [List.take_length]
      simp [go_sem]
      refine CallVC.of (cV) (by decide) ?_
      simp [go_sem]
      exact ⟨by omega, by omega, i + 1, by omega, by omega, (Off.reset (by intro x hx; simp at hx ⊢; omega) (by simp) (by simp [go_sem, Off_reset])), by rw [hdl]; simp [avs_snoc], by omega⟩
  · simp [go_sem]
    have e : i = f.length := by omega
    subst e; simp
def daB (z : Int) (y : List Int) (vs : List (List Int)) : Bool := vecB z y && decide (vs.length ≤ 8) && vs.all (vecB z)
def daX (z : Int) (f : List (List Mon)) (y : List Int) (vs : List (List Int)) : List Int := if fieldB z f = true ∧ daB z y vs = true then drvL y y.length vs f else []
def daE (z : Int) (f : List (List Mon)) (y : List Int) (vs : List (List Int)) : Int := if fieldB z f = true then if daB z y vs = true then 0 else 2 else 1
def daR (z : Int) (f : List (List Mon)) (y : List Int) (vs : List (List Int)) : AV := .tup [.own 2 (daX z f y vs).length (avs (daX z f y vs)), .int (daE z f y vs)]
theorem vecB_iff {z : Int} {y : List Int} : vecB z y = true ↔ (y.length : Int) = z ∧ Ns y := by
  unfold vecB; simp [numsB_N]
theorem daB_ok {z : Int} {y : List Int} {vs : List (List Int)} (h : daB z y vs = true) : ((y.length : Int) = z ∧ Ns y) ∧ vs.length ≤ 8 ∧ Vecs y.length vs := by
  unfold daB at h
  simp only [Bool.and_eq_true, decide_eq_true_eq, List.all_eq_true] at h
  obtain ⟨⟨h1, h2⟩, h3⟩ := h
  have h1 := vecB_iff.1 h1
  exact ⟨h1, h2, fun v hv => by have := vecB_iff.1 (h3 v hv); exact ⟨by omega, this.2⟩⟩
set_option maxRecDepth 100000 in
theorem DerivativeAt_c (z : Int) (f : List (List Mon)) (y : List Int) (vs : List (List Int)) (hs : Small f) (hy : y.length ≤ 1048576) (hvl : vs.length ≤ 1048576) (hvr : ∀ v ∈ vs, v.length ≤ 1048576) :
    Con Tryz.prog 22 [.agg [.int z, .sl f.length (prt f)], .sl y.length (avs y), .sl vs.length (mat vs)] (daR z f y vs) := by
  have cK := checkVectors_c z f (y :: vs) hs (by simp; omega) (fun v hv => by rcases List.mem_cons.1 hv with rfl | hv; omega; have := hvr v hv; omega)
  have em : mat (y :: vs) = .sl y.length (avs y) :: mat vs := rfl
  have el : (y :: vs).length = 1 + vs.length := by simp; omega
  rw [em, el] at cK
  unfold daR daX daE
  unfold chk at cK
  have hany : (y :: vs).any (fun y => !vecB z y) = !(vecB z y && vs.all (vecB z)) := by
    rw [List.any_cons]
    cases vecB z y with
    | false => rfl
    | true => rw [← List.not_all_eq_any_not]; simp
  rw [hany] at cK
  have hda : daB z y vs = (decide (vs.length ≤ 8) && (vecB z y && vs.all (vecB z))) := by
    unfold daB
    cases vecB z y <;> cases decide (vs.length ≤ 8) <;> simp
  cases hT : fieldB z f with
  | false =>
    rw [hT] at cK
    refine Con.n1 _ ?_
    refine con_of_vc Tryz.mixed ⟨9, [], [], []⟩ Tryz.func22 (by decide) rfl (by simp) (by decide) (by simp [freshOK, freshL, go_sem]) ?_
    rw [Tryz.ntmps22]
    simp [go_sem]
    refine ⟨by kernel_rfl, ⟨by omega, by omega⟩, ?_⟩
    refine CallD.of (cK) (by simp [roots, rootsL]) (by decide) ?_
    simp [go_sem]
    refine ⟨by kernel_rfl, ?_⟩
    simp [go_sem]
  | true =>
    rw [hT] at cK
    rw [hda]
    cases hb : (vecB z y && vs.all (vecB z)) with
    | false =>
      rw [hb] at cK
      simp only [Bool.not_false, if_true] at cK
      simp only [Bool.and_false, Bool.false_eq_true, and_false, if_false, if_true]
      refine Con.n1 _ ?_
      refine con_of_vc Tryz.mixed ⟨9, [], [], []⟩ Tryz.func22 (by decide) rfl (by simp) (by decide) (by simp [freshOK, freshL, go_sem]) ?_
      rw [Tryz.ntmps22]
      simp [go_sem]
      refine ⟨by kernel_rfl, ⟨by omega, by omega⟩, ?_⟩
      refine CallD.of (cK) (by simp [roots, rootsL]) (by decide) ?_
      simp [go_sem]
      refine ⟨by kernel_rfl, ?_⟩
      simp [go_sem]
    | true =>
      rw [hb] at cK
      simp only [Bool.not_true, Bool.false_eq_true, if_false, if_true] at cK
      by_cases h8 : vs.length ≤ 8
      · have h8' : ¬ (8 : Int) < vs.length := by omega
        have h8n : ¬ 8 < vs.length := by omega
        have hF := fieldB_iff.1 hT
        have hd : daB z y vs = true := by rw [hda, hb, decide_eq_true h8]; rfl
        obtain ⟨hy2, _, hV⟩ := daB_ok hd
        simp only [h8, decide_true, Bool.and_self, and_self, if_true, drvL_len]
        refine con_of_vc Tryz.mixed ⟨9, [], [], []⟩ Tryz.func22 (by decide) rfl (by simp) (by decide) (by simp [freshOK, freshL, go_sem]) ?_
        rw [Tryz.ntmps22]
        simp [go_sem]
        refine ⟨by kernel_rfl, ⟨by omega, by omega⟩, ?_⟩
        refine CallD.of (cK) (by simp [roots, rootsL]) (by decide) ?_
        simp [go_sem]
        refine ⟨by kernel_rfl, ?_⟩
        simp [go_sem]
        simp [go_sem, h8', h8n]
        refine CallVC.of (polynomials_c z f hF hs) (by decide) ?_
        simp [go_sem]
        refine CallVC.of (derivativeAt_c z f y vs hF hs hy2.2 hy2.1 hV hvl) (by decide) ?_
        simp [go_sem]
      · have h8' : (8 : Int) < vs.length := by omega
        have h8n : 8 < vs.length := by omega
        simp only [h8, decide_false, Bool.false_and, Bool.false_eq_true, and_false, if_false, if_true]
        refine Con.n1 _ ?_
        refine con_of_vc Tryz.mixed ⟨9, [], [], []⟩ Tryz.func22 (by decide) rfl (by simp) (by decide) (by simp [freshOK, freshL, go_sem]) ?_
        rw [Tryz.ntmps22]
        simp [go_sem]
        refine ⟨by kernel_rfl, ⟨by omega, by omega⟩, ?_⟩
        refine CallD.of (cK) (by simp [roots, rootsL]) (by decide) ?_
        simp [go_sem]
        refine ⟨by kernel_rfl, ?_⟩
        simp [go_sem]
        simp [go_sem, h8', h8n]
end Go.Proofs.YtoeikpioonlmfaaGreat


namespace Go.Proofs.YtoeikpioonlmfaaGreat
open Go.Abs
set_option linter.unusedSectionVars false
set_option linter.unusedVariables false
set_option linter.unusedSimpArgs false
set_option maxHeartbeats 1000000
theorem sumTo_dot (f g : Nat → Int) : ∀ n, (∀ i, i < n → f i % 10007 = g i % 10007) → sumTo f n % 10007 = sumTo g n % 10007
  | 0, _ => rfl
  | n + 1, h => by
    have h1 := sumTo_dot f g n (fun i hi => h i (by omega))
    have h2 := h n (by omega)
    simp only [sumTo]
    omega
end Go.Proofs.YtoeikpioonlmfaaGreat


namespace Go.Proofs.YtoeikpioonlmfaaGreat
open Go.Abs CR
set_option linter.unusedSectionVars false
set_option linter.unusedVariables false
set_option linter.unusedSimpArgs false
set_option maxHeartbeats 1000000
theorem pwrI (a : Int) : ∀ n : Nat, pwr a n = a ^ n
  | 0 => by rw [pwr, Int.pow_zero]; rfl
  | n + 1 => by rw [pwr, pwrI a n, Int.pow_succ]
theorem tmF_mon (y e : List Int) (x : Int) : ∀ i, tmF y e x i % 10007 = x * mon (yat y) (ex e) i % 10007
  | 0 => by show x % 10007 = x * 1 % 10007; rw [Int.mul_one]
  | i + 1 => by
    have ih := tmF_mon y e x i
    show tmF y e x i * pw (yat y i) (e[i]?.getD 0) % 10007 % 10007 = x * (mon (yat y) (ex e) i * pwr (yat y i) (ex e i)) % 10007
    rw [Int.emod_emod_of_dvd _ (Int.dvd_refl _), pwrI, ← Int.mul_assoc]
    unfold pw
    rw [mod_mul_r]
    show tmF y e x i * yat y i ^ (ex e i) % 10007 = _
    rw [Int.mul_emod, ih, ← Int.mul_emod]
theorem vsum_ev (y : List Int) : ∀ L : List Mon, vsum y L % 10007 = evM y.length (yat y) L % 10007
  | [] => rfl
  | m :: L => by
    have h1 := tmF_mon y m.2 m.1 y.length
    have h2 := vsum_ev y L
    rw [evM_cons]
    show (tmF y m.2 m.1 y.length + vsum y L) % 10007 = (m.1 * mon (yat y) (ex m.2) y.length + evM y.length (yat y) L) % 10007
    generalize m.1 * mon (yat y) (ex m.2) y.length = t at *
    omega
theorem vsum_plus (y : List Int) (p q : List Mon) (k : Int) : vsum y (plusL p k q) % 10007 = (vsum y p + k * vsum y q) % 10007 := by
  have h : evM y.length (yat y) (plusL p k q) % 10007 = (evM y.length (yat y) p + k * evM y.length (yat y) q) % 10007 := plusL_ev cgI y.length (yat y) k q p
  have h1 := vsum_ev y p
  have h2 := vsum_ev y q
  rw [vsum_ev, h]
  have h3 := mod_mul k h2
  generalize k * vsum y q = t1 at *
  generalize k * evM y.length (yat y) q = t2 at *
  omega
theorem sT_sumTo (f : Nat → Int) : ∀ n, sT f n = sumTo f n
  | 0 => rfl
  | n + 1 => by rw [sT, sT_sumTo f n]; rfl
theorem vsum_along {y : List Int} {f : List (List Mon)} {p : List Mon} (hf : f.length = y.length) (hF : ∀ F ∈ f, LOk y.length F) (hp : LOk y.length p) :
    vsum y (alongL f p) % 10007 = alongS y y.length [evL y f] p % 10007 := by
  rw [vsum_ev]
  have h : evM y.length (yat y) (alongL f p) % 10007 = sT (fun j => evM1 y.length j (yat y) p * evM y.length (yat y) (f[j]?.getD [])) f.length % 10007 := alongL_ev cgI _ _ hp (by omega) hF
  rw [h, sT_sumTo, hf]
  show _ = sumTo (fun k => yat (evL y f) k * vsum y (derL k p)) y.length % 10007
  refine sumTo_dot _ _ _ fun k hk => ?_
  have h1 : evM y.length (yat y) (derL k p) % 10007 = evM1 y.length k (yat y) p % 10007 := derL_ev cgI _ _ hk hp
  have h2 := vsum_ev y (derL k p)
  have h3 := vsum_ev y (f[k]?.getD [])
  have h4 : yat (evL y f) k = vsum y (f[k]?.getD []) % 10007 := by unfold yat evL; simp [show k < f.length by omega]
  rw [h4, mod_mul_l]
  rw [Int.mul_comm, Int.mul_emod, ← h1, ← h2, ← h3, ← Int.mul_emod]
theorem ext_get {a b : List Int} (h : a.length = b.length) (h2 : ∀ i, i < a.length → a[i]?.getD 0 = b[i]?.getD 0) : a = b := by
  refine List.ext_getElem h fun i hi hj => ?_
  have := h2 i hi
  simpa [hi, hj] using this
theorem evL_at {y : List Int} {f : List (List Mon)} {i : Nat} (h : i < f.length) : (evL y f)[i]?.getD 0 = vsum y (f[i]?.getD []) % 10007 := by simp [evL, h]
theorem drvL_at {y : List Int} {vs : List (List Int)} {f : List (List Mon)} {n i : Nat} (h : i < f.length) : (drvL y n vs f)[i]?.getD 0 = drvP y n vs (f[i]?.getD []) := by simp [drvL, h]
theorem plusL_keys {k : Int} : ∀ (q p : List Mon), ∀ x ∈ plusL p k q, (∃ m ∈ p, x.2 = m.2) ∨ ∃ m ∈ q, x.2 = m.2
  | [], p, x, h => .inl ⟨x, h, rfl⟩
  | m :: q, p, x, h => by
    rcases plusL_keys q _ x h with ⟨a, ha, e⟩ | ⟨a, ha, e⟩
    · rcases putGo_keys p _ a ha with ⟨b, hb, e2⟩ | ⟨_, e2⟩
      · exact .inl ⟨b, hb, e.trans e2⟩
      · exact .inr ⟨m, by simp, e.trans e2⟩
    · exact .inr ⟨a, by simp [ha], e⟩
theorem list_half {n : Nat} (hn : n ≤ 3) {a b : List Mon} (la : ∀ m ∈ a, m.2.length = n) (lb : ∀ m ∈ b, m.2.length = n) (sa : Srt a) (sb : Srt b) (na : Nzl a) (nb : Nzl b) (h : ∀ K, cfL a K % 10007 = cfL b K % 10007) : ∀ m ∈ a, m ∈ b := by
  intro m hm
  have h1 := cfL_at hn la sa m hm
  have h2 := na m hm
  have h3 := h (keyOf m.2)
  have h4 : cfL b (keyOf m.2) ≠ 0 := by intro e; rw [h1, e] at h3; omega
  obtain ⟨m', hm', e⟩ := cfL_key h4
  have e2 := keyOf_inj (by rw [la m hm, lb m' hm']) (by rw [lb m' hm']; exact hn) e
  have h5 := cfL_at hn lb sb m' hm'
  have h6 := nb m' hm'
  rw [e] at h5
  have e3 : m' = m := Prod.ext (by omega) e2
  rw [← e3]; exact hm'
theorem srt_nodup {a : List Mon} (h : Srt a) : a.Nodup := h.imp (fun {x y} h e => by rw [e, ltL_irr] at h; simp at h)
theorem list_unique {n : Nat} (hn : n ≤ 3) {a b : List Mon} (la : ∀ m ∈ a, m.2.length = n) (lb : ∀ m ∈ b, m.2.length = n) (sa : Srt a) (sb : Srt b) (na : Nzl a) (nb : Nzl b) (h : ∀ K, cfL a K % 10007 = cfL b K % 10007) : a = b := by
  have hp : a.Perm b := (List.perm_ext_iff_of_nodup (srt_nodup sa) (srt_nodup sb)).2 fun m => ⟨list_half hn la lb sa sb na nb h m, list_half hn lb la sb sa nb na (fun K => (h K).symm) m⟩
  refine hp.eq_of_pairwise (fun x y hx hy h1 h2 => ?_) sa sb
  have := ltL_trans h1 h2
  rw [ltL_irr] at this; simp at this
end Go.Proofs.YtoeikpioonlmfaaGreat


namespace Go.Proofs.YtoeikpioonlmfaaGreat
open Go.Abs
set_option linter.unusedSectionVars false
set_option linter.unusedVariables false
set_option linter.unusedSimpArgs false
set_option maxHeartbeats 1000000
theorem nF {P : Program} {f : FuncId} {args : List AV} {x z : AV} (e : TypeId) (h : Con P f args (.tup [.agg [z, .val (.slice none 0 0)], x])) : Con P f args (.tup [.agg [z, .own e 0 []], x]) := by
  refine ⟨h.1, fun w vs hl ha => (h.2 w vs hl ha).mono ?_⟩
  rintro e' w' ⟨v, os, he, hb, hr, hn, ho⟩
  refine ⟨v, os, he, hb, fun tm oss => ?_, hn, ho⟩
  have := hr tm oss
  generalize hc : AV.tup [.agg [z, .val (.slice none 0 0)], x] = c at this
  cases this with
  | cell c v os h => subst hc; cases h
  | tup cs' vs os hl h =>
    injection hc with hc; subst hc
    refine .tup _ _ _ hl ?_
    cases h with
    | cons _ v1 o1 _ vs1 o2 k1 k2 =>
      refine .cons _ _ _ _ _ _ ?_ k2
      generalize hc2 : AV.agg [z, .val (.slice none 0 0)] = c2 at k1
      cases k1 with
      | cell c v os h => subst hc2; cases h
      | agg cs2 vs2 os2 hl2 h2 =>
        injection hc2 with hc2; subst hc2
        exact .agg _ _ _ hl2 ((WkL.same _ _ _ (.own e _ _ .nil)).rep h2)
      | _ => simp at hc2
  | _ => simp at hc
def ckE (z : Int) (f : List (List Mon)) (w : Int) (g : List (List Mon)) : Int := if fieldB z f = true then if fieldB w g = true then if z = w then 0 else 1 else 1 else 1
theorem ckE_ok {z w : Int} {f g : List (List Mon)} (h : ckE z f w g = 0) : fieldB z f = true ∧ fieldB w g = true ∧ z = w := by
  unfold ckE at h
  split at h
  · split at h
    · split at h
      · exact ⟨by assumption, by assumption, by assumption⟩
      · simp at h
    · simp at h
  · simp at h
def afL (f g : List (List Mon)) : List (List Mon) := (List.range f.length).map fun i => plusL (f[i]?.getD []) 1 (g[i]?.getD [])
@[simp] theorem afL_len (f g : List (List Mon)) : (afL f g).length = f.length := by simp [afL]
theorem afL_at {f g : List (List Mon)} {i : Nat} (h : i < f.length) : (afL f g)[i]?.getD [] = plusL (f[i]?.getD []) 1 (g[i]?.getD []) := by simp [afL, h]
def afX (z : Int) (f : List (List Mon)) (w : Int) (g : List (List Mon)) : List (List Mon) := if ckE z f w g = 0 then afL f g else []
def afR (z : Int) (f : List (List Mon)) (w : Int) (g : List (List Mon)) : AV := .tup [.agg [.int (if ckE z f w g = 0 then z else 0), .own 92 (afX z f w g).length (oprt (afX z f w g))], .int (ckE z f w g)]
theorem partWok {z : Int} {f : List (List Mon)} (hF : FieldOk z f) {F : List Mon} (h : F ∈ f) : ∀ m ∈ F, WOk f.length 3 m := fun m hm => by
  have := partB_mem (hF.part F h) hm
  have h1 := this.lo
  have h2 := this.hi
  have h3 := this.len
  have zl := hF.len
  exact ⟨⟨by omega, by omega⟩, by omega, this.pw⟩
theorem partSrt {z : Int} {p : List Mon} (h : partB z p = true) : Srt p ∧ Nzl p := by
  refine ⟨?_, fun m hm => ?_⟩
  · unfold Srt
    rw [List.pairwise_iff_getElem]
    intro i j hi hj hij
    have := chain_lt h hij hj
    simpa [hi, hj] using this
  · have := partB_mem h hm
    exact ⟨this.lo, this.hi⟩
end Go.Proofs.YtoeikpioonlmfaaGreat


namespace Go.Proofs.YtoeikpioonlmfaaGreat
open Go.Abs
set_option linter.unusedSectionVars false
set_option linter.unusedVariables false
set_option linter.unusedSimpArgs false
set_option maxHeartbeats 1000000
set_option maxRecDepth 100000 in
theorem checkFields_c (z : Int) (f : List (List Mon)) (w : Int) (g : List (List Mon)) (hs : Small f) (hs2 : Small g) :
    Con Tryz.prog 60 [.agg [.int z, .sl f.length (prt f)], .agg [.int w, .sl g.length (prt g)]] (.int (ckE z f w g)) := by
  have cT := IsField_c z f hs
  have cU := IsField_c w g hs2
  cases hT : fieldB z f with
  | false =>
    rw [hT] at cT
    have e : ckE z f w g = 1 := by unfold ckE; rw [hT]; rfl
    rw [e]
    refine con_of_vc Tryz.mixed ⟨5, [], [], []⟩ Tryz.func60 (by decide) rfl (by simp) (by decide) (by simp [freshOK, freshL, go_sem]) ?_
    rw [Tryz.ntmps60]
    simp [go_sem]
    refine CallVC.of (cT) (by decide) ?_
    simp [go_sem]
  | true =>
    rw [hT] at cT
    cases hU : fieldB w g with
    | false =>
      rw [hU] at cU
      have e : ckE z f w g = 1 := by unfold ckE; rw [hT, hU]; rfl
      rw [e]
      refine con_of_vc Tryz.mixed ⟨5, [], [], []⟩ Tryz.func60 (by decide) rfl (by simp) (by decide) (by simp [freshOK, freshL, go_sem]) ?_
      rw [Tryz.ntmps60]
      simp [go_sem]
      refine CallVC.of (cT) (by decide) ?_
      simp [go_sem]
      refine CallVC.of (cU) (by decide) ?_
      simp [go_sem]
    | true =>
      rw [hU] at cU
      by_cases hzw : z = w
      · have e : ckE z f w g = 0 := by unfold ckE; rw [hT, hU, if_pos rfl, if_pos rfl, if_pos hzw]
        rw [e]
        refine con_of_vc Tryz.mixed ⟨5, [], [], []⟩ Tryz.func60 (by decide) rfl (by simp) (by decide) (by simp [freshOK, freshL, go_sem]) ?_
        rw [Tryz.ntmps60]
        simp [go_sem]
        refine CallVC.of (cT) (by decide) ?_
        simp [go_sem]
        refine CallVC.of (cU) (by decide) ?_
        simp [go_sem]
        simp [go_sem, hzw]
      · have e : ckE z f w g = 1 := by unfold ckE; rw [hT, hU, if_pos rfl, if_pos rfl, if_neg hzw]
        rw [e]
        refine con_of_vc Tryz.mixed ⟨5, [], [], []⟩ Tryz.func60 (by decide) rfl (by simp) (by decide) (by simp [freshOK, freshL, go_sem]) ?_
        rw [Tryz.ntmps60]
        simp [go_sem]
        refine CallVC.of (cT) (by decide) ?_
        simp [go_sem]
        refine CallVC.of (cU) (by decide) ?_
        simp [go_sem]
        simp [go_sem, hzw]
def adG (f g : List (List Mon)) (i : Nat) : List (Key → Option Int) := (List.range f.length).map fun j => if j < i then addM (polF (f[j]?.getD [])) (polF (g[j]?.getD [])) 1 else polF (f[j]?.getD [])
@[simp] theorem adG_len (f g : List (List Mon)) (i : Nat) : (adG f g i).length = f.length := by simp [adG]
theorem adG_zero (f g : List (List Mon)) : (adG f g 0).map AV.mp = pols f := by
  apply List.ext_getElem
  · simp
  · intro j h1 h2
    simp [adG, pols] at h1 ⊢
    simp [h1]
theorem adG_at {f g : List (List Mon)} {i : Nat} (h : i < f.length) : ((adG f g i).map AV.mp)[i]? = some (.mp (polF (f[i]?.getD []))) := by simp [adG, h]
theorem adG_set {f g : List (List Mon)} {i : Nat} (h : i < f.length) : ((adG f g i).map AV.mp).set i (.mp (addM (polF (f[i]?.getD [])) (polF (g[i]?.getD [])) 1)) = (adG f g (i + 1)).map AV.mp := by
  apply List.ext_getElem
  · simp
  · intro j h1 h2
    simp at h1
    by_cases e : i = j
    · subst e; simp [adG]
    · have : (j < i + 1) = (j < i) := by simp; omega
      simp [adG, List.getElem_set, e, this]
theorem adG_end {f g : List (List Mon)} {i : Nat} (h : i < f.length) : (adG f g f.length)[i]?.getD mzero = addM (polF (f[i]?.getD [])) (polF (g[i]?.getD [])) 1 := by simp [adG, h]
theorem mps_frz : ∀ cs : List (Key → Option Int), frzL (cs.map AV.mp) = cs.map AV.fmp
  | [] => rfl
  | c :: cs => by rw [List.map_cons, frzL, mps_frz cs]; rfl
theorem polF_MapN {z : Int} {p : List Mon} (hz : z ≤ 3) (h : partB z p = true) : MapN (polF p) := fun k x hk => (part_entries hz h hk).1
theorem afPart {z w : Int} {f g : List (List Mon)} (hF : FieldOk z f) (hG : FieldOk w g) (hzw : z = w) {i : Nat} (hi : i < f.length) :
    Con Tryz.prog 136 [.fmp ((adG f g f.length)[i]?.getD mzero), .int f.length] (.own 97 ((afL f g)[i]?.getD []).length (omons ((afL f g)[i]?.getD []))) := by
  have zl := hF.len
  have wl := hG.len
  have z3 := hF.hi
  have z1 := hF.lo
  have hig : i < g.length := by omega
  have fg : f.length = g.length := by omega
  have p1 := hF.part _ (memD [] hi)
  have p2 := hG.part _ (memD [] hig)
  have w1 := partWok hF (memD [] hi)
  have w2 : ∀ m ∈ g[i]?.getD [], WOk f.length 3 m := fun m hm => by have := partWok hG (memD [] hig) m hm; rwa [← fg] at this
  have hS := plusL_srt (k := 1) _ _ w2 w1 (partSrt p1)
  have hW := plusL_wok (k := 1) _ _ w2 w1
  have l1 := part20 z3 p1
  have l2 := part20 (by omega) p2
  have l3 := plusL_len 1 (g[i]?.getD []) (f[i]?.getD [])
  rw [adG_end hi, afL_at hi]
  refine part_c2 (by omega) (by omega) (addM_N (polF_MapN z3 p1)) hS.1 hS.2 (fun m hm => (hW m hm).len) (by omega) (fun K => ?_)
  rw [addM_gv, plusL_cf, polF_gv (keys_nd z3 p1), polF_gv (keys_nd (by omega) p2)]
theorem afX_tiny (z : Int) (f : List (List Mon)) (w : Int) (g : List (List Mon)) : Tiny (afX z f w g) := by
  unfold afX
  split
  · rename_i hE
    obtain ⟨hT, hU, hzw⟩ := ckE_ok hE
    have hF := fieldB_iff.1 hT
    have hG := fieldB_iff.1 hU
    have zl := hF.len
    have wl := hG.len
    have z3 := hF.hi
    have fg : f.length = g.length := by omega
    refine ⟨by simp; omega, fun p hp => ?_⟩
    obtain ⟨i, hi, rfl⟩ := List.mem_map.1 hp
    have hi : i < f.length := by simpa using hi
    have hig : i < g.length := by omega
    have l1 := part20 z3 (hF.part _ (memD [] hi))
    have l2 := part20 (by omega) (hG.part _ (memD [] hig))
    have l3 := plusL_len 1 (g[i]?.getD []) (f[i]?.getD [])
    have hW := plusL_wok (k := 1) (g[i]?.getD []) (f[i]?.getD []) (fun m hm => by have := partWok hG (memD [] hig) m hm; rwa [← fg] at this) (partWok hF (memD [] hi))
    exact ⟨by omega, fun m hm => by have := (hW m hm).len; omega⟩
  · exact ⟨by simp, by simp⟩
set_option maxRecDepth 100000 in
theorem AddFields_c (z : Int) (f : List (List Mon)) (w : Int) (g : List (List Mon)) (hs : Small f) (hs2 : Small g) :
    Con Tryz.prog 17 [.agg [.int z, .sl f.length (prt f)], .agg [.int w, .sl g.length (prt g)]] (afR z f w g) := by
  have cK := checkFields_c z f w g hs hs2
  unfold afR afX
  by_cases hE : ckE z f w g = 0
  · rw [hE] at cK
    rw [hE, if_pos rfl, if_pos rfl]
    obtain ⟨hT, hU, hzw⟩ := ckE_ok hE
    have hF := fieldB_iff.1 hT
    have hG := fieldB_iff.1 hU
    have zl := hF.len
    have wl := hG.len
    have z3 := hF.hi
    have z1 := hF.lo
    have fg : f.length = g.length := by omega
    have cP := polynomials_c z f hF hs
    have cQ := polynomials_c w g hG hs2
    refine con_of_vc Tryz.mixed ⟨11, [21], [62], []⟩ Tryz.func17 (by decide) rfl (by simp) (by decide) (by simp [freshOK, freshL, go_sem]) ?_
    rw [Tryz.ntmps17]
    simp [go_sem]
    refine CallVC.of (cK) (by decide) ?_
    simp [go_sem]
    refine ⟨by kernel_rfl, ?_⟩
    refine CallD.of (cP) (by simp [roots, rootsL]) (by decide) ?_
    simp [go_sem]
    refine CallD.of (cQ) (by simp [go_sem, roots, rootsL]) (by decide) ?_
    simp [go_sem]
    refine ⟨by kernel_rfl, ?_⟩
    simp [go_sem]
    refine loop_invA (7 :: 9 :: 10 :: 22 :: List.range' 24 12) (9 :: 10 :: List.range' 25 11) (fun i : Nat => [(7, .own 87 f.length ((adG f g i).map AV.mp)), (22, .bor 7 []), (24, .int i)]) (fun i => i ≤ f.length) (fun i => f.length - i) 0 (by intro x i h1 h2; have : i = 7 ∨ i = 22 ∨ i = 24 := (by simp at h1 h2; omega); rcases this with rfl | rfl | rfl <;> rfl) (by intro i h; simp at h ⊢; omega) (by simp) (by simp [go_sem, adG_zero]) (by simp [go_sem, kl]) ?_
    intro i hi
    simp [go_sem]
    refine ⟨fun h => ?_, fun h => ?_⟩ <;> simp at h
    · have hif := h
      have hig : i < g.length := by omega
      have hA := adG_at (g := g) hif
      have hS := adG_set (g := g) hif
      have cA := add_c (polF (f[i]?.getD [])) (polF (g[i]?.getD [])) 1 (polF_MapN z3 (hF.part _ (memD [] hif))) (polF_MapN (by omega) (hG.part _ (memD [] hig))) ⟨by omega, by omega⟩
      have hgl := fpols_drop hig
      generalize hM : (adG f g i).map AV.mp = M at hA hS
      have hML : M.length = f.length := by rw [← hM]; simp
      have hMn : ¬ M = [] := by rintro rfl; simp at hML; omega
      generalize f[i]?.getD [] = p at hA hS cA
      generalize g[i]?.getD [] = q at hgl hS cA
      simp [go_sem, hML, hA, hgl]
      refine ⟨hif, ⟨hig, by rintro rfl; simp at hig⟩, ?_⟩
      refine ⟨_, _, cA, ?_⟩
      simp [go_sem, hML, hif]
      rw [hS]
      refine ⟨by omega, i + 1, by omega, by omega, Off_reset _ _ _ (by simp), by first | exact ⟨rfl, by omega⟩ | omega | rfl | simp, by simp [kl]⟩
    · have e : i = f.length := by omega
      subst e
      have cF := fieldOf_c f.length (adG f g f.length) (afL f g) (by simp) (by simp; omega) (by simp; omega) (fun i hi => afPart hF hG hzw (by simpa using hi))
      rw [zl] at cF
      simp only [adG_len, afL_len] at cF
      simp [go_sem, mps_frz]
      refine CallVC.of (cF) (by decide) ?_
      simp [go_sem]
  · have e : ckE z f w g = 1 := by
      unfold ckE at hE ⊢
      split
      · split
        · split
          · simp_all
          · rfl
        · rfl
      · rfl
    rw [e] at cK
    rw [e]
    refine nF _ ?_
    refine con_of_vc Tryz.mixed ⟨11, [], [62], []⟩ Tryz.func17 (by decide) rfl (by simp) (by decide) (by simp [freshOK, freshL, go_sem]) ?_
    rw [Tryz.ntmps17]
    simp [go_sem]
    refine CallVC.of (cK) (by decide) ?_
    simp [go_sem]
end Go.Proofs.YtoeikpioonlmfaaGreat


namespace Go.Proofs.YtoeikpioonlmfaaGreat
open Go.Abs
set_option linter.unusedSectionVars false
set_option linter.unusedVariables false
set_option linter.unusedSimpArgs false
set_option maxHeartbeats 1000000
def fsE (z : Int) (f : List (List Mon)) (k : Int) : Int := if fieldB z f = true then if 0 ≤ k ∧ k ≤ 10006 then 0 else 2 else 1
def fsL (f : List (List Mon)) (k : Int) : List (List Mon) := f.map fun F => plusL [] k F
@[simp] theorem fsL_len (f : List (List Mon)) (k : Int) : (fsL f k).length = f.length := by simp [fsL]
theorem fsL_at {f : List (List Mon)} {k : Int} {i : Nat} (h : i < f.length) : (fsL f k)[i]?.getD [] = plusL [] k (f[i]?.getD []) := by simp [fsL, h]
def fsX (z : Int) (f : List (List Mon)) (k : Int) : List (List Mon) := if fsE z f k = 0 then fsL f k else []
def fsR (z : Int) (f : List (List Mon)) (k : Int) : AV := .tup [.agg [.int (if fsE z f k = 0 then z else 0), .own 92 (fsX z f k).length (oprt (fsX z f k))], .int (fsE z f k)]
def fsM (f : List (List Mon)) (k : Int) (i : Nat) : List (Key → Option Int) := (f.take i).map fun F => addM mzero (polF F) k
@[simp] theorem fsM_len (f : List (List Mon)) (k : Int) (i : Nat) : (fsM f k i).length = min i f.length := by simp [fsM]
theorem fsM_snoc {f : List (List Mon)} {k : Int} {i : Nat} (h : i < f.length) : (fsM f k (i + 1)).map AV.mp = (fsM f k i).map AV.mp ++ [.mp (addM mzero (polF (f[i]?.getD [])) k)] := by
  rw [fsM, fsM, List.take_add_one, List.getElem?_eq_getElem h, Option.toList_some, List.map_append, List.map_append, Option.getD_some]; rfl
theorem fsM_at {f : List (List Mon)} {k : Int} {i : Nat} (h : i < f.length) : (fsM f k f.length)[i]?.getD mzero = addM mzero (polF (f[i]?.getD [])) k := by simp [fsM, h]
theorem fsPart {z k : Int} {f : List (List Mon)} (hF : FieldOk z f) (hk : 0 ≤ k ∧ k ≤ 10006) {i : Nat} (hi : i < f.length) :
    Con Tryz.prog 136 [.fmp ((fsM f k f.length)[i]?.getD mzero), .int f.length] (.own 97 ((fsL f k)[i]?.getD []).length (omons ((fsL f k)[i]?.getD []))) := by
  have zl := hF.len
  have z3 := hF.hi
  have z1 := hF.lo
  have p1 := hF.part _ (memD [] hi)
  have w1 := partWok hF (memD [] hi)
  have hS := plusL_srt (k := k) _ [] w1 (by simp) ⟨List.Pairwise.nil, by simp [Nzl]⟩
  have hW := plusL_wok (k := k) _ [] w1 (by simp)
  have l1 := part20 z3 p1
  have l3 := plusL_len k (f[i]?.getD []) []
  rw [fsM_at hi, fsL_at hi]
  refine part_c2 (by omega) (by omega) (addM_N (fun k x h => by simp [mzero] at h)) hS.1 hS.2 (fun m hm => (hW m hm).len) (by simp at l3; omega) (fun K => ?_)
  rw [addM_gv, plusL_cf, polF_gv (keys_nd z3 p1)]
  rfl
theorem fsX_tiny (z : Int) (f : List (List Mon)) (k : Int) : Tiny (fsX z f k) := by
  unfold fsX
  split
  · rename_i hE
    have hT : fieldB z f = true := by
      unfold fsE at hE
      split at hE
      · assumption
      · simp at hE
    have hF := fieldB_iff.1 hT
    have zl := hF.len
    have z3 := hF.hi
    refine ⟨by simp; omega, fun p hp => ?_⟩
    obtain ⟨F, hm, rfl⟩ := List.mem_map.1 hp
    have l1 := part20 z3 (hF.part _ hm)
    have l3 := plusL_len k F []
    have hW := plusL_wok (k := k) F [] (partWok hF hm) (by simp)
    exact ⟨by simp at l3; omega, fun m hm => by have := (hW m hm).len; omega⟩
  · exact ⟨by simp, by simp⟩
set_option maxRecDepth 100000 in
theorem ScaleField_c (z : Int) (f : List (List Mon)) (k : Int) (hs : Small f) :
    Con Tryz.prog 18 [.agg [.int z, .sl f.length (prt f)], .int k] (fsR z f k) := by
  have cT := IsField_c z f hs
  unfold fsR fsX
  cases hT : fieldB z f with
  | false =>
    rw [hT] at cT
    have e : fsE z f k = 1 := by unfold fsE; rw [hT]; rfl
    rw [e]
    refine nF _ ?_
    refine con_of_vc Tryz.mixed ⟨10, [], [], []⟩ Tryz.func18 (by decide) rfl (by simp) (by decide) (by simp [freshOK, freshL, go_sem]) ?_
    rw [Tryz.ntmps18]
    simp [go_sem]
    refine CallVC.of (cT) (by decide) ?_
    simp [go_sem]
  | true =>
    rw [hT] at cT
    have cN := IsNumber_c k
    by_cases hk : 0 ≤ k ∧ k ≤ 10006
    · have e : fsE z f k = 0 := by unfold fsE; rw [hT, if_pos rfl, if_pos hk]
      rw [e, if_pos rfl, if_pos rfl]
      rw [decide_eq_true hk] at cN
      have hF := fieldB_iff.1 hT
      have zl := hF.len
      have z3 := hF.hi
      have z1 := hF.lo
      have cP := polynomials_c z f hF hs
      refine con_of_vc Tryz.mixed ⟨10, [22], [62], []⟩ Tryz.func18 (by decide) rfl (by simp) (by decide) (by simp [freshOK, freshL, go_sem]) ?_
      rw [Tryz.ntmps18]
      simp [go_sem]
      refine CallVC.of (cT) (by decide) ?_
      simp [go_sem]
      refine CallVC.of (cN) (by decide) ?_
      simp [go_sem]
      refine CallVC.of (cP) (by decide) ?_
      simp [go_sem]
      refine loop_inv (6 :: 8 :: 9 :: List.range' 24 14) (fun i : Nat => [(6, .own 87 i ((fsM f k i).map AV.mp)), (24, .int i)]) (fun i => i ≤ f.length) (fun i => f.length - i) 0 (by simp) (by simp [go_sem, fsM]) (by simp [go_sem]) ?_
      intro i hi
      simp [go_sem]
      refine ⟨fun h => ?_, fun h => ?_⟩ <;> simp at h
      · have hif := h
        have cA := add_c mzero (polF (f[i]?.getD [])) k (fun k x h => by simp [mzero] at h) (polF_MapN z3 (hF.part _ (memD [] hif))) ⟨by omega, by omega⟩
        have hsn := fsM_snoc (k := k) hif
        simp [go_sem, fpols_drop hif]
        refine ⟨⟨hif, by rintro rfl; simp at hif⟩, ?_⟩
        refine ⟨_, _, cA, ?_⟩
        simp [go_sem]
        refine ⟨⟨by omega, by omega, by omega⟩, ⟨by omega, by omega⟩, i + 1, by omega, by omega, Off_reset _ _ _ (by simp), ?_, by omega⟩
        exact ⟨rfl, hsn.symm⟩
      · have e : i = f.length := by omega
        subst e
        have cF := fieldOf_c f.length (fsM f k f.length) (fsL f k) (by simp) (by simp; omega) (by simp; omega) (fun i hi => fsPart hF hk (by simpa using hi))
        rw [zl] at cF
        simp [go_sem, mps_frz]
        simp only [fsM_len, Nat.min_self, fsL_len] at cF
        refine CallVC.of (cF) (by decide) ?_
        simp [go_sem]
    · have e : fsE z f k = 2 := by unfold fsE; rw [hT, if_pos rfl, if_neg hk]
      rw [e]
      rw [decide_eq_false hk] at cN
      refine nF _ ?_
      refine con_of_vc Tryz.mixed ⟨10, [], [], []⟩ Tryz.func18 (by decide) rfl (by simp) (by decide) (by simp [freshOK, freshL, go_sem]) ?_
      rw [Tryz.ntmps18]
      simp [go_sem]
      refine CallVC.of (cT) (by decide) ?_
      simp [go_sem]
      refine CallVC.of (cN) (by decide) ?_
      simp [go_sem]
end Go.Proofs.YtoeikpioonlmfaaGreat


namespace Go.Proofs.YtoeikpioonlmfaaGreat
open Go.Abs
set_option linter.unusedSectionVars false
set_option linter.unusedVariables false
set_option linter.unusedSimpArgs false
set_option maxHeartbeats 1000000
end Go.Proofs.YtoeikpioonlmfaaGreat


namespace Go.Proofs.YtoeikpioonlmfaaGreat
open Go.Abs
set_option linter.unusedSectionVars false
set_option linter.unusedVariables false
set_option linter.unusedSimpArgs false
set_option maxHeartbeats 1000000
end Go.Proofs.YtoeikpioonlmfaaGreat


namespace Go.Proofs.YtoeikpioonlmfaaGreat
open Go.Abs
set_option linter.unusedSectionVars false
set_option linter.unusedVariables false
set_option linter.unusedSimpArgs false
set_option maxHeartbeats 1000000
end Go.Proofs.YtoeikpioonlmfaaGreat


namespace Go.Proofs.YtoeikpioonlmfaaGreat
open Go.Abs
set_option linter.unusedSectionVars false
set_option linter.unusedVariables false
set_option linter.unusedSimpArgs false
set_option maxHeartbeats 4000000
end Go.Proofs.YtoeikpioonlmfaaGreat


namespace Go.Proofs.YtoeikpioonlmfaaGreat
set_option linter.unusedSectionVars false
set_option linter.unusedVariables false
set_option linter.unusedSimpArgs false
def Lv (t : List Int) : Prop := 0 < t.length ∧ t[0]?.getD 0 = 0 ∧ ∀ j, 0 < j → j < t.length → 1 ≤ t[j]?.getD 0 ∧ t[j]?.getD 0 ≤ t[j - 1]?.getD 0 + 1
theorem Lv.le {t : List Int} (h : Lv t) : ∀ j, j < t.length → 0 ≤ t[j]?.getD 0 ∧ t[j]?.getD 0 ≤ j
  | 0, _ => by rw [h.2.1]; omega
  | j + 1, hj => by
    have h1 := h.le j (by omega)
    have h2 := h.2.2 (j + 1) (by omega) hj
    rw [Nat.add_sub_cancel] at h2
    omega
theorem Lv.snoc {t : List Int} {x : Int} (h : Lv t) (h1 : 1 ≤ x) (h2 : x ≤ t[t.length - 1]?.getD 0 + 1) : Lv (t ++ [x]) := by
  obtain ⟨k1, k2, k3⟩ := h
  refine ⟨by simp, by rw [List.getElem?_append_left k1]; exact k2, fun j hj hl => ?_⟩
  simp at hl
  by_cases e : j = t.length
  · subst e
    rw [List.getElem?_append_right (by omega), List.getElem?_append_left (by omega)]
    simp; exact ⟨h1, h2⟩
  · rw [List.getElem?_append_left (by omega), List.getElem?_append_left (by omega)]
    exact k3 j hj (by omega)
end Go.Proofs.YtoeikpioonlmfaaGreat


namespace Go.Proofs.YtoeikpioonlmfaaGreat
open Go.Abs
set_option linter.unusedSectionVars false
set_option linter.unusedVariables false
set_option linter.unusedSimpArgs false
set_option maxHeartbeats 4000000
end Go.Proofs.YtoeikpioonlmfaaGreat


namespace Go.Proofs.YtoeikpioonlmfaaGreat
open Go.Abs
set_option linter.unusedSectionVars false
set_option linter.unusedVariables false
set_option linter.unusedSimpArgs false
set_option maxHeartbeats 4000000
end Go.Proofs.YtoeikpioonlmfaaGreat


namespace Go.Proofs.YtoeikpioonlmfaaGreat
open Go.Abs
set_option linter.unusedSectionVars false
set_option linter.unusedVariables false
set_option linter.unusedSimpArgs false
set_option maxHeartbeats 4000000
theorem drvL_N (y : List Int) (n : Nat) (vs : List (List Int)) (f : List (List Mon)) : Ns (drvL y n vs f) := by
  intro x hx
  obtain ⟨p, _, rfl⟩ := List.mem_map.1 hx
  unfold drvP
  split
  · exact ⟨by omega, by omega⟩
  · exact isN_mod _
end Go.Proofs.YtoeikpioonlmfaaGreat


namespace Go.Proofs.YtoeikpioonlmfaaGreat
open Go.Abs
set_option linter.unusedSectionVars false
set_option linter.unusedVariables false
set_option linter.unusedSimpArgs false
set_option maxHeartbeats 1000000
end Go.Proofs.YtoeikpioonlmfaaGreat


namespace Go.Proofs.YtoeikpioonlmfaaGreat
open Go.Abs
set_option linter.unusedSectionVars false
set_option linter.unusedVariables false
set_option linter.unusedSimpArgs false
set_option maxHeartbeats 1000000
end Go.Proofs.YtoeikpioonlmfaaGreat


namespace Go.Proofs.YtoeikpioonlmfaaGreat
open Go.Abs
set_option linter.unusedSectionVars false
set_option linter.unusedVariables false
set_option linter.unusedSimpArgs false
set_option maxHeartbeats 1000000
end Go.Proofs.YtoeikpioonlmfaaGreat


namespace Go.Proofs.YtoeikpioonlmfaaGreat
open Go.Abs
set_option linter.unusedSectionVars false
set_option linter.unusedVariables false
set_option linter.unusedSimpArgs false
set_option maxHeartbeats 1000000
end Go.Proofs.YtoeikpioonlmfaaGreat


namespace Go.Proofs.YtoeikpioonlmfaaGreat
open Go.Abs
set_option linter.unusedSectionVars false
set_option linter.unusedVariables false
set_option linter.unusedSimpArgs false
set_option maxHeartbeats 1000000
end Go.Proofs.YtoeikpioonlmfaaGreat


namespace Go.Proofs.YtoeikpioonlmfaaGreat
open Go.Abs
set_option linter.unusedSectionVars false
set_option linter.unusedVariables false
set_option linter.unusedSimpArgs false
set_option maxHeartbeats 1000000
end Go.Proofs.YtoeikpioonlmfaaGreat


namespace Go.Proofs.YtoeikpioonlmfaaGreat
open Go.Abs
set_option linter.unusedSectionVars false
set_option linter.unusedVariables false
set_option linter.unusedSimpArgs false
set_option maxHeartbeats 1000000
end Go.Proofs.YtoeikpioonlmfaaGreat


namespace Go.Proofs.YtoeikpioonlmfaaGreat
open Go.Abs
set_option linter.unusedSectionVars false
set_option linter.unusedVariables false
set_option linter.unusedSimpArgs false
set_option maxHeartbeats 1000000
end Go.Proofs.YtoeikpioonlmfaaGreat


namespace Go.Proofs.YtoeikpioonlmfaaGreat
open Go.Abs
set_option linter.unusedSectionVars false
set_option linter.unusedVariables false
set_option linter.unusedSimpArgs false
set_option maxHeartbeats 1000000
end Go.Proofs.YtoeikpioonlmfaaGreat


namespace Go.Proofs.YtoeikpioonlmfaaGreat
open Go.Abs
set_option linter.unusedSectionVars false
set_option linter.unusedVariables false
set_option linter.unusedSimpArgs false
set_option maxHeartbeats 1000000
end Go.Proofs.YtoeikpioonlmfaaGreat


namespace Go.Proofs.YtoeikpioonlmfaaGreat
open Go.Abs
set_option linter.unusedSectionVars false
set_option linter.unusedVariables false
set_option linter.unusedSimpArgs false
set_option maxHeartbeats 1000000
end Go.Proofs.YtoeikpioonlmfaaGreat


namespace Go.Proofs.YtoeikpioonlmfaaGreat
open Go.Abs
set_option linter.unusedSectionVars false
set_option linter.unusedVariables false
set_option linter.unusedSimpArgs false
set_option maxHeartbeats 1000000
end Go.Proofs.YtoeikpioonlmfaaGreat


namespace Go.Proofs.YtoeikpioonlmfaaGreat
open Go.Abs
set_option linter.unusedSectionVars false
set_option linter.unusedVariables false
set_option linter.unusedSimpArgs false
set_option maxHeartbeats 1000000
end Go.Proofs.YtoeikpioonlmfaaGreat


namespace Go.Proofs.YtoeikpioonlmfaaGreat
open Go.Abs
set_option linter.unusedSectionVars false
set_option linter.unusedVariables false
set_option linter.unusedSimpArgs false
set_option maxHeartbeats 1000000
end Go.Proofs.YtoeikpioonlmfaaGreat


namespace Go.Proofs.YtoeikpioonlmfaaGreat
open Go.Abs
set_option linter.unusedSectionVars false
set_option linter.unusedVariables false
set_option linter.unusedSimpArgs false
set_option maxHeartbeats 1000000
def subK (a b : Key) : Key := (a.1 - b.1, a.2.1 - b.2.1, a.2.2 - b.2.2)
theorem addK_iff {K a b : Key} : K = addK a b ↔ subK K a = b := by
  obtain ⟨k0, k1, k2⟩ := K
  obtain ⟨a0, a1, a2⟩ := a
  obtain ⟨b0, b1, b2⟩ := b
  simp only [addK, subK, Prod.mk.injEq]
  omega
theorem coef_sub {α : Type} (K a : Key) (x : Int) (key : α → Key) (num : α → Int) (E : List α) : sumI (fun d => if K = addK a (key d) then x * num d else 0) E = x * coef key num E (subK K a) := by
  unfold coef
  rw [← sumI_mul]
  refine sumI_congr (fun d _ => ?_)
  by_cases h : subK K a = key d
  · rw [if_pos (addK_iff.2 h), if_pos h]
  · rw [if_neg (fun e => h (addK_iff.1 e)), if_neg h, Int.mul_zero]
theorem prod_cf {n : Nat} {P q : List Mon} {c' : Key → Option Int} {E : List (Key × Int)} (hn : n ≤ 3) (hP : ∀ m ∈ P, m.2.length = n) (hq : ∀ m ∈ q, m.2.length = n) (hE : Enum c' E)
    (h : ∀ K, gv c' K % 10007 = cfL q K % 10007) (K : Key) : cfT (prT (P.map keyM) E) K % 10007 = pcf P q K % 10007 := by
  rw [cfT_prT, sumI_map]
  unfold pcf
  refine sumI_mod (fun a ha => ?_)
  have e2 : sumI (fun b => if K = keyOf (addE a.2 b.2) then a.1 * b.1 else 0) q = a.1 * cfL q (subK K (keyOf a.2)) := by
    rw [cfL, ← coef_sub]
    refine sumI_congr (fun b hb => ?_)
    rw [keyOf_add (by rw [hP a ha, hq b hb]) (by rw [hP a ha]; exact hn)]
  have e1 : sumI (fun d : Key × Int => if K = addK (keyM a).1 d.1 then (keyM a).2 * d.2 else 0) E = a.1 * gv c' (subK K (keyOf a.2)) := by
    have := coef_enum hE (subK K (keyOf a.2))
    rw [gv, ← this]
    exact coef_sub K (keyOf a.2) a.1 Prod.fst Prod.snd E
  rw [e1, e2, Int.mul_emod, h, ← Int.mul_emod]
theorem enum_exists : ∀ (L : List Key) (c : Key → Option Int), (∀ k x, c k = some x → k ∈ L) → ∃ es, Enum c es
  | [], c, h => ⟨[], .nil, by simp, fun k _ => by
      cases hc : c k with
      | none => rfl
      | some x => exact absurd (h k x hc) (by simp)⟩
  | a :: L, c, h => by
    obtain ⟨es, he⟩ := enum_exists L (fun k => if k = a then none else c k) (fun k x hk => by
      by_cases e : k = a
      · simp [e] at hk
      · simp [e] at hk
        rcases List.mem_cons.1 (h k x hk) with h1 | h1
        · exact absurd h1 e
        · exact h1)
    have hne : ∀ p ∈ es, p.1 ≠ a := fun p hp e => by
      have := he.val p hp
      simp [e] at this
    cases hc : c a with
    | none =>
      refine ⟨es, he.nd, fun p hp => ?_, fun k hk => ?_⟩
      · have := he.val p hp
        simpa [hne p hp] using this
      · by_cases e : k = a
        · rw [e]; exact hc
        · have := he.out k hk
          simpa [e] using this
    | some x =>
      refine ⟨(a, x) :: es, List.pairwise_cons.2 ⟨fun p hp e => hne p hp e.symm, he.nd⟩, fun p hp => ?_, fun k hk => ?_⟩
      · rcases List.mem_cons.1 hp with rfl | hp
        · exact hc
        · have := he.val p hp
          simpa [hne p hp] using this
      · have e : ¬ k = a := fun e => hk (a, x) (by simp) e.symm
        have := he.out k (fun p hp => hk p (by simp [hp]))
        simpa [e] using this
open Classical in
noncomputable def enE (c : Key → Option Int) : List (Key × Int) := if h : ∃ es, Enum c es then h.choose else []
theorem enE_is {c : Key → Option Int} (h : ∃ es, Enum c es) : Enum c (enE c) := by
  unfold enE
  rw [dif_pos h]
  exact h.choose_spec
theorem derM_listed {i : Nat} {p : List Mon} (h : p.Pairwise (fun a b => keyOf a.2 ≠ keyOf b.2)) : ∃ es, Enum (derM i (polF p)) es := by
  refine enum_exists (p.map fun m => dec i (keyOf m.2)) _ (fun k x hk => ?_)
  unfold derM at hk
  cases hc : polF p (inc i k) with
  | none => rw [hc] at hk; simp at hk
  | some a =>
    obtain ⟨m, hm, e⟩ := List.mem_map.1 ((polF_some h).1 hc)
    have e1 : keyOf m.2 = inc i k := congrArg Prod.fst e
    exact List.mem_map.2 ⟨m, hm, (inc_dec.1 e1.symm).symm⟩
theorem derM_all {n i : Nat} {p : List Mon} (hn : n ≤ 3) (hi : i < n) (hp : partB (n : Int) p = true) (K : Key) : gv (derM i (polF p)) K % 10007 = cfL (derL i p) K % 10007 := by
  have hv : ∀ m ∈ p, VOk n m := fun m hm => (partB_mem hp hm).vok
  by_cases h : 0 ≤ at3 i K
  · have e : gv (polF p) = cfL p := funext (polF_gv (keys_nd (by omega) hp))
    rw [derM_gv i _ h, derL_cf hi hn h hv, e]
  · have h1 : gv (derM i (polF p)) K = 0 := by
      unfold gv derM
      cases polF p (inc i K) with
      | none => rfl
      | some a => simp only; rw [if_neg (by omega)]; rfl
    have h2 : cfL (derL i p) K = 0 := by
      unfold cfL coef
      refine sumI_zero (fun m hm => if_neg (fun e => h ?_))
      rw [e]
      exact at3_box (((derL_ok hi hv) m hm).kok hn).1 i
    rw [h1, h2]
theorem derM_eok {n i : Nat} {p : List Mon} (hn : n ≤ 3) (hi : i < n) (hp : partB (n : Int) p = true) {k : Key} {x : Int} (h : derM i (polF p) k = some x) : EOk (k, x) := by
  obtain ⟨h1, h2, _⟩ := derM_ok hi hn (fun k x hk => by
    obtain ⟨m, hm, e⟩ := List.mem_map.1 ((polF_some (keys_nd (by omega) hp)).1 hk)
    have e1 : keyOf m.2 = k := congrArg Prod.fst e
    have e2 : m.1 = x := congrArg Prod.snd e
    subst e1 e2
    have hv := (partB_mem hp hm).vok
    exact ⟨hv.num, hv.kok hn⟩) k x h
  have := mem_box.1 h2
  obtain ⟨a, b, c⟩ := k
  simp only at this
  exact ⟨h1, this.1, by simp only; omega, this.2.2.1, by simp only; omega, this.2.2.2.2.1, by simp only; omega⟩
noncomputable def shM (F p : List Mon) (k : Nat) : Key → Option Int := mapT (prT (F.map keyM) (enE (derM k (polF p))))
theorem mapT_MapN2 (T : List (Key × Int)) : MapN (mapT T) := fun k x h => by
  have := mapT_N (T := T) (k := k)
  rw [h] at this
  exact this
theorem shM_N (F p : List Mon) (k : Nat) : MapN (shM F p k) := mapT_MapN2 _
theorem shM_gv {n k : Nat} {F p : List Mon} (hn : n ≤ 3) (hk : k < n) (hF : partB (n : Int) F = true) (hp : partB (n : Int) p = true) (K : Key) : gv (shM F p k) K % 10007 = cfL (prodL F (derL k p)) K % 10007 := by
  have h : gv (shM F p k) K = cfT (prT (F.map keyM) (enE (derM k (polF p)))) K % 10007 := mapT_get _ K
  rw [h, Int.emod_emod_of_dvd _ (Int.dvd_refl _), prodL_cf]
  refine prod_cf hn (fun m hm => (partB_mem hF hm).vok.len) (fun m hm => (derL_ok hk (fun m hm => (partB_mem hp hm).vok) m hm).len) (enE_is (derM_listed (keys_nd (by omega) hp))) (fun K => derM_all hn hk hp K) K
theorem mzero_N2 : MapN mzero := fun k x h => by simp [mzero] at h
noncomputable def brM (f g : List (List Mon)) (i : Nat) : Nat → Key → Option Int
  | 0 => mzero
  | k + 1 => addM (addM (brM f g i k) (shM (f[k]?.getD []) (g[i]?.getD []) k) 1) (shM (g[k]?.getD []) (f[i]?.getD []) k) (-1)
theorem brM_N (f g : List (List Mon)) (i : Nat) : ∀ k, MapN (brM f g i k)
  | 0 => mzero_N2
  | k + 1 => addM_N (addM_N (brM_N f g i k))
theorem along_take (p : List Mon) {f : List (List Mon)} {k : Nat} (h : k < f.length) : alongGo [] p 0 (f.take (k + 1)) = plusL (alongGo [] p 0 (f.take k)) 1 (prodL (f[k]?.getD []) (derL k p)) := by
  rw [List.take_add_one, alongGo_app]; simp [h, alongGo, Nat.min_eq_left (Nat.le_of_lt h)]
theorem brM_gv {z : Int} {f g : List (List Mon)} (hF : FieldOk z f) (hG : FieldOk z g) {i : Nat} (hi : i < f.length) (K : Key) : ∀ k, k ≤ f.length →
    gv (brM f g i k) K % 10007 = (cfL (alongGo [] (g[i]?.getD []) 0 (f.take k)) K + 10006 * cfL (alongGo [] (f[i]?.getD []) 0 (g.take k)) K) % 10007
  | 0, _ => rfl
  | k + 1, h => by
    have zl := hF.len
    have zg := hG.len
    have z3 := hF.hi
    have ih := brM_gv hF hG hi K k (by omega)
    have hn : f.length ≤ 3 := by omega
    have pf : ∀ j, j < f.length → partB (f.length : Int) (f[j]?.getD []) = true := fun j hj => by rw [zl]; exact hF.part _ (memD [] hj)
    have pg : ∀ j, j < f.length → partB (f.length : Int) (g[j]?.getD []) = true := fun j hj => by rw [zl]; exact hG.part _ (memD [] (by omega))
    have s1 := shM_gv hn (show k < f.length by omega) (pf k (by omega)) (pg i hi) K
    have s2 := shM_gv hn (show k < f.length by omega) (pg k (by omega)) (pf i hi) K
    rw [brM, addM_gv, along_take _ (show k < f.length by omega), along_take _ (show k < g.length by omega)]
    have a1 := addM_gv (brM f g i k) (shM (f[k]?.getD []) (g[i]?.getD []) k) 1 K
    have c1 := plusL_cf 1 K (prodL (f[k]?.getD []) (derL k (g[i]?.getD []))) (alongGo [] (g[i]?.getD []) 0 (f.take k))
    have c2 := plusL_cf 1 K (prodL (g[k]?.getD []) (derL k (f[i]?.getD []))) (alongGo [] (f[i]?.getD []) 0 (g.take k))
    omega
def bkL (f g : List (List Mon)) : List (List Mon) := (List.range f.length).map fun i => plusL (alongL f (g[i]?.getD [])) 10006 (alongL g (f[i]?.getD []))
@[simp] theorem bkL_len (f g : List (List Mon)) : (bkL f g).length = f.length := by simp [bkL]
theorem bkL_at {f g : List (List Mon)} {i : Nat} (h : i < f.length) : (bkL f g)[i]?.getD [] = plusL (alongL f (g[i]?.getD [])) 10006 (alongL g (f[i]?.getD [])) := by simp [bkL, h]
theorem bk_gv {z : Int} {f g : List (List Mon)} (hF : FieldOk z f) (hG : FieldOk z g) {i : Nat} (hi : i < f.length) (K : Key) : gv (brM f g i f.length) K % 10007 = cfL ((bkL f g)[i]?.getD []) K % 10007 := by
  have zl := hF.len
  have zg := hG.len
  rw [brM_gv hF hG hi K _ (Nat.le_refl _), bkL_at hi, plusL_cf, List.take_length, List.take_of_length_le (by omega)]
  rfl
theorem alongGo_srt {n : Nat} {p : List Mon} (hp : ∀ m ∈ p, WOk n 3 m) : ∀ (f : List (List Mon)) (k : Nat) (acc : List Mon), k + f.length ≤ n → (∀ F ∈ f, ∀ m ∈ F, WOk n 3 m) → (∀ m ∈ acc, WOk n (3 + 3) m) → Srt acc ∧ Nzl acc → Srt (alongGo acc p k f) ∧ Nzl (alongGo acc p k f)
  | [], _, _, _, _, _, h => h
  | F :: f, k, acc, hk, hf, hw, h => by
    simp only [List.length_cons] at hk
    have w1 := prodL_wok (hf F (by simp)) (derL_wok (i := k) (by omega) hp)
    rw [alongGo]
    exact alongGo_srt hp f (k + 1) _ (by omega) (fun G hG => hf G (by simp [hG])) (plusL_wok _ _ w1 hw) (plusL_srt _ _ w1 hw h)
theorem bk_ok {z : Int} {f g : List (List Mon)} (hF : FieldOk z f) (hG : FieldOk z g) {i : Nat} (hi : i < f.length) :
    (∀ m ∈ (bkL f g)[i]?.getD [], WOk f.length 6 m) ∧ Srt ((bkL f g)[i]?.getD []) ∧ Nzl ((bkL f g)[i]?.getD []) ∧ ((bkL f g)[i]?.getD []).length ≤ 2400 ∧
    (alongL f (g[i]?.getD [])).length ≤ 1200 ∧ (alongL g (f[i]?.getD [])).length ≤ 1200 ∧ (∀ m ∈ alongL f (g[i]?.getD []), WOk f.length 6 m) ∧ (∀ m ∈ alongL g (f[i]?.getD []), WOk f.length 6 m) := by
  have zl := hF.len
  have zg := hG.len
  have z3 := hF.hi
  have fg : g.length = f.length := by omega
  have wf : ∀ F ∈ f, ∀ m ∈ F, WOk f.length 3 m := fun F h => partWok hF h
  have wg : ∀ F ∈ g, ∀ m ∈ F, WOk f.length 3 m := fun F h => by have := partWok hG h; rwa [fg] at this
  have wi := wf _ (memD [] hi)
  have wj := wg (g[i]?.getD []) (memD [] (by omega))
  have l1 := part20 z3 (hF.part _ (memD [] hi))
  have l2 := part20 z3 (hG.part (g[i]?.getD []) (memD [] (by omega)))
  have a1 : ∀ m ∈ alongL f (g[i]?.getD []), WOk f.length (3 + 3) m := alongGo_wok wj f 0 [] (by omega) wf (by simp)
  have a2 : ∀ m ∈ alongL g (f[i]?.getD []), WOk f.length (3 + 3) m := alongGo_wok wi g 0 [] (by omega) wg (by simp)
  have s1 : Srt (alongL f (g[i]?.getD [])) ∧ Nzl (alongL f (g[i]?.getD [])) := alongGo_srt wj f 0 [] (by omega) wf (by simp) ⟨List.Pairwise.nil, by simp [Nzl]⟩
  have n1 := alongGo_len (N := 20) (p := g[i]?.getD []) f 0 [] (fun F h => part20 z3 (hF.part F h))
  have n2 := alongGo_len (N := 20) (p := f[i]?.getD []) g 0 [] (fun F h => part20 z3 (hG.part F h))
  have b1 : f.length * (20 * (g[i]?.getD []).length) ≤ 3 * (20 * 20) := Nat.mul_le_mul (by omega) (Nat.mul_le_mul (Nat.le_refl _) l2)
  have b2 : g.length * (20 * (f[i]?.getD []).length) ≤ 3 * (20 * 20) := Nat.mul_le_mul (by omega) (Nat.mul_le_mul (Nat.le_refl _) l1)
  simp only [List.length_nil] at n1 n2
  have n1' : (alongL f (g[i]?.getD [])).length ≤ 1200 := by unfold alongL; omega
  have n2' : (alongL g (f[i]?.getD [])).length ≤ 1200 := by unfold alongL; omega
  have s2 := plusL_srt (k := 10006) _ _ a2 a1 s1
  have n3 := plusL_len 10006 (alongL g (f[i]?.getD [])) (alongL f (g[i]?.getD []))
  rw [bkL_at hi]
  exact ⟨plusL_wok _ _ a2 a1, s2.1, s2.2, by omega, n1', n2', a1, a2⟩
def degB (p : List Mon) : Bool := p.all fun m => decide (degL m.2 0 ≤ 3)
def bkD (f g : List (List Mon)) : Bool := (bkL f g).all degB
theorem srt_at {p : List Mon} (h : Srt p) {j : Nat} (h0 : 0 < j) (hj : j < p.length) : ltL (p[j - 1]?.getD (0, [])).2 (p[j]?.getD (0, [])).2 = true := by
  have h1 := List.pairwise_iff_getElem.1 h (j - 1) j (by omega) hj (by omega)
  simpa [hj, show j - 1 < p.length by omega] using h1
theorem partB_deg {z : Int} {p : List Mon} (hw : ∀ m ∈ p, (m.2.length : Int) = z) (hs : Srt p) (hz : Nzl p) : partB z p = degB p := by
  cases hd : degB p with
  | true =>
    refine partB_yes (fun j hj => ?_)
    have hm : p[j]?.getD (0, []) ∈ p := memD _ hj
    have h1 := hz _ hm
    have h2 := hw _ hm
    have h3 := List.all_eq_true.1 hd _ hm
    simp only [decide_eq_true_eq] at h3
    unfold atB monB
    rw [decide_eq_true h1, decide_eq_true h2, decide_eq_true h3]
    by_cases h0 : j = 0
    · rw [decide_eq_true h0]; rfl
    · rw [decide_eq_false h0, srt_at hs (by omega) hj]; rfl
  | false =>
    obtain ⟨m, hm, h⟩ := List.all_eq_false.1 hd
    obtain ⟨j, hj, rfl⟩ := List.getElem_of_mem hm
    refine partB_no hj ?_
    unfold atB monB
    simp at h
    simp [hj]
    omega
theorem fieldB_deg {z : Int} {f g : List (List Mon)} (hF : FieldOk z f) (hG : FieldOk z g) : fieldB z (bkL f g) = bkD f g := by
  have zl := hF.len
  have z3 := hF.hi
  have z1 := hF.lo
  unfold fieldB bkD
  have e : ∀ p ∈ bkL f g, partB z p = degB p := fun p hp => by
    obtain ⟨i, hi, rfl⟩ := List.getElem_of_mem hp
    have hi2 : i < f.length := by simpa using hi
    have h := bk_ok hF hG hi2
    have e : (bkL f g)[i]?.getD [] = (bkL f g)[i] := by rw [List.getElem?_eq_getElem hi]; rfl
    rw [e] at h
    exact partB_deg (fun m hm => by have := (h.1 m hm).len; omega) h.2.1 h.2.2.1
  have e2 : (bkL f g).all (partB z) = (bkL f g).all degB := by
    rw [Bool.eq_iff_iff, List.all_eq_true, List.all_eq_true]
    exact ⟨fun h p hp => by rw [← e p hp]; exact h p hp, fun h p hp => by rw [e p hp]; exact h p hp⟩
  rw [e2, decide_eq_true ⟨z1, z3⟩, decide_eq_true (by simp [zl])]
  rfl
theorem bkPart {z : Int} {f g : List (List Mon)} (hF : FieldOk z f) (hG : FieldOk z g) {i : Nat} (hi : i < f.length) :
    Con Tryz.prog 136 [.fmp (brM f g i f.length), .int z] (.own 97 ((bkL f g)[i]?.getD []).length (omons ((bkL f g)[i]?.getD []))) := by
  have zl := hF.len
  have z3 := hF.hi
  have z1 := hF.lo
  have h := bk_ok hF hG hi
  rw [← zl]
  exact part_c2 (by omega) (by omega) (brM_N f g i _) h.2.1 h.2.2.1 (fun m hm => (h.1 m hm).len) (by have := h.2.2.2.1; omega) (fun K => bk_gv hF hG hi K)
theorem bk_tiny {z : Int} {f g : List (List Mon)} (hF : FieldOk z f) (hG : FieldOk z g) : Tiny (bkL f g) := by
  have zl := hF.len
  have z3 := hF.hi
  refine ⟨by simp; omega, fun p hp => ?_⟩
  obtain ⟨i, hi, rfl⟩ := List.getElem_of_mem hp
  have hi2 : i < f.length := by simpa using hi
  have h := bk_ok hF hG hi2
  have e : (bkL f g)[i]?.getD [] = (bkL f g)[i] := by rw [List.getElem?_eq_getElem hi]; rfl
  rw [e] at h
  exact ⟨by have := h.2.2.2.1; omega, fun m hm => by have := (h.1 m hm).len; omega⟩
end Go.Proofs.YtoeikpioonlmfaaGreat


namespace Go.Proofs.YtoeikpioonlmfaaGreat
open Go.Abs
set_option linter.unusedSectionVars false
set_option linter.unusedVariables false
set_option linter.unusedSimpArgs false
set_option maxHeartbeats 1000000
def brE (z : Int) (f : List (List Mon)) (w : Int) (g : List (List Mon)) : Int := if ckE z f w g = 0 then if bkD f g = true then 0 else 3 else 1
def brX (z : Int) (f : List (List Mon)) (w : Int) (g : List (List Mon)) : List (List Mon) := if brE z f w g = 0 then bkL f g else []
def brR (z : Int) (f : List (List Mon)) (w : Int) (g : List (List Mon)) : AV := .tup [.agg [.int (if brE z f w g = 0 then z else 0), .own 92 (brX z f w g).length (oprt (brX z f w g))], .int (brE z f w g)]
theorem ckE_two (z : Int) (f : List (List Mon)) (w : Int) (g : List (List Mon)) : ckE z f w g = 0 ∨ ckE z f w g = 1 := by
  unfold ckE
  split
  · split
    · split <;> simp
    · simp
  · simp
theorem brX_tiny (z : Int) (f : List (List Mon)) (w : Int) (g : List (List Mon)) : Tiny (brX z f w g) := by
  unfold brX
  split
  · rename_i hE
    unfold brE at hE
    split at hE
    · rename_i hc
      obtain ⟨h1, h2, rfl⟩ := ckE_ok hc
      exact bk_tiny (fieldB_iff.1 h1) (fieldB_iff.1 h2)
    · simp at hE
  · exact ⟨by simp, by simp⟩
theorem degB_at {p : List Mon} (h : degB p = true) {j : Nat} (hj : j < p.length) : degL (p[j]?.getD (0, [])).2 0 ≤ 3 := by
  have := List.all_eq_true.1 h _ (memD (0, []) hj)
  simpa using this
theorem degB_all {p : List Mon} (h : ∀ j, j < p.length → degL (p[j]?.getD (0, [])).2 0 ≤ 3) : degB p = true := by
  refine List.all_eq_true.2 (fun m hm => ?_)
  obtain ⟨j, hj, rfl⟩ := List.getElem_of_mem hm
  have := h j hj
  simpa [hj] using this
theorem bkD_at {f g : List (List Mon)} (h : bkD f g = true) {i : Nat} (hi : i < f.length) : degB ((bkL f g)[i]?.getD []) = true := List.all_eq_true.1 h _ (memD [] (by simpa using hi))
theorem bkD_all {f g : List (List Mon)} (h : ∀ i, i < f.length → degB ((bkL f g)[i]?.getD []) = true) : bkD f g = true := by
  refine List.all_eq_true.2 (fun p hp => ?_)
  obtain ⟨i, hi, rfl⟩ := List.getElem_of_mem hp
  have := h i (by simpa using hi)
  rwa [List.getElem?_eq_getElem hi] at this
theorem omons_at1 : ∀ {p : List Mon} {j : Nat}, j < p.length → (omons p)[j * 2 + 1]? = some (.own 2 (p[j]?.getD (0, [])).2.length (avs (p[j]?.getD (0, [])).2))
  | [], j, h => by simp at h
  | m :: p, 0, _ => rfl
  | m :: p, j + 1, h => by
    rw [omons_cons]
    have e : (j + 1) * 2 + 1 = (j * 2 + 1) + 1 + 1 := by omega
    rw [e, List.getElem?_cons_succ, List.getElem?_cons_succ, omons_at1 (by simpa using h)]
    rfl
set_option maxRecDepth 100000 in
theorem specBracketFields_c (z : Int) (f : List (List Mon)) (w : Int) (g : List (List Mon)) (hs : Small f) (hs2 : Small g) :
    Con Tryz.prog 11 [.agg [.int z, .sl f.length (prt f)], .agg [.int w, .sl g.length (prt g)]] (brR z f w g) := by
  have cT := l13Is_c z f hs
  have cU := l13Is_c w g hs2
  unfold brR brX
  cases hT : fieldB z f with
  | false =>
    rw [hT] at cT
    have e : brE z f w g = 1 := by unfold brE ckE; rw [hT]; rfl
    rw [e]
    refine nF _ ?_
    refine con_of_vc Tryz.mixed ⟨10, [], [], []⟩ Tryz.func11 (by decide) rfl (by simp) (by decide) (by simp [freshOK, freshL, go_sem]) ?_
    rw [Tryz.ntmps11]
    simp [go_sem]
    refine CallVC.of (cT) (by decide) ?_
    simp [go_sem]
  | true =>
    rw [hT] at cT
    cases hU : fieldB w g with
    | false =>
      rw [hU] at cU
      have e : brE z f w g = 1 := by unfold brE ckE; rw [hT, hU]; rfl
      rw [e]
      refine nF _ ?_
      refine con_of_vc Tryz.mixed ⟨10, [], [], []⟩ Tryz.func11 (by decide) rfl (by simp) (by decide) (by simp [freshOK, freshL, go_sem]) ?_
      rw [Tryz.ntmps11]
      simp [go_sem]
      refine CallVC.of (cT) (by decide) ?_
      simp [go_sem]
      refine CallVC.of (cU) (by decide) ?_
      simp [go_sem]
    | true =>
      rw [hU] at cU
      by_cases hzw : z = w
      · have ec : ckE z f w g = 0 := by unfold ckE; rw [hT, hU, if_pos rfl, if_pos rfl, if_pos hzw]
        have hF := fieldB_iff.1 hT
        have hG := fieldB_iff.1 hU
        rw [← hzw] at hG
        have zl := hF.len
        have wl := hG.len
        have z3 := hF.hi
        have z1 := hF.lo
        have fg : f.length = g.length := by omega
        have fl := hs.1
        have step : ∀ i, i < f.length → Con Tryz.prog 67 [.agg [.int z, .sl f.length (prt f)], .sl (g[i]?.getD []).length (mons (g[i]?.getD []))] (.own 97 (alongL f (g[i]?.getD [])).length (omons (alongL f (g[i]?.getD []))))
            ∧ Con Tryz.prog 67 [.agg [.int z, .sl g.length (prt g)], .sl (f[i]?.getD []).length (mons (f[i]?.getD []))] (.own 97 (alongL g (f[i]?.getD [])).length (omons (alongL g (f[i]?.getD []))))
            ∧ Con Tryz.prog 66 [.sl (alongL f (g[i]?.getD [])).length (mons (alongL f (g[i]?.getD []))), .sl (alongL g (f[i]?.getD [])).length (mons (alongL g (f[i]?.getD []))), .int 10006] (.own 97 ((bkL f g)[i]?.getD []).length (omons ((bkL f g)[i]?.getD []))) := fun i hi => by
          have hig : i < g.length := by omega
          have hb := bk_ok hF hG hi
          have l1 := part20 z3 (hF.part _ (memD [] hi))
          have l2 := part20 z3 (hG.part (g[i]?.getD []) (memD [] hig))
          refine ⟨l13Along2_c f _ hF hs (fun F h => part20 z3 (hF.part F h)) (B := 3) (by omega) (by omega) (fun m hm => by have := partWok hG (memD [] hig) m hm; rwa [← fg] at this) (by omega), l13Along2_c g _ hG hs2 (fun F h => part20 z3 (hG.part F h)) (B := 3) (by omega) (by omega) (fun m hm => by have := partWok hF (memD [] hi) m hm; rwa [fg] at this) (by omega), ?_⟩
          rw [bkL_at hi]
          exact l13Plus_c _ _ (by omega) ⟨by omega, by omega⟩ hb.2.2.2.2.2.2.1 hb.2.2.2.2.2.2.2 (by have := hb.2.2.2.2.1; have := hb.2.2.2.2.2.1; omega)
        have sub : z - z = 0 := by omega
        cases hD : bkD f g with
        | true =>
          have e : brE z f w g = 0 := by unfold brE; rw [if_pos ec, hD]; rfl
          rw [e, if_pos rfl, if_pos rfl]
          subst hzw
          refine con_of_vc Tryz.mixed ⟨10, [], [], []⟩ Tryz.func11 (by decide) rfl (by simp) (by decide) (by simp [freshOK, freshL, go_sem]) ?_
          rw [Tryz.ntmps11]
          simp [go_sem]
          refine CallVC.of (cT) (by decide) ?_
          simp [go_sem]
          refine CallVC.of (cU) (by decide) ?_
          simp [go_sem]
          refine loop_inv (5 :: 6 :: 7 :: 8 :: 9 :: List.range' 29 42) (fun i : Nat => [(6, .box 26 [.int z, ptA (bkL f g) i]), (7, .int i)]) (fun i => i ≤ f.length) (fun i => f.length - i) 0 (by simp) (by simp [go_sem, ptA_zero]) (by simp [go_sem]) ?_
          intro i hi
          simp [go_sem]
          refine ⟨fun h => ?_, fun h => ?_⟩ <;> simp at h
          · have hif := h
            have hig : i < g.length := by omega
            obtain ⟨s1, s2, s3⟩ := step i hif
            have hb := bk_ok hF hG hif
            have hdg := bkD_at hD hif
            have hsn := oprt_snoc (bkL f g) (i := i) (by simpa using hif)
            have hpl := hb.2.2.2.1
            have hpw := hb.1
            simp [go_sem, prt_drop hif, prt_drop hig]
            refine ⟨by kernel_rfl, ⟨hig, fun e => by rw [e] at hig; simp at hig⟩, ?_⟩
            refine CallD.of (s1) (by simp [roots, rootsL]) (by decide) ?_
            simp [go_sem]
            simp [go_sem, prt_drop hif]
            refine ⟨⟨hif, fun e => by rw [e] at hif; simp at hif⟩, ?_⟩
            refine CallD.of (s2) (by simp [roots, rootsL]) (by decide) ?_
            simp [go_sem]
            refine CallD.of (s3) (by simp [roots, rootsL]) (by decide) ?_
            simp [go_sem]
            refine ⟨by kernel_rfl, ?_⟩
            simp [go_sem]
            generalize (bkL f g)[i]?.getD [] = B at *
            refine loop_inv (5 :: 9 :: List.range' 51 14) (fun j : Nat => [(9, .int j)]) (fun j => j ≤ B.length) (fun j => B.length - j) 0 (by simp) (by simp [go_sem]) (by simp [go_sem]) ?_
            intro j hj
            simp [go_sem]
            refine ⟨fun h => ?_, fun h => ?_⟩ <;> simp at h
            · have hjB := h
              have c3 := degB_at hdg hjB
              have c3' : ¬ 3 < degL (B[j]?.getD (0, [])).2 0 := by omega
              have hml := (hpw _ (memD (0, []) hjB)).len
              have cD := l13Degree_c (B[j]?.getD (0, [])).2 (by omega)
              have hA := omons_at1 hjB
              simp [go_sem, hA]
              generalize (B[j]?.getD (0, [])).2 = pwj at *
              refine ⟨hjB, fun e => by have := congrArg List.length e; rw [omons_len, List.length_nil] at this; omega, ?_⟩
              refine CallVC.of (cD) (by decide) ?_
              simp [go_sem]
              simp [go_sem, c3']
              exact ⟨by omega, j + 1, by omega, by omega, Off_reset _ _ _ (by simp), by omega⟩
            · have e2 : ptA (bkL f g) (i + 1) = .own 92 (i + 1) (oprt ((bkL f g).take i) ++ [.own 97 B.length (omons B)]) := by rw [ptA_succ, hsn]
              rcases i with _ | t
              · simp [go_sem, ptA_zero]
                refine ⟨1, by omega, by omega, (Off.reset (by intro x hx; simp at hx ⊢; omega) (by simp) (by simp [go_sem, Off_reset])), ?_, by simp⟩
                rw [ptA_succ, hsn]
                simp [oprt]
              · simp [go_sem, ptA_succ]
                refine ⟨⟨by omega, by omega, by omega⟩, by omega, t + 1 + 1, by omega, by omega, (Off.reset (by intro x hx; simp at hx ⊢; omega) (by simp) (by simp [go_sem, Off_reset])), ?_, by omega⟩
                rw [e2]
          · have e : i = f.length := by omega
            subst e
            obtain ⟨j, hj⟩ : ∃ j, f.length = j + 1 := ⟨f.length - 1, by omega⟩
            have e2 : ptA (bkL f g) f.length = .own 92 (bkL f g).length (oprt (bkL f g)) := by
              rw [hj, ptA_succ, ← hj, List.take_of_length_le (by simp), bkL_len]
            rw [e2]
            simp [go_sem]
        | false =>
          have e : brE z f w g = 3 := by unfold brE; rw [if_pos ec, hD]; rfl
          rw [e]
          refine nF _ ?_
          subst hzw
          refine con_of_vc Tryz.mixed ⟨10, [], [], []⟩ Tryz.func11 (by decide) rfl (by simp) (by decide) (by simp [freshOK, freshL, go_sem]) ?_
          rw [Tryz.ntmps11]
          simp [go_sem]
          refine CallVC.of (cT) (by decide) ?_
          simp [go_sem]
          refine CallVC.of (cU) (by decide) ?_
          simp [go_sem]
          refine loop_inv (5 :: 6 :: 7 :: 8 :: 9 :: List.range' 29 42) (fun i : Nat => [(6, .box 26 [.int z, ptA (bkL f g) i]), (7, .int i)]) (fun i => i ≤ f.length ∧ ∀ q, q < i → degB ((bkL f g)[q]?.getD []) = true) (fun i => f.length - i) 0 (by simp) (by simp [go_sem, ptA_zero]) (by simp [go_sem]) ?_
          rintro i ⟨hi, hq⟩
          simp [go_sem]
          refine ⟨fun h => ?_, fun h => ?_⟩ <;> simp at h
          · have hif := h
            have hig : i < g.length := by omega
            obtain ⟨s1, s2, s3⟩ := step i hif
            have hb := bk_ok hF hG hif
            have hsn := oprt_snoc (bkL f g) (i := i) (by simpa using hif)
            have hpl := hb.2.2.2.1
            have hpw := hb.1
            simp [go_sem, prt_drop hif, prt_drop hig]
            refine ⟨by kernel_rfl, ⟨hig, fun e => by rw [e] at hig; simp at hig⟩, ?_⟩
            refine CallD.of (s1) (by simp [roots, rootsL]) (by decide) ?_
            simp [go_sem]
            simp [go_sem, prt_drop hif]
            refine ⟨⟨hif, fun e => by rw [e] at hif; simp at hif⟩, ?_⟩
            refine CallD.of (s2) (by simp [roots, rootsL]) (by decide) ?_
            simp [go_sem]
            refine CallD.of (s3) (by simp [roots, rootsL]) (by decide) ?_
            simp [go_sem]
            refine ⟨by kernel_rfl, ?_⟩
            simp [go_sem]
            generalize hBe : (bkL f g)[i]?.getD [] = B at *
            refine loop_inv (5 :: 9 :: List.range' 51 14) (fun j : Nat => [(9, .int j)]) (fun j => j ≤ B.length ∧ ∀ q, q < j → degL (B[q]?.getD (0, [])).2 0 ≤ 3) (fun j => B.length - j) 0 (by simp) (by simp [go_sem]) (by simp [go_sem]) ?_
            rintro j ⟨hj, hdj⟩
            simp [go_sem]
            refine ⟨fun h => ?_, fun h => ?_⟩ <;> simp at h
            · have hjB := h
              have hnx : degL (B[j]?.getD (0, [])).2 0 ≤ 3 → ∀ q, q < j + 1 → degL (B[q]?.getD (0, [])).2 0 ≤ 3 := fun h3 q hq2 => by
                rcases Nat.lt_or_ge q j with h4 | h4
                · exact hdj q h4
                · have : q = j := by omega
                  rw [this]; exact h3
              have hml := (hpw _ (memD (0, []) hjB)).len
              have cD := l13Degree_c (B[j]?.getD (0, [])).2 (by omega)
              have hA := omons_at1 hjB
              simp [go_sem, hA]
              generalize (B[j]?.getD (0, [])).2 = pwj at *
              refine ⟨hjB, fun e => by have := congrArg List.length e; rw [omons_len, List.length_nil] at this; omega, ?_⟩
              refine CallVC.of (cD) (by decide) ?_
              simp [go_sem]
              by_cases c3 : 3 < degL pwj 0
              · simp [go_sem, c3]
              · simp [go_sem, c3]
                exact ⟨by omega, j + 1, ⟨by omega, hnx (by omega)⟩, by omega, Off_reset _ _ _ (by simp), by omega⟩
            · have hBd : degB B = true := degB_all (fun q hq2 => hdj q (by omega))
              have hq3 : ∀ q, q < i + 1 → degB ((bkL f g)[q]?.getD []) = true := fun q hq2 => by
                rcases Nat.lt_or_ge q i with h4 | h4
                · exact hq q h4
                · have : q = i := by omega
                  rw [this, hBe]; exact hBd
              have e2 : ptA (bkL f g) (i + 1) = .own 92 (i + 1) (oprt ((bkL f g).take i) ++ [.own 97 B.length (omons B)]) := by rw [ptA_succ, hsn]
              rcases i with _ | t
              · simp [go_sem, ptA_zero]
                refine ⟨1, ⟨by omega, hq3⟩, by omega, (Off.reset (by intro x hx; simp at hx ⊢; omega) (by simp) (by simp [go_sem, Off_reset])), ?_, by simp⟩
                rw [ptA_succ, hsn]
                simp [oprt]
              · simp [go_sem, ptA_succ]
                refine ⟨⟨by omega, by omega, by omega⟩, by omega, t + 1 + 1, ⟨by omega, hq3⟩, by omega, (Off.reset (by intro x hx; simp at hx ⊢; omega) (by simp) (by simp [go_sem, Off_reset])), ?_, by omega⟩
                rw [e2]
          · have e : i = f.length := by omega
            subst e
            have := bkD_all hq
            rw [hD] at this
            simp at this
      · have e : brE z f w g = 1 := by unfold brE ckE; rw [hT, hU, if_pos rfl, if_pos rfl, if_neg hzw]; rfl
        rw [e]
        refine nF _ ?_
        refine con_of_vc Tryz.mixed ⟨10, [], [], []⟩ Tryz.func11 (by decide) rfl (by simp) (by decide) (by simp [freshOK, freshL, go_sem]) ?_
        rw [Tryz.ntmps11]
        simp [go_sem]
        refine CallVC.of (cT) (by decide) ?_
        simp [go_sem]
        refine CallVC.of (cU) (by decide) ?_
        simp [go_sem]
        simp [go_sem, hzw]
end Go.Proofs.YtoeikpioonlmfaaGreat


namespace Go.Proofs.YtoeikpioonlmfaaGreat
open Go.Abs
set_option linter.unusedSectionVars false
set_option linter.unusedVariables false
set_option linter.unusedSimpArgs false
set_option maxHeartbeats 1000000
noncomputable def brL (f g : List (List Mon)) (i : Nat) : List (Key → Option Int) := (List.range i).map fun j => brM f g j f.length
@[simp] theorem brL_len (f g : List (List Mon)) (i : Nat) : (brL f g i).length = i := by simp [brL]
theorem brL_snoc (f g : List (List Mon)) (i : Nat) : (brL f g (i + 1)).map AV.mp = (brL f g i).map AV.mp ++ [.mp (brM f g i f.length)] := by simp [brL, List.range_succ]
theorem brL_at {f g : List (List Mon)} {i n : Nat} (h : i < n) : (brL f g n)[i]?.getD mzero = brM f g i f.length := by simp [brL, h]
set_option maxRecDepth 100000 in
theorem BracketFields_c (z : Int) (f : List (List Mon)) (w : Int) (g : List (List Mon)) (hs : Small f) (hs2 : Small g) :
    Con Tryz.prog 10 [.agg [.int z, .sl f.length (prt f)], .agg [.int w, .sl g.length (prt g)]] (brR z f w g) := by
  have cK := checkFields_c z f w g hs hs2
  unfold brR brX
  rcases ckE_two z f w g with hE | hE
  · rw [hE] at cK
    obtain ⟨hT, hU, hzw⟩ := ckE_ok hE
    subst hzw
    have hF := fieldB_iff.1 hT
    have hG := fieldB_iff.1 hU
    have zl := hF.len
    have wl := hG.len
    have z3 := hF.hi
    have z1 := hF.lo
    have fg : f.length = g.length := by omega
    have fl := hs.1
    have cP := polynomials_c z f hF hs
    have cQ := polynomials_c z g hG hs2
    have cF := fieldOf_c f.length (brL f g f.length) (bkL f g) (by simp) (by simp; omega) (by simp; omega) (fun i hi => by
      have hi2 : i < f.length := by simpa using hi
      rw [brL_at hi2, zl]; exact bkPart hF hG hi2)
    rw [zl] at cF
    have cI := IsField_c z (bkL f g) (bk_tiny hF hG).small
    rw [fieldB_deg hF hG] at cI
    have pf : ∀ j, j < f.length → partB (f.length : Int) (f[j]?.getD []) = true := fun j hj => by rw [zl]; exact hF.part _ (memD [] hj)
    have pg : ∀ j, j < f.length → partB (f.length : Int) (g[j]?.getD []) = true := fun j hj => by rw [zl]; exact hG.part _ (memD [] (by omega))
    have n3 : f.length ≤ 3 := by omega
    have dv : ∀ (p : List Mon), partB (f.length : Int) p = true → ∀ k x, polF p k = some x → isN x ∧ KOk f.length k := fun p hp k x hk => by
      obtain ⟨m, hm, e⟩ := List.mem_map.1 ((polF_some (keys_nd (by omega) hp)).1 hk)
      have e1 : keyOf m.2 = k := congrArg Prod.fst e
      have e2 : m.1 = x := congrArg Prod.snd e
      subst e1 e2
      have hv := (partB_mem hp hm).vok
      exact ⟨hv.num, hv.kok n3⟩
    cases hD : bkD f g with
    | true =>
      have e : brE z f z g = 0 := by unfold brE; rw [if_pos hE, hD]; rfl
      rw [e, if_pos rfl, if_pos rfl]
      rw [hD] at cI
      refine con_of_vc Tryz.mixed ⟨14, [22, 24, 48, 61], [62], []⟩ Tryz.func10 (by decide) rfl (by simp) (by decide) (by simp [freshOK, freshL, go_sem]) ?_
      rw [Tryz.ntmps10]
      simp [go_sem]
      refine CallVC.of (cK) (by decide) ?_
      simp [go_sem]
      refine ⟨by kernel_rfl, ?_⟩
      refine CallD.of (cP) (by simp [roots, rootsL, frz, frzL]) (by decide) ?_
      simp [go_sem]
      refine CallD.of (cQ) (by simp [roots, rootsL, frz, frzL]) (by decide) ?_
      simp [go_sem]
      refine ⟨by kernel_rfl, ?_⟩
      simp [go_sem]
      refine loop_inv (9 :: 10 :: 11 :: 12 :: List.range' 28 41) (fun i : Nat => [(9, .own 87 i ((brL f g i).map AV.mp)), (28, .int i)]) (fun i => i ≤ f.length) (fun i => f.length - i) 0 (by simp) (by simp [go_sem, brL]) (by simp [go_sem]) ?_
      intro i hi
      simp [go_sem]
      refine ⟨fun h => ?_, fun h => ?_⟩ <;> simp at h
      · have hif := h
        have hig : i < g.length := by omega
        simp [go_sem]
        refine loop_inv (11 :: 12 :: List.range' 34 30) (fun k : Nat => [(11, .mp (brM f g i k)), (34, .int k)]) (fun k => k ≤ f.length) (fun k => f.length - k) 0 (by simp) (by simp [go_sem, brM]) (by simp [go_sem]) ?_
        intro k hk
        simp [go_sem]
        refine ⟨fun h => ?_, fun h => ?_⟩ <;> simp at h
        · have hkf := h
          have hkg : k < g.length := by omega
          have d1 := derivative_c (polF (g[i]?.getD [])) k hkf n3 (dv _ (pg i hif))
          have d2 := derivative_c (polF (f[i]?.getD [])) k hkf n3 (dv _ (pf i hif))
          have x1 : Con Tryz.prog 63 [.fmp (polF (f[k]?.getD [])), .fmp (derM k (polF (g[i]?.getD [])))] (.mp (shM (f[k]?.getD []) (g[i]?.getD []) k)) :=
            product_c (polF_enum (keys_nd (by omega) (pf k hkf))) (enE_is (derM_listed (keys_nd (by omega) (pg i hif)))) (fun a x hk => part_entries (by omega) (pf k hkf) hk) (fun a x hk => derM_eok n3 hkf (pg i hif) hk)
          have x2 : Con Tryz.prog 63 [.fmp (polF (g[k]?.getD [])), .fmp (derM k (polF (f[i]?.getD [])))] (.mp (shM (g[k]?.getD []) (f[i]?.getD []) k)) :=
            product_c (polF_enum (keys_nd (by omega) (pg k hkf))) (enE_is (derM_listed (keys_nd (by omega) (pf i hif)))) (fun a x hk => part_entries (by omega) (pg k hkf) hk) (fun a x hk => derM_eok n3 hkf (pf i hif) hk)
          have a1 := add_c (brM f g i k) (shM (f[k]?.getD []) (g[i]?.getD []) k) 1 (brM_N f g i k) (shM_N _ _ _) ⟨by omega, by omega⟩
          have a2 := add_c (addM (brM f g i k) (shM (f[k]?.getD []) (g[i]?.getD []) k) 1) (shM (g[k]?.getD []) (f[i]?.getD []) k) (-1) (addM_N (brM_N f g i k)) (shM_N _ _ _) ⟨by omega, by omega⟩
          have hb : brM f g i (k + 1) = addM (addM (brM f g i k) (shM (f[k]?.getD []) (g[i]?.getD []) k) 1) (shM (g[k]?.getD []) (f[i]?.getD []) k) (-1) := rfl
          have f1 := fpols_drop hkf
          have f2 := fpols_drop hkg
          have f3 := fpols_drop hif
          have f4 := fpols_drop hig
          have nf : ¬ f = [] := by rintro rfl; simp at hkf
          have ng : ¬ g = [] := by rintro rfl; simp at hkg
          generalize hM2 : brM f g i (k + 1) = M2 at *
          generalize (addM (brM f g i k) (shM (f[k]?.getD []) (g[i]?.getD []) k) 1) = M1 at *
          generalize brM f g i k = M0 at *
          generalize shM (f[k]?.getD []) (g[i]?.getD []) k = H1 at *
          generalize shM (g[k]?.getD []) (f[i]?.getD []) k = H2 at *
          generalize derM k (polF (g[i]?.getD [])) = E1 at *
          generalize derM k (polF (f[i]?.getD [])) = E2 at *
          simp [go_sem, f1, f2, f3, f4]
          refine ⟨by kernel_rfl, ⟨hkf, nf⟩, ⟨hig, ng⟩, ?_⟩
          refine CallD.of (d1) (by simp [roots, rootsL]) (by decide) ?_
          simp [go_sem]
          refine CallD.of (x1) (by simp [roots, rootsL, frz, frzL]) (by decide) ?_
          simp [go_sem]
          refine ⟨_, _, a1.g, ?_⟩
          simp [go_sem]
          refine ⟨by kernel_rfl, ?_⟩
          simp [go_sem]
          simp [go_sem, f1, f2, f3, f4]
          refine ⟨by kernel_rfl, ⟨hkg, ng⟩, ⟨hif, nf⟩, ?_⟩
          refine CallD.of (d2) (by simp [roots, rootsL]) (by decide) ?_
          simp [go_sem]
          refine CallD.of (x2) (by simp [roots, rootsL, frz, frzL]) (by decide) ?_
          simp [go_sem]
          refine ⟨_, _, a2.g, ?_⟩
          simp [go_sem]
          refine ⟨by kernel_rfl, ?_⟩
          simp [go_sem]
          exact ⟨by omega, k + 1, by omega, by omega, Off_reset _ _ _ (by simp), by rw [hM2]; exact hb.symm, by omega⟩
        · have e : k = f.length := by omega
          subst e
          have hsn := brL_snoc f g i
          simp [go_sem]
          refine ⟨⟨by omega, by omega⟩, by omega, i + 1, by omega, by omega, (Off.reset (by intro x hx; simp at hx ⊢; omega) (by simp) (by simp [go_sem, Off_reset])), ?_, by omega⟩
          exact ⟨rfl, hsn.symm⟩
      · have e : i = f.length := by omega
        subst e
        simp [go_sem, mps_frz]
        simp only [brL_len, bkL_len] at cF cI
        refine CallVC.of (cF) (by decide) ?_
        simp [go_sem]
        refine CallVC.of (cI) (by decide) ?_
        simp [go_sem]
    | false =>
      have e : brE z f z g = 3 := by unfold brE; rw [if_pos hE, hD]; rfl
      rw [e]
      rw [hD] at cI
      refine nF _ ?_
      refine con_of_vc Tryz.mixed ⟨14, [22, 24, 48, 61], [62], []⟩ Tryz.func10 (by decide) rfl (by simp) (by decide) (by simp [freshOK, freshL, go_sem]) ?_
      rw [Tryz.ntmps10]
      simp [go_sem]
      refine CallVC.of (cK) (by decide) ?_
      simp [go_sem]
      refine ⟨by kernel_rfl, ?_⟩
      refine CallD.of (cP) (by simp [roots, rootsL, frz, frzL]) (by decide) ?_
      simp [go_sem]
      refine CallD.of (cQ) (by simp [roots, rootsL, frz, frzL]) (by decide) ?_
      simp [go_sem]
      refine ⟨by kernel_rfl, ?_⟩
      simp [go_sem]
      refine loop_inv (9 :: 10 :: 11 :: 12 :: List.range' 28 41) (fun i : Nat => [(9, .own 87 i ((brL f g i).map AV.mp)), (28, .int i)]) (fun i => i ≤ f.length) (fun i => f.length - i) 0 (by simp) (by simp [go_sem, brL]) (by simp [go_sem]) ?_
      intro i hi
      simp [go_sem]
      refine ⟨fun h => ?_, fun h => ?_⟩ <;> simp at h
      · have hif := h
        have hig : i < g.length := by omega
        simp [go_sem]
        refine loop_inv (11 :: 12 :: List.range' 34 30) (fun k : Nat => [(11, .mp (brM f g i k)), (34, .int k)]) (fun k => k ≤ f.length) (fun k => f.length - k) 0 (by simp) (by simp [go_sem, brM]) (by simp [go_sem]) ?_
        intro k hk
        simp [go_sem]
        refine ⟨fun h => ?_, fun h => ?_⟩ <;> simp at h
        · have hkf := h
          have hkg : k < g.length := by omega
          have d1 := derivative_c (polF (g[i]?.getD [])) k hkf n3 (dv _ (pg i hif))
          have d2 := derivative_c (polF (f[i]?.getD [])) k hkf n3 (dv _ (pf i hif))
          have x1 : Con Tryz.prog 63 [.fmp (polF (f[k]?.getD [])), .fmp (derM k (polF (g[i]?.getD [])))] (.mp (shM (f[k]?.getD []) (g[i]?.getD []) k)) :=
            product_c (polF_enum (keys_nd (by omega) (pf k hkf))) (enE_is (derM_listed (keys_nd (by omega) (pg i hif)))) (fun a x hk => part_entries (by omega) (pf k hkf) hk) (fun a x hk => derM_eok n3 hkf (pg i hif) hk)
          have x2 : Con Tryz.prog 63 [.fmp (polF (g[k]?.getD [])), .fmp (derM k (polF (f[i]?.getD [])))] (.mp (shM (g[k]?.getD []) (f[i]?.getD []) k)) :=
            product_c (polF_enum (keys_nd (by omega) (pg k hkf))) (enE_is (derM_listed (keys_nd (by omega) (pf i hif)))) (fun a x hk => part_entries (by omega) (pg k hkf) hk) (fun a x hk => derM_eok n3 hkf (pf i hif) hk)
          have a1 := add_c (brM f g i k) (shM (f[k]?.getD []) (g[i]?.getD []) k) 1 (brM_N f g i k) (shM_N _ _ _) ⟨by omega, by omega⟩
          have a2 := add_c (addM (brM f g i k) (shM (f[k]?.getD []) (g[i]?.getD []) k) 1) (shM (g[k]?.getD []) (f[i]?.getD []) k) (-1) (addM_N (brM_N f g i k)) (shM_N _ _ _) ⟨by omega, by omega⟩
          have hb : brM f g i (k + 1) = addM (addM (brM f g i k) (shM (f[k]?.getD []) (g[i]?.getD []) k) 1) (shM (g[k]?.getD []) (f[i]?.getD []) k) (-1) := rfl
          have f1 := fpols_drop hkf
          have f2 := fpols_drop hkg
          have f3 := fpols_drop hif
          have f4 := fpols_drop hig
          have nf : ¬ f = [] := by rintro rfl; simp at hkf
          have ng : ¬ g = [] := by rintro rfl; simp at hkg
          generalize hM2 : brM f g i (k + 1) = M2 at *
          generalize (addM (brM f g i k) (shM (f[k]?.getD []) (g[i]?.getD []) k) 1) = M1 at *
          generalize brM f g i k = M0 at *
          generalize shM (f[k]?.getD []) (g[i]?.getD []) k = H1 at *
          generalize shM (g[k]?.getD []) (f[i]?.getD []) k = H2 at *
          generalize derM k (polF (g[i]?.getD [])) = E1 at *
          generalize derM k (polF (f[i]?.getD [])) = E2 at *
          simp [go_sem, f1, f2, f3, f4]
          refine ⟨by kernel_rfl, ⟨hkf, nf⟩, ⟨hig, ng⟩, ?_⟩
          refine CallD.of (d1) (by simp [roots, rootsL]) (by decide) ?_
          simp [go_sem]
          refine CallD.of (x1) (by simp [roots, rootsL, frz, frzL]) (by decide) ?_
          simp [go_sem]
          refine ⟨_, _, a1.g, ?_⟩
          simp [go_sem]
          refine ⟨by kernel_rfl, ?_⟩
          simp [go_sem]
          simp [go_sem, f1, f2, f3, f4]
          refine ⟨by kernel_rfl, ⟨hkg, ng⟩, ⟨hif, nf⟩, ?_⟩
          refine CallD.of (d2) (by simp [roots, rootsL]) (by decide) ?_
          simp [go_sem]
          refine CallD.of (x2) (by simp [roots, rootsL, frz, frzL]) (by decide) ?_
          simp [go_sem]
          refine ⟨_, _, a2.g, ?_⟩
          simp [go_sem]
          refine ⟨by kernel_rfl, ?_⟩
          simp [go_sem]
          exact ⟨by omega, k + 1, by omega, by omega, Off_reset _ _ _ (by simp), by rw [hM2]; exact hb.symm, by omega⟩
        · have e : k = f.length := by omega
          subst e
          have hsn := brL_snoc f g i
          simp [go_sem]
          refine ⟨⟨by omega, by omega⟩, by omega, i + 1, by omega, by omega, (Off.reset (by intro x hx; simp at hx ⊢; omega) (by simp) (by simp [go_sem, Off_reset])), ?_, by omega⟩
          exact ⟨rfl, hsn.symm⟩
      · have e : i = f.length := by omega
        subst e
        simp [go_sem, mps_frz]
        simp only [brL_len, bkL_len] at cF cI
        refine CallVC.of (cF) (by decide) ?_
        simp [go_sem]
        refine CallVC.of (cI) (by decide) ?_
        simp [go_sem]
  · have e : brE z f w g = 1 := by unfold brE; rw [hE]; rfl
    rw [hE] at cK
    rw [e]
    refine nF _ ?_
    refine con_of_vc Tryz.mixed ⟨14, [22, 24, 48, 61], [62], []⟩ Tryz.func10 (by decide) rfl (by simp) (by decide) (by simp [freshOK, freshL, go_sem]) ?_
    rw [Tryz.ntmps10]
    simp [go_sem]
    refine CallVC.of (cK) (by decide) ?_
    simp [go_sem]
end Go.Proofs.YtoeikpioonlmfaaGreat


namespace Go.Proofs.YtoeikpioonlmfaaGreat
open Go.Abs
set_option linter.unusedSectionVars false
set_option linter.unusedVariables false
set_option linter.unusedSimpArgs false
set_option maxHeartbeats 1000000
theorem da_zero {z : Int} {f : List (List Mon)} {y : List Int} {vs : List (List Int)} (h1 : fieldB z f = true) (h2 : daB z y vs = true) : daE z f y vs = 0 := by
  unfold daE; simp [h1, h2]
theorem daX_eq {z : Int} {f : List (List Mon)} {y : List Int} {vs : List (List Int)} (h1 : fieldB z f = true) (h2 : daB z y vs = true) : daX z f y vs = drvL y y.length vs f := by
  unfold daX; rw [if_pos ⟨h1, h2⟩]
theorem daB_mk {z : Int} {y : List Int} {vs : List (List Int)} (h1 : vecB z y = true) (h2 : vs.length ≤ 8) (h3 : ∀ v ∈ vs, vecB z v = true) : daB z y vs = true := by
  unfold daB; simp [h1, h2]; exact h3
theorem vec_mk {z : Int} {v : List Int} (h1 : (v.length : Int) = z) (h2 : Ns v) : vecB z v = true := vecB_iff.2 ⟨h1, h2⟩
end Go.Proofs.YtoeikpioonlmfaaGreat


namespace Go.Proofs.YtoeikpioonlmfaaGreat
open Go.Abs CR
set_option linter.unusedSectionVars false
set_option linter.unusedVariables false
set_option linter.unusedSimpArgs false
set_option maxHeartbeats 1000000
theorem FieldOk.lk {z : Int} {f : List (List Mon)} (hF : FieldOk z f) : ∀ F ∈ f, LOk f.length F := fun F h m hm => ⟨(partWok hF h m hm).len, fun x hx => ((partWok hF h m hm).pw x hx).1⟩
theorem evL_add {y : List Int} {f g : List (List Mon)} (h : f.length = g.length) : evL y (afL f g) = pl5 (evL y f) (evL y g) := by
  refine ext_get (by simp) fun i hi => ?_
  have hi : i < f.length := by simpa using hi
  rw [evL_at (by simpa using hi), afL_at hi, vsum_plus, pl5_get (by simpa using hi), evL_at hi, evL_at (by omega)]
  omega
theorem evL_scale {y : List Int} {f : List (List Mon)} {k : Int} : evL y (fsL f k) = tm5 (evL y f) k := by
  refine ext_get (by simp) fun i hi => ?_
  have hi : i < f.length := by simpa using hi
  rw [evL_at (by simpa using hi), fsL_at hi, vsum_plus, tm5_get (by simpa using hi), evL_at hi, mod_mul_l, Int.mul_comm]
  show (0 + _) % 10007 = _
  rw [Int.zero_add]
theorem evL_bracket {z : Int} {y : List Int} {f g : List (List Mon)} (hF : FieldOk z f) (hG : FieldOk z g) (hy : f.length = y.length) :
    evL y (bkL f g) = pl5 (drvL y y.length [evL y f] g) (tm5 (drvL y y.length [evL y g] f) 10006) := by
  have zl := hF.len
  have zg := hG.len
  refine ext_get (by simp; omega) fun i hi => ?_
  have hi : i < f.length := by simpa using hi
  have hj : i < g.length := by omega
  have lf := hF.lk
  have lg := hG.lk
  have gy : g.length = y.length := by omega
  rw [hy] at lf
  rw [gy] at lg
  rw [evL_at (by simpa using hi), bkL_at hi, vsum_plus, pl5_get (by simpa using hj), drvL_at hj, tm5_get (by simpa using hi), drvL_at hi]
  have a1 := vsum_along hy lf (lg _ (memD [] hj))
  have a2 := vsum_along gy lg (lf _ (memD [] hi))
  unfold drvP
  rw [if_neg (by simp), if_neg (by simp)]
  omega
theorem degB_part {z : Int} {p : List Mon} (h : partB z p = true) : degB p = true := by
  rw [← partB_deg (fun m hm => (partB_mem h hm).len) (partSrt h).1 (partSrt h).2]; exact h
theorem degB_plus {p q : List Mon} {k : Int} (hp : degB p = true) (hq : degB q = true) : degB (plusL p k q) = true := by
  refine List.all_eq_true.2 fun x hx => ?_
  rcases plusL_keys q p x hx with ⟨a, ha, e⟩ | ⟨a, ha, e⟩
  · rw [e]; exact List.all_eq_true.1 hp a ha
  · rw [e]; exact List.all_eq_true.1 hq a ha
theorem fld_add {z : Int} {f g : List (List Mon)} (hF : FieldOk z f) (hG : FieldOk z g) : fieldB z (afL f g) = true := by
  have zl := hF.len
  have zg := hG.len
  have fg : g.length = f.length := by omega
  refine fieldB_iff.2 ⟨hF.lo, hF.hi, by simpa using zl, fun p hp => ?_⟩
  obtain ⟨i, hi, rfl⟩ := List.mem_map.1 hp
  have hi : i < f.length := by simpa using hi
  have hj : i < g.length := by omega
  have p1 := hF.part _ (memD [] hi)
  have p2 := hG.part _ (memD [] hj)
  have w1 := partWok hF (memD [] hi)
  have w2 := partWok hG (memD [] hj)
  rw [fg] at w2
  have s := plusL_srt (k := 1) _ _ w2 w1 (partSrt p1)
  have w := plusL_wok (k := 1) _ _ w2 w1
  rw [partB_deg (fun m hm => by have := (w m hm).len; omega) s.1 s.2]
  exact degB_plus (degB_part p1) (degB_part p2)
theorem fld_scale {z k : Int} {f : List (List Mon)} (hF : FieldOk z f) : fieldB z (fsL f k) = true := by
  have zl := hF.len
  refine fieldB_iff.2 ⟨hF.lo, hF.hi, by simpa using zl, fun p hp => ?_⟩
  obtain ⟨F, hF2, rfl⟩ := List.mem_map.1 hp
  have p1 := hF.part _ hF2
  have w1 := partWok hF hF2
  have s := plusL_srt (n := f.length) (k := k) F [] w1 (by simp) ⟨List.Pairwise.nil, by simp [Nzl]⟩
  have w := plusL_wok (n := f.length) (k := k) F [] w1 (by simp)
  rw [partB_deg (fun m hm => by have := (w m hm).len; omega) s.1 s.2]
  exact degB_plus rfl (degB_part p1)
theorem bk_turn {z : Int} {f g : List (List Mon)} (hF : FieldOk z f) (hG : FieldOk z g) : fsL (bkL g f) 10006 = bkL f g := by
  have zl := hF.len
  have zg := hG.len
  have z3 := hF.hi
  have fg : g.length = f.length := by omega
  refine List.ext_getElem (by simp; omega) fun i hi hj => ?_
  have hif : i < f.length := by simpa using hj
  have hig : i < g.length := by omega
  have o1 := bk_ok hF hG hif
  have o2 := bk_ok hG hF hig
  have e1 : (bkL f g)[i] = (bkL f g)[i]?.getD [] := by simp [hif]
  have e2 : (fsL (bkL g f) 10006)[i] = plusL [] 10006 ((bkL g f)[i]?.getD []) := by simp [fsL, hig]
  rw [e1, e2]
  have w2 := o2.1
  rw [fg] at w2
  have s := plusL_srt (n := f.length) (k := 10006) _ [] w2 (by simp) ⟨List.Pairwise.nil, by simp [Nzl]⟩
  have w := plusL_wok (n := f.length) (k := 10006) _ [] w2 (by simp)
  refine list_unique (n := f.length) (by omega) (fun m hm => (w m hm).len) (fun m hm => (o1.1 m hm).len) s.1 o1.2.1 s.2 o1.2.2.1 fun K => ?_
  have c1 := plusL_cf 10006 K ((bkL g f)[i]?.getD []) []
  have c2 := plusL_cf 10006 K (alongL f (g[i]?.getD [])) (alongL g (f[i]?.getD []))
  have c3 := plusL_cf 10006 K (alongL g (f[i]?.getD [])) (alongL f (g[i]?.getD []))
  rw [← bkL_at hig] at c2
  rw [← bkL_at hif] at c3
  have c4 : cfL ([] : List Mon) K = 0 := rfl
  omega
theorem bk_deg {z : Int} {f g : List (List Mon)} (hF : FieldOk z f) (hG : FieldOk z g) (h : bkD f g = true) : bkD g f = true := by
  have zl := hF.len
  have zg := hG.len
  unfold bkD
  rw [← bk_turn hG hF]
  refine List.all_eq_true.2 fun p hp => ?_
  obtain ⟨F, hF2, rfl⟩ := List.mem_map.1 hp
  exact degB_plus rfl (List.all_eq_true.1 h F hF2)
end Go.Proofs.YtoeikpioonlmfaaGreat


namespace Go.Proofs.YtoeikpioonlmfaaGreat
open Go.Abs
set_option linter.unusedSectionVars false
set_option linter.unusedVariables false
set_option linter.unusedSimpArgs false
set_option maxHeartbeats 4000000
theorem evE_ok2 {z : Int} {f : List (List Mon)} {y : List Int} (h1 : fieldB z f = true) (hl : (y.length : Int) = z) (hy : Ns y) : evE z f y = 0 ∧ evX z f y = evL y f := by
  have h2 := numsB_N.2 hy
  constructor
  · unfold evE; rw [if_pos h1, decide_eq_true hl, h2]; rfl
  · unfold evX; rw [if_pos ⟨h1, by rw [decide_eq_true hl, h2]; rfl⟩]
set_option maxRecDepth 100000 in
theorem FnBrackets_c (c : List Int) (hl : c.length ≤ 9223372036854775807) (hb : ∀ x ∈ c, 0 ≤ x ∧ x ≤ 255) : Con Tryz.prog 3 [.sl c.length (bys c)] (.bool true) := by
  have cB := big_c c hl
  by_cases hc4 : 4096 < c.length
  · refine con_of_vc Tryz.mixed ⟨34, [10, 12, 14], [1000000 + 15, 1000000 + 14, 2000000 + 9, 2000000 + 13], []⟩ Tryz.func3 (by decide) rfl (by simp) (by decide) (by simp [freshOK, freshL, go_sem]) ?_
    rw [Tryz.ntmps3]
    simp [go_sem]
    refine CallVC.of (cB) (by decide) ?_
    simp [go_sem]
    simp [go_sem, hc4]
  · have hc : Byt c := ⟨by omega, hb⟩
    have cD := DrawBracketFields_f c hc
    have cR := roll_r c 611 hc
    refine con_of_vc Tryz.mixed ⟨34, [10, 12, 14], [1000000 + 15, 1000000 + 14, 2000000 + 9, 2000000 + 13], []⟩ Tryz.func3 (by decide) rfl (by simp) (by decide) (by simp [freshOK, freshL, go_sem]) ?_
    rw [Tryz.ntmps3]
    simp [go_sem]
    refine CallVC.of (cB) (by decide) ?_
    simp [go_sem]
    simp [go_sem, hc4]
    refine ⟨_, cD, ?_⟩
    rintro _ _ ⟨rfl, z, f, w, g, hD, hG, rfl⟩
    have hS := hD.small
    have hS2 := hG.small
    have cA := BracketFields_c z f w g hS hS2
    have cS := specBracketFields_c z f w g hS hS2
    unfold brR at cA cS
    have cL := likeField5_c (if brE z f w g = 0 then z else 0) (brX z f w g) (brX_tiny z f w g).small
    simp [go_sem]
    refine CallVC.of (cA) (by decide) ?_
    simp [go_sem]
    refine CallVC.of (cS) (by decide) ?_
    simp [go_sem]
    refine CallVC.of (cL) (by decide) ?_
    simp [go_sem]
    by_cases hE1 : brE z f w g = 1
    · simp [go_sem, hE1]
    · have hk : ckE z f w g = 0 := by
        rcases ckE_two z f w g with h | h
        · exact h
        · exact absurd (by unfold brE; rw [if_neg (by omega)]) hE1
      obtain ⟨hT, hU, hzw⟩ := ckE_ok hk
      subst hzw
      have hF := fieldB_iff.1 hT
      have hGf := fieldB_iff.1 hU
      have zl := hF.len
      have z3 := hF.hi
      subst zl
      simp [go_sem, hE1]
      refine ⟨_, cR, ?_⟩
      rintro _ _ ⟨rfl, h, rfl⟩
      have s0 : SOk ((0, h) : Src) := by unfold SOk; simp
      have cLs := list5_c c (0, h) f.length hc s0 (by omega)
      have hL := lsV_ok (f := n5V c) (fun σ h => n5V_ok hc h) f.length (0, h) s0
      generalize lsV (n5V c) f.length (0, h) = u at *
      have hyl := hL.1
      have hyN := hL.2.1
      have hs2 := hL.2.2
      clear hL
      generalize u.1 = y at *
      generalize u.2 = u2 at *
      have cN := number5_c c u2 hc hs2
      have hN := n5V_ok hc hs2
      generalize n5V c u2 = r at *
      have hkN := hN.1
      clear hN
      generalize r.1 = kk at *
      generalize r.2 = r2 at *
      unfold dicA at *
      simp [go_sem]
      refine ⟨_, _, cLs, ?_⟩
      simp [go_sem]
      refine ⟨_, _, cN, ?_⟩
      simp [go_sem]
      have hyi : (y.length : Int) = f.length := by omega
      have fg : g.length = f.length := by have := hGf.len; omega
      have cE1 := EvaluateField_c f.length f y hS (by omega)
      have cE2 := EvaluateField_c f.length g y hS2 (by omega)
      have cE3 := EvaluateField_c f.length (afL f g) y (by have := afX_tiny f.length f f.length g; unfold afX at this; rw [if_pos hk] at this; exact this.small) (by omega)
      have hfs : fsE f.length f kk = 0 := by unfold fsE; rw [if_pos hT, if_pos ⟨hkN.1, by have := hkN.2; omega⟩]
      have cE4 := EvaluateField_c f.length (fsL f kk) y (by have := fsX_tiny f.length f kk; unfold fsX at this; rw [if_pos hfs] at this; exact this.small) (by omega)
      obtain ⟨a1, a2⟩ := evE_ok2 hT hyi hyN
      obtain ⟨b1, b2⟩ := evE_ok2 hU hyi hyN
      obtain ⟨d1, d2⟩ := evE_ok2 (fld_add hF hGf) hyi hyN
      obtain ⟨e1, e2⟩ := evE_ok2 (fld_scale (k := kk) hF) hyi hyN
      rw [evL_add fg.symm] at d2
      rw [evL_scale] at e2
      unfold evR at cE1 cE2 cE3 cE4
      rw [a1, a2, hyl] at cE1
      rw [b1, b2, hyl] at cE2
      rw [d1, d2, hyl] at cE3
      rw [e1, e2, hyl] at cE4
      have cAd := AddFields_c f.length f f.length g hS hS2
      unfold afR afX at cAd
      rw [if_pos hk, if_pos hk, hk] at cAd
      have cSc := ScaleField_c f.length f kk hS
      unfold fsR fsX at cSc
      rw [if_pos hfs, if_pos hfs, hfs] at cSc
      have cP := plus5_c (evL y f) (evL y g) (by simp; omega) (by simp; omega) (evL_N y f) (evL_N y g)
      have cT := times5_c (evL y f) kk (by simp; omega) (evL_N y f) hkN
      have cL1 := likeInts_c (pl5 (evL y f) (evL y g)) (pl5 (evL y f) (evL y g)) (by simp; omega)
      have cL2 := likeInts_c (tm5 (evL y f) kk) (tm5 (evL y f) kk) (by simp; omega)
      simp only [evL_len, pl5_len, tm5_len, afL_len, fsL_len, decide_true] at cE1 cE2 cE3 cE4 cAd cSc cP cT cL1 cL2
      refine CallVC.of (cE1) (by decide) ?_
      simp [go_sem]
      refine CallVC.of (cE2) (by decide) ?_
      simp [go_sem]
      refine CallVC.of (cAd) (by decide) ?_
      simp [go_sem]
      refine CallVC.of (cE3) (by decide) ?_
      simp [go_sem]
      refine CallVC.of (cSc) (by decide) ?_
      simp [go_sem]
      refine CallVC.of (cE4) (by decide) ?_
      simp [go_sem]
      refine CallVC.of (cP) (by decide) ?_
      simp [go_sem]
      refine CallVC.of (cL1) (by decide) ?_
      simp [go_sem]
      refine CallVC.of (cT) (by decide) ?_
      simp [go_sem]
      refine CallVC.of (cL2) (by decide) ?_
      simp [go_sem]
      by_cases hE0 : brE f.length f f.length g = 0
      · have hX : brX f.length f f.length g = bkL f g := by unfold brX; rw [if_pos hE0]
        have hD : bkD f g = true := by
          unfold brE at hE0
          rw [if_pos hk] at hE0
          split at hE0
          · assumption
          · omega
        have cE5 := EvaluateField_c f.length (bkL f g) y (bk_tiny hF hGf).small (by omega)
        obtain ⟨f1, f2⟩ := evE_ok2 (by rw [fieldB_deg hF hGf]; exact hD) hyi hyN
        rw [evL_bracket hF hGf hyl.symm] at f2
        unfold evR at cE5
        rw [f1, f2, hyl] at cE5
        have yB : vecB f.length y = true := vec_mk hyi hyN
        have pB : vecB f.length (evL y f) = true := vec_mk (by simp) (evL_N y f)
        have qB : vecB f.length (evL y g) = true := vec_mk (by simp; omega) (evL_N y g)
        have dB1 := daB_mk (vs := [evL y f]) yB (by simp) (by simpa using pB)
        have dB2 := daB_mk (vs := [evL y g]) yB (by simp) (by simpa using qB)
        have cD1 := DerivativeAt_c f.length g y [evL y f] hS2 (by omega) (by simp) (by simp; omega)
        have cD2 := DerivativeAt_c f.length f y [evL y g] hS (by omega) (by simp) (by simp; omega)
        unfold daR at cD1 cD2
        rw [daX_eq hU dB1, da_zero hU dB1, hyl] at cD1
        rw [daX_eq hT dB2, da_zero hT dB2, hyl] at cD2
        have hk2 : ckE f.length g f.length f = 0 := by unfold ckE; rw [if_pos hU, if_pos hT, if_pos rfl]
        have hD2 := bk_deg hF hGf hD
        have hE2 : brE f.length g f.length f = 0 := by unfold brE; rw [if_pos hk2, if_pos hD2]
        have cBk := BracketFields_c f.length g f.length f hS2 hS
        unfold brR brX at cBk
        rw [if_pos hE2, if_pos hE2, hE2] at cBk
        have hF2 : fieldB f.length (bkL g f) = true := by rw [fieldB_deg hGf hF]; exact hD2
        have hfs2 : fsE f.length (bkL g f) 10006 = 0 := by unfold fsE; rw [if_pos hF2, if_pos (by omega)]
        have cSc2 := ScaleField_c f.length (bkL g f) 10006 (bk_tiny hGf hF).small
        unfold fsR fsX at cSc2
        rw [if_pos hfs2, if_pos hfs2, hfs2, bk_turn hF hGf] at cSc2
        have cT2 := times5_c (drvL y f.length [evL y g] f) 10006 (by simp; omega) (drvL_N _ _ _ _) ⟨by omega, by omega⟩
        have cP2 := plus5_c (drvL y f.length [evL y f] g) (tm5 (drvL y f.length [evL y g] f) 10006) (by simp; omega) (by simp; omega) (drvL_N _ _ _ _) (tm5_N _ _)
        have cL3 := likeInts_c (pl5 (drvL y f.length [evL y f] g) (tm5 (drvL y f.length [evL y g] f) 10006)) (pl5 (drvL y f.length [evL y f] g) (tm5 (drvL y f.length [evL y g] f) 10006)) (by simp; omega)
        have cL4 := likeField5_c f.length (bkL f g) (bk_tiny hF hGf).small
        have m1 : mat [evL y f] = [.sl (evL y f).length (avs (evL y f))] := rfl
        have m2 : mat [evL y g] = [.sl (evL y g).length (avs (evL y g))] := rfl
        rw [m1] at cD1
        rw [m2] at cD2
        simp only [hyl, evL_len, pl5_len, tm5_len, bkL_len, drvL_len, List.length_singleton, decide_true] at cE5 cD1 cD2 cBk cSc2 cT2 cP2 cL3 cL4
        simp [go_sem, hE0, hX]
        refine CallVC.of (cE5) (by decide) ?_
        simp [go_sem]
        refine CallVC.of (cD1) (by decide) ?_
        simp [go_sem]
        refine CallVC.of (cD2) (by decide) ?_
        simp [go_sem]
        refine CallVC.of (cBk) (by decide) ?_
        simp [go_sem]
        refine CallVC.of (cSc2) (by decide) ?_
        simp [go_sem]
        refine CallVC.of (cT2) (by decide) ?_
        simp [go_sem]
        refine CallVC.of (cP2) (by decide) ?_
        simp [go_sem]
        refine CallVC.of (cL3) (by decide) ?_
        simp [go_sem]
        refine CallVC.of (cL4) (by decide) ?_
        simp [go_sem]
      · simp [go_sem, hE0]
end Go.Proofs.YtoeikpioonlmfaaGreat

