/- Texts of the own layer and contracts, part 6: G1 Q1 Q2 LK Q29 Q9 Q10 Q11 Q12 Q13 Q3 Q4 Q5 P7 Q6 Q7 Q8 Q14 Q15 Q16 Q17 Q18 Q19 Q20 Q21 Q22 Q23 Q24 Q25 Q26. -/
import Derived.Test.YtngakdgkeemjhaaM5
/- Lists of monomials as polynomials over any ring: values of sums, products and derivatives along fields. -/
namespace Go.Proofs.Ytngakdgkeemjhaa
open CR
set_option linter.unusedVariables false
set_option linter.unusedSimpArgs false
set_option maxHeartbeats 1000000
def ex (e : List Int) : Nat → Nat := fun k => (e[k]?.getD 0).toNat
def tr (m : Mon) : Trm := (m.1, ex m.2)
/-- Monomials of n variables with exponents up to B. -/
structure WOk (n : Nat) (B : Int) (m : Mon) : Prop where
  num : isN m.1
  len : m.2.length = n
  pw : ∀ x ∈ m.2, 0 ≤ x ∧ x ≤ B
theorem VOk.wok {n : Nat} {m : Mon} (h : VOk n m) : WOk n 3 m := ⟨h.num, h.len, h.pw⟩
theorem WOk.le {n : Nat} {B C : Int} {m : Mon} (h : WOk n B m) (hBC : B ≤ C) : WOk n C m := ⟨h.num, h.len, fun x hx => ⟨(h.pw x hx).1, Int.le_trans (h.pw x hx).2 hBC⟩⟩
theorem WOk.get {n : Nat} {B : Int} {m : Mon} (h : WOk n B m) (hB : 0 ≤ B) (k : Nat) : 0 ≤ m.2[k]?.getD 0 ∧ m.2[k]?.getD 0 ≤ B := by
  rcases Nat.lt_or_ge k m.2.length with hk | hk
  · simp [hk]; exact h.pw _ (List.getElem_mem hk)
  · simp [hk]; exact hB
section
variable {α : Type} [CR α]
def evM (d : Nat) (U : Nat → α) (L : List Mon) : α := ev d U (L.map tr)
def evM1 (d k : Nat) (U : Nat → α) (L : List Mon) : α := ev1 d k U (L.map tr)
theorem evM_nil (d : Nat) (U : Nat → α) : evM d U [] = ofI 0 := rfl
theorem evM_cons (d : Nat) (U : Nat → α) (m : Mon) (L : List Mon) : evM d U (m :: L) = ofI m.1 * mon U (ex m.2) d + evM d U L := rfl
theorem evM_app (d : Nat) (U : Nat → α) (L R : List Mon) : evM d U (L ++ R) = evM d U L + evM d U R := by
  unfold evM ev; rw [List.map_append, sL_app]
theorem evM1_cons (d k : Nat) (U : Nat → α) (m : Mon) (L : List Mon) : evM1 d k U (m :: L) = ofI (m.1 * (ex m.2 k : Int)) * mon U (dx k (ex m.2)) d + evM1 d k U L := rfl
theorem evM_if (d : Nat) (U : Nat → α) (m : Mon) : evM d U (if m.1 = 0 then [] else [m]) = ofI m.1 * mon U (ex m.2) d := by
  split
  · rename_i h; rw [h, zmul]; rfl
  · rw [evM_cons, evM_nil, add0]
theorem Cg.eq (c : Cg α) {a b : α} (h : a = b) : c.r a b := by rw [h]; exact c.refl _
theorem putGo_ev (c : Cg α) (d : Nat) (U : Nat → α) (k : Int) (e : List Int) : ∀ (l : List Mon) (done : Bool),
    c.r (evM d U (putGo k e l done)) (evM d U l + if done = true then ofI 0 else ofI k * mon U (ex e) d)
  | [], true => c.eq (by simp [putGo]; rw [add0])
  | [], false => c.eq (by simp [putGo]; rw [evM_cons, evM_nil, addC])
  | m :: l, done => by
    rw [putGo]
    by_cases h1 : done = false ∧ m.2 = e
    · rw [if_pos h1, evM_app, h1.1, ← h1.2]
      have e1 := evM_if d U ((m.1 + k) % 10007, m.2)
      simp only at e1
      rw [e1]
      refine c.trans (c.add (c.mul (c.of (a := (m.1 + k) % 10007) (b := m.1 + k) (by omega)) (c.refl _)) (putGo_ev c d U k m.2 l true)) (c.eq ?_)
      simp only [if_true, Bool.false_eq_true, if_false]
      rw [evM_cons, ofAdd, Dmul, add0]; ac_rfl
    · rw [if_neg h1]
      by_cases h2 : done = false ∧ ltL e m.2 = true
      · rw [if_pos h2, evM_cons, evM_app, evM_if, h2.1]
        refine c.trans (c.add (c.refl _) (c.add (c.refl _) (putGo_ev c d U k e l true))) (c.eq ?_)
        simp only [if_true, Bool.false_eq_true, if_false]
        rw [evM_cons, add0]; ac_rfl
      · rw [if_neg h2, evM_app, evM_if]
        refine c.trans (c.add (c.refl _) (putGo_ev c d U k e l done)) (c.eq ?_)
        rw [evM_cons, addA]
theorem putL_ev (c : Cg α) (d : Nat) (U : Nat → α) (L : List Mon) (k : Int) (e : List Int) : c.r (evM d U (putL L k e)) (evM d U L + ofI k * mon U (ex e) d) := by
  unfold putL
  refine c.trans (putGo_ev c d U k e L _) (c.eq ?_)
  by_cases h : k = 0
  · simp [h]; rw [zmul]
  · simp [h]
/-- Sums. -/
def plusL (p : List Mon) (k : Int) : List Mon → List Mon
  | [] => p
  | m :: q => plusL (putL p (k * m.1 % 10007) m.2) k q
theorem plusL_app (p : List Mon) (k : Int) (q r : List Mon) : plusL p k (q ++ r) = plusL (plusL p k q) k r := by
  induction q generalizing p with
  | nil => rfl
  | cons m q ih => exact ih _
theorem plusL_ev (c : Cg α) (d : Nat) (U : Nat → α) (k : Int) : ∀ (q p : List Mon), c.r (evM d U (plusL p k q)) (evM d U p + ofI k * evM d U q)
  | [], p => c.eq (by rw [evM_nil, mul0, add0]; rfl)
  | m :: q, p => by
    rw [plusL]
    refine c.trans (plusL_ev c d U k q _) ?_
    refine c.trans (c.add (putL_ev c d U p _ m.2) (c.refl _)) ?_
    refine c.trans (c.add (c.add (c.refl _) (c.mul (c.of (a := k * m.1 % 10007) (b := k * m.1) (by omega)) (c.refl _))) (c.refl _)) (c.eq ?_)
    rw [evM_cons, mulD, ofMul]; ac_rfl
/-- Products. -/
def addE (a b : List Int) : List Int := List.zipWith (· + ·) a b
def prodRow (a : Mon) (acc : List Mon) : List Mon → List Mon
  | [] => acc
  | b :: q => prodRow a (putL acc (a.1 * b.1 % 10007) (addE a.2 b.2)) q
def prodGo (acc : List Mon) (q : List Mon) : List Mon → List Mon
  | [] => acc
  | a :: p => prodGo (prodRow a acc q) q p
def prodL (p q : List Mon) : List Mon := prodGo [] q p
theorem prodRow_app (a : Mon) (acc p q : List Mon) : prodRow a acc (p ++ q) = prodRow a (prodRow a acc p) q := by
  induction p generalizing acc with
  | nil => rfl
  | cons m p ih => exact ih _
theorem prodGo_app (acc q p r : List Mon) : prodGo acc q (p ++ r) = prodGo (prodGo acc q p) q r := by
  induction p generalizing acc with
  | nil => rfl
  | cons m p ih => exact ih _
theorem pwr_add (a : α) (n : Nat) : ∀ m : Nat, pwr a (n + m) = pwr a n * pwr a m
  | 0 => (mul1 _).symm
  | m + 1 => by rw [← Nat.add_assoc, pwr, pwr, pwr_add a n m, mulA]
theorem mon_add (U : Nat → α) (e f : Nat → Nat) : ∀ d, mon U (fun k => e k + f k) d = mon U e d * mon U f d
  | 0 => (mul1 _).symm
  | d + 1 => by rw [mon, mon, mon, mon_add U e f d, pwr_add]; ac_rfl
theorem ex_add {a b : List Int} {n : Nat} (ha : a.length = n) (hb : b.length = n) (h1 : ∀ x ∈ a, 0 ≤ x) (h2 : ∀ x ∈ b, 0 ≤ x) (k : Nat) : ex (addE a b) k = ex a k + ex b k := by
  unfold ex addE
  rcases Nat.lt_or_ge k n with hk | hk
  · rw [List.getElem?_eq_getElem (by simp; omega), List.getElem?_eq_getElem (by omega), List.getElem?_eq_getElem (by omega)]
    have := h1 _ (List.getElem_mem (show k < a.length by omega))
    have := h2 _ (List.getElem_mem (show k < b.length by omega))
    simp; omega
  · rw [List.getElem?_eq_none (by simp; omega), List.getElem?_eq_none (by omega), List.getElem?_eq_none (by omega)]; rfl
/-- Lists of n variables' monomials. -/
def LOk (n : Nat) (L : List Mon) : Prop := ∀ m ∈ L, m.2.length = n ∧ ∀ x ∈ m.2, 0 ≤ x
theorem LOk.tl {n : Nat} {m : Mon} {L : List Mon} (h : LOk n (m :: L)) : LOk n L := fun a ha => h a (by simp [ha])
theorem LOk.hd {n : Nat} {m : Mon} {L : List Mon} (h : LOk n (m :: L)) : m.2.length = n ∧ ∀ x ∈ m.2, 0 ≤ x := h m (by simp)
theorem prodRow_ev (c : Cg α) (d : Nat) (U : Nat → α) {n : Nat} {a : Mon} (ha : a.2.length = n ∧ ∀ x ∈ a.2, 0 ≤ x) : ∀ (q acc : List Mon), LOk n q → c.r (evM d U (prodRow a acc q)) (evM d U acc + ofI a.1 * mon U (ex a.2) d * evM d U q)
  | [], acc, _ => c.eq (by rw [evM_nil, mul0, add0]; rfl)
  | b :: q, acc, hq => by
    have hb := hq.hd
    rw [prodRow]
    refine c.trans (prodRow_ev c d U ha q _ hq.tl) ?_
    refine c.trans (c.add (putL_ev c d U acc _ _) (c.refl _)) ?_
    refine c.trans (c.add (c.add (c.refl _) (c.mul (c.of (a := a.1 * b.1 % 10007) (b := a.1 * b.1) (by omega)) (c.refl _))) (c.refl _)) (c.eq ?_)
    have : mon U (ex (addE a.2 b.2)) d = mon U (ex a.2) d * mon U (ex b.2) d := by
      rw [← mon_add]; exact mon_congr U (fun k _ => ex_add ha.1 hb.1 ha.2 hb.2 k)
    rw [this, evM_cons, mulD, ofMul]; ac_rfl
theorem prodGo_ev (c : Cg α) (d : Nat) (U : Nat → α) {n : Nat} {q : List Mon} (hq : LOk n q) : ∀ (p acc : List Mon), LOk n p → c.r (evM d U (prodGo acc q p)) (evM d U acc + evM d U p * evM d U q)
  | [], acc, _ => c.eq (by rw [evM_nil, zmul, add0]; rfl)
  | a :: p, acc, hp => by
    rw [prodGo]
    refine c.trans (prodGo_ev c d U hq p _ hp.tl) ?_
    refine c.trans (c.add (prodRow_ev c d U hp.hd q acc hq) (c.refl _)) (c.eq ?_)
    rw [evM_cons, Dmul]; ac_rfl
theorem prodL_ev (c : Cg α) (d : Nat) (U : Nat → α) {n : Nat} {p q : List Mon} (hp : LOk n p) (hq : LOk n q) : c.r (evM d U (prodL p q)) (evM d U p * evM d U q) :=
  c.trans (prodGo_ev c d U hq p [] hp) (c.eq (zadd _))
theorem ex_low {e : List Int} {i n : Nat} (hi : i < n) (hl : e.length = n) (k : Nat) : ex (e.set i (e[i]?.getD 0 - 1)) k = dx i (ex e) k := by
  unfold ex dx
  rw [List.getElem?_set]
  by_cases h : i = k
  · subst h
    rw [if_pos rfl, if_pos (by omega), if_pos rfl]
    simp
  · rw [if_neg h, if_neg (Ne.symm h)]
theorem derGo_ev (c : Cg α) (d : Nat) (U : Nat → α) {n i : Nat} (hi : i < n) : ∀ (p acc : List Mon), LOk n p → c.r (evM d U (derGo i acc p)) (evM d U acc + evM1 d i U p)
  | [], acc, _ => c.eq (add0 _).symm
  | m :: p, acc, h => by
    have hm := h.hd
    rw [derGo, evM1_cons]
    refine c.trans (derGo_ev c d U hi p _ h.tl) ?_
    have h0 : 0 ≤ m.2[i]?.getD 0 := by
      rw [List.getElem?_eq_getElem (by omega), Option.getD_some]; exact hm.2 _ (List.getElem_mem _)
    by_cases hpos : 0 < m.2[i]?.getD 0
    · rw [if_pos hpos]
      refine c.trans (c.add (putL_ev c d U acc _ _) (c.refl _)) ?_
      refine c.trans (c.add (c.add (c.refl _) (c.mul (c.of (a := m.1 * m.2[i]?.getD 0 % 10007) (b := m.1 * (ex m.2 i : Int)) ?_) (c.refl _))) (c.refl _)) (c.eq ?_)
      · unfold ex; rw [Int.toNat_of_nonneg h0, Int.emod_emod_of_dvd _ (Int.dvd_refl _)]
      · rw [mon_congr U (fun k _ => ex_low hi hm.1 k), addA]
    · rw [if_neg hpos]
      have : ex m.2 i = 0 := by unfold ex; omega
      rw [this]
      have z : ofI (m.1 * ((0 : Nat) : Int)) = (ofI 0 : α) := by simp
      rw [z, zmul, zadd]
      exact c.refl _
theorem derL_ev (c : Cg α) (d : Nat) (U : Nat → α) {n i : Nat} (hi : i < n) {p : List Mon} (hp : LOk n p) : c.r (evM d U (derL i p)) (evM1 d i U p) :=
  c.trans (derGo_ev c d U hi p [] hp) (c.eq (zadd _))
/-- The derivative along a field. -/
def alongGo (acc p : List Mon) (k : Nat) : List (List Mon) → List Mon
  | [] => acc
  | F :: f => alongGo (plusL acc 1 (prodL F (derL k p))) p (k + 1) f
def alongL (f : List (List Mon)) (p : List Mon) : List Mon := alongGo [] p 0 f
theorem alongGo_app (acc p : List Mon) (k : Nat) (f g : List (List Mon)) : alongGo acc p k (f ++ g) = alongGo (alongGo acc p k f) p (k + f.length) g := by
  induction f generalizing acc k with
  | nil => rfl
  | cons F f ih => simp only [List.cons_append, alongGo, ih, List.length_cons]; congr 1; omega
theorem putGo_lok {n : Nat} {k : Int} {e : List Int} (h : e.length = n ∧ ∀ x ∈ e, 0 ≤ x) : ∀ (l : List Mon) (done : Bool), LOk n l → LOk n (putGo k e l done)
  | [], true, _, m, hm => by simp [putGo] at hm
  | [], false, _, m, hm => by simp [putGo] at hm; rw [hm]; exact h
  | a :: l, done, hl, m, hm => by
    have ha := hl.hd
    have ih := fun d => putGo_lok (k := k) h l d hl.tl
    have one : ∀ b : Mon, (b.2.length = n ∧ ∀ x ∈ b.2, 0 ≤ x) → m ∈ (if b.1 = 0 then [] else [b]) → (m.2.length = n ∧ ∀ x ∈ m.2, 0 ≤ x) := fun b hb hmm => by
      split at hmm
      · simp at hmm
      · simp at hmm; rw [hmm]; exact hb
    rw [putGo] at hm
    split at hm
    · rcases List.mem_append.1 hm with hm | hm
      · exact one ((a.1 + k) % 10007, a.2) ha hm
      · exact ih _ m hm
    · split at hm
      · rcases List.mem_cons.1 hm with hm | hm
        · rw [hm]; exact h
        · rcases List.mem_append.1 hm with hm | hm
          · exact one a ha hm
          · exact ih _ m hm
      · rcases List.mem_append.1 hm with hm | hm
        · exact one a ha hm
        · exact ih _ m hm
theorem plusL_lok {n : Nat} {k : Int} : ∀ (q p : List Mon), LOk n q → LOk n p → LOk n (plusL p k q)
  | [], p, _, hp => hp
  | m :: q, p, hq, hp => plusL_lok q _ hq.tl (putGo_lok hq.hd p _ hp)
theorem addE_ok {n : Nat} {a b : List Int} (ha : a.length = n ∧ ∀ x ∈ a, 0 ≤ x) (hb : b.length = n ∧ ∀ x ∈ b, 0 ≤ x) : (addE a b).length = n ∧ ∀ x ∈ addE a b, 0 ≤ x := by
  refine ⟨by unfold addE; simp; omega, fun x hx => ?_⟩
  obtain ⟨i, hi, rfl⟩ := List.getElem_of_mem hx
  unfold addE at hi ⊢
  simp at hi ⊢
  have h1 := ha.2 _ (List.getElem_mem (show i < a.length by omega))
  have h2 := hb.2 _ (List.getElem_mem (show i < b.length by omega))
  omega
theorem prodRow_lok {n : Nat} {a : Mon} (ha : a.2.length = n ∧ ∀ x ∈ a.2, 0 ≤ x) : ∀ (q acc : List Mon), LOk n q → LOk n acc → LOk n (prodRow a acc q)
  | [], _, _, h => h
  | b :: q, acc, hq, h => prodRow_lok ha q _ hq.tl (putGo_lok (addE_ok ha hq.hd) acc _ h)
theorem prodGo_lok {n : Nat} {q : List Mon} (hq : LOk n q) : ∀ (p acc : List Mon), LOk n p → LOk n acc → LOk n (prodGo acc q p)
  | [], _, _, h => h
  | a :: p, acc, hp, h => prodGo_lok hq p _ hp.tl (prodRow_lok hp.hd q acc hq h)
theorem derGo_lok {n i : Nat} (hi : i < n) : ∀ (p acc : List Mon), LOk n p → LOk n acc → LOk n (derGo i acc p)
  | [], acc, _, ha => ha
  | a :: p, acc, hp, ha => by
    rw [derGo]
    have hav := hp.hd
    refine derGo_lok hi p _ hp.tl ?_
    split
    · rename_i hpos
      refine putGo_lok ⟨by simpa using hav.1, fun x hx => ?_⟩ acc _ ha
      rcases List.mem_or_eq_of_mem_set hx with hx | rfl
      · exact hav.2 x hx
      · omega
    · exact ha
theorem alongGo_lok {n : Nat} {p : List Mon} (hp : LOk n p) : ∀ (f : List (List Mon)) (k : Nat) (acc : List Mon), k + f.length ≤ n → (∀ F ∈ f, LOk n F) → LOk n acc → LOk n (alongGo acc p k f)
  | [], _, _, _, _, h => h
  | F :: f, k, acc, hk, hf, h => by
    rw [List.length_cons] at hk
    exact alongGo_lok hp f (k + 1) _ (by omega) (fun G hG => hf G (by simp [hG])) (plusL_lok _ _ (prodGo_lok (derGo_lok (by omega) p [] hp (by intro m hm; simp at hm)) F [] (hf F (by simp)) (by intro m hm; simp at hm)) h)
theorem alongL_lok {n : Nat} {f : List (List Mon)} {p : List Mon} (hp : LOk n p) (hf : ∀ F ∈ f, LOk n F) (hl : f.length ≤ n) : LOk n (alongL f p) := alongGo_lok hp f 0 [] (by omega) hf (by intro m hm; simp at hm)
theorem sT_shift (f : Nat → α) : ∀ n, sT f (n + 1) = f 0 + sT (fun k => f (k + 1)) n
  | 0 => by simp only [sT]; rw [addC]
  | n + 1 => by rw [sT, sT_shift f n, sT, addA]
theorem alongGo_ev (c : Cg α) (d : Nat) (U : Nat → α) {n : Nat} {p : List Mon} (hp : LOk n p) : ∀ (f : List (List Mon)) (k : Nat) (acc : List Mon), k + f.length ≤ n → (∀ F ∈ f, LOk n F) →
    c.r (evM d U (alongGo acc p k f)) (evM d U acc + sT (fun j => evM1 d (k + j) U p * evM d U (f[j]?.getD [])) f.length)
  | [], k, acc, _, _ => c.eq (add0 _).symm
  | F :: f, k, acc, hk, hf => by
    rw [List.length_cons] at hk
    rw [alongGo, List.length_cons, sT_shift]
    have hD : LOk n (derL k p) := derGo_lok (by omega) p [] hp (by intro m hm; simp at hm)
    refine c.trans (alongGo_ev c d U hp f (k + 1) _ (by omega) (fun G hG => hf G (by simp [hG]))) ?_
    refine c.trans (c.add (c.trans (plusL_ev c d U 1 _ acc) (c.add (c.refl _) (c.mul (c.refl _) (c.trans (prodL_ev c d U (hf F (by simp)) hD) (c.mul (c.refl _) (derL_ev c d U (by omega) hp)))))) (c.refl _)) (c.eq ?_)
    have e1 : sT (fun j => evM1 d (k + 1 + j) U p * evM d U (f[j]?.getD [])) f.length = sT (fun j => evM1 d (k + (j + 1)) U p * evM d U ((F :: f)[j + 1]?.getD [])) f.length :=
      sT_congr (fun j _ => by simp [Nat.add_assoc, Nat.add_comm 1 j])
    rw [e1, omul, addA]
    simp only [Nat.add_zero, List.getElem?_cons_zero, Option.getD_some]
    rw [mulC (evM d U F)]
theorem alongL_ev (c : Cg α) (d : Nat) (U : Nat → α) {n : Nat} {p : List Mon} (hp : LOk n p) {f : List (List Mon)} (hl : f.length ≤ n) (hf : ∀ F ∈ f, LOk n F) :
    c.r (evM d U (alongL f p)) (sT (fun j => evM1 d j U p * evM d U (f[j]?.getD [])) f.length) := by
  refine c.trans (alongGo_ev c d U hp f 0 [] (by omega) hf) (c.eq ?_)
  rw [evM_nil, zadd]
  exact sT_congr (fun j _ => by rw [Nat.zero_add])
/-- The flow that a field drives, by the derivatives along it. -/
theorem flow_is (c : Cg α) {d N : Nat} {U : Nat → Ser α} {f : List (List Mon)} (hl : f.length = d) (hf : ∀ F ∈ f, LOk d F)
    (hU : ∀ k, k < d → ∀ n, n < N → c.r (ofI ((n + 1 : Nat) : Int) * U k (n + 1)) (evM d U (f[k]?.getD []) n)) :
    ∀ (n : Nat) (L : List Mon), n ≤ N → LOk d L → c.r (ofI (fct n) * evM d U L n) (evM d (fun k => U k 0) (Nat.repeat (alongL f) n L)) := by
  refine flow_at c (π := List Mon) (fun L => L.map tr) (F := fun k => f[k]?.getD []) (A := alongL f) (Ok := LOk d) (fun L hL => ⟨alongL_lok hL hf (by omega), ?_⟩) hU
  have := alongL_ev (cgS c N) d U hL (f := f) (by omega) hf
  rw [hl] at this
  exact this
end
end Go.Proofs.Ytngakdgkeemjhaa

/- Contracts: the reference's derivative of a list, values of such lists, the program's derivative of a map. -/
namespace Go.Proofs.Ytngakdgkeemjhaa
open Go.Abs
set_option linter.unusedVariables false
set_option linter.unusedSimpArgs false
set_option maxHeartbeats 1000000
theorem putGo_len (c : Int) (e : List Int) : ∀ (l : List Mon) (done : Bool), (putGo c e l done).length ≤ l.length + 1
  | [], true => by simp [putGo]
  | [], false => by simp [putGo]
  | m :: l, done => by
    have one : ∀ b : Mon, (if b.1 = 0 then [] else [b]).length ≤ 1 := fun b => by split <;> simp
    have ht : ∀ l : List Mon, (putGo c e l true).length ≤ l.length := by
      intro l
      induction l with
      | nil => simp [putGo]
      | cons m l ih => rw [putGo_t]; have := one m; simp; omega
    have h1 := putGo_len c e l done
    have h2 := ht l
    have h3 := one m
    have h4 := one ((m.1 + c) % 10007, m.2)
    simp only at h4
    rw [putGo]
    split
    · simp only [List.length_append, List.length_cons]; omega
    · split
      · simp only [List.length_append, List.length_cons]; omega
      · simp only [List.length_append, List.length_cons]; omega
theorem putL_len (L : List Mon) (c : Int) (e : List Int) : (putL L c e).length ≤ L.length + 1 := putGo_len c e L _
theorem derGo_len (i : Nat) : ∀ (p acc : List Mon), (derGo i acc p).length ≤ acc.length + p.length
  | [], acc => by simp [derGo]
  | m :: p, acc => by
    rw [derGo]
    have := derGo_len i p (if 0 < m.2[i]?.getD 0 then putL acc (m.1 * m.2[i]?.getD 0 % 10007) (m.2.set i (m.2[i]?.getD 0 - 1)) else acc)
    have h : (if 0 < m.2[i]?.getD 0 then putL acc (m.1 * m.2[i]?.getD 0 % 10007) (m.2.set i (m.2[i]?.getD 0 - 1)) else acc).length ≤ acc.length + 1 := by
      split
      · exact putL_len _ _ _
      · omega
    simp; omega
/-- Monomials of n variables stay such. -/
theorem putGo_wok {n : Nat} {B c : Int} {e : List Int} (h : WOk n B (c, e)) : ∀ (l : List Mon) (done : Bool), (∀ m ∈ l, WOk n B m) → ∀ m ∈ putGo c e l done, WOk n B m
  | [], true, _, m, hm => by simp [putGo] at hm
  | [], false, _, m, hm => by simp [putGo] at hm; rw [hm]; exact h
  | a :: l, done, hl, m, hm => by
    have ha := hl a (by simp)
    have ih := fun d => putGo_wok h l d (fun b hb => hl b (by simp [hb]))
    have one : ∀ b : Mon, WOk n B b → m ∈ (if b.1 = 0 then [] else [b]) → WOk n B m := fun b hb hmm => by
      split at hmm
      · simp at hmm
      · simp at hmm; rw [hmm]; exact hb
    rw [putGo] at hm
    split at hm
    · rcases List.mem_append.1 hm with hm | hm
      · exact one ((a.1 + c) % 10007, a.2) ⟨isN_mod _, ha.len, ha.pw⟩ hm
      · exact ih _ m hm
    · split at hm
      · rcases List.mem_cons.1 hm with hm | hm
        · rw [hm]; exact h
        · rcases List.mem_append.1 hm with hm | hm
          · exact one a ha hm
          · exact ih _ m hm
      · rcases List.mem_append.1 hm with hm | hm
        · exact one a ha hm
        · exact ih _ m hm
theorem WOk.low {n i : Nat} {B : Int} {m : Mon} (h : WOk n B m) (hi : i < n) (hp : 0 < m.2[i]?.getD 0) : WOk n B (m.1 * m.2[i]?.getD 0 % 10007, m.2.set i (m.2[i]?.getD 0 - 1)) := by
  have hl := h.len
  refine ⟨isN_mod _, by simpa using hl, fun x hx => ?_⟩
  rcases List.mem_or_eq_of_mem_set hx with hx | rfl
  · exact h.pw x hx
  · have hm : m.2[i]?.getD 0 ∈ m.2 := by
      rw [List.getElem?_eq_getElem (by omega), Option.getD_some]; exact List.getElem_mem _
    have := h.pw _ hm
    omega
theorem derGo_wok {n i : Nat} {B : Int} (hi : i < n) : ∀ (p acc : List Mon), (∀ m ∈ p, WOk n B m) → (∀ m ∈ acc, WOk n B m) → ∀ m ∈ derGo i acc p, WOk n B m
  | [], acc, _, ha, m, hm => ha m hm
  | a :: p, acc, hp, ha, m, hm => by
    rw [derGo] at hm
    have hav := hp a (by simp)
    refine derGo_wok hi p _ (fun b hb => hp b (by simp [hb])) ?_ m hm
    split
    · rename_i hpos
      exact fun b hb => putGo_wok (hav.low hi hpos) acc _ ha b hb
    · exact ha
theorem small_mul {a b : Int} (ha : isN a) (h0 : 0 ≤ b) (h1 : b ≤ 1000000) : fits (a * b) := by
  obtain ⟨a0, a1⟩ := ha
  have := Int.mul_nonneg a0 h0
  have : a * b ≤ 10006 * 1000000 := Int.mul_le_mul (by omega) h1 h0 (by omega)
  exact ⟨by omega, by omega⟩
set_option maxRecDepth 100000 in
theorem l13Derive_c {n : Nat} {B : Int} (p : List Mon) (k : Nat) (hk : k < n) (hn : n ≤ 1000) (hB : 0 ≤ B) (hB2 : B ≤ 1000000) (hp : ∀ m ∈ p, WOk n B m) (hl : p.length ≤ 100000000000) :
    Con Try.prog 182 [.sl p.length (mons p), .int k] (.own 112 (derL k p).length (omons (derL k p))) := by
  refine con_of_vc Try.mixed ⟨9, [], [], []⟩ Try.func182 (by decide) rfl (by simp) (by decide) (by simp [freshOK, freshL, go_sem]) ?_
  rw [Try.ntmps182]
  simp [go_sem]
  refine loop_inv (List.range' 5 45) (fun i : Nat => [(5, .own 112 (derL k (p.take i)).length (omons (derL k (p.take i)))), (6, .int i)]) (fun i => i ≤ p.length) (fun i => p.length - i) 0 (by simp) (by simp [go_sem, derL, derGo]) (by simp [go_sem]) ?_
  intro i hi
  simp [go_sem]
  refine ⟨fun h => ?_, fun h => ?_⟩ <;> simp at h
  · have hif := h
    have hx : p[i]?.getD (0, []) ∈ p := by simp [h]
    have hm := hp _ hx
    have hd : derL k (p.take (i + 1)) = (if 0 < (p[i]?.getD (0, [])).2[k]?.getD 0 then putL (derL k (p.take i)) ((p[i]?.getD (0, [])).1 * (p[i]?.getD (0, [])).2[k]?.getD 0 % 10007) ((p[i]?.getD (0, [])).2.set k ((p[i]?.getD (0, [])).2[k]?.getD 0 - 1)) else derL k (p.take i)) := by
      unfold derL
      rw [List.take_add_one, derGo_app]; simp [hif, derGo]
    have hw : ∀ m ∈ derL k (p.take i), WOk n B m := derGo_wok hk _ [] (fun m hm => hp m (List.mem_of_mem_take hm)) (by simp)
    have hdl := derGo_len k (p.take i) []
    have hdl2 : (derL k (p.take i)).length ≤ i := by unfold derL; simp at hdl; omega
    simp [go_sem, mons_drop hif]
    generalize hM : p[i]?.getD (0, []) = m at *
    have hml := hm.len
    have g := hm.get hB k
    have hkl : k < m.2.length := by omega
    have cO := l01Own_c m.2 (by omega)
    refine ⟨⟨hif, by rintro rfl; simp at hif⟩, ?_⟩
    refine CallVC.of (cO) (by decide) ?_
    simp [go_sem]
    simp [go_sem, mons_drop hif, hM, avs_at hkl]
    refine ⟨by kernel_rfl, ⟨hif, by rintro rfl; simp at hif⟩, hkl, ?_⟩
    refine CallD.of (l01Mul_c _ _ (small_mul hm.num g.1 (by omega))) (by simp [roots, rootsL]) (by decide) ?_
    simp [go_sem]
    refine ⟨by kernel_rfl, ?_⟩
    simp [go_sem]
    simp [go_sem, avs_at hkl]
    refine ⟨hkl, ?_⟩
    by_cases hpos : 0 < m.2[k]?.getD 0
    · rw [if_pos hpos] at hd
      have hv := hm.low (by omega) hpos
      have cP := l13Put_c (derL k (p.take i)) (m.1 * m.2[k]?.getD 0 % 10007) (m.2.set k (m.2[k]?.getD 0 - 1)) (isN_mod _) (fun q hq => ⟨(hw q hq).num, by have := (hw q hq).len; omega⟩) (by omega) (by simp; omega)
      rw [List.length_set] at cP
      simp [go_sem, hpos, avs_at hkl]
      refine ⟨hkl, ⟨by omega, by omega⟩, hkl, ?_⟩
      rw [avs_set, avs_frz]
      refine CallVC.of (cP) (by decide) ?_
      simp [go_sem]
      exact ⟨by omega, i + 1, by omega, by omega, Off_reset _ _ _ (by simp), by rw [hd]; exact ⟨rfl, rfl⟩, by omega⟩
    · rw [if_neg hpos] at hd
      simp [go_sem, hpos]
      exact ⟨by omega, i + 1, by omega, by omega, Off_reset _ _ _ (by simp), by rw [hd]; exact ⟨rfl, rfl⟩, by omega⟩
  · simp [go_sem]
    rw [List.take_of_length_le h]
    simp
set_option maxRecDepth 100000 in
theorem l13ValueW_c {B : Int} (p : List Mon) (y : List Int) (hy : Ns y) (hl : y.length ≤ 1000) (hp : p.length ≤ 10000000) (hB : 0 ≤ B) (hB2 : B ≤ 1000000) (hm : ∀ m ∈ p, WOk y.length B m) :
    Con Try.prog 195 [.sl p.length (mons p), .sl y.length (avs y)] (.int (vsum y p % 10007)) := by
  refine con_of_vc Try.mixed ⟨9, [], [], []⟩ Try.func195 (by decide) rfl (by simp) (by decide) (by simp [freshOK, freshL, go_sem]) ?_
  rw [Try.ntmps195]
  simp [go_sem]
  refine loop_inv (5 :: 6 :: 7 :: 8 :: List.range' 9 35) (fun i : Nat => [(5, .int (vsum y (p.take i) % 10007)), (6, .int i)]) (fun i => i ≤ p.length) (fun i => p.length - i) 0 (by simp) (by simp [go_sem, vsum]) (by simp [go_sem]) ?_
  intro i hi
  simp [go_sem]
  refine ⟨fun h => ?_, fun h => ?_⟩ <;> simp at h
  · have hif := h
    have hx : p[i]?.getD (0, []) ∈ p := by simp [h]
    have ho := hm _ hx
    have hv := vsum_take (y := y) h
    simp [go_sem, mons_drop hif]
    refine ⟨⟨hif, by rintro rfl; simp at hif⟩, ?_⟩
    generalize hM : p[i]?.getD (0, []) = m at *
    have hml : m.2.length = y.length := ho.len
    have hx1 : isN m.1 := ho.num
    refine loop_inv (7 :: 8 :: List.range' 20 21) (fun k : Nat => [(7, .int (tmF y m.2 m.1 k)), (8, .int k)]) (fun k => k ≤ y.length) (fun k => y.length - k) 0 (by simp) (by simp [go_sem, tmF]) (by simp [go_sem]) ?_
    intro k hk
    simp [go_sem]
    refine ⟨fun h => ?_, fun h => ?_⟩ <;> simp at h
    · have hk2 : k < m.2.length := by omega
      have g := ho.get hB k
      simp [go_sem, mons_drop hif, hM, avs_drop h, avs_drop hk2]
      refine ⟨by kernel_rfl, ⟨h, by rintro rfl; simp at h⟩, ⟨hif, by rintro rfl; simp at hif⟩, ⟨hk2, fun e => by rw [e] at hk2; simp at hk2⟩, ?_⟩
      refine CallD.of (l01Pow_c _ _ (hy.get k) g.1 (by omega)) (by simp [roots, rootsL]) (by decide) ?_
      simp [go_sem]
      refine CallD.of (l01Mul_c _ _ (mul_fits (tmF_N hx1 k) (isN_mod _))) (by simp [roots, rootsL]) (by decide) ?_
      simp [go_sem]
      refine ⟨by kernel_rfl, ?_⟩
      simp [go_sem]
      refine ⟨by omega, k + 1, by omega, by omega, Off_reset _ _ _ (by simp), by simp [tmF], by omega⟩
    · have e : k = y.length := by omega
      subst e
      simp [go_sem]
      refine CallVC.of (l01Add_c _ _ (add_fits (isN_mod _) (tmF_N hx1 _))) (by decide) ?_
      simp [go_sem]
      refine ⟨by omega, i + 1, by omega, by omega, (Off.reset (by intro x hx; simp at hx ⊢; omega) (by simp) (by simp [go_sem, Off_reset])), ?_, by omega⟩
      rw [hv]
  · simp [go_sem]
    have e : i = p.length := by omega
    subst e; simp
set_option maxRecDepth 100000 in
theorem derivative_c {n : Nat} (c : Key → Option Int) (i : Nat) (hi : i < n) (hn : n ≤ 3) (hc : ∀ k x, c k = some x → isN x ∧ KOk n k) :
    Con Try.prog 118 [.fmp c, .int i] (.mp (derM i c)) := by
  refine con_of_vc Try.mixed ⟨9, [], [], []⟩ Try.func118 (by decide) rfl (by simp) (by decide) (by simp [freshOK, freshL, go_sem]) ?_
  rw [Try.ntmps118]
  simp [go_sem]
  intro es hes
  have hok : ∀ e ∈ es, c e.1 = some e.2 := fun e he => hes.val e he
  refine loop_inv (List.range' 5 34) (fun x : Option (Key × Int) × List (Key × Int) => [(5, .mp (remD i c x.2)), (11, .it x.1 x.2)]) (fun x => x.2.Pairwise (fun a b => a.1 ≠ b.1) ∧ ∀ e ∈ x.2, c e.1 = some e.2) (fun x => x.2.length) (none, es) ⟨hes.nd, hok⟩ (by simp [go_sem, remD_start hes]) (by simp [go_sem]) ?_
  rintro ⟨l, rem⟩ ⟨hnd, hrem⟩
  simp only at hnd hrem
  simp [go_sem, keyAV]
  refine ⟨fun hr => ?_, fun l1 k0 k1 k2 x l2 hr => ?_⟩
  · subst hr
    exact remD_end i c
  · subst hr
    have h3 : i = 0 ∨ i = 1 ∨ i = 2 := by omega
    have hcx := hrem ((k0, k1, k2), x) (by simp)
    have hx := hc _ _ hcx
    have hbx := mem_box.1 hx.2.1
    simp only at hcx hbx
    have hnum := hx.1
    have hnd2 : (l1 ++ l2).Pairwise (fun a b => a.1 ≠ b.1) := hnd.sublist (List.Sublist.append (List.Sublist.refl _) (List.sublist_cons_self _ _))
    have hrem2 : ∀ a b c' y, ((a, b, c'), y) ∈ l1 ++ l2 → c (a, b, c') = some y := fun a b c' y hm => hrem ((a, b, c'), y) (by
      rcases List.mem_append.1 hm with hm | hm <;> simp [hm])
    rcases h3 with rfl | rfl | rfl
    · have hz : remD 0 c (l1 ++ ((k0, k1, k2), x) :: l2) (k0 - 1, k1, k2) = none := remD_at (i := 0) (c := c) (l1 := l1) (l2 := l2) (k0 := (k0, k1, k2)) (x := x)
      simp [go_sem]
      by_cases hp : 0 < k0
      · have hs : mset (remD 0 c (l1 ++ ((k0, k1, k2), x) :: l2)) (k0 - 1, k1, k2) (k0 * x % 10007) = remD 0 c (l1 ++ l2) := remD_step (i := 0) hnd hcx hp
        have hf : fits (k0 * x) := by rw [Int.mul_comm]; exact small_mul hnum (by omega) (by omega)
        simp [go_sem, hp, hz]
        refine ⟨⟨by omega, by omega⟩, by kernel_rfl, hf, ?_⟩
        refine CallD.of (num_c _ hf.1 hf.2) (by simp [roots, rootsL]) (by decide) ?_
        simp [go_sem]
        refine ⟨by kernel_rfl, ?_⟩
        simp [go_sem]
        exact ⟨_, _, ⟨hnd2, hrem2⟩, by simp; try omega, Off_reset _ _ _ (by simp), hs, rfl, rfl⟩
      · have hs : remD 0 c (l1 ++ ((k0, k1, k2), x) :: l2) = remD 0 c (l1 ++ l2) := remD_skip (i := 0) hnd hcx hp
        simp [go_sem, hp]
        exact ⟨_, _, ⟨hnd2, hrem2⟩, by simp; try omega, Off_reset _ _ _ (by simp), hs, rfl, rfl⟩
    · have hz : remD 1 c (l1 ++ ((k0, k1, k2), x) :: l2) (k0, k1 - 1, k2) = none := remD_at (i := 1) (c := c) (l1 := l1) (l2 := l2) (k0 := (k0, k1, k2)) (x := x)
      simp [go_sem]
      by_cases hp : 0 < k1
      · have hs : mset (remD 1 c (l1 ++ ((k0, k1, k2), x) :: l2)) (k0, k1 - 1, k2) (k1 * x % 10007) = remD 1 c (l1 ++ l2) := remD_step (i := 1) hnd hcx hp
        have hf : fits (k1 * x) := by rw [Int.mul_comm]; exact small_mul hnum (by omega) (by omega)
        simp [go_sem, hp, hz]
        refine ⟨⟨by omega, by omega⟩, by kernel_rfl, hf, ?_⟩
        refine CallD.of (num_c _ hf.1 hf.2) (by simp [roots, rootsL]) (by decide) ?_
        simp [go_sem]
        refine ⟨by kernel_rfl, ?_⟩
        simp [go_sem]
        exact ⟨_, _, ⟨hnd2, hrem2⟩, by simp; try omega, Off_reset _ _ _ (by simp), hs, rfl, rfl⟩
      · have hs : remD 1 c (l1 ++ ((k0, k1, k2), x) :: l2) = remD 1 c (l1 ++ l2) := remD_skip (i := 1) hnd hcx hp
        simp [go_sem, hp]
        exact ⟨_, _, ⟨hnd2, hrem2⟩, by simp; try omega, Off_reset _ _ _ (by simp), hs, rfl, rfl⟩
    · have hz : remD 2 c (l1 ++ ((k0, k1, k2), x) :: l2) (k0, k1, k2 - 1) = none := remD_at (i := 2) (c := c) (l1 := l1) (l2 := l2) (k0 := (k0, k1, k2)) (x := x)
      simp [go_sem]
      by_cases hp : 0 < k2
      · have hs : mset (remD 2 c (l1 ++ ((k0, k1, k2), x) :: l2)) (k0, k1, k2 - 1) (k2 * x % 10007) = remD 2 c (l1 ++ l2) := remD_step (i := 2) hnd hcx hp
        have hf : fits (k2 * x) := by rw [Int.mul_comm]; exact small_mul hnum (by omega) (by omega)
        simp [go_sem, hp, hz]
        refine ⟨⟨by omega, by omega⟩, by kernel_rfl, hf, ?_⟩
        refine CallD.of (num_c _ hf.1 hf.2) (by simp [roots, rootsL]) (by decide) ?_
        simp [go_sem]
        refine ⟨by kernel_rfl, ?_⟩
        simp [go_sem]
        exact ⟨_, _, ⟨hnd2, hrem2⟩, by simp; try omega, Off_reset _ _ _ (by simp), hs, rfl, rfl⟩
      · have hs : remD 2 c (l1 ++ ((k0, k1, k2), x) :: l2) = remD 2 c (l1 ++ l2) := remD_skip (i := 2) hnd hcx hp
        simp [go_sem, hp]
        exact ⟨_, _, ⟨hnd2, hrem2⟩, by simp; try omega, Off_reset _ _ _ (by simp), hs, rfl, rfl⟩
end Go.Proofs.Ytngakdgkeemjhaa

/- Contracts: Jacobians, the reference's and the program's; rows of marks. -/
namespace Go.Proofs.Ytngakdgkeemjhaa
open Go.Abs
set_option linter.unusedVariables false
set_option linter.unusedSimpArgs false
set_option maxHeartbeats 1000000
theorem heldInt64SS_c (A : List (List Int)) (k : Int) (hA : A.length ≤ 1048576) (hr : ∀ r ∈ A, r.length ≤ 1048576) (h0 : 0 ≤ k) (h1 : k + sumL A ≤ 9223372036854775807) :
    Con Try.prog 26 [.sl A.length (mat (marksM A k)), .int k] (.int (k + sumL A)) := by
  refine con_of_vc Try.mixed ⟨6, [], [], []⟩ Try.func26 (by decide) rfl (by simp) (by decide) (by simp [freshOK, freshL, go_sem]) ?_
  rw [Try.ntmps26]
  simp [go_sem]
  refine loop_inv (1 :: 4 :: 5 :: List.range' 6 14) (fun i : Nat => [(1, .int (k + sumL (A.take i))), (5, .int i)]) (fun i => i ≤ A.length) (fun i => A.length - i) 0 (by simp) (by simp [go_sem, sumL]) (by simp [go_sem]) ?_
  intro i hi
  simp [go_sem]
  refine ⟨fun h => ?_, fun h => ?_⟩ <;> simp at h
  · have hi2 : i < (marksM A k).length := by simpa using h
    have t1 := sumL_take h
    have t2 := sumL_le A (i + 1)
    have hmem : A[i]?.getD [] ∈ A := by simp [h]
    have hl := hr _ hmem
    have e1 : (marksM A k)[i]?.getD [] = marks (A[i]?.getD []).length (k + sumL (A.take i)) := by
      have hs : marksM A k = marksM (A.take i) k ++ marksM (A.drop i) (k + sumL (A.take i)) := by
        have gen : ∀ (C D : List (List Int)) (k : Int), marksM (C ++ D) k = marksM C k ++ marksM D (k + sumL C) := by
          intro C
          induction C with
          | nil => intro D k; simp [marksM, sumL]
          | cons r C ih => intro D k; simp only [List.cons_append, marksM, ih, sumL]; congr 3; omega
        rw [← gen, List.take_append_drop]
      rw [hs, List.getElem?_append_right (by simp; omega), List.drop_eq_getElem_cons h]
      simp [marksM, h, Nat.min_eq_left hi]
    have cH := heldInt64S_c (marks (A[i]?.getD []).length (k + sumL (A.take i))) (k + sumL (A.take i)) (by omega) (by simp [marks]; omega)
    have hml : (marks (A[i]?.getD []).length (k + sumL (A.take i))).length = (A[i]?.getD []).length := by simp [marks]
    have hh : held (marks (A[i]?.getD []).length (k + sumL (A.take i))) (k + sumL (A.take i)) = k + sumL (A.take i) + (A[i]?.getD []).length := held_mark _ _
    rw [hh] at cH
    generalize (marks (A[i]?.getD []).length (k + sumL (A.take i))) = M at *
    generalize (A[i]?.getD []).length = rl at *
    simp [go_sem, mat_drop hi2, e1]
    refine ⟨⟨h, fun e => by rw [e] at hi2; simp at hi2⟩, ?_⟩
    refine CallVC.of (cH) (by decide) ?_
    simp [go_sem]
    have p1 : ¬ (k + (sumL (A.take i) : Int) + rl < 0) := by omega
    simp [go_sem, p1]
    exact ⟨by omega, i + 1, by omega, by omega, Off_reset _ _ _ (by simp), by omega, by omega⟩
  · simp [go_sem]
    rw [List.take_of_length_le h]
/-- Rows of derivatives. -/
def jacR (n : Nat) (y : List Int) (p : List Mon) : List Int := (List.range n).map fun k => vsum y (derL k p) % 10007
def jacL (n : Nat) (y : List Int) (f : List (List Mon)) : List (List Int) := f.map (jacR n y)
@[simp] theorem jacR_len (n : Nat) (y : List Int) (p : List Mon) : (jacR n y p).length = n := by simp [jacR]
@[simp] theorem jacL_len (n : Nat) (y : List Int) (f : List (List Mon)) : (jacL n y f).length = f.length := by simp [jacL]
theorem jacR_succ (n : Nat) (y : List Int) (p : List Mon) : jacR (n + 1) y p = jacR n y p ++ [vsum y (derL n p) % 10007] := by simp [jacR, List.range_succ]
theorem jacL_take {n : Nat} {y : List Int} {f : List (List Mon)} {i : Nat} (h : i < f.length) : jacL n y (f.take (i + 1)) = jacL n y (f.take i) ++ [jacR n y (f[i]?.getD [])] := by
  rw [jacL, jacL, List.take_add_one, List.map_append, List.getElem?_eq_getElem h]; rfl
theorem omat_app (A C : List (List Int)) : omat (A ++ C) = omat A ++ omat C := by simp [omat]
theorem omat_one (r : List Int) : omat [r] = [.own 2 r.length (avs r)] := rfl
theorem omat_nil : omat [] = [] := rfl
def jcX (z : Int) (f : List (List Mon)) (y : List Int) : List (List Int) := if fieldB z f = true ∧ (decide ((y.length : Int) = z) && numsB y) = true then jacL y.length y f else []
def jcR (z : Int) (f : List (List Mon)) (y : List Int) : AV := .tup [.own 23 (jcX z f y).length (omat (jcX z f y)), .int (evE z f y)]
theorem polF_kok {n : Nat} {p : List Mon} (hn : n ≤ 3) (hp : partB (n : Int) p = true) {k : Key} {x : Int} (hk : polF p k = some x) : isN x ∧ KOk n k := by
  obtain ⟨m, hm, he⟩ := List.mem_map.1 ((polF_some (keys_nd (by omega) hp)).1 hk)
  simp only [keyM, Prod.mk.injEq] at he
  obtain ⟨rfl, rfl⟩ := he
  have := (partB_mem hp hm).vok
  exact ⟨this.num, this.kok hn⟩
set_option maxRecDepth 100000 in
theorem JacobianAt_c (z : Int) (f : List (List Mon)) (y : List Int) (hs : Small f) (hy : y.length ≤ 9223372036854775807) :
    Con Try.prog 53 [.agg [.int z, .sl f.length (prt f)], .sl y.length (avs y)] (jcR z f y) := by
  have cK := checkVectors_c z f [y] hs (by simp) (by simpa using hy)
  have e1 : mat [y] = [.sl y.length (avs y)] := rfl
  have e2 : ([y] : List (List Int)).length = 1 := rfl
  rw [e1, e2] at cK
  unfold jcR jcX evE
  have hv : ([y] : List (List Int)).any (fun y => !vecB z y) = !vecB z y := by simp
  unfold chk at cK
  rw [hv] at cK
  have hvb : (decide ((y.length : Int) = z) && numsB y) = vecB z y := rfl
  rw [hvb]
  cases hT : fieldB z f with
  | false =>
    rw [hT] at cK
    refine Con.n1 _ ?_
    refine con_of_vc Try.mixed ⟨12, [], [], []⟩ Try.func53 (by decide) rfl (by simp) (by decide) (by simp [freshOK, freshL, go_sem]) ?_
    rw [Try.ntmps53]
    simp [go_sem]
    refine CallVC.of (cK) (by decide) ?_
    simp [go_sem]
  | true =>
    rw [hT] at cK
    cases hn : vecB z y with
    | true =>
      rw [hn] at cK
      simp at cK
      have hn2 : (y.length : Int) = z ∧ numsB y = true := by simpa [vecB] using hn
      have hF := fieldB_iff.1 hT
      have hN := numsB_N.1 hn2.2
      have fl := hs.1
      have z3 := hF.hi
      simp only [and_self, if_true, jacL_len]
      refine con_of_vc Try.mixed ⟨12, [21], [], []⟩ Try.func53 (by decide) rfl (by simp) (by decide) (by simp [freshOK, freshL, go_sem]) ?_
      rw [Try.ntmps53]
      simp [go_sem]
      refine CallVC.of (cK) (by decide) ?_
      simp [go_sem]
      refine CallVC.of (polynomials_c z f hF hs) (by decide) ?_
      simp [go_sem]
      refine loop_inv (7 :: 9 :: 10 :: 11 :: List.range' 23 24) (fun i : Nat => [(7, .own 23 i (omat (jacL y.length y (f.take i)))), (23, .int i)]) (fun i => i ≤ f.length) (fun i => f.length - i) 0 (by simp) (by simp [go_sem, jacL, omat_nil]) (by simp [go_sem]) ?_
      intro i hi
      simp [go_sem]
      refine ⟨fun h => ?_, fun h => ?_⟩ <;> simp at h
      · have hif := h
        have hx : f[i]?.getD [] ∈ f := by simp [h]
        have hv := jacL_take (n := y.length) (y := y) h
        simp [go_sem, fpols_drop hif]
        refine ⟨⟨hif, by rintro rfl; simp at hif⟩, ?_⟩
        refine loop_inv (10 :: 11 :: List.range' 30 12) (fun k : Nat => [(10, .own 2 k (avs (jacR k y (f[i]?.getD [])))), (30, .int k)]) (fun k => k ≤ y.length) (fun k => y.length - k) 0 (by simp) (by simp [go_sem, jacR]) (by simp [go_sem]) ?_
        intro k hk
        simp [go_sem]
        refine ⟨fun h => ?_, fun h => ?_⟩ <;> simp at h
        · have hkl := h
          have hpp : partB (y.length : Int) (f[i]?.getD []) = true := by rw [hn2.1]; exact hF.part _ hx
          have hj := jacR_succ k y (f[i]?.getD [])
          have hq : ∀ kk x, polF (f[i]?.getD []) kk = some x → isN x ∧ KOk y.length kk := fun kk x hkx => polF_kok (by omega) hpp hkx
          have cD := derivative_c (n := y.length) (polF (f[i]?.getD [])) k hkl (by omega) hq
          have cV := value_c2 (derM k (polF (f[i]?.getD []))) y hN (by omega) (derM_ok hkl (by omega) hq)
          rw [← jac_eq (n := y.length) (by omega) hkl rfl hpp] at cV
          simp [go_sem]
          refine CallVC.of (cD) (by decide) ?_
          simp [go_sem]
          refine CallVC.of (cV) (by decide) ?_
          simp [go_sem]
          exact ⟨by omega, by omega, k + 1, by omega, by omega, Off_reset _ _ _ (by simp), by rw [hj]; simp [avs_snoc], by omega⟩
        · have e : k = y.length := by omega
          subst e
          simp [go_sem]
          exact ⟨by omega, by omega, i + 1, by omega, by omega, (Off.reset (by intro x hx; simp at hx ⊢; omega) (by simp) (by simp [go_sem, Off_reset])), by rw [hv, omat_app, omat_one]; simp, by omega⟩
      · simp [go_sem]
        have e : i = f.length := by omega
        subst e; simp
    | false =>
      rw [hn] at cK
      simp at cK
      refine Con.n1 _ ?_
      refine con_of_vc Try.mixed ⟨12, [], [], []⟩ Try.func53 (by decide) rfl (by simp) (by decide) (by simp [freshOK, freshL, go_sem]) ?_
      rw [Try.ntmps53]
      simp [go_sem]
      refine CallVC.of (cK) (by decide) ?_
      simp [go_sem]
end Go.Proofs.Ytngakdgkeemjhaa

/- What the statements' walks share: sizes. -/
namespace Go.Proofs.Ytngakdgkeemjhaa
open Go.Abs
set_option linter.unusedVariables false
theorem small_of {f : List (List Mon)} (h : (cF f : Int) ≤ 1048576) : Small f := by
  unfold cF at h
  refine ⟨by omega, fun p hp => ?_⟩
  have h1 : p.length + sumC cM p ≤ sumC cP f := sumC_mem cP hp
  refine ⟨by omega, fun q hq => ?_⟩
  have h2 : q.2.length ≤ sumC cM p := sumC_mem cM hq
  omega
theorem sumL_bound {A : List (List Int)} {n : Nat} (h : ∀ r ∈ A, r.length ≤ n) : sumL A ≤ A.length * n := by
  induction A with
  | nil => simp [sumL]
  | cons r A ih =>
    have h1 := h r (by simp)
    have h2 := ih (fun q hq => h q (by simp [hq]))
    simp only [sumL, List.length_cons, Nat.add_mul, Nat.one_mul]; omega
theorem szT_hi {A : List (List Int)} {B : List Int} {left : Int} (h0 : 0 ≤ left) : szT A B left ≤ left := by
  unfold szT
  split
  · omega
  · rename_i h
    have := (szM_ok h0 (by omega : 0 ≤ szM left A)).2.1
    have := szR_le (left := szM left A) (n := (B.length : Int)) (by omega) (by omega)
    omega
end Go.Proofs.Ytngakdgkeemjhaa

/- Contracts: products and sums of polynomials, derivatives along fields, the reference's. -/
namespace Go.Proofs.Ytngakdgkeemjhaa
open Go.Abs
set_option linter.unusedVariables false
set_option linter.unusedSimpArgs false
set_option maxHeartbeats 1000000
theorem memD {α : Type} {l : List α} {i : Nat} (d : α) (h : i < l.length) : l[i]?.getD d ∈ l := by simp [h]
theorem mons_drop1 {p : List Mon} {k : Nat} (h : k < p.length) : (mons p).drop (k * 2 + 1) = .sl (p[k]?.getD (0, [])).2.length (avs (p[k]?.getD (0, [])).2) :: mons (p.drop (k + 1)) := by
  rw [← List.drop_drop, mons_drop h]; rfl
/-- Two rows of exponents while they are added up. -/
def adE (a b : List Int) (j : Nat) : List Int := (List.range a.length).map fun t => if t < j then a[t]?.getD 0 + b[t]?.getD 0 else a[t]?.getD 0
@[simp] theorem adE_len (a b : List Int) (j : Nat) : (adE a b j).length = a.length := by simp [adE]
theorem adE_zero (a b : List Int) : adE a b 0 = a := by
  refine List.ext_getElem (by simp) fun i h1 h2 => ?_
  simp [adE, h2]
theorem adE_all {a b : List Int} (h : b.length = a.length) : adE a b a.length = addE a b := by
  refine List.ext_getElem (by simp [addE, h]) fun i h1 h2 => ?_
  simp at h1
  simp [adE, addE, h1, show i < b.length by omega]
theorem adE_get {a b : List Int} {j : Nat} (h : j < a.length) : (adE a b j)[j]?.getD 0 = a[j]?.getD 0 := by simp [adE, h]
theorem adE_set {a b : List Int} {j : Nat} (h : j < a.length) : (adE a b j).set j (a[j]?.getD 0 + b[j]?.getD 0) = adE a b (j + 1) := by
  refine List.ext_getElem (by simp) fun i h1 h2 => ?_
  simp at h1
  rw [List.getElem_set]
  by_cases e : j = i
  · subst e; simp [adE]
  · simp only [e, if_false, adE, List.getElem_map, List.getElem_range]
    by_cases h3 : i < j
    · simp [h3, show i < j + 1 by omega]
    · simp [h3, show ¬ i < j + 1 by omega]
theorem WOk.prod {n : Nat} {B C : Int} {a b : Mon} (ha : WOk n B a) (hb : WOk n C b) : WOk n (B + C) (a.1 * b.1 % 10007, addE a.2 b.2) := by
  have h1 := ha.len
  have h2 := hb.len
  refine ⟨isN_mod _, by simp [addE]; omega, fun x hx => ?_⟩
  obtain ⟨i, hi, rfl⟩ := List.getElem_of_mem hx
  unfold addE at hi ⊢
  simp at hi ⊢
  have p1 := ha.pw _ (List.getElem_mem (show i < a.2.length by omega))
  have p2 := hb.pw _ (List.getElem_mem (show i < b.2.length by omega))
  omega
theorem prodRow_wok {n : Nat} {B C : Int} {a : Mon} (ha : WOk n B a) : ∀ (q acc : List Mon), (∀ m ∈ q, WOk n C m) → (∀ m ∈ acc, WOk n (B + C) m) → ∀ m ∈ prodRow a acc q, WOk n (B + C) m
  | [], _, _, h => h
  | b :: q, acc, hq, h => prodRow_wok ha q _ (fun m hm => hq m (by simp [hm])) (putGo_wok (ha.prod (hq b (by simp))) acc _ h)
theorem prodGo_wok {n : Nat} {B C : Int} {q : List Mon} (hq : ∀ m ∈ q, WOk n C m) : ∀ (p acc : List Mon), (∀ m ∈ p, WOk n B m) → (∀ m ∈ acc, WOk n (B + C) m) → ∀ m ∈ prodGo acc q p, WOk n (B + C) m
  | [], _, _, h => h
  | a :: p, acc, hp, h => prodGo_wok hq p _ (fun m hm => hp m (by simp [hm])) (prodRow_wok (hp a (by simp)) q acc hq h)
theorem prodRow_len (a : Mon) : ∀ (q acc : List Mon), (prodRow a acc q).length ≤ acc.length + q.length
  | [], _ => by simp [prodRow]
  | b :: q, acc => by
    rw [prodRow]
    have h1 := prodRow_len a q (putL acc (a.1 * b.1 % 10007) (addE a.2 b.2))
    have h2 := putL_len acc (a.1 * b.1 % 10007) (addE a.2 b.2)
    simp only [List.length_cons]; omega
theorem prodGo_len (q : List Mon) : ∀ (p acc : List Mon), (prodGo acc q p).length ≤ acc.length + p.length * q.length
  | [], _ => by simp [prodGo]
  | a :: p, acc => by
    rw [prodGo]
    have h1 := prodGo_len q p (prodRow a acc q)
    have h2 := prodRow_len a q acc
    simp only [List.length_cons, Nat.add_mul, Nat.one_mul]; omega
set_option maxRecDepth 100000 in
theorem l13Product_c {n : Nat} {B C : Int} (p q : List Mon) (hn : n ≤ 1000) (hB : 0 ≤ B) (hB2 : B ≤ 1000000) (hC : 0 ≤ C) (hC2 : C ≤ 1000000) (hp : ∀ m ∈ p, WOk n B m) (hq : ∀ m ∈ q, WOk n C m) (hpl : p.length ≤ 1000000000000) (hql : q.length ≤ 1000000000000) (hl : p.length * q.length ≤ 1000000000000) :
    Con Try.prog 98 [.sl p.length (mons p), .sl q.length (mons q)] (.own 112 (prodL p q).length (omons (prodL p q))) := by
  refine con_of_vc Try.mixed ⟨10, [], [], []⟩ Try.func98 (by decide) rfl (by simp) (by decide) (by simp [freshOK, freshL, go_sem]) ?_
  rw [Try.ntmps98]
  simp [go_sem]
  refine loop_inv (List.range' 5 5 ++ List.range' 11 54) (fun i : Nat => [(5, .own 112 (prodGo [] q (p.take i)).length (omons (prodGo [] q (p.take i)))), (6, .int i)]) (fun i => i ≤ p.length) (fun i => p.length - i) 0 (by simp) (by simp [go_sem, prodGo]) (by simp [go_sem]) ?_
  intro i hi
  simp [go_sem]
  refine ⟨fun h => ?_, fun h => ?_⟩ <;> simp at h
  · have hif := h
    have ha := hp _ (memD (0, []) hif)
    have hd : prodGo [] q (p.take (i + 1)) = prodRow (p[i]?.getD (0, [])) (prodGo [] q (p.take i)) q := by
      rw [List.take_add_one, prodGo_app]; simp [hif, prodGo]
    have hw : ∀ m ∈ prodGo [] q (p.take i), WOk n (B + C) m := prodGo_wok hq _ [] (fun m hm => hp m (List.mem_of_mem_take hm)) (by simp)
    have hdl := prodGo_len q (p.take i) []
    have hil : (i + 1) * q.length ≤ p.length * q.length := Nat.mul_le_mul_right _ hif
    rw [Nat.add_mul, Nat.one_mul] at hil
    have hml : (p.take i).length * q.length ≤ i * q.length := Nat.mul_le_mul_right _ (by simp; omega)
    simp only [List.length_nil, Nat.zero_add] at hdl
    generalize prodGo [] q (p.take i) = acc at *
    simp [go_sem]
    generalize hM : p[i]?.getD (0, []) = a at *
    refine loop_inv (5 :: 7 :: 8 :: 9 :: List.range' 17 48) (fun k : Nat => [(5, .own 112 (prodRow a acc (q.take k)).length (omons (prodRow a acc (q.take k)))), (7, .int k)]) (fun k => k ≤ q.length) (fun k => q.length - k) 0 (by simp) (by simp [go_sem, prodRow]) (by simp [go_sem]) ?_
    intro k hk
    simp [go_sem]
    refine ⟨fun h => ?_, fun h => ?_⟩ <;> simp at h
    · have hkf := h
      have hb := hq _ (memD (0, []) hkf)
      have hd2 : prodRow a acc (q.take (k + 1)) = putL (prodRow a acc (q.take k)) (a.1 * (q[k]?.getD (0, [])).1 % 10007) (addE a.2 (q[k]?.getD (0, [])).2) := by
        rw [List.take_add_one, prodRow_app]; simp [hkf, prodRow]
      have hw2 : ∀ m ∈ prodRow a acc (q.take k), WOk n (B + C) m := prodRow_wok ha _ _ (fun m hm => hq m (List.mem_of_mem_take hm)) hw
      have hdl2 := prodRow_len a (q.take k) acc
      have hkl : (q.take k).length ≤ k := by simp; omega
      generalize prodRow a acc (q.take k) = acc2 at *
      have al := ha.len
      have bl := hb.len
      have cO := l01Own_c a.2 (by omega)
      have wp := ha.prod hb
      simp [go_sem, mons_drop hif, hM]
      generalize hM2 : q[k]?.getD (0, []) = b at *
      refine ⟨⟨hif, by rintro rfl; simp at hif⟩, ?_⟩
      refine CallVC.of (cO) (by decide) ?_
      simp [go_sem]
      refine loop_inv (8 :: 9 :: List.range' 29 22) (fun j : Nat => [(8, .own 2 a.2.length (avs (adE a.2 b.2 j))), (9, .int j)]) (fun j => j ≤ a.2.length) (fun j => a.2.length - j) 0 (by simp) (by simp [go_sem, adE_zero]) (by simp [go_sem]) ?_
      intro j hj
      simp [go_sem]
      refine ⟨fun h => ?_, fun h => ?_⟩ <;> simp at h
      · have hja := h
        have hjb : j < b.2.length := by omega
        have hjs : j < (adE a.2 b.2 j).length := by simpa using hja
        have g1 := ha.get hB j
        have g2 := hb.get hC j
        have hset := adE_set (b := b.2) hja
        have hget := adE_get (b := b.2) hja
        simp [go_sem, mons_drop hkf, hM2, avs_drop hjb, avs_at hjs, hget]
        refine ⟨by kernel_rfl, hja, ⟨hkf, by rintro rfl; simp at hkf⟩, ⟨hjb, by intro e; simp [e] at hjb⟩, ⟨by omega, by omega⟩, hja, ?_⟩
        refine ⟨by kernel_rfl, ?_⟩
        simp [go_sem]
        exact ⟨by omega, j + 1, by omega, by omega, Off_reset _ _ _ (by simp), by rw [avs_set, hset], by omega⟩
      · have e : j = a.2.length := by omega
        subst e
        have hall := adE_all (a := a.2) (b := b.2) (by omega)
        have m1 := mul_fits ha.num hb.num
        have cP := l13Put_c acc2 (a.1 * b.1 % 10007) (addE a.2 b.2) (isN_mod _) (fun q hq => ⟨(hw2 q hq).num, by have := (hw2 q hq).len; omega⟩) (by omega) (by have := wp.len; simp at this; omega)
        have el : (addE a.2 b.2).length = a.2.length := by have := wp.len; simp at this; omega
        rw [el, ← hd2] at cP
        rw [hall]
        simp [go_sem, mons_drop hif, hM, mons_drop hkf, hM2]
        refine ⟨by kernel_rfl, ⟨hif, by rintro rfl; simp at hif⟩, ⟨hkf, by rintro rfl; simp at hkf⟩, ?_⟩
        refine CallD.of (l01Mul_c _ _ m1) (by simp [roots, rootsL]) (by decide) ?_
        simp [go_sem]
        refine CallD.of (cP) (by simp [roots, rootsL]) (by decide) ?_
        simp [go_sem]
        refine ⟨by kernel_rfl, ?_⟩
        simp [go_sem]
        exact ⟨by omega, k + 1, by omega, by omega, (Off.reset (by intro x hx; simp at hx ⊢; omega) (by simp) (by simp [go_sem, Off_reset])), ⟨rfl, rfl⟩, by omega⟩
    · have e : k = q.length := by omega
      subst e
      rw [List.take_length, ← hd]
      simp [go_sem]
      exact ⟨by omega, i + 1, by omega, by omega, (Off.reset (by intro x hx; simp at hx ⊢; omega) (by simp) (by simp [go_sem, Off_reset])), ⟨rfl, rfl⟩, by omega⟩
  · simp [go_sem]
    rw [List.take_of_length_le h]
    simp [prodL]
set_option maxRecDepth 100000 in
theorem l13Copy_c (p : List Mon) (hp : ∀ m ∈ p, m.2.length ≤ 1048576) (hl : p.length ≤ 1000000000000) :
    Con Try.prog 159 [.sl p.length (mons p)] (.own 112 p.length (omons p)) := by
  refine con_of_vc Try.mixed ⟨5, [], [], []⟩ Try.func159 (by decide) rfl (by simp) (by decide) (by simp [freshOK, freshL, go_sem]) ?_
  rw [Try.ntmps159]
  simp [go_sem]
  refine loop_inv (3 :: 4 :: List.range' 6 21) (fun i : Nat => [(3, .own 112 i (omons (p.take i))), (4, .int i)]) (fun i => i ≤ p.length) (fun i => p.length - i) 0 (by simp) (by simp [go_sem, omons]) (by simp [go_sem]) ?_
  intro i hi
  simp [go_sem]
  refine ⟨fun h => ?_, fun h => ?_⟩ <;> simp at h
  · have hif := h
    have hx := hp _ (memD (0, []) hif)
    have ht : omons (p.take (i + 1)) = omons (p.take i) ++ [.int (p[i]?.getD (0, [])).1, .own 2 (p[i]?.getD (0, [])).2.length (avs (p[i]?.getD (0, [])).2)] := by
      rw [List.take_add_one, omons_app]; simp [hif, omons]
    simp [go_sem, mons_drop hif]
    generalize hM : p[i]?.getD (0, []) = a at *
    refine ⟨by kernel_rfl, ⟨hif, by rintro rfl; simp at hif⟩, ?_⟩
    refine CallD.of (l01Own_c a.2 (by omega)) (by simp [roots, rootsL]) (by decide) ?_
    simp [go_sem]
    refine ⟨⟨by omega, by omega⟩, ?_⟩
    refine ⟨by kernel_rfl, ?_⟩
    simp [go_sem]
    exact ⟨by omega, i + 1, by omega, by omega, Off_reset _ _ _ (by simp), by rw [ht]; exact ⟨rfl, rfl⟩, by omega⟩
  · have e : i = p.length := by omega
    subst e
    simp [go_sem]
theorem plusL_wok {n : Nat} {B k : Int} : ∀ (q p : List Mon), (∀ m ∈ q, WOk n B m) → (∀ m ∈ p, WOk n B m) → ∀ m ∈ plusL p k q, WOk n B m
  | [], p, _, hp => hp
  | m :: q, p, hq, hp => plusL_wok q _ (fun a ha => hq a (by simp [ha])) (putGo_wok ⟨isN_mod _, (hq m (by simp)).len, (hq m (by simp)).pw⟩ p _ hp)
theorem plusL_len (k : Int) : ∀ (q p : List Mon), (plusL p k q).length ≤ p.length + q.length
  | [], _ => by simp [plusL]
  | m :: q, p => by
    rw [plusL]
    have h1 := plusL_len k q (putL p (k * m.1 % 10007) m.2)
    have h2 := putL_len p (k * m.1 % 10007) m.2
    simp only [List.length_cons]; omega
set_option maxRecDepth 100000 in
theorem l13Plus_c {n : Nat} {B k : Int} (p q : List Mon) (hn : n ≤ 1000) (hk : isN k) (hp : ∀ m ∈ p, WOk n B m) (hq : ∀ m ∈ q, WOk n B m) (hl : p.length + q.length ≤ 1000000000000) :
    Con Try.prog 97 [.sl p.length (mons p), .sl q.length (mons q), .int k] (.own 112 (plusL p k q).length (omons (plusL p k q))) := by
  refine con_of_vc Try.mixed ⟨9, [29], [], []⟩ Try.func97 (by decide) rfl (by simp) (by decide) (by simp [freshOK, freshL, go_sem]) ?_
  rw [Try.ntmps97]
  simp [go_sem]
  refine loop_inv (7 :: 8 :: List.range' 10 20) (fun i : Nat => [(7, .sl (plusL p k (q.take i)).length (mons (plusL p k (q.take i)))), (8, .int i)]) (fun i => i ≤ q.length) (fun i => q.length - i) 0 (by simp) (by simp [go_sem, plusL]) (by simp [go_sem]) ?_
  intro i hi
  simp [go_sem]
  refine ⟨fun h => ?_, fun h => ?_⟩ <;> simp at h
  · have hif := h
    have hb := hq _ (memD (0, []) hif)
    have hd : plusL p k (q.take (i + 1)) = putL (plusL p k (q.take i)) (k * (q[i]?.getD (0, [])).1 % 10007) (q[i]?.getD (0, [])).2 := by
      rw [List.take_add_one, plusL_app]; simp [hif, plusL]
    have hw : ∀ m ∈ plusL p k (q.take i), WOk n B m := plusL_wok _ p (fun m hm => hq m (List.mem_of_mem_take hm)) hp
    have hll := plusL_len k (q.take i) p
    have hkl : (q.take i).length ≤ i := by simp; omega
    generalize plusL p k (q.take i) = acc at *
    have bl := hb.len
    have m1 := mul_fits hk hb.num
    have cP := l13Put_c acc (k * (q[i]?.getD (0, [])).1 % 10007) (q[i]?.getD (0, [])).2 (isN_mod _) (fun q hq => ⟨(hw q hq).num, by have := (hw q hq).len; omega⟩) (by omega) (by omega)
    rw [← hd] at cP
    generalize hN : plusL p k (q.take (i + 1)) = nxt at *
    simp [go_sem, mons_drop hif]
    generalize hM : q[i]?.getD (0, []) = a at *
    refine ⟨by kernel_rfl, ⟨hif, by rintro rfl; simp at hif⟩, ?_⟩
    refine CallD.of (l01Mul_c _ _ m1) (by simp [roots, rootsL]) (by decide) ?_
    simp [go_sem]
    simp [go_sem, mons_drop hif, mons_drop1 hif, hM]
    refine ⟨⟨hif, by rintro rfl; simp at hif⟩, ?_⟩
    refine CallD.of (cP) (by simp [go_sem, roots, rootsL]) (by decide) ?_
    simp [go_sem]
    refine ⟨by kernel_rfl, ?_⟩
    simp [go_sem]
    exact ⟨by omega, i + 1, by omega, by omega, Off_reset _ _ _ (by simp), by rw [hN]; exact ⟨rfl, rfl⟩, by omega⟩
  · have e : i = q.length := by omega
    subst e
    have hw : ∀ m ∈ plusL p k q, WOk n B m := plusL_wok _ p hq hp
    have hll := plusL_len k q p
    simp [go_sem]
    refine CallVC.of (l13Copy_c (plusL p k q) (fun m hm => by have := (hw m hm).len; omega) (by omega)) (by decide) ?_
    simp [go_sem]
/-- The exponents of a variable. -/
def oneE (n k : Nat) : List Int := (List.replicate n 0).set k 1
@[simp] theorem oneE_len (n k : Nat) : (oneE n k).length = n := by simp [oneE]
theorem oneE_wok {n k : Nat} : WOk n 1 (1, oneE n k) := by
  refine ⟨⟨by omega, by omega⟩, by simp, fun x hx => ?_⟩
  rcases List.mem_or_eq_of_mem_set hx with hx | rfl
  · obtain ⟨_, rfl⟩ := List.mem_replicate.1 hx
    omega
  · omega
theorem l13One_c (n k : Nat) (hn : n ≤ 1048576) (hk : k < n) : Con Try.prog 96 [.int n, .int k] (.own 2 n (avs (oneE n k))) := by
  refine con_of_vc Try.mixed ⟨6, [], [], []⟩ Try.func96 (by decide) rfl (by simp) (by decide) (by simp [freshOK, freshL, go_sem]) ?_
  rw [Try.ntmps96]
  simp [go_sem]
  refine ⟨⟨by omega, by omega⟩, hk, ?_⟩
  rw [avs_repl, avs_set]; rfl
theorem derL_wok {n i : Nat} {B : Int} (hi : i < n) {p : List Mon} (hp : ∀ m ∈ p, WOk n B m) : ∀ m ∈ derL i p, WOk n B m := derGo_wok hi p [] hp (by simp)
theorem derL_len (i : Nat) (p : List Mon) : (derL i p).length ≤ p.length := by have := derGo_len i p []; unfold derL; simpa using this
theorem prodL_wok {n : Nat} {B C : Int} {p q : List Mon} (hp : ∀ m ∈ p, WOk n B m) (hq : ∀ m ∈ q, WOk n C m) : ∀ m ∈ prodL p q, WOk n (B + C) m := prodGo_wok hq p [] hp (by simp)
theorem prodL_len (p q : List Mon) : (prodL p q).length ≤ p.length * q.length := by have := prodGo_len q p []; unfold prodL; simpa using this
theorem alongGo_wok {n : Nat} {B : Int} {p : List Mon} (hp : ∀ m ∈ p, WOk n B m) : ∀ (f : List (List Mon)) (k : Nat) (acc : List Mon), k + f.length ≤ n → (∀ F ∈ f, ∀ m ∈ F, WOk n 3 m) → (∀ m ∈ acc, WOk n (3 + B) m) → ∀ m ∈ alongGo acc p k f, WOk n (3 + B) m
  | [], _, _, _, _, h => h
  | F :: f, k, acc, hk, hf, h => by
    rw [List.length_cons] at hk
    exact alongGo_wok hp f (k + 1) _ (by omega) (fun G hG => hf G (by simp [hG])) (plusL_wok _ _ (prodL_wok (hf F (by simp)) (derL_wok (by omega) hp)) h)
theorem alongGo_len {N : Nat} {p : List Mon} : ∀ (f : List (List Mon)) (k : Nat) (acc : List Mon), (∀ F ∈ f, F.length ≤ N) → (alongGo acc p k f).length ≤ acc.length + f.length * (N * p.length)
  | [], _, acc, _ => by simp [alongGo]
  | F :: f, k, acc, hf => by
    have h1 := alongGo_len (p := p) f (k + 1) (plusL acc 1 (prodL F (derL k p))) (fun G hG => hf G (by simp [hG]))
    have h2 := plusL_len 1 (prodL F (derL k p)) acc
    have h3 := prodL_len F (derL k p)
    have h4 := Nat.mul_le_mul (hf F (by simp)) (derL_len k p)
    rw [alongGo]
    simp only [List.length_cons, Nat.add_mul, Nat.one_mul]; omega
set_option maxRecDepth 100000 in
theorem l13Along2_c {z B : Int} (f : List (List Mon)) (p : List Mon) (hf : FieldOk z f) (hs : Small f) (h20 : ∀ F ∈ f, F.length ≤ 20) (hB : 0 ≤ B) (hB2 : B ≤ 1000) (hp : ∀ m ∈ p, WOk f.length B m) (hpl : p.length ≤ 10000000000) :
    Con Try.prog 147 [.agg [.int z, .sl f.length (prt f)], .sl p.length (mons p)] (.own 112 (alongL f p).length (omons (alongL f p))) := by
  have z3 := hf.hi
  have zl := hf.len
  have fl : f.length ≤ 3 := by omega
  have hfw : ∀ F ∈ f, ∀ m ∈ F, WOk f.length 3 m := fun F hF m hm => by
    have h := partB_mem (hf.part F hF) hm
    have h1 := h.lo
    have h2 := h.hi
    have h3 := h.len
    exact ⟨⟨by omega, by omega⟩, by omega, h.pw⟩
  refine con_of_vc Try.mixed ⟨7, [], [], []⟩ Try.func147 (by decide) rfl (by simp) (by decide) (by simp [freshOK, freshL, go_sem]) ?_
  rw [Try.ntmps147]
  simp [go_sem]
  refine loop_inv (5 :: 6 :: List.range' 8 18) (fun i : Nat => [(5, .own 112 (alongGo [] p 0 (f.take i)).length (omons (alongGo [] p 0 (f.take i)))), (6, .int i)]) (fun i => i ≤ f.length) (fun i => f.length - i) 0 (by simp) (by simp [go_sem, alongGo, omons]) (by simp [go_sem]) ?_
  intro i hi
  simp [go_sem]
  refine ⟨fun h => ?_, fun h => ?_⟩ <;> simp at h
  · have hif := h
    have hx := memD [] hif
    have hF := hfw _ hx
    have hF2 := h20 _ hx
    have hd : alongGo [] p 0 (f.take (i + 1)) = plusL (alongGo [] p 0 (f.take i)) 1 (prodL (f[i]?.getD []) (derL i p)) := by
      rw [List.take_add_one, alongGo_app]; simp [hif, alongGo, Nat.min_eq_left hi]
    have hw : ∀ m ∈ alongGo [] p 0 (f.take i), WOk f.length (3 + B) m := alongGo_wok hp _ 0 [] (by simp; omega) (fun F hF => hfw F (List.mem_of_mem_take hF)) (by simp)
    have hll := alongGo_len (p := p) (N := 20) (f.take i) 0 [] (fun F hF => h20 F (List.mem_of_mem_take hF))
    have hkl : (f.take i).length ≤ 3 := by simp; omega
    have hk2 := Nat.mul_le_mul_right (20 * p.length) hkl
    simp only [List.length_nil, Nat.zero_add] at hll
    generalize alongGo [] p 0 (f.take i) = acc at *
    generalize hN : alongGo [] p 0 (f.take (i + 1)) = nxt at *
    have cD := l13Derive_c p i hif (by omega) hB (by omega) hp (by omega)
    have dw := derL_wok hif hp
    have dl := derL_len i p
    have pl := prodL_len (f[i]?.getD []) (derL i p)
    have pm := Nat.mul_le_mul hF2 dl
    have cP := l13Product_c (f[i]?.getD []) (derL i p) (by omega) (by omega) (by omega) hB (by omega) hF dw (by omega) (by omega) (by omega)
    have cA := l13Plus_c (k := 1) acc (prodL (f[i]?.getD []) (derL i p)) (by omega) ⟨by omega, by omega⟩ hw (prodL_wok hF dw) (by omega)
    rw [← hd] at cA
    generalize prodL (f[i]?.getD []) (derL i p) = Q at *
    generalize derL i p = D at *
    simp [go_sem, prt_drop hif]
    refine ⟨by kernel_rfl, ⟨hif, by rintro rfl; simp at hif⟩, ?_⟩
    refine CallD.of (cD) (by simp [roots, rootsL]) (by decide) ?_
    simp [go_sem]
    refine CallD.of (cP) (by simp [roots, rootsL]) (by decide) ?_
    simp [go_sem]
    refine CallD.of (cA) (by simp [roots, rootsL]) (by decide) ?_
    simp [go_sem]
    refine ⟨by kernel_rfl, ?_⟩
    simp [go_sem]
    exact ⟨by omega, i + 1, by omega, by omega, Off_reset _ _ _ (by simp), by rw [hN]; exact ⟨rfl, rfl⟩, by omega⟩
  · have e : i = f.length := by omega
    subst e
    simp [go_sem]
    simp [alongL]
/-- A part has at most 20 monomials: there are no more exponents of a sum up to 3. -/
def keys20 : List Key := [(0,0,0),(0,0,1),(0,0,2),(0,0,3),(0,1,0),(0,1,1),(0,1,2),(0,2,0),(0,2,1),(0,3,0),(1,0,0),(1,0,1),(1,0,2),(1,1,0),(1,1,1),(1,2,0),(2,0,0),(2,0,1),(2,1,0),(3,0,0)]
theorem pigeon {α : Type} [DecidableEq α] : ∀ (l E : List α), l.Pairwise (fun a b => a ≠ b) → (∀ x ∈ l, x ∈ E) → l.length ≤ E.length
  | [], _, _, _ => by simp
  | a :: l, E, hn, hs => by
    obtain ⟨h1, h2⟩ := List.pairwise_cons.1 hn
    have ha := hs a (by simp)
    have := pigeon l (E.erase a) h2 (fun x hx => (List.mem_erase_of_ne (Ne.symm (h1 x hx))).2 (hs x (by simp [hx])))
    rw [List.length_erase_of_mem ha] at this
    have hp := List.length_pos_of_mem ha
    simp only [List.length_cons]; omega
theorem in20 {a b c : Int} (ha : 0 ≤ a) (hb : 0 ≤ b) (hc : 0 ≤ c) (h : a + b + c ≤ 3) : ((a, b, c) : Key) ∈ keys20 := by
  have h1 : a = 0 ∨ a = 1 ∨ a = 2 ∨ a = 3 := by omega
  have h2 : b = 0 ∨ b = 1 ∨ b = 2 ∨ b = 3 := by omega
  have h3 : c = 0 ∨ c = 1 ∨ c = 2 ∨ c = 3 := by omega
  rcases h1 with rfl | rfl | rfl | rfl <;> rcases h2 with rfl | rfl | rfl | rfl <;> rcases h3 with rfl | rfl | rfl | rfl <;> first | (exfalso; omega) | decide
theorem part20 {z : Int} {p : List Mon} (hz : z ≤ 3) (h : partB z p = true) : p.length ≤ 20 := by
  have hn := keys_nd hz h
  have := pigeon (p.map fun m => keyOf m.2) keys20 (List.pairwise_map.2 hn) (fun k hk => by
    obtain ⟨m, hm, rfl⟩ := List.mem_map.1 hk
    have ho := partB_mem h hm
    have hl := ho.len
    have hp := ho.pw
    have hd := ho.deg
    obtain ⟨x, e⟩ := m
    simp only at hl hp hd ⊢
    match e, hl, hp, hd with
    | [], _, _, _ => exact in20 (by decide) (by decide) (by decide) (by decide)
    | [a], _, hp, hd => have := hp a (by simp); simp at hd; exact in20 (by simpa [keyOf] using this.1) (by simp) (by simp) (by simp [keyOf]; omega)
    | [a, b], _, hp, hd => have h1 := hp a (by simp); have h2 := hp b (by simp); simp at hd; exact in20 (by simpa [keyOf] using h1.1) (by simpa [keyOf] using h2.1) (by simp) (by simp [keyOf]; omega)
    | [a, b, c], _, hp, hd => have h1 := hp a (by simp); have h2 := hp b (by simp); have h3 := hp c (by simp); simp at hd; exact in20 (by simpa [keyOf] using h1.1) (by simpa [keyOf] using h2.1) (by simpa [keyOf] using h3.1) (by simp [keyOf]; omega)
    | _ :: _ :: _ :: _ :: _, hl, _, _ => simp at hl; omega)
  simpa [keys20] using this
end Go.Proofs.Ytngakdgkeemjhaa

/- Contracts: sums and multiples of rows, copies, explicit tableaus, the codes of steps. -/
namespace Go.Proofs.Ytngakdgkeemjhaa
open Go.Abs
set_option linter.unusedVariables false
set_option linter.unusedSimpArgs false
set_option maxHeartbeats 4000000
def plusS (a b : List Int) (k : Int) : List Int := tb (fun i => (a[i]?.getD 0 + k % 10007 * b[i]?.getD 0) % 10007) a.length
@[simp] theorem plusS_len (a b : List Int) (k : Int) : (plusS a b k).length = a.length := by simp [plusS]
theorem plusS_N (a b : List Int) (k : Int) : Ns (plusS a b k) := tb_N fun i _ => isN_mod _
def scalS (a : List Int) (k : Int) : List Int := tb (fun i => a[i]?.getD 0 * (k % 10007) % 10007) a.length
@[simp] theorem scalS_len (a : List Int) (k : Int) : (scalS a k).length = a.length := by simp [scalS]
theorem scalS_N (a : List Int) (k : Int) : Ns (scalS a k) := tb_N fun i _ => isN_mod _
theorem plus_c (a b : List Int) (k : Int) (ha : Ns a) (hb : Ns b) (hk : fits k) (hl : a.length ≤ 1048576) (hab : a.length ≤ b.length) :
    Con Try.prog 154 [.sl a.length (avs a), .sl b.length (avs b), .int k] (.own 2 a.length (avs (plusS a b k))) := by
  refine con_of_vc Try.mixed ⟨10, [], [], []⟩ Try.func154 (by decide) rfl (by simp) (by decide) (by simp [freshOK, freshL, go_sem]) ?_
  rw [Try.ntmps154]
  simp [go_sem]
  refine loop_inv (7 :: 8 :: 9 :: List.range' 13 19) (fun i : Nat => [(7, .own 2 i (avs (tb (fun i => (a[i]?.getD 0 + k % 10007 * b[i]?.getD 0) % 10007) i))), (13, .int i)]) (fun i => i ≤ a.length) (fun i => a.length - i) 0 (by simp) (by simp [go_sem]) (by simp [go_sem]) ?_
  intro i hi
  simp [go_sem]
  refine ⟨fun h => ?_, fun h => ?_⟩ <;> simp at h
  · have h2 : i < b.length := by omega
    have m1 := mul_bound (isN_mod k) (hb.get i)
    have m2 := ha.get i
    have f1 : fits (k % 10007 * b[i]?.getD 0) := ⟨by omega, by omega⟩
    have f2 : fits (a[i]?.getD 0 + k % 10007 * b[i]?.getD 0) := by obtain ⟨x0, x1⟩ := m2; exact ⟨by omega, by omega⟩
    simp [go_sem, avs_drop h, avs_drop h2]
    refine ⟨⟨h, by rintro rfl; simp at h⟩, by kernel_rfl, ?_⟩
    refine CallD.of (num_c _ hk.1 hk.2) (by simp [roots, rootsL]) (by decide) ?_
    simp [go_sem]
    simp [go_sem, avs_drop h, avs_drop h2]
    refine ⟨⟨h2, by rintro rfl; simp at h2⟩, f1, f2, ?_⟩
    refine CallD.of (num_c _ f2.1 f2.2) (by simp [roots, rootsL]) (by decide) ?_
    simp [go_sem]
    refine ⟨by omega, ?_⟩
    refine ⟨by kernel_rfl, ?_⟩
    simp [go_sem]
    exact ⟨by omega, i + 1, by omega, by omega, Off_reset _ _ _ (by simp), by simp [tb_succ, avs_snoc], by omega⟩
  · have e : i = a.length := by omega
    subst e
    simp [go_sem]
    rfl
theorem scaled_c (a : List Int) (k : Int) (ha : Ns a) (hk : fits k) (hl : a.length ≤ 1048576) :
    Con Try.prog 89 [.sl a.length (avs a), .int k] (.own 2 a.length (avs (scalS a k))) := by
  refine con_of_vc Try.mixed ⟨8, [], [], []⟩ Try.func89 (by decide) rfl (by simp) (by decide) (by simp [freshOK, freshL, go_sem]) ?_
  rw [Try.ntmps89]
  simp [go_sem]
  refine loop_inv (5 :: 7 :: List.range' 11 13) (fun i : Nat => [(5, .own 2 i (avs (tb (fun i => a[i]?.getD 0 * (k % 10007) % 10007) i))), (11, .int i)]) (fun i => i ≤ a.length) (fun i => a.length - i) 0 (by simp) (by simp [go_sem]) (by simp [go_sem]) ?_
  intro i hi
  simp [go_sem]
  refine ⟨fun h => ?_, fun h => ?_⟩ <;> simp at h
  · have f1 := mul_fits (ha.get i) (isN_mod k)
    simp [go_sem, avs_drop h]
    refine ⟨⟨h, by rintro rfl; simp at h⟩, ?_⟩
    refine CallVC.of (num_c _ hk.1 hk.2) (by decide) ?_
    simp [go_sem]
    refine ⟨f1, ?_⟩
    refine CallVC.of (num_c _ f1.1 f1.2) (by decide) ?_
    simp [go_sem]
    exact ⟨by omega, by omega, i + 1, by omega, by omega, Off_reset _ _ _ (by simp), by simp [tb_succ, avs_snoc], by omega⟩
  · have e : i = a.length := by omega
    subst e
    simp [go_sem]
    rfl
theorem Clone_c (xs : List Int) (hl : xs.length ≤ 1048576) : Con Try.prog 163 [.sl xs.length (avs xs)] (.own 2 xs.length (avs xs)) := by
  refine con_of_vcN Try.mixed ⟨3, [], [], []⟩ Try.func163 (by decide) rfl (by simp) (by decide) (by simp [freshOK, freshL, go_sem]) ?_
  rw [Try.ntmps163]
  simp [go_sem]
  exact ⟨by omega, by omega⟩
/-- That rows have zeros alone from a distance on. -/
def lowB (A : List (List Int)) (d : Nat) : Bool := (List.range A.length).all fun i => (List.range (A[i]?.getD []).length).all fun k => decide (k < i + d) || decide ((A[i]?.getD [])[k]?.getD 0 = 0)
theorem lowB_no {A : List (List Int)} {d i k : Nat} (hi : i < A.length) (hk : k < (A[i]?.getD []).length) (h1 : i + d ≤ k) (h2 : (A[i]?.getD [])[k]?.getD 0 ≠ 0) : lowB A d = false := by
  unfold lowB
  rw [List.all_eq_false]
  refine ⟨i, by simpa using hi, ?_⟩
  rw [Bool.not_eq_true, List.all_eq_false]
  exact ⟨k, by simpa using hk, by simp [h2]; omega⟩
theorem lowB_yes {A : List (List Int)} {d : Nat} (h : ∀ i, i < A.length → ∀ k, k < (A[i]?.getD []).length → i + d ≤ k → (A[i]?.getD [])[k]?.getD 0 = 0) : lowB A d = true := by
  unfold lowB
  rw [List.all_eq_true]
  intro i hi
  rw [List.all_eq_true]
  intro k hk
  by_cases h1 : k < i + d
  · simp [h1]
  · simp [h i (by simpa using hi) k (by simpa using hk) (by omega)]
end Go.Proofs.Ytngakdgkeemjhaa

/- Contracts: explicit steps, the program's and the reference's. -/
namespace Go.Proofs.Ytngakdgkeemjhaa
open Go.Abs
set_option linter.unusedVariables false
set_option linter.unusedSimpArgs false
set_option maxHeartbeats 1000000
@[go_sem] theorem klW_bor (W : List Nat) (s : Nat) (p : List Nat) : kl W (.bor s p) = if W.contains s then .any else .bor s p := by rw [kl]
@[go_sem] theorem klW_ptr (W : List Nat) (s : Nat) (p : List Nat) (o : Nat) : kl W (.ptr s p o) = if W.contains s then .any else .ptr s p o := by rw [kl]
/-- The place of a stage; the values and the point after some stages. -/
def plF (h : Int) (row : List Int) (vs : List (List Int)) (y : List Int) : Nat → List Int
  | 0 => y
  | k + 1 => plusS (plF h row vs y k) (vs[k]?.getD []) (h * row[k]?.getD 0 % 10007)
def exF (A : List (List Int)) (B : List Int) (f : List (List Mon)) (y : List Int) (h : Int) : Nat → List (List Int) × List Int
  | 0 => ([], y)
  | i + 1 => ((exF A B f y h i).1 ++ [evL (plF h (A[i]?.getD []) (exF A B f y h i).1 y i) f], plusS (exF A B f y h i).2 (evL (plF h (A[i]?.getD []) (exF A B f y h i).1 y i) f) (h * B[i]?.getD 0 % 10007))
theorem plF_len (h : Int) (row : List Int) (vs : List (List Int)) (y : List Int) : ∀ k, (plF h row vs y k).length = y.length
  | 0 => rfl
  | k + 1 => by rw [plF, plusS_len, plF_len h row vs y k]
theorem plF_N {h : Int} {row : List Int} {vs : List (List Int)} {y : List Int} (hy : Ns y) : ∀ k, Ns (plF h row vs y k)
  | 0 => hy
  | k + 1 => plusS_N _ _ _
theorem evL_N (y : List Int) (f : List (List Mon)) : Ns (evL y f) := by
  intro x hx
  obtain ⟨p, _, rfl⟩ := List.mem_map.1 hx
  exact isN_mod _
theorem exF_len1 (A : List (List Int)) (B : List Int) (f : List (List Mon)) (y : List Int) (h : Int) : ∀ i, (exF A B f y h i).1.length = i
  | 0 => rfl
  | i + 1 => by simp [exF, exF_len1 A B f y h i]
theorem exF_mem {A : List (List Int)} {B : List Int} {f : List (List Mon)} {y : List Int} {h : Int} : ∀ i, ∀ v ∈ (exF A B f y h i).1, v.length = f.length ∧ Ns v
  | 0 => by simp [exF]
  | i + 1 => by
    intro v hv
    rw [exF] at hv
    rcases List.mem_append.1 hv with hv | hv
    · exact exF_mem i v hv
    · simp at hv; subst hv; exact ⟨by simp, evL_N _ _⟩
theorem exF_len2 (A : List (List Int)) (B : List Int) (f : List (List Mon)) (y : List Int) (h : Int) : ∀ i, (exF A B f y h i).2.length = y.length
  | 0 => rfl
  | i + 1 => by simp [exF, exF_len2 A B f y h i]
theorem exF_N2 {A : List (List Int)} {B : List Int} {f : List (List Mon)} {y : List Int} {h : Int} (hy : Ns y) : ∀ i, Ns (exF A B f y h i).2
  | 0 => hy
  | i + 1 => plusS_N _ _ _
theorem omat_get {A : List (List Int)} {k : Nat} (h : k < A.length) : (omat A)[k]? = some (.own 2 (A[k]?.getD []).length (avs (A[k]?.getD []))) := by simp [omat, h]
theorem omat_snoc_get {A : List (List Int)} {v : List Int} {n : Nat} {i : Nat} (h : A.length = i) (hn : v.length = n) : (omat A ++ [.own 2 n (avs v)])[i]? = some (.own 2 n (avs v)) := by
  rw [List.getElem?_append_right (by simp; omega)]
  simp [h]
theorem add_times {a b : List Int} {k : Int} (hk : isN k) (h : a.length ≤ b.length) :
    tb (fun i => (a[i]?.getD 0 + (tb (fun j => b[j]?.getD 0 * k % 10007) b.length)[i]?.getD 0) % 10007) a.length = plusS a b k := by
  unfold plusS
  unfold tb
  refine List.map_congr_left fun i hi => ?_
  have hi2 : i < b.length := by simp at hi; omega
  have e := tb_get (fun j => b[j]?.getD 0 * k % 10007) hi2
  unfold tb at e
  simp only [e]
  rw [Int.emod_eq_of_lt hk.1 (by have := hk.2; omega), Int.mul_comm k]
  omega
end Go.Proofs.Ytngakdgkeemjhaa

/- Contracts: runs of explicit steps, the program's and the reference's. -/
namespace Go.Proofs.Ytngakdgkeemjhaa
open Go.Abs
set_option linter.unusedVariables false
set_option linter.unusedSimpArgs false
set_option maxHeartbeats 1000000
def itF (A : List (List Int)) (B : List Int) (f : List (List Mon)) (y : List Int) (h : Int) : Nat → List Int
  | 0 => y
  | i + 1 => (exF A B f (itF A B f y h i) h A.length).2
theorem itF_len (A : List (List Int)) (B : List Int) (f : List (List Mon)) (y : List Int) (h : Int) : ∀ i, (itF A B f y h i).length = y.length
  | 0 => rfl
  | i + 1 => by rw [itF, exF_len2, itF_len A B f y h i]
theorem itF_N {A : List (List Int)} {B : List Int} {f : List (List Mon)} {y : List Int} {h : Int} (hy : Ns y) : ∀ i, Ns (itF A B f y h i)
  | 0 => hy
  | i + 1 => exF_N2 (itF_N hy i) _
def stE (A : List (List Int)) (B : List Int) (z : Int) (f : List (List Mon)) (y : List Int) : Int := if (tabB A B && fieldB z f) = false then 1 else if vecB z y = false then 2 else 0
def rsE (A : List (List Int)) (B : List Int) (z : Int) (f : List (List Mon)) (y : List Int) (h n : Int) : Int := if stE A B z f y = 0 then (if (0 ≤ h ∧ h ≤ 10006) ∧ 0 ≤ n ∧ n ≤ 1000 then (if lowB A 0 = true then 0 else 5) else 2) else stE A B z f y
def rsX (A : List (List Int)) (B : List Int) (z : Int) (f : List (List Mon)) (y : List Int) (h n : Int) : List Int := if rsE A B z f y h n = 0 then itF A B f y h n.toNat else []
def rsR (A : List (List Int)) (B : List Int) (z : Int) (f : List (List Mon)) (y : List Int) (h n : Int) : AV := .tup [.own 2 (rsX A B z f y h n).length (avs (rsX A B z f y h n)), .int (rsE A B z f y h n)]
theorem rsX_len (A : List (List Int)) (B : List Int) (z : Int) (f : List (List Mon)) (y : List Int) (h n : Int) : (rsX A B z f y h n).length ≤ y.length := by
  unfold rsX; split <;> simp [itF_len]
theorem l15Code_c (A : List (List Int)) (B : List Int) (z : Int) (f : List (List Mon)) (y : List Int) (hA : A.length ≤ 1048576) (hB : B.length ≤ 1048576) (hr : ∀ r ∈ A, r.length ≤ 1048576) (hs : Small f) (hy : y.length ≤ 1048576) :
    Con Try.prog 76 [.agg [.sl A.length (mat A), .sl B.length (avs B)], .agg [.int z, .sl f.length (prt f)], .sl y.length (avs y)] (.int (stE A B z f y)) := by
  have cA := l09Is_c A B (by omega) (by omega) (fun r h => by have := hr r h; omega)
  have cT := l13Is_c z f hs
  have cR := l13Point_c z y (by omega)
  have hvb : (decide ((y.length : Int) = z) && numsB y) = vecB z y := rfl
  rw [hvb] at cR
  unfold stE
  generalize tabB A B = a at *
  generalize fieldB z f = b at *
  generalize vecB z y = c at *
  cases a <;> cases b <;> cases c
  all_goals simp only [Bool.and_self, Bool.and_false, Bool.false_and, Bool.true_and, Bool.false_eq_true, if_true, if_false, reduceCtorEq]
  · refine con_of_vc Try.mixed ⟨7, [], [], []⟩ Try.func76 (by decide) rfl (by simp) (by decide) (by simp [freshOK, freshL, go_sem]) ?_
    rw [Try.ntmps76]
    simp [go_sem]
    refine CallVC.of (cA) (by decide) ?_
    simp [go_sem]
  · refine con_of_vc Try.mixed ⟨7, [], [], []⟩ Try.func76 (by decide) rfl (by simp) (by decide) (by simp [freshOK, freshL, go_sem]) ?_
    rw [Try.ntmps76]
    simp [go_sem]
    refine CallVC.of (cA) (by decide) ?_
    simp [go_sem]
  · refine con_of_vc Try.mixed ⟨7, [], [], []⟩ Try.func76 (by decide) rfl (by simp) (by decide) (by simp [freshOK, freshL, go_sem]) ?_
    rw [Try.ntmps76]
    simp [go_sem]
    refine CallVC.of (cA) (by decide) ?_
    simp [go_sem]
  · refine con_of_vc Try.mixed ⟨7, [], [], []⟩ Try.func76 (by decide) rfl (by simp) (by decide) (by simp [freshOK, freshL, go_sem]) ?_
    rw [Try.ntmps76]
    simp [go_sem]
    refine CallVC.of (cA) (by decide) ?_
    simp [go_sem]
  · refine con_of_vc Try.mixed ⟨7, [], [], []⟩ Try.func76 (by decide) rfl (by simp) (by decide) (by simp [freshOK, freshL, go_sem]) ?_
    rw [Try.ntmps76]
    simp [go_sem]
    refine CallVC.of (cA) (by decide) ?_
    simp [go_sem]
    refine CallVC.of (cT) (by decide) ?_
    simp [go_sem]
  · refine con_of_vc Try.mixed ⟨7, [], [], []⟩ Try.func76 (by decide) rfl (by simp) (by decide) (by simp [freshOK, freshL, go_sem]) ?_
    rw [Try.ntmps76]
    simp [go_sem]
    refine CallVC.of (cA) (by decide) ?_
    simp [go_sem]
    refine CallVC.of (cT) (by decide) ?_
    simp [go_sem]
  · refine con_of_vc Try.mixed ⟨7, [], [], []⟩ Try.func76 (by decide) rfl (by simp) (by decide) (by simp [freshOK, freshL, go_sem]) ?_
    rw [Try.ntmps76]
    simp [go_sem]
    refine CallVC.of (cA) (by decide) ?_
    simp [go_sem]
    refine CallVC.of (cT) (by decide) ?_
    simp [go_sem]
    refine CallVC.of (cR) (by decide) ?_
    simp [go_sem]
  · refine con_of_vc Try.mixed ⟨7, [], [], []⟩ Try.func76 (by decide) rfl (by simp) (by decide) (by simp [freshOK, freshL, go_sem]) ?_
    rw [Try.ntmps76]
    simp [go_sem]
    refine CallVC.of (cA) (by decide) ?_
    simp [go_sem]
    refine CallVC.of (cT) (by decide) ?_
    simp [go_sem]
    refine CallVC.of (cR) (by decide) ?_
    simp [go_sem]
theorem checkStep_c (A : List (List Int)) (B : List Int) (z : Int) (f : List (List Mon)) (y : List Int) (hA : A.length ≤ 1048576) (hB : B.length ≤ 1048576) (hr : ∀ r ∈ A, r.length ≤ 1048576) (hs : Small f) (hy : y.length ≤ 1048576) :
    Con Try.prog 78 [.agg [.sl A.length (mat A), .sl B.length (avs B)], .agg [.int z, .sl f.length (prt f)], .sl y.length (avs y)] (.int (stE A B z f y)) := by
  have cA := IsTableau_c A B (by omega) (by omega) (fun r h => by have := hr r h; omega)
  have cT := IsField_c z f hs
  have cR := isVector_c z f.length (prt f) y (by omega)
  unfold stE
  generalize tabB A B = a at *
  generalize fieldB z f = b at *
  generalize vecB z y = c at *
  cases a <;> cases b <;> cases c
  all_goals simp only [Bool.and_self, Bool.and_false, Bool.false_and, Bool.true_and, Bool.false_eq_true, if_true, if_false, reduceCtorEq]
  · refine con_of_vc Try.mixed ⟨7, [], [], []⟩ Try.func78 (by decide) rfl (by simp) (by decide) (by simp [freshOK, freshL, go_sem]) ?_
    rw [Try.ntmps78]
    simp [go_sem]
    refine CallVC.of (cA) (by decide) ?_
    simp [go_sem]
  · refine con_of_vc Try.mixed ⟨7, [], [], []⟩ Try.func78 (by decide) rfl (by simp) (by decide) (by simp [freshOK, freshL, go_sem]) ?_
    rw [Try.ntmps78]
    simp [go_sem]
    refine CallVC.of (cA) (by decide) ?_
    simp [go_sem]
  · refine con_of_vc Try.mixed ⟨7, [], [], []⟩ Try.func78 (by decide) rfl (by simp) (by decide) (by simp [freshOK, freshL, go_sem]) ?_
    rw [Try.ntmps78]
    simp [go_sem]
    refine CallVC.of (cA) (by decide) ?_
    simp [go_sem]
  · refine con_of_vc Try.mixed ⟨7, [], [], []⟩ Try.func78 (by decide) rfl (by simp) (by decide) (by simp [freshOK, freshL, go_sem]) ?_
    rw [Try.ntmps78]
    simp [go_sem]
    refine CallVC.of (cA) (by decide) ?_
    simp [go_sem]
  · refine con_of_vc Try.mixed ⟨7, [], [], []⟩ Try.func78 (by decide) rfl (by simp) (by decide) (by simp [freshOK, freshL, go_sem]) ?_
    rw [Try.ntmps78]
    simp [go_sem]
    refine CallVC.of (cA) (by decide) ?_
    simp [go_sem]
    refine CallVC.of (cT) (by decide) ?_
    simp [go_sem]
  · refine con_of_vc Try.mixed ⟨7, [], [], []⟩ Try.func78 (by decide) rfl (by simp) (by decide) (by simp [freshOK, freshL, go_sem]) ?_
    rw [Try.ntmps78]
    simp [go_sem]
    refine CallVC.of (cA) (by decide) ?_
    simp [go_sem]
    refine CallVC.of (cT) (by decide) ?_
    simp [go_sem]
  · refine con_of_vc Try.mixed ⟨7, [], [], []⟩ Try.func78 (by decide) rfl (by simp) (by decide) (by simp [freshOK, freshL, go_sem]) ?_
    rw [Try.ntmps78]
    simp [go_sem]
    refine CallVC.of (cA) (by decide) ?_
    simp [go_sem]
    refine CallVC.of (cT) (by decide) ?_
    simp [go_sem]
    refine CallVC.of (cR) (by decide) ?_
    simp [go_sem]
  · refine con_of_vc Try.mixed ⟨7, [], [], []⟩ Try.func78 (by decide) rfl (by simp) (by decide) (by simp [freshOK, freshL, go_sem]) ?_
    rw [Try.ntmps78]
    simp [go_sem]
    refine CallVC.of (cA) (by decide) ?_
    simp [go_sem]
    refine CallVC.of (cT) (by decide) ?_
    simp [go_sem]
    refine CallVC.of (cR) (by decide) ?_
    simp [go_sem]
theorem stE_zero {A : List (List Int)} {B : List Int} {z : Int} {f : List (List Mon)} {y : List Int} (h : stE A B z f y = 0) : tabB A B = true ∧ fieldB z f = true ∧ vecB z y = true := by
  unfold stE at h
  generalize tabB A B = a at *
  generalize fieldB z f = b at *
  generalize vecB z y = c at *
  cases a <;> cases b <;> cases c <;> simp_all
end Go.Proofs.Ytngakdgkeemjhaa

/- Contracts: the reference's run of explicit steps. -/
namespace Go.Proofs.Ytngakdgkeemjhaa
open Go.Abs
set_option linter.unusedVariables false
set_option linter.unusedSimpArgs false
set_option maxHeartbeats 1000000
end Go.Proofs.Ytngakdgkeemjhaa

/- Contracts: one explicit step, the program's and the reference's. -/
namespace Go.Proofs.Ytngakdgkeemjhaa
open Go.Abs
set_option linter.unusedVariables false
set_option linter.unusedSimpArgs false
set_option maxHeartbeats 1000000
end Go.Proofs.Ytngakdgkeemjhaa

/- Contracts: sums of maps, derivatives along vectors. -/
namespace Go.Proofs.Ytngakdgkeemjhaa
open Go.Abs
set_option linter.unusedVariables false
set_option linter.unusedSimpArgs false
set_option maxHeartbeats 1000000
def MapN (c : Key → Option Int) : Prop := ∀ k x, c k = some x → isN x
set_option maxRecDepth 100000 in
theorem add_c (o q : Key → Option Int) (x : Int) (ho : MapN o) (hq : MapN q) (hx : fits x) :
    MCon Try.prog 100 [.mp o, .fmp q, .int x] (.tup []) [.mp (addM o q x), .any, .any] := by
  refine mcon_of_vc Try.mixed ⟨8, [], [], []⟩ [] [0] Try.func100 (by decide) rfl rfl (by simp) (by simp) (by simp) (by decide) ?_
  rw [Try.ntmps100]
  simp [go_sem]
  intro es hes
  have hval : ∀ e ∈ es, q e.1 = some e.2 := fun e he => hes.val e he
  refine loop_inv (0 :: 6 :: 7 :: List.range' 9 17) (fun y : Option (Key × Int) × List (Key × Int) => [(0, .mp (remA o q x y.2)), (9, .it y.1 y.2)]) (fun y => y.2.Pairwise (fun a b => a.1 ≠ b.1) ∧ ∀ e ∈ y.2, q e.1 = some e.2) (fun y => y.2.length) (none, es) ⟨hes.nd, hval⟩ (by simp [go_sem, remA_start hes]) (by simp [go_sem]) ?_
  rintro ⟨l, rem⟩ ⟨hnd, hrem⟩
  simp only at hnd hrem
  simp [go_sem, keyAV]
  refine ⟨fun hr => ?_, fun l1 k0 k1 k2 b l2 hr => ?_⟩
  · subst hr
    exact remA_end o q x
  · subst hr
    have hcx := hrem ((k0, k1, k2), b) (by simp)
    have hb : isN b := hq _ _ hcx
    have hnd2 : (l1 ++ l2).Pairwise (fun a b => a.1 ≠ b.1) := hnd.sublist (List.Sublist.append (List.Sublist.refl _) (List.sublist_cons_self _ _))
    have hrem2 : ∀ a b c' y, ((a, b, c'), y) ∈ l1 ++ l2 → q (a, b, c') = some y := fun a b c' y hm => hrem ((a, b, c'), y) (by
      rcases List.mem_append.1 hm with hm | hm <;> simp [hm])
    have hz : remA o q x (l1 ++ ((k0, k1, k2), b) :: l2) (k0, k1, k2) = o (k0, k1, k2) := remA_at
    have hs : mset (remA o q x (l1 ++ ((k0, k1, k2), b) :: l2)) (k0, k1, k2) (((o (k0, k1, k2)).getD 0 + x % 10007 * b) % 10007) = remA o q x (l1 ++ l2) := remA_step hnd hcx
    have ho0 : isN ((o (k0, k1, k2)).getD 0) := by
      cases hh : o (k0, k1, k2) with
      | none => simp [isN]
      | some v => exact ho _ _ hh
    simp [go_sem, hz]
    refine ⟨by kernel_rfl, ?_⟩
    refine CallD.of (num_c _ hx.1 hx.2) (by simp [roots, rootsL]) (by decide) ?_
    simp [go_sem]
    generalize (o (k0, k1, k2)).getD 0 = w at *
    have hm := mul_bound (isN_mod x) hb
    have hf1 : fits (x % 10007 * b) := ⟨by omega, by omega⟩
    have hf2 : fits (w + x % 10007 * b) := by obtain ⟨w0, w1⟩ := ho0; exact ⟨by omega, by omega⟩
    refine ⟨hf1, hf2, ?_⟩
    refine CallD.of (num_c _ hf2.1 hf2.2) (by simp [roots, rootsL]) (by decide) ?_
    simp [go_sem]
    refine ⟨by kernel_rfl, ?_⟩
    simp [go_sem]
    exact ⟨_, _, ⟨hnd2, hrem2⟩, by simp; try omega, Off_reset _ _ _ (by simp), hs, rfl, rfl⟩
theorem derM_N {i : Nat} {c : Key → Option Int} : MapN (derM i c) := by
  intro k x hx
  unfold derM at hx
  split at hx
  · split at hx
    · injection hx with hx; rw [← hx]; exact isN_mod _
    · simp at hx
  · simp at hx
theorem addM_N {o q : Key → Option Int} {x : Int} (ho : MapN o) : MapN (addM o q x) := by
  intro k a ha
  unfold addM at ha
  split at ha
  · injection ha with ha; rw [← ha]; exact isN_mod _
  · exact ho k a ha
theorem aloM_N (v : List Int) (c : Key → Option Int) : ∀ n, MapN (aloM v c n)
  | 0 => by intro k a ha; simp [aloM, mzero] at ha
  | n + 1 => addM_N (aloM_N v c n)
theorem addM_kok {n : Nat} {o q : Key → Option Int} {x : Int} (ho : ∀ k a, o k = some a → isN a ∧ KOk n k) (hq : ∀ k a, q k = some a → isN a ∧ KOk n k) : ∀ k a, addM o q x k = some a → isN a ∧ KOk n k := by
  intro k a ha
  unfold addM at ha
  split at ha
  · rename_i b hb
    injection ha with ha; rw [← ha]; exact ⟨isN_mod _, (hq k b hb).2⟩
  · exact ho k a ha
theorem aloM_kok {n : Nat} {v : List Int} {c : Key → Option Int} (hn : n ≤ 3) (hc : ∀ k x, c k = some x → isN x ∧ KOk n k) : ∀ m, m ≤ n → ∀ k x, aloM v c m k = some x → isN x ∧ KOk n k
  | 0, _ => by intro k x hx; simp [aloM, mzero] at hx
  | m + 1, hm => addM_kok (aloM_kok hn hc m (by omega)) (derM_ok (by omega) hn hc)
set_option maxRecDepth 100000 in
theorem along_c {n : Nat} (c : Key → Option Int) (v : List Int) (hv : Ns v) (hl : v.length = n) (hn : n ≤ 3) (hc : ∀ k x, c k = some x → isN x ∧ KOk n k) :
    Con Try.prog 168 [.fmp c, .sl v.length (avs v)] (.mp (aloM v c n)) := by
  refine con_of_vc Try.mixed ⟨8, [19], [100], []⟩ Try.func168 (by decide) rfl (by simp) (by decide) (by simp [freshOK, freshL, go_sem]) ?_
  rw [Try.ntmps168]
  simp [go_sem]
  refine loop_inv (5 :: 6 :: 7 :: List.range' 11 12) (fun i : Nat => [(5, .mp (aloM v c i)), (11, .int i)]) (fun i => i ≤ n) (fun i => n - i) 0 (by simp) (by simp [go_sem, aloM]) (by simp [go_sem]) ?_
  intro i hi
  simp [go_sem]
  refine ⟨fun h => ?_, fun h => ?_⟩ <;> simp at h
  · have hy : yat v i = v[i]?.getD 0 := rfl
    have cD := derivative_c (n := n) c i (by omega) hn hc
    have cA := add_c (aloM v c i) (derM i c) (v[i]?.getD 0) (aloM_N v c i) derM_N (by have := hv.get i; exact ⟨by obtain ⟨a, b⟩ := this; omega, by obtain ⟨a, b⟩ := this; omega⟩)
    simp [go_sem, avs_drop h]
    refine ⟨⟨h, by rintro rfl; simp at h⟩, ?_⟩
    refine CallVC.of (cD) (by decide) ?_
    simp [go_sem]
    refine ⟨_, _, cA, ?_⟩
    simp [go_sem]
    exact ⟨by omega, i + 1, by omega, by omega, Off_reset _ _ _ (by simp), rfl, by omega⟩
  · simp [go_sem]
    have e : i = n := by omega
    subst e; rfl
end Go.Proofs.Ytngakdgkeemjhaa

/- Contracts: derivatives at points for vectors, the reference's and the program's. -/
namespace Go.Proofs.Ytngakdgkeemjhaa
open Go.Abs
set_option linter.unusedVariables false
set_option linter.unusedSimpArgs false
set_option maxHeartbeats 1000000
def sum3 (k : Key) : Int := k.1 + k.2.1 + k.2.2
def DegLe (C : Key → Int) (D : Int) : Prop := ∀ k, NN k → D < sum3 k → C k = 0
theorem sum3_inc (i : Nat) (k : Key) : sum3 (inc i k) = sum3 k + 1 := by
  obtain ⟨a, b, c⟩ := k
  unfold inc sum3
  split
  · simp; omega
  · split <;> (simp; omega)
theorem DegLe.der {C : Key → Int} {D : Int} (h : DegLe C D) (i : Nat) : DegLe (der i C) (D - 1) := by
  intro k hk hd
  unfold Go.Proofs.Ytngakdgkeemjhaa.der
  rw [h (inc i k) (hk.inc i) (by rw [sum3_inc]; omega), Int.mul_zero]
theorem DegLe.alo {C : Key → Int} {D : Int} (h : DegLe C D) (v : Nat → Int) : ∀ n, DegLe (alo v C n) (D - 1)
  | 0 => fun _ _ _ => rfl
  | n + 1 => fun k hk hd => by
    show Go.Proofs.Ytngakdgkeemjhaa.alo v C n k + v n * Go.Proofs.Ytngakdgkeemjhaa.der n C k = 0
    rw [DegLe.alo h v n k hk hd, h.der n k hk hd]; simp
theorem DegLe.dv {n : Nat} : ∀ (vs : List (List Int)) {C : Key → Int} {D : Int}, DegLe C D → DegLe (Dv n vs C) (D - vs.length)
  | [], C, D, h => by simpa [Dv] using h
  | v :: vs, C, D, h => by
    have := DegLe.dv (n := n) vs (h.alo (yat v) n)
    rw [Dv]
    intro k hk hd
    exact this k hk (by simp at hd; omega)
theorem sum3_key {e : List Int} (h : e.length ≤ 3) : sum3 (keyOf e) = e.sum := by
  match e, h with
  | [], _ => rfl
  | [a], _ => simp [sum3, keyOf]
  | [a, b], _ => simp [sum3, keyOf]
  | [a, b, c], _ => simp [sum3, keyOf]; omega
theorem part_deg {n : Nat} {p : List Mon} (hn : n ≤ 3) (hp : partB (n : Int) p = true) : DegLe (cfL p) 3 := by
  intro k hk hd
  unfold cfL coef
  refine sumI_zero (fun m hm => if_neg (fun e => ?_))
  have ho := partB_mem hp hm
  have := ho.deg
  rw [e, sum3_key (by have := ho.len; omega)] at hd
  omega
theorem along_zero {n : Nat} {p : List Mon} {y : List Int} (hn : n ≤ 3) (hp : partB (n : Int) p = true) (vs : List (List Int)) (hv : 3 < vs.length) :
    Val (yat y) (gv (DvM n vs (polF p))) % 10007 = 0 := by
  rw [Val_eqv _ (DvM_gv n vs (polF p))]
  have e : gv (polF p) = cfL p := funext (polF_gv (keys_nd (by omega) hp))
  rw [e]
  have hd := (part_deg hn hp).dv (n := n) vs
  have : Val (yat y) (Dv n vs (cfL p)) = 0 := by
    unfold Val
    refine sumI_zero (fun k hk => ?_)
    have hN := NN.box hk
    obtain ⟨a, b, c⟩ := hN
    rw [hd k (NN.box hk) (by unfold sum3; omega), Int.zero_mul]
  rw [this]; rfl
theorem DvM_snoc (n : Nat) (v : List Int) : ∀ (vs : List (List Int)) (c : Key → Option Int), DvM n (vs ++ [v]) c = aloM v (DvM n vs c) n
  | [], c => rfl
  | u :: vs, c => by rw [List.cons_append, DvM, DvM_snoc n v vs, DvM]
theorem DvM_take {n : Nat} {vs : List (List Int)} {i : Nat} (h : i < vs.length) (c : Key → Option Int) : DvM n (vs.take (i + 1)) c = aloM (vs[i]?.getD []) (DvM n (vs.take i) c) n := by
  rw [List.take_add_one, List.getElem?_eq_getElem h, Option.toList_some, DvM_snoc]; rfl
theorem DvM_kok {n : Nat} (hn : n ≤ 3) : ∀ (vs : List (List Int)) {c : Key → Option Int}, (∀ k x, c k = some x → isN x ∧ KOk n k) → ∀ k x, DvM n vs c k = some x → isN x ∧ KOk n k
  | [], c, h => h
  | v :: vs, c, h => DvM_kok hn vs (aloM_kok hn h n (Nat.le_refl n))
/-- The derivative of a part. -/
def drvP (y : List Int) (n : Nat) (vs : List (List Int)) (p : List Mon) : Int := if 3 < vs.length then 0 else alongS y n vs p % 10007
def drvL (y : List Int) (n : Nat) (vs : List (List Int)) (f : List (List Mon)) : List Int := f.map (drvP y n vs)
@[simp] theorem drvL_len (y : List Int) (n : Nat) (vs : List (List Int)) (f : List (List Mon)) : (drvL y n vs f).length = f.length := by simp [drvL]
theorem drvL_take {y : List Int} {n : Nat} {vs : List (List Int)} {f : List (List Mon)} {i : Nat} (h : i < f.length) : drvL y n vs (f.take (i + 1)) = drvL y n vs (f.take i) ++ [drvP y n vs (f[i]?.getD [])] := by
  rw [drvL, drvL, List.take_add_one, List.map_append, List.getElem?_eq_getElem h]; rfl
theorem drvP_eq {n : Nat} {p : List Mon} {y : List Int} (hn : n ≤ 3) (hl : y.length = n) (hp : partB (n : Int) p = true) (vs : List (List Int)) :
    Val (yat y) (gv (DvM n vs (polF p))) % 10007 = drvP y n vs p := by
  unfold drvP
  by_cases h : 3 < vs.length
  · rw [if_pos h, along_zero hn hp vs h]
  · rw [if_neg h, along_eq hn hl hp vs]
@[simp] theorem mat_frz (A : List (List Int)) : frzL (mat A) = mat A := by
  induction A with
  | nil => rfl
  | cons r A ih => simp only [mat, List.map_cons, frzL] at ih ⊢; rw [ih]; rfl
/-- Vectors of n numbers. -/
def Vecs (n : Nat) (vs : List (List Int)) : Prop := ∀ v ∈ vs, v.length = n ∧ Ns v
set_option maxRecDepth 100000 in
theorem derivativeAt_c (z : Int) (f : List (List Mon)) (y : List Int) (vs : List (List Int)) (hf : FieldOk z f) (hs : Small f) (hy : Ns y) (hl : (y.length : Int) = z) (hv : Vecs y.length vs) (hvl : vs.length ≤ 1048576) :
    Con Try.prog 115 [.sl f.length (fpols f), .sl y.length (avs y), .sl vs.length (mat vs)] (.own 2 f.length (avs (drvL y y.length vs f))) := by
  have fl := hs.1
  have z3 := hf.hi
  refine con_of_vc Try.mixed ⟨12, [27], [], []⟩ Try.func115 (by decide) rfl (by simp) (by decide) (by simp [freshOK, freshL, go_sem]) ?_
  rw [Try.ntmps115]
  simp [go_sem]
  refine loop_inv (7 :: 9 :: 11 :: List.range' 15 21) (fun i : Nat => [(7, .own 2 i (avs (drvL y y.length vs (f.take i)))), (15, .int i)]) (fun i => i ≤ f.length) (fun i => f.length - i) 0 (by simp) (by simp [go_sem, drvL]) (by simp [go_sem]) ?_
  intro i hi
  simp [go_sem]
  refine ⟨fun h => ?_, fun h => ?_⟩ <;> simp at h
  · have hif := h
    have hx : f[i]?.getD [] ∈ f := by simp [h]
    have hdl := drvL_take (y := y) (n := y.length) (vs := vs) h
    have hpp : partB (y.length : Int) (f[i]?.getD []) = true := by rw [hl]; exact hf.part _ hx
    have hq : ∀ kk x, polF (f[i]?.getD []) kk = some x → isN x ∧ KOk y.length kk := fun kk x hkx => polF_kok (by omega) hpp hkx
    simp [go_sem, fpols_drop hif]
    refine ⟨⟨hif, by rintro rfl; simp at hif⟩, ?_⟩
    refine loop_inv (9 :: 11 :: List.range' 21 8) (fun j : Nat => [(9, .fmp (DvM y.length (vs.take j) (polF (f[i]?.getD [])))), (21, .int j)]) (fun j => j ≤ vs.length) (fun j => vs.length - j) 0 (by simp) (by simp [go_sem, DvM]) (by simp [go_sem]) ?_
    intro j hj
    simp [go_sem]
    refine ⟨fun h => ?_, fun h => ?_⟩ <;> simp at h
    · have hvm : vs[j]?.getD [] ∈ vs := by simp [h]
      have hvj := hv _ hvm
      have cA := along_c (n := y.length) (DvM y.length (vs.take j) (polF (f[i]?.getD []))) (vs[j]?.getD []) hvj.2 hvj.1 (by omega) (DvM_kok (by omega) _ hq)
      have ht := DvM_take (n := y.length) h (polF (f[i]?.getD []))
      simp [go_sem, mat_drop h]
      refine ⟨⟨h, by rintro rfl; simp at h⟩, ?_⟩
      refine CallVC.of (cA) (by decide) ?_
      simp [go_sem]
      exact ⟨by omega, j + 1, by omega, by omega, Off_reset _ _ _ (by simp), ht.symm, by omega⟩
    · have e : j = vs.length := by omega
      subst e
      have cV := value_c2 (DvM y.length vs (polF (f[i]?.getD []))) y hy (by omega) (DvM_kok (by omega) _ hq)
      rw [drvP_eq (by omega) rfl hpp] at cV
      rw [List.take_length]
      simp [go_sem]
      refine CallVC.of (cV) (by decide) ?_
      simp [go_sem]
      exact ⟨by omega, by omega, i + 1, by omega, by omega, (Off.reset (by intro x hx; simp at hx ⊢; omega) (by simp) (by simp [go_sem, Off_reset])), by rw [hdl]; simp [avs_snoc], by omega⟩
  · simp [go_sem]
    have e : i = f.length := by omega
    subst e; simp
theorem add_mul_mod (s a b : Int) : (s % 10007 + a * (b % 10007) % 10007) % 10007 = (s + a * b) % 10007 := by
  rw [mod_mul_r, ← Int.add_emod]
set_option maxRecDepth 100000 in
theorem l13Along_c {n : Nat} (y : List Int) (hy : Ns y) (hl : y.length = n) (hn : n ≤ 3) : ∀ (vs : List (List Int)) (p : List Mon), Vecs n vs → vs.length ≤ 1048576 → (∀ m ∈ p, WOk n 3 m) → p.length ≤ 1048576 →
    Con Try.prog 169 [.sl p.length (mons p), .sl y.length (avs y), .sl vs.length (mat vs)] (.int (alongS y n vs p % 10007))
  | [], p, _, _, hp, hpl => by
    have cV := l13ValueW_c (B := 3) p y hy (by omega) (by omega) (by omega) (by omega) (by rw [hl]; exact hp)
    refine con_of_vc Try.mixed ⟨9, [], [], []⟩ Try.func169 (by decide) rfl (by simp) (by decide) (by simp [freshOK, freshL, go_sem]) ?_
    rw [Try.ntmps169]
    simp [go_sem]
    refine CallVC.of (cV) (by decide) ?_
    simp [go_sem]
    rfl
  | v :: vs, p, hv, hvl, hp, hpl => by
    have hv0 := hv v (by simp)
    have em : mat (v :: vs) = .sl v.length (avs v) :: mat vs := rfl
    have el : ((v :: vs).length : Int) = (vs.length : Int) + 1 := by simp
    have ih := fun q hq hql => l13Along_c (n := n) y hy hl hn vs q (fun u hu => hv u (by simp [hu])) (by simp at hvl; omega) hq hql
    simp at hvl
    rw [em]
    refine con_of_vc Try.mixed ⟨9, [], [], []⟩ Try.func169 (by decide) rfl (by simp) (by decide) (by simp [freshOK, freshL, go_sem]) ?_
    rw [Try.ntmps169]
    simp [go_sem]
    refine ⟨fun h => ?_, fun h => ?_⟩
    · simp at h; omega
    simp [go_sem]
    refine loop_inv (7 :: 8 :: List.range' 15 22) (fun k : Nat => [(7, .int (sumTo (fun k => yat v k * alongS y n vs (derL k p)) k % 10007)), (8, .int k)]) (fun k => k ≤ n) (fun k => n - k) 0 (by simp) (by simp [go_sem, sumTo]) (by simp [go_sem]) ?_
    intro k hk
    simp [go_sem]
    refine ⟨fun h => ?_, fun h => ?_⟩ <;> simp at h
    · have hkn : k < n := by omega
      have hkv : k < v.length := by omega
      have hdl := derGo_len k p []
      have cD := l13Derive_c (n := n) (B := 3) p k hkn (by omega) (by omega) (by omega) hp (by omega)
      have cA := ih (derL k p) (derGo_wok hkn _ [] hp (by simp)) (by unfold derL; simp at hdl; omega)
      have hm := mul_fits (hv0.2.get k) (isN_mod (alongS y n vs (derL k p)))
      have hst : sumTo (fun k => yat v k * alongS y n vs (derL k p)) (k + 1) = sumTo (fun k => yat v k * alongS y n vs (derL k p)) k + v[k]?.getD 0 * alongS y n vs (derL k p) := rfl
      generalize sumTo (fun k => yat v k * alongS y n vs (derL k p)) k = s at *
      have ha := add_fits (isN_mod s) (isN_mod (v[k]?.getD 0 * (alongS y n vs (derL k p) % 10007)))
      simp [go_sem, avs_drop hkv]
      refine ⟨by kernel_rfl, ⟨hkv, by rintro rfl; simp at hkv⟩, ?_⟩
      refine CallD.of (cD) (by simp [roots, rootsL]) (by decide) ?_
      simp [go_sem]
      refine ⟨by omega, ?_⟩
      rw [List.take_of_length_le (by simp)]
      refine CallD.of (cA) (by simp [roots, rootsL]) (by decide) ?_
      simp [go_sem]
      refine CallD.of (l01Mul_c _ _ hm) (by simp [roots, rootsL]) (by decide) ?_
      simp [go_sem]
      refine CallD.of (l01Add_c _ _ ha) (by simp [roots, rootsL]) (by decide) ?_
      simp [go_sem]
      refine ⟨by kernel_rfl, ?_⟩
      simp [go_sem]
      exact ⟨by omega, k + 1, by omega, by omega, Off_reset _ _ _ (by simp), by rw [hst, Int.add_emod, mod_mul_r, ← Int.add_emod], by omega⟩
    · simp [go_sem]
      have e : k = n := by omega
      subst e
      rfl
theorem l13Derivative_c (z : Int) (f : List (List Mon)) (y : List Int) (vs : List (List Int)) (hf : FieldOk z f) (hs : Small f) (hy : Ns y) (hl : (y.length : Int) = z) (hv : Vecs y.length vs) (hvl : vs.length ≤ 1048576) :
    Con Try.prog 116 [.agg [.int z, .sl f.length (prt f)], .sl y.length (avs y), .sl vs.length (mat vs)] (.own 2 f.length (avs (drvL y y.length vs f))) := by
  have fl := hs.1
  have z3 := hf.hi
  refine con_of_vc Try.mixed ⟨9, [], [], []⟩ Try.func116 (by decide) rfl (by simp) (by decide) (by simp [freshOK, freshL, go_sem]) ?_
  rw [Try.ntmps116]
  simp [go_sem]
  refine loop_inv (7 :: 8 :: List.range' 10 24) (fun i : Nat => [(7, .own 2 i (avs (drvL y y.length vs (f.take i)))), (8, .int i)]) (fun i => i ≤ f.length) (fun i => f.length - i) 0 (by simp) (by simp [go_sem, drvL]) (by simp [go_sem]) ?_
  intro i hi
  simp [go_sem]
  refine ⟨fun h => ?_, fun h => ?_⟩ <;> simp at h
  · have hif := h
    have hx : f[i]?.getD [] ∈ f := by simp [h]
    have hdl := drvL_take (y := y) (n := y.length) (vs := vs) h
    have hpp : partB (y.length : Int) (f[i]?.getD []) = true := by rw [hl]; exact hf.part _ hx
    by_cases h3 : 3 < vs.length
    · have h3' : (3 : Int) < vs.length := by omega
      have hd : drvP y y.length vs (f[i]?.getD []) = 0 := by unfold drvP; rw [if_pos h3]
      rw [hd] at hdl
      simp [go_sem, h3, h3']
      exact ⟨by omega, by omega, i + 1, by omega, by omega, Off_reset _ _ _ (by simp), by rw [hdl]; simp [avs_snoc], by omega⟩
    · have h3' : ¬ (3 : Int) < vs.length := by omega
      have hd : drvP y y.length vs (f[i]?.getD []) = alongS y y.length vs (f[i]?.getD []) % 10007 := by unfold drvP; rw [if_neg h3]
      rw [hd] at hdl
      have cA := l13Along_c (n := y.length) y hy rfl (by omega) vs (f[i]?.getD []) hv hvl (fun m hm => (partB_mem hpp hm).vok.wok) (hs.2 _ hx).1
      simp [go_sem, h3, h3', prt_drop hif]
      refine ⟨⟨hif, by rintro rfl; simp at hif⟩, ?_⟩
      refine CallVC.of (cA) (by decide) ?_
      simp [go_sem]
      exact ⟨by omega, by omega, i + 1, by omega, by omega, Off_reset _ _ _ (by simp), by rw [hdl]; simp [avs_snoc], by omega⟩
  · simp [go_sem]
    have e : i = f.length := by omega
    subst e; simp
/-- What derivatives at a point answer. -/
def daB (z : Int) (y : List Int) (vs : List (List Int)) : Bool := vecB z y && decide (vs.length ≤ 8) && vs.all (vecB z)
def daX (z : Int) (f : List (List Mon)) (y : List Int) (vs : List (List Int)) : List Int := if fieldB z f = true ∧ daB z y vs = true then drvL y y.length vs f else []
def daE (z : Int) (f : List (List Mon)) (y : List Int) (vs : List (List Int)) : Int := if fieldB z f = true then if daB z y vs = true then 0 else 2 else 1
def daR (z : Int) (f : List (List Mon)) (y : List Int) (vs : List (List Int)) : AV := .tup [.own 2 (daX z f y vs).length (avs (daX z f y vs)), .int (daE z f y vs)]
theorem vecB_iff {z : Int} {y : List Int} : vecB z y = true ↔ (y.length : Int) = z ∧ Ns y := by
  unfold vecB; simp [numsB_N]
theorem daB_ok {z : Int} {y : List Int} {vs : List (List Int)} (h : daB z y vs = true) : ((y.length : Int) = z ∧ Ns y) ∧ vs.length ≤ 8 ∧ Vecs y.length vs := by
  unfold daB at h
  simp only [Bool.and_eq_true, decide_eq_true_eq, List.all_eq_true] at h
  obtain ⟨⟨h1, h2⟩, h3⟩ := h
  have h1 := vecB_iff.1 h1
  exact ⟨h1, h2, fun v hv => by have := vecB_iff.1 (h3 v hv); exact ⟨by omega, this.2⟩⟩
set_option maxRecDepth 100000 in
theorem DerivativeAt_c (z : Int) (f : List (List Mon)) (y : List Int) (vs : List (List Int)) (hs : Small f) (hy : y.length ≤ 1048576) (hvl : vs.length ≤ 1048576) (hvr : ∀ v ∈ vs, v.length ≤ 1048576) :
    Con Try.prog 49 [.agg [.int z, .sl f.length (prt f)], .sl y.length (avs y), .sl vs.length (mat vs)] (daR z f y vs) := by
  have cK := checkVectors_c z f (y :: vs) hs (by simp; omega) (fun v hv => by rcases List.mem_cons.1 hv with rfl | hv; omega; have := hvr v hv; omega)
  have em : mat (y :: vs) = .sl y.length (avs y) :: mat vs := rfl
  have el : (y :: vs).length = 1 + vs.length := by simp; omega
  rw [em, el] at cK
  unfold daR daX daE
  unfold chk at cK
  have hany : (y :: vs).any (fun y => !vecB z y) = !(vecB z y && vs.all (vecB z)) := by
    rw [List.any_cons]
    cases vecB z y with
    | false => rfl
    | true => rw [← List.not_all_eq_any_not]; simp
  rw [hany] at cK
  have hda : daB z y vs = (decide (vs.length ≤ 8) && (vecB z y && vs.all (vecB z))) := by
    unfold daB
    cases vecB z y <;> cases decide (vs.length ≤ 8) <;> simp
  cases hT : fieldB z f with
  | false =>
    rw [hT] at cK
    refine Con.n1 _ ?_
    refine con_of_vc Try.mixed ⟨9, [], [], []⟩ Try.func49 (by decide) rfl (by simp) (by decide) (by simp [freshOK, freshL, go_sem]) ?_
    rw [Try.ntmps49]
    simp [go_sem]
    refine ⟨by kernel_rfl, ⟨by omega, by omega⟩, ?_⟩
    refine CallD.of (cK) (by simp [roots, rootsL]) (by decide) ?_
    simp [go_sem]
    refine ⟨by kernel_rfl, ?_⟩
    simp [go_sem]
  | true =>
    rw [hT] at cK
    rw [hda]
    cases hb : (vecB z y && vs.all (vecB z)) with
    | false =>
      rw [hb] at cK
      simp only [Bool.not_false, if_true] at cK
      simp only [Bool.and_false, Bool.false_eq_true, and_false, if_false, if_true]
      refine Con.n1 _ ?_
      refine con_of_vc Try.mixed ⟨9, [], [], []⟩ Try.func49 (by decide) rfl (by simp) (by decide) (by simp [freshOK, freshL, go_sem]) ?_
      rw [Try.ntmps49]
      simp [go_sem]
      refine ⟨by kernel_rfl, ⟨by omega, by omega⟩, ?_⟩
      refine CallD.of (cK) (by simp [roots, rootsL]) (by decide) ?_
      simp [go_sem]
      refine ⟨by kernel_rfl, ?_⟩
      simp [go_sem]
    | true =>
      rw [hb] at cK
      simp only [Bool.not_true, Bool.false_eq_true, if_false, if_true] at cK
      by_cases h8 : vs.length ≤ 8
      · have h8' : ¬ (8 : Int) < vs.length := by omega
        have h8n : ¬ 8 < vs.length := by omega
        have hF := fieldB_iff.1 hT
        have hd : daB z y vs = true := by rw [hda, hb, decide_eq_true h8]; rfl
        obtain ⟨hy2, _, hV⟩ := daB_ok hd
        simp only [h8, decide_true, Bool.and_self, and_self, if_true, drvL_len]
        refine con_of_vc Try.mixed ⟨9, [], [], []⟩ Try.func49 (by decide) rfl (by simp) (by decide) (by simp [freshOK, freshL, go_sem]) ?_
        rw [Try.ntmps49]
        simp [go_sem]
        refine ⟨by kernel_rfl, ⟨by omega, by omega⟩, ?_⟩
        refine CallD.of (cK) (by simp [roots, rootsL]) (by decide) ?_
        simp [go_sem]
        refine ⟨by kernel_rfl, ?_⟩
        simp [go_sem]
        simp [go_sem, h8', h8n]
        refine CallVC.of (polynomials_c z f hF hs) (by decide) ?_
        simp [go_sem]
        refine CallVC.of (derivativeAt_c z f y vs hF hs hy2.2 hy2.1 hV hvl) (by decide) ?_
        simp [go_sem]
      · have h8' : (8 : Int) < vs.length := by omega
        have h8n : 8 < vs.length := by omega
        simp only [h8, decide_false, Bool.false_and, Bool.false_eq_true, and_false, if_false, if_true]
        refine Con.n1 _ ?_
        refine con_of_vc Try.mixed ⟨9, [], [], []⟩ Try.func49 (by decide) rfl (by simp) (by decide) (by simp [freshOK, freshL, go_sem]) ?_
        rw [Try.ntmps49]
        simp [go_sem]
        refine ⟨by kernel_rfl, ⟨by omega, by omega⟩, ?_⟩
        refine CallD.of (cK) (by simp [roots, rootsL]) (by decide) ?_
        simp [go_sem]
        refine ⟨by kernel_rfl, ?_⟩
        simp [go_sem]
        simp [go_sem, h8', h8n]
end Go.Proofs.Ytngakdgkeemjhaa

/- Contracts: the reference's derivatives at points; the marks of lists of rows handed in. -/
namespace Go.Proofs.Ytngakdgkeemjhaa
open Go.Abs
set_option linter.unusedVariables false
set_option linter.unusedSimpArgs false
set_option maxHeartbeats 4000000
set_option maxRecDepth 100000 in
theorem specDerivativeAt_c (z : Int) (f : List (List Mon)) (y : List Int) (vs : List (List Int)) (hs : Small f) (hy : y.length ≤ 1048576) (hvl : vs.length ≤ 1048576) (hvr : ∀ v ∈ vs, v.length ≤ 1048576) :
    Con Try.prog 50 [.agg [.int z, .sl f.length (prt f)], .sl y.length (avs y), .sl vs.length (mat vs)] (daR z f y vs) := by
  have cT := l13Is_c z f hs
  have cR := l13Point_c z y (by omega)
  unfold daR daX daE
  cases hT : fieldB z f with
  | false =>
    rw [hT] at cT
    refine Con.n1 _ ?_
    refine con_of_vc Try.mixed ⟨9, [], [], []⟩ Try.func50 (by decide) rfl (by simp) (by decide) (by simp [freshOK, freshL, go_sem]) ?_
    rw [Try.ntmps50]
    simp [go_sem]
    refine CallVC.of (cT) (by decide) ?_
    simp [go_sem]
  | true =>
    rw [hT] at cT
    have hvb : (decide ((y.length : Int) = z) && numsB y) = vecB z y := rfl
    rw [hvb] at cR
    have hda : daB z y vs = (vecB z y && decide (vs.length ≤ 8) && vs.all (vecB z)) := rfl
    cases hn : vecB z y with
    | false =>
      rw [hn] at cR
      rw [hda, hn]
      simp only [Bool.false_and, Bool.false_eq_true, and_false, if_false, if_true]
      refine Con.n1 _ ?_
      refine con_of_vc Try.mixed ⟨9, [], [], []⟩ Try.func50 (by decide) rfl (by simp) (by decide) (by simp [freshOK, freshL, go_sem]) ?_
      rw [Try.ntmps50]
      simp [go_sem]
      refine CallVC.of (cT) (by decide) ?_
      simp [go_sem]
      refine CallVC.of (cR) (by decide) ?_
      simp [go_sem]
    | true =>
      rw [hn] at cR
      rw [hn] at hda
      by_cases h8 : vs.length ≤ 8
      · have h8' : ¬ (8 : Int) < vs.length := by omega
        have h8n : ¬ 8 < vs.length := by omega
        simp only [h8, decide_true, Bool.and_self, Bool.true_and] at hda
        rw [hda]
        cases ha : vs.all (vecB z) with
        | true =>
          rw [ha] at hda
          have hF := fieldB_iff.1 hT
          obtain ⟨hy2, _, hV⟩ := daB_ok hda
          have hall : ∀ v ∈ vs, vecB z v = true := List.all_eq_true.1 ha
          simp only [and_self, if_true, drvL_len]
          refine con_of_vc Try.mixed ⟨9, [], [], []⟩ Try.func50 (by decide) rfl (by simp) (by decide) (by simp [freshOK, freshL, go_sem]) ?_
          rw [Try.ntmps50]
          simp [go_sem]
          refine CallVC.of (cT) (by decide) ?_
          simp [go_sem]
          refine CallVC.of (cR) (by decide) ?_
          simp [go_sem]
          simp [go_sem, h8', h8n]
          refine loop_inv (6 :: 7 :: 8 :: List.range' 22 14) (fun i : Nat => [(8, .int i)]) (fun i => i ≤ vs.length) (fun i => vs.length - i) 0 (by simp) (by simp [go_sem]) (by simp [go_sem]) ?_
          intro i hi
          simp [go_sem]
          refine ⟨fun h => ?_, fun h => ?_⟩ <;> simp at h
          · have hx : vs[i]?.getD [] ∈ vs := by simp [h]
            have cV := l13Point_c z (vs[i]?.getD []) (by have := hvr _ hx; omega)
            have hv : (decide (((vs[i]?.getD []).length : Int) = z) && numsB (vs[i]?.getD [])) = true := hall _ hx
            rw [hv] at cV
            simp [go_sem, mat_drop h]
            refine ⟨by kernel_rfl, ⟨h, by rintro rfl; simp at h⟩, ?_⟩
            refine CallD.of (cV) (by simp [roots, rootsL]) (by decide) ?_
            simp [go_sem]
            refine ⟨by kernel_rfl, ?_⟩
            simp [go_sem]
            exact ⟨by omega, i + 1, by omega, by omega, Off_reset _ _ _ (by simp), by omega⟩
          · simp [go_sem]
            refine CallVC.of (l13Derivative_c z f y vs hF hs hy2.2 hy2.1 hV hvl) (by decide) ?_
            simp [go_sem]
        | false =>
          simp only [Bool.false_eq_true, and_false, if_false, if_true]
          refine Con.n1 _ ?_
          refine con_of_vc Try.mixed ⟨9, [], [], []⟩ Try.func50 (by decide) rfl (by simp) (by decide) (by simp [freshOK, freshL, go_sem]) ?_
          rw [Try.ntmps50]
          simp [go_sem]
          refine CallVC.of (cT) (by decide) ?_
          simp [go_sem]
          refine CallVC.of (cR) (by decide) ?_
          simp [go_sem]
          simp [go_sem, h8', h8n]
          refine loop_inv (6 :: 7 :: 8 :: List.range' 22 14) (fun i : Nat => [(8, .int i)]) (fun i => i ≤ vs.length ∧ ∀ v ∈ vs.take i, vecB z v = true) (fun i => vs.length - i) 0 (by simp) (by simp [go_sem]) (by simp [go_sem]) ?_
          rintro i ⟨hi, hp⟩
          simp [go_sem]
          refine ⟨fun h => ?_, fun h => ?_⟩ <;> simp at h
          · have hx : vs[i]?.getD [] ∈ vs := by simp [h]
            have cV := l13Point_c z (vs[i]?.getD []) (by have := hvr _ hx; omega)
            have hvb2 : (decide (((vs[i]?.getD []).length : Int) = z) && numsB (vs[i]?.getD [])) = vecB z (vs[i]?.getD []) := rfl
            rw [hvb2] at cV
            cases hv : vecB z (vs[i]?.getD []) with
            | false =>
              rw [hv] at cV
              simp [go_sem, mat_drop h]
              refine ⟨by kernel_rfl, ⟨h, by rintro rfl; simp at h⟩, ?_⟩
              refine CallD.of (cV) (by simp [roots, rootsL]) (by decide) ?_
              simp [go_sem]
              refine ⟨by kernel_rfl, ?_⟩
              simp [go_sem]
            | true =>
              rw [hv] at cV
              simp [go_sem, mat_drop h]
              refine ⟨by kernel_rfl, ⟨h, by rintro rfl; simp at h⟩, ?_⟩
              refine CallD.of (cV) (by simp [roots, rootsL]) (by decide) ?_
              simp [go_sem]
              refine ⟨by kernel_rfl, ?_⟩
              simp [go_sem]
              refine ⟨by omega, i + 1, ⟨by omega, fun v hv2 => ?_⟩, by omega, Off_reset _ _ _ (by simp), by omega⟩
              rw [List.take_add_one, List.getElem?_eq_getElem h, Option.toList_some, List.mem_append, List.mem_singleton] at hv2
              rcases hv2 with hv2 | hv2
              · exact hp v hv2
              · rw [hv2]; simpa [h] using hv
          · have hbad : False := by
              rw [List.take_of_length_le h] at hp
              rw [List.all_eq_true.2 hp] at ha
              exact Bool.noConfusion ha
            exact hbad.elim
      · have h8' : (8 : Int) < vs.length := by omega
        have h8n : 8 < vs.length := by omega
        rw [hda]
        simp only [h8, decide_false, Bool.and_false, Bool.false_and, Bool.false_eq_true, and_false, if_false, if_true]
        refine Con.n1 _ ?_
        refine con_of_vc Try.mixed ⟨9, [], [], []⟩ Try.func50 (by decide) rfl (by simp) (by decide) (by simp [freshOK, freshL, go_sem]) ?_
        rw [Try.ntmps50]
        simp [go_sem]
        refine CallVC.of (cT) (by decide) ?_
        simp [go_sem]
        refine CallVC.of (cR) (by decide) ?_
        simp [go_sem]
        simp [go_sem, h8', h8n]
theorem daX_len (z : Int) (f : List (List Mon)) (y : List Int) (vs : List (List Int)) : (daX z f y vs).length ≤ f.length := by
  unfold daX; split <;> simp
end Go.Proofs.Ytngakdgkeemjhaa

/- Level lists: their test, their branches: plain laws. -/
namespace Go.Proofs.Ytngakdgkeemjhaa
set_option linter.unusedVariables false
set_option linter.unusedSimpArgs false
def okB (t : List Int) (j : Nat) : Bool := decide (1 ≤ t[j]?.getD 0) && decide (t[j]?.getD 0 ≤ t[j - 1]?.getD 0 + 1)
def lv0 (t : List Int) : Bool := decide (0 < t.length) && decide (t[0]?.getD 0 = 0) && (List.range t.length).all (fun j => decide (j = 0) || okB t j)
def lvB (t : List Int) : Bool := lv0 t && decide (t.length ≤ 8)
theorem lv0_no {t : List Int} {j : Nat} (hj : j < t.length) (h0 : 0 < j) (h : okB t j = false) : lv0 t = false := by
  unfold lv0
  have : (List.range t.length).all (fun j => decide (j = 0) || okB t j) = false := by
    rw [List.all_eq_false]; exact ⟨j, by simpa using hj, by simp [h]; omega⟩
  rw [this]; simp
theorem lv0_t0 {t : List Int} (h : t[0]?.getD 0 ≠ 0) : lv0 t = false := by
  unfold lv0; rw [decide_eq_false h]; simp
theorem lv0_yes {t : List Int} (h1 : 0 < t.length) (h2 : t[0]?.getD 0 = 0) (h : ∀ j, 0 < j → j < t.length → okB t j = true) : lv0 t = true := by
  unfold lv0
  have : (List.range t.length).all (fun j => decide (j = 0) || okB t j) = true := by
    rw [List.all_eq_true]; intro j hj
    by_cases e : j = 0
    · simp [e]
    · simp [h j (by omega) (by simpa using hj)]
  rw [this, decide_eq_true h1, decide_eq_true h2]; rfl
theorem ok_le {t : List Int} {i : Nat} (h0 : t[0]?.getD 0 = 0) (h : ∀ j, 0 < j → j < i → okB t j = true) : ∀ j, j < i → 0 ≤ t[j]?.getD 0 ∧ t[j]?.getD 0 ≤ j
  | 0, _ => by omega
  | j + 1, hj => by
    have := ok_le h0 h j (by omega)
    have h2 := h (j + 1) (by omega) hj
    unfold okB at h2
    simp only [Nat.add_sub_cancel, Bool.and_eq_true, decide_eq_true_eq] at h2
    omega
/-- The branches so far; the next level. -/
def brStep (out : List (List Int)) (x : Int) : List (List Int) :=
  let o := if x = 1 then out ++ [[]] else out
  o.set (o.length - 1) (o[o.length - 1]?.getD [] ++ [x - 1])
def brGo (out : List (List Int)) : List Int → List (List Int)
  | [] => out
  | x :: l => brGo (brStep out x) l
def brs (t : List Int) : List (List Int) := brGo [] (t.drop 1)
theorem brGo_app (out : List (List Int)) (l r : List Int) : brGo out (l ++ r) = brGo (brGo out l) r := by
  induction l generalizing out with
  | nil => rfl
  | cons x l ih => exact ih _
theorem brs_take {t : List Int} {i : Nat} (h1 : 1 ≤ i) (h : i < t.length) : brs (t.take (i + 1)) = brStep (brs (t.take i)) (t[i]?.getD 0) := by
  unfold brs
  have e : (t.take (i + 1)).drop 1 = (t.take i).drop 1 ++ [t[i]?.getD 0] := by
    rw [List.take_add_one, List.getElem?_eq_getElem h, Option.toList_some, List.drop_append_of_le_length (by simp; omega)]; rfl
  rw [e, brGo_app]; rfl
/-- A level list of any length. -/
def Lv (t : List Int) : Prop := 0 < t.length ∧ t[0]?.getD 0 = 0 ∧ ∀ j, 0 < j → j < t.length → 1 ≤ t[j]?.getD 0 ∧ t[j]?.getD 0 ≤ t[j - 1]?.getD 0 + 1
theorem lv0_Lv {t : List Int} (h : lv0 t = true) : Lv t := by
  unfold lv0 at h
  simp only [Bool.and_eq_true, decide_eq_true_eq, List.all_eq_true] at h
  refine ⟨h.1.1, h.1.2, fun j h1 h2 => ?_⟩
  have := h.2 j (by simpa using h2)
  rw [decide_eq_false (by omega)] at this
  unfold okB at this
  simpa using this
theorem Lv.le {t : List Int} (h : Lv t) : ∀ j, j < t.length → 0 ≤ t[j]?.getD 0 ∧ t[j]?.getD 0 ≤ j
  | 0, _ => by rw [h.2.1]; omega
  | j + 1, hj => by
    have h1 := h.le j (by omega)
    have h2 := h.2.2 (j + 1) (by omega) hj
    rw [Nat.add_sub_cancel] at h2
    omega
theorem Lv.snoc {t : List Int} {x : Int} (h : Lv t) (h1 : 1 ≤ x) (h2 : x ≤ t[t.length - 1]?.getD 0 + 1) : Lv (t ++ [x]) := by
  obtain ⟨k1, k2, k3⟩ := h
  refine ⟨by simp, by rw [List.getElem?_append_left k1]; exact k2, fun j hj hl => ?_⟩
  simp at hl
  by_cases e : j = t.length
  · subst e
    rw [List.getElem?_append_right (by omega), List.getElem?_append_left (by omega)]
    simp; exact ⟨h1, h2⟩
  · rw [List.getElem?_append_left (by omega), List.getElem?_append_left (by omega)]
    exact k3 j hj (by omega)
theorem Lv_zero : Lv [0] := ⟨by simp, rfl, fun j h1 h2 => by simp at h2; omega⟩
def sumN : List (List Int) → Nat
  | [] => 0
  | b :: l => b.length + sumN l
theorem sumN_app (a b : List (List Int)) : sumN (a ++ b) = sumN a + sumN b := by
  induction a with
  | nil => simp [sumN]
  | cons x a ih => simp [sumN, ih]; omega
theorem sumN_mem {l : List (List Int)} {b : List Int} (h : b ∈ l) : b.length ≤ sumN l := by
  induction l with
  | nil => simp at h
  | cons x l ih =>
    rw [sumN]
    rcases List.mem_cons.1 h with rfl | h
    · omega
    · have := ih h; omega
theorem len_sumN {l : List (List Int)} (h : ∀ b ∈ l, 0 < b.length) : l.length ≤ sumN l := by
  induction l with
  | nil => simp
  | cons x l ih =>
    have h1 := h x (by simp)
    have h2 := ih (fun b hb => h b (by simp [hb]))
    rw [sumN]; simp; omega
/-- What holds of the branches so far, where the last level was p. -/
def BrI (out : List (List Int)) (p : Int) (n : Nat) : Prop :=
  (∀ b ∈ out, Lv b) ∧ sumN out = n ∧ ((out = [] ∧ p = 0) ∨ ∃ i l, out = i ++ [l] ∧ l[l.length - 1]?.getD 0 = p - 1)
theorem brStep_i {out : List (List Int)} {p x : Int} {n : Nat} (h : BrI out p n) (h1 : 1 ≤ x) (h2 : x ≤ p + 1) : BrI (brStep out x) x (n + 1) ∧ (x ≠ 1 → out ≠ []) := by
  obtain ⟨k1, k2, k3⟩ := h
  by_cases hx : x = 1
  · subst hx
    have e : brStep out 1 = out ++ [[0]] := by
      unfold brStep
      simp only [if_true]
      rw [List.set_append_right _ _ (by simp), List.getElem?_append_right (by simp)]
      simp
    rw [e]
    refine ⟨⟨fun b hb => ?_, by rw [sumN_app, k2]; rfl, .inr ⟨out, [0], rfl, rfl⟩⟩, by simp⟩
    rcases List.mem_append.1 hb with hb | hb
    · exact k1 b hb
    · simp at hb; subst hb; exact Lv_zero
  · rcases k3 with ⟨rfl, rfl⟩ | ⟨i, l, rfl, hl⟩
    · omega
    · have e : brStep (i ++ [l]) x = i ++ [l ++ [x - 1]] := by
        unfold brStep
        simp only [if_neg hx]
        rw [List.set_append_right _ _ (by simp), List.getElem?_append_right (by simp)]
        simp
      rw [e]
      have hLl := k1 l (by simp)
      refine ⟨⟨fun b hb => ?_, ?_, .inr ⟨i, _, rfl, by simp⟩⟩, by simp⟩
      · rcases List.mem_append.1 hb with hb | hb
        · exact k1 b (by simp [hb])
        · simp at hb; subst hb
          exact hLl.snoc (by omega) (by rw [hl]; omega)
      · rw [sumN_app] at k2 ⊢
        simp [sumN] at k2 ⊢; omega
theorem brs_i {t : List Int} (h : Lv t) : ∀ i, 1 ≤ i → i ≤ t.length → BrI (brs (t.take i)) (t[i - 1]?.getD 0) (i - 1)
  | 1, _, _ => by
    have e : brs (t.take 1) = [] := by
      unfold brs
      cases t with
      | nil => rfl
      | cons a t => rfl
    rw [e]
    refine ⟨by simp, rfl, .inl ⟨rfl, ?_⟩⟩
    simpa using h.2.1
  | i + 2, _, hl => by
    have ih := brs_i h (i + 1) (by omega) (by omega)
    have hb := h.2.2 (i + 1) (by omega) (by omega)
    rw [brs_take (by omega) (by omega)]
    exact (brStep_i ih hb.1 hb.2).1
theorem brs_ne {t : List Int} (h : Lv t) {i : Nat} (h1 : 1 ≤ i) (hl : i < t.length) (hx : t[i]?.getD 0 ≠ 1) : brs (t.take i) ≠ [] := by
  have ih := brs_i h i h1 (by omega)
  have hb := h.2.2 i (by omega) hl
  exact (brStep_i ih hb.1 hb.2).2 hx
theorem brs_ok {t : List Int} (h : Lv t) {b : List Int} (hb : b ∈ brs t) : Lv b ∧ b.length < t.length := by
  have hl := h.1
  have := brs_i h t.length (by omega) (by omega)
  rw [List.take_length] at this
  obtain ⟨k1, k2, _⟩ := this
  have := sumN_mem hb
  exact ⟨k1 b hb, by omega⟩
theorem brs_many {t : List Int} (h : Lv t) {i : Nat} (h1 : 1 ≤ i) (hl : i ≤ t.length) : (brs (t.take i)).length < i := by
  obtain ⟨k1, k2, _⟩ := brs_i h i h1 hl
  have := len_sumN (fun b hb => (k1 b hb).1)
  omega
end Go.Proofs.Ytngakdgkeemjhaa

/- Contracts: level lists and their branches. -/
namespace Go.Proofs.Ytngakdgkeemjhaa
open Go.Abs
set_option linter.unusedVariables false
set_option linter.unusedSimpArgs false
set_option maxHeartbeats 4000000
end Go.Proofs.Ytngakdgkeemjhaa

/- Contracts: the branches of level lists. -/
namespace Go.Proofs.Ytngakdgkeemjhaa
open Go.Abs
set_option linter.unusedVariables false
set_option linter.unusedSimpArgs false
set_option maxHeartbeats 4000000
theorem omat_set (A : List (List Int)) (k : Nat) (l : List Int) : (omat A).set k (.own 2 l.length (avs l)) = omat (A.set k l) := by
  simp [omat, List.map_set]
theorem omat_last {A : List (List Int)} (h : A ≠ []) : (omat A)[A.length - 1]? = some (.own 2 (A[A.length - 1]?.getD []).length (avs (A[A.length - 1]?.getD []))) := by
  have hl : A.length - 1 < A.length := by have := List.length_pos_iff.2 h; omega
  simp [omat, hl]
theorem brStep_one (A : List (List Int)) : brStep A 1 = A ++ [[0]] := by
  unfold brStep
  simp only [if_true]
  rw [List.set_append_right _ _ (by simp), List.getElem?_append_right (by simp)]
  simp
theorem brStep_more {A : List (List Int)} {x : Int} (h : x ≠ 1) : brStep A x = A.set (A.length - 1) (A[A.length - 1]?.getD [] ++ [x - 1]) := by
  unfold brStep; simp only [if_neg h]
set_option maxRecDepth 100000 in
theorem l03Parts_c (t : List Int) (hl : t.length ≤ 1048576) (ht : Lv t) : Con Try.prog 162 [.sl t.length (avs t)] (.own 23 (brs t).length (omat (brs t))) := by
  refine con_of_vc Try.mixed ⟨6, [], [], [1000812990015]⟩ Try.func162 (by decide) rfl (by simp) (by decide) (by simp [freshOK, freshL, go_sem]) ?_
  rw [Try.ntmps162]
  simp [go_sem]
  refine loop_inv (List.range' 3 36) (fun i : Nat => [(3, .own 23 (brs (t.take i)).length (omat (brs (t.take i)))), (4, .int i)]) (fun i => 1 ≤ i ∧ i ≤ t.length) (fun i => t.length - i) 1 (by have := ht.1; omega) (by simp [go_sem]; cases t <;> simp [brs, brGo, omat_nil]) (by simp [go_sem]) ?_
  rintro i ⟨h1, hi⟩
  simp [go_sem]
  refine ⟨fun h => ?_, fun h => ?_⟩ <;> simp at h
  · have hif := h
    have hb := brs_take h1 hif
    have hm := brs_many ht h1 hi
    have hi2 := brs_i ht i h1 hi
    have hok := ht.2.2 i h1 hif
    have hle := ht.le i (by omega)
    by_cases hx : t[i]?.getD 0 = 1
    · rw [hx, brStep_one] at hb
      simp [go_sem, avs_drop hif, hx]
      have e1 : (brs (t.take i)).length + 1 = (brs (t.take (i + 1))).length := by rw [hb]; simp
      have e2 : omat (brs (t.take i)) ++ [AV.own 2 1 [AV.val (Value.int IntKind.i64 0)]] = omat (brs (t.take (i + 1))) := by rw [hb, omat_app, omat_one]; rfl
      repeat' apply And.intro
      all_goals first
        | omega
        | exact ⟨i + 1, ⟨by omega, by omega⟩, by omega, Off_reset _ _ _ (by simp), ⟨e1, e2⟩, by omega⟩
        | (intro e; rw [e] at hif; simp at hif; done)
        | kernel_rfl
    · have hne := brs_ne ht h1 hif hx
      have hla := omat_last hne
      rw [brStep_more hx] at hb
      generalize brs (t.take i) = O at *
      have hOl : 1 ≤ O.length := List.length_pos_iff.2 hne
      have hlen : (O[O.length - 1]?.getD []).length ≤ 1048576 := by
        have := sumN_mem (l := O) (b := O[O.length - 1]?.getD []) (by simp [show O.length - 1 < O.length by omega])
        have := hi2.2.1
        omega
      have hsn := omat_set O (O.length - 1) (O[O.length - 1]?.getD [] ++ [t[i]?.getD 0 - 1])
      rw [← hb] at hsn
      generalize O[O.length - 1]?.getD [] = l at *
      simp [go_sem, avs_drop hif, hx, hla]
      have e1 : O.length = (brs (t.take (i + 1))).length := by rw [hb]; simp
      rw [avs_snoc, List.length_append, List.length_singleton] at hsn
      repeat' apply And.intro
      all_goals first
        | omega
        | exact ⟨i + 1, ⟨by omega, by omega⟩, by omega, Off_reset _ _ _ (by simp), ⟨e1, hsn⟩, by omega⟩
        | (intro e; rw [e] at hif; simp at hif; done)
        | kernel_rfl
  · simp [go_sem]
    rw [List.take_of_length_le h]
    simp
set_option maxRecDepth 100000 in
theorem branchesOf_c (t : List Int) (hl : t.length ≤ 1048576) (ht : Lv t) : Con Try.prog 164 [.sl t.length (avs t)] (.own 23 (brs t).length (omat (brs t))) := by
  have ht1 := ht.1
  have ed : List.take (t.length - 1) (List.drop 1 (avs t)) = avs (t.drop 1) := by
    rw [List.take_of_length_le (by simp)]; simp [avs]
  refine con_of_vc Try.mixed ⟨6, [], [], []⟩ Try.func164 (by decide) rfl (by simp) (by decide) (by simp [freshOK, freshL, go_sem]) ?_
  rw [Try.ntmps164]
  simp [go_sem]
  refine ⟨by omega, ?_⟩
  refine loop_inv (3 :: 5 :: List.range' 10 25) (fun i : Nat => [(3, .own 23 (brs (t.take (i + 1))).length (omat (brs (t.take (i + 1))))), (10, .int i)]) (fun i => i + 1 ≤ t.length) (fun i => t.length - i) 0 (by omega) (by simp [go_sem]; cases t <;> simp [brs, brGo, omat_nil]) (by simp [go_sem]) ?_
  rintro i hi
  simp [go_sem]
  refine ⟨fun h => ?_, fun h => ?_⟩ <;> simp at h
  · have hif : i + 1 < t.length := by omega
    have hda : List.drop i (List.take (t.length - 1) (avs t).tail) = .val (.int .i64 (t[i + 1]?.getD 0)) :: avs (t.drop (i + 2)) := by
      rw [List.take_of_length_le (by simp), ← List.drop_one, List.drop_drop, Nat.add_comm 1 i, avs_drop hif]; simp
    have hnn : ¬ (avs t).tail = [] := fun e => by have := congrArg List.length e; simp at this; omega
    have hn1 : ¬ t.length - 1 = 0 := by omega
    have hn2 : i < t.length - 1 := by omega
    have hb := brs_take (i := i + 1) (by omega) hif
    have hm := brs_many ht (i := i + 1) (by omega) (by omega)
    have hi2 := brs_i ht (i + 1) (by omega) (by omega)
    have hok := ht.2.2 (i + 1) (by omega) hif
    have hle := ht.le (i + 1) hif
    by_cases hx : t[i + 1]?.getD 0 = 1
    · rw [hx, brStep_one] at hb
      have e1 : (brs (t.take (i + 1))).length + 1 = (brs (t.take (i + 1 + 1))).length := by rw [hb]; simp
      have e2 : omat (brs (t.take (i + 1))) ++ [AV.own 2 1 [AV.val (Value.int IntKind.i64 0)]] = omat (brs (t.take (i + 1 + 1))) := by rw [hb, omat_app, omat_one]; rfl
      simp [go_sem, hda, hnn, hn1, hn2, hx]
      exact ⟨⟨by omega, by omega⟩, by omega, by omega, by omega, i + 1, by omega, by omega, Off_reset _ _ _ (by simp), ⟨e1, e2⟩, by omega⟩
    · have hne := brs_ne ht (i := i + 1) (by omega) hif hx
      have hla := omat_last hne
      rw [brStep_more hx] at hb
      generalize hO : brs (t.take (i + 1)) = O at *
      have hOl : 1 ≤ O.length := List.length_pos_iff.2 hne
      have hlen : (O[O.length - 1]?.getD []).length ≤ 1048576 := by
        have := sumN_mem (l := O) (b := O[O.length - 1]?.getD []) (by simp [show O.length - 1 < O.length by omega])
        have := hi2.2.1
        omega
      have hsn := omat_set O (O.length - 1) (O[O.length - 1]?.getD [] ++ [t[i + 1]?.getD 0 - 1])
      rw [← hb] at hsn
      generalize O[O.length - 1]?.getD [] = l at *
      have e1 : O.length = (brs (t.take (i + 1 + 1))).length := by rw [hb]; simp
      rw [avs_snoc, List.length_append, List.length_singleton] at hsn
      simp [go_sem, hda, hnn, hn1, hn2, hx, hla]
      repeat' apply And.intro
      all_goals first
        | omega
        | exact ⟨i + 1, by omega, by omega, Off_reset _ _ _ (by simp), ⟨e1, hsn⟩, by omega⟩
  · simp [go_sem]
    have e : t.take (i + 1) = t := List.take_of_length_le (by omega)
    rw [e]
    simp
end Go.Proofs.Ytngakdgkeemjhaa

/- Contracts: elementary differentials, the reference's and the program's. -/
namespace Go.Proofs.Ytngakdgkeemjhaa
open Go.Abs
set_option linter.unusedVariables false
set_option linter.unusedSimpArgs false
set_option maxHeartbeats 4000000
/-- The elementary differential of a level list, by the depth that is left. -/
def edF (f : List (List Mon)) (y : List Int) : Nat → List Int → List Int
  | 0, _ => []
  | n + 1, t => drvL y y.length ((brs t).map (edF f y n)) f
theorem edF_len {f : List (List Mon)} {y : List Int} {n : Nat} (h : 0 < n) (t : List Int) : (edF f y n t).length = f.length := by
  cases n with
  | zero => omega
  | succ n => simp [edF]
theorem drvL_N (y : List Int) (n : Nat) (vs : List (List Int)) (f : List (List Mon)) : Ns (drvL y n vs f) := by
  intro x hx
  obtain ⟨p, _, rfl⟩ := List.mem_map.1 hx
  unfold drvP
  split
  · exact ⟨by omega, by omega⟩
  · exact isN_mod _
theorem edF_N {f : List (List Mon)} {y : List Int} {n : Nat} (t : List Int) : Ns (edF f y n t) := by
  cases n with
  | zero => intro x hx; simp [edF] at hx
  | succ n => exact drvL_N _ _ _ _
theorem edF_vecs {f : List (List Mon)} {y : List Int} {m : Nat} {t : List Int} (ht : Lv t) (hm : t.length ≤ m + 1) (hl : f.length = y.length) : Vecs y.length ((brs t).map (edF f y m)) := by
  intro v hv
  obtain ⟨b, hb, rfl⟩ := List.mem_map.1 hv
  obtain ⟨h1, h2⟩ := brs_ok ht hb
  have h3 := h1.1
  exact ⟨by rw [edF_len (by omega), hl], edF_N b⟩
theorem brs_cnt {t : List Int} (h : Lv t) : (brs t).length < t.length := by
  have h1 := h.1
  have := brs_many h (i := t.length) (by omega) (by omega)
  rwa [List.take_length] at this
theorem omat_take (A : List (List Int)) (i : Nat) (h : i < A.length) : omat (A.take (i + 1)) = omat (A.take i) ++ [.own 2 (A[i]?.getD []).length (avs (A[i]?.getD []))] := by
  rw [List.take_add_one, omat_app]; simp [h, omat]
set_option maxRecDepth 100000 in
theorem differential_c (z : Int) (f : List (List Mon)) (y : List Int) (hf : FieldOk z f) (hs : Small f) (hy : Ns y) (hl : (y.length : Int) = z) :
    ∀ (n : Nat) (t : List Int), Lv t → t.length ≤ n → t.length ≤ 1048576 → Con Try.prog 110 [.sl f.length (fpols f), .sl t.length (avs t), .sl y.length (avs y)] (.own 2 f.length (avs (edF f y n t))) := by
  intro n
  induction n with
  | zero => intro t ht hn; have := ht.1; omega
  | succ m ih =>
    intro t ht hn ht2
    have fl := hs.1
    have z3 := hf.hi
    have hfl := hf.len
    have hcnt := brs_cnt ht
    have hV := edF_vecs (f := f) (y := y) ht hn (by omega)
    have cD := derivativeAt_c z f y ((brs t).map (edF f y m)) hf hs hy hl hV (by simp; omega)
    rw [List.length_map] at cD
    refine con_of_vc Try.mixed ⟨10, [12], [], []⟩ Try.func110 (by decide) rfl (by simp) (by decide) (by simp [freshOK, freshL, go_sem]) ?_
    rw [Try.ntmps110]
    simp [go_sem]
    refine CallVC.of (branchesOf_c t ht2 ht) (by decide) ?_
    simp [go_sem]
    refine loop_inv (7 :: 9 :: List.range' 14 12) (fun i : Nat => [(7, .own 23 i (omat (((brs t).map (edF f y m)).take i))), (14, .int i)]) (fun i => i ≤ (brs t).length) (fun i => (brs t).length - i) 0 (by simp) (by simp [go_sem, omat_nil]) (by simp [go_sem]) ?_
    intro i hi
    simp [go_sem]
    refine ⟨fun h => ?_, fun h => ?_⟩ <;> simp at h
    · have hb : (brs t)[i]?.getD [] ∈ brs t := by simp [h]
      obtain ⟨h1, h2⟩ := brs_ok ht hb
      have h3 := h1.1
      have cI := ih ((brs t)[i]?.getD []) h1 (by omega) (by omega)
      have hlen := edF_len (f := f) (y := y) (n := m) (by omega) ((brs t)[i]?.getD [])
      have ho := omat_take ((brs t).map (edF f y m)) i (by simpa using h)
      have he : ((brs t).map (edF f y m))[i]?.getD [] = edF f y m ((brs t)[i]?.getD []) := by simp [h]
      rw [he, hlen] at ho
      simp [go_sem, mat_drop h]
      refine ⟨⟨h, fun e => by rw [e] at h; simp at h⟩, ?_⟩
      refine CallVC.of (cI) (by decide) ?_
      simp [go_sem]
      exact ⟨⟨by omega, by omega⟩, by omega, i + 1, by omega, by omega, Off_reset _ _ _ (by simp), ⟨rfl, ho.symm⟩, by omega⟩
    · have e : i = (brs t).length := by omega
      subst e
      rw [List.take_of_length_le (by simp)]
      simp [go_sem]
      refine CallVC.of (cD) (by decide) ?_
      simp [go_sem]
      rfl
set_option maxRecDepth 100000 in
theorem l13Elementary_c (z : Int) (f : List (List Mon)) (y : List Int) (hf : FieldOk z f) (hs : Small f) (hy : Ns y) (hl : (y.length : Int) = z) :
    ∀ (n : Nat) (t : List Int), Lv t → t.length ≤ n → t.length ≤ 1048576 → Con Try.prog 107 [.agg [.int z, .sl f.length (prt f)], .sl t.length (avs t), .sl y.length (avs y)] (.own 2 f.length (avs (edF f y n t))) := by
  intro n
  induction n with
  | zero => intro t ht hn; have := ht.1; omega
  | succ m ih =>
    intro t ht hn ht2
    have fl := hs.1
    have z3 := hf.hi
    have hfl := hf.len
    have hcnt := brs_cnt ht
    have hV := edF_vecs (f := f) (y := y) ht hn (by omega)
    have cD := l13Derivative_c z f y ((brs t).map (edF f y m)) hf hs hy hl hV (by simp; omega)
    rw [List.length_map] at cD
    refine con_of_vc Try.mixed ⟨10, [12], [], []⟩ Try.func107 (by decide) rfl (by simp) (by decide) (by simp [freshOK, freshL, go_sem]) ?_
    rw [Try.ntmps107]
    simp [go_sem]
    refine CallVC.of (l03Parts_c t ht2 ht) (by decide) ?_
    simp [go_sem]
    refine loop_inv (7 :: 9 :: List.range' 13 16) (fun i : Nat => [(7, .own 23 i (omat (((brs t).map (edF f y m)).take i))), (9, .int i)]) (fun i => i ≤ (brs t).length) (fun i => (brs t).length - i) 0 (by simp) (by simp [go_sem, omat_nil]) (by simp [go_sem]) ?_
    intro i hi
    simp [go_sem]
    refine ⟨fun h => ?_, fun h => ?_⟩ <;> simp at h
    · have hb : (brs t)[i]?.getD [] ∈ brs t := by simp [h]
      obtain ⟨h1, h2⟩ := brs_ok ht hb
      have h3 := h1.1
      have cI := ih ((brs t)[i]?.getD []) h1 (by omega) (by omega)
      have hlen := edF_len (f := f) (y := y) (n := m) (by omega) ((brs t)[i]?.getD [])
      have ho := omat_take ((brs t).map (edF f y m)) i (by simpa using h)
      have he : ((brs t).map (edF f y m))[i]?.getD [] = edF f y m ((brs t)[i]?.getD []) := by simp [h]
      rw [he, hlen] at ho
      simp [go_sem, mat_drop h]
      refine ⟨by kernel_rfl, ⟨h, fun e => by rw [e] at h; simp at h⟩, ?_⟩
      refine CallD.of (cI) (by simp [roots, rootsL]) (by decide) ?_
      simp [go_sem]
      refine ⟨⟨by omega, by omega⟩, ?_⟩
      refine ⟨by kernel_rfl, ?_⟩
      simp [go_sem]
      exact ⟨by omega, i + 1, by omega, by omega, Off_reset _ _ _ (by simp), ⟨rfl, ho.symm⟩, by omega⟩
    · have e : i = (brs t).length := by omega
      subst e
      rw [List.take_of_length_le (by simp)]
      simp [go_sem]
      refine CallVC.of (cD) (by decide) ?_
      simp [go_sem]
      rfl
/-- What elementary differentials answer. -/
def elX (z : Int) (f : List (List Mon)) (t y : List Int) : List Int := if (fieldB z f && lvB t) = true ∧ vecB z y = true then edF f y t.length t else []
def elE (z : Int) (f : List (List Mon)) (t y : List Int) : Int := if (fieldB z f && lvB t) = true then if vecB z y = true then 0 else 2 else 1
def elR (z : Int) (f : List (List Mon)) (t y : List Int) : AV := .tup [.own 2 (elX z f t y).length (avs (elX z f t y)), .int (elE z f t y)]
theorem elX_len (z : Int) (f : List (List Mon)) (t y : List Int) : (elX z f t y).length ≤ f.length := by
  unfold elX
  split
  · rename_i h
    have : 0 < t.length := by
      have h1 := h.1
      unfold lvB lv0 at h1
      simp only [Bool.and_eq_true, decide_eq_true_eq] at h1
      exact h1.2.1.1.1
    rw [edF_len this]; omega
  · simp
end Go.Proofs.Ytngakdgkeemjhaa

/- Contracts: columns, lists of series turned, rows cloned. -/
namespace Go.Proofs.Ytngakdgkeemjhaa
open Go.Abs
set_option linter.unusedVariables false
set_option linter.unusedSimpArgs false
set_option maxHeartbeats 1000000
/-- A column; rows and columns turned. -/
def colS (a : List (List Int)) (k : Nat) : List Int := tb (fun i => (a[i]?.getD [])[k]?.getD 0) a.length
@[simp] theorem colS_len (a : List (List Int)) (k : Nat) : (colS a k).length = a.length := by simp [colS]
def turnS (a : List (List Int)) : List (List Int) := (List.range (a[0]?.getD []).length).map (colS a)
@[simp] theorem turnS_len (a : List (List Int)) : (turnS a).length = (a[0]?.getD []).length := by simp [turnS]
theorem l01Column_c (a : List (List Int)) (k : Nat) (hl : a.length ≤ 1048576) (hr : ∀ r ∈ a, k < r.length) (hk : k ≤ 1048576) :
    Con Try.prog 144 [.sl a.length (mat a), .int k] (.own 2 a.length (avs (colS a k))) := by
  refine con_of_vc Try.mixed ⟨7, [], [], []⟩ Try.func144 (by decide) rfl (by simp) (by decide) (by simp [freshOK, freshL, go_sem]) ?_
  rw [Try.ntmps144]
  simp [go_sem]
  refine loop_inv (5 :: 6 :: List.range' 8 16) (fun i : Nat => [(5, .own 2 i (avs (tb (fun i => (a[i]?.getD [])[k]?.getD 0) i))), (6, .int i)]) (fun i => i ≤ a.length) (fun i => a.length - i) 0 (by simp) (by simp [go_sem]) (by simp [go_sem]) ?_
  intro i hi
  simp [go_sem]
  refine ⟨fun h => ?_, fun h => ?_⟩ <;> simp at h
  · have hx : k < (a[i]?.getD []).length := hr _ (by simp [h])
    simp [go_sem, mat_drop h, avs_drop hx]
    refine ⟨⟨h, by rintro rfl; simp at h⟩, ⟨hx, by intro e; simp [e] at hx⟩, ?_⟩
    exact ⟨⟨by omega, by omega⟩, by omega, i + 1, by omega, by omega, Off_reset _ _ _ (by simp), by simp [tb_succ, avs_snoc], by omega⟩
  · have e : i = a.length := by omega
    subst e
    simp [go_sem]
    rfl
theorem column_c (a : List (List Int)) (k : Nat) (hl : a.length ≤ 1048576) (hr : ∀ r ∈ a, k < r.length) (hk : k ≤ 1048576) :
    Con Try.prog 103 [.sl a.length (mat a), .int k] (.own 2 a.length (avs (colS a k))) := by
  refine con_of_vc Try.mixed ⟨8, [], [], []⟩ Try.func103 (by decide) rfl (by simp) (by decide) (by simp [freshOK, freshL, go_sem]) ?_
  rw [Try.ntmps103]
  simp [go_sem]
  refine loop_inv (5 :: 7 :: List.range' 11 12) (fun i : Nat => [(5, .own 2 i (avs (tb (fun i => (a[i]?.getD [])[k]?.getD 0) i))), (11, .int i)]) (fun i => i ≤ a.length) (fun i => a.length - i) 0 (by simp) (by simp [go_sem]) (by simp [go_sem]) ?_
  intro i hi
  simp [go_sem]
  refine ⟨fun h => ?_, fun h => ?_⟩ <;> simp at h
  · have hx : k < (a[i]?.getD []).length := hr _ (by simp [h])
    simp [go_sem, mat_drop h, avs_drop hx]
    refine ⟨⟨h, by rintro rfl; simp at h⟩, ⟨hx, by intro e; simp [e] at hx⟩, ?_⟩
    exact ⟨⟨by omega, by omega⟩, by omega, i + 1, by omega, by omega, Off_reset _ _ _ (by simp), by simp [tb_succ, avs_snoc], by omega⟩
  · have e : i = a.length := by omega
    subst e
    simp [go_sem]
    rfl
theorem omat_range_succ (g : Nat → List Int) (i : Nat) : omat ((List.range (i + 1)).map g) = omat ((List.range i).map g) ++ [.own 2 (g i).length (avs (g i))] := by
  rw [List.range_succ, List.map_append, omat_app]; rfl
theorem l14Turn_c (a : List (List Int)) (hl : a.length ≤ 1048576) (h0 : 0 < a.length) (hr : ∀ r ∈ a, r.length = (a[0]?.getD []).length) (hn : (a[0]?.getD []).length ≤ 1048576) :
    Con Try.prog 81 [.sl a.length (mat a)] (.own 23 (turnS a).length (omat (turnS a))) := by
  rw [turnS_len]
  refine con_of_vc Try.mixed ⟨5, [], [], []⟩ Try.func81 (by decide) rfl (by simp) (by decide) (by simp [freshOK, freshL, go_sem]) ?_
  rw [Try.ntmps81]
  simp [go_sem]
  refine loop_inv (3 :: 4 :: List.range' 6 14) (fun i : Nat => [(3, .own 23 i (omat ((List.range i).map (colS a)))), (4, .int i)]) (fun i => i ≤ (a[0]?.getD []).length) (fun i => (a[0]?.getD []).length - i) 0 (by simp) (by simp [go_sem, omat_nil]) (by simp [go_sem]) ?_
  intro i hi
  have m0 := mat_drop h0
  simp only [List.drop_zero] at m0
  simp [go_sem, m0]
  have m1 : AV.sl (a[0]?.getD []).length (avs (a[0]?.getD [])) :: mat a.tail = mat a := by cases a with | nil => simp at h0 | cons x l => simp [mat]
  simp only [m1]
  refine ⟨h0, ?_⟩
  refine ⟨fun h => ?_, fun h => ?_⟩ <;> simp at h
  · simp [go_sem]
    refine CallVC.of (l01Column_c a i hl (fun r h2 => by rw [hr r h2]; exact h) (by omega)) (by decide) ?_
    simp [go_sem]
    have ho := omat_range_succ (colS a) i
    rw [colS_len] at ho
    exact ⟨⟨by omega, by omega⟩, by omega, i + 1, by omega, by omega, Off_reset _ _ _ (by simp), by rw [ho]; exact ⟨rfl, rfl⟩, by omega⟩
  · have e : i = (a[0]?.getD []).length := by omega
    subst e
    simp [go_sem]
    rfl
theorem turned_c (a : List (List Int)) (hl : a.length ≤ 1048576) (h0 : 0 < a.length) (hr : ∀ r ∈ a, r.length = (a[0]?.getD []).length) (hn : (a[0]?.getD []).length ≤ 1048576) :
    Con Try.prog 70 [.sl a.length (mat a)] (.own 23 (turnS a).length (omat (turnS a))) := by
  rw [turnS_len]
  have m0 := mat_drop h0
  simp only [List.drop_zero] at m0
  refine con_of_vc Try.mixed ⟨5, [], [], []⟩ Try.func70 (by decide) rfl (by simp) (by decide) (by simp [freshOK, freshL, go_sem]) ?_
  rw [Try.ntmps70]
  simp [go_sem]
  simp [go_sem, m0]
  have m1 : AV.sl (a[0]?.getD []).length (avs (a[0]?.getD [])) :: mat a.tail = mat a := by cases a with | nil => simp at h0 | cons x l => simp [mat]
  simp only [m1]
  refine ⟨⟨h0, by rintro rfl; simp at h0⟩, ?_⟩
  refine loop_inv (3 :: 4 :: List.range' 10 10) (fun i : Nat => [(3, .own 23 i (omat ((List.range i).map (colS a)))), (10, .int i)]) (fun i => i ≤ (a[0]?.getD []).length) (fun i => (a[0]?.getD []).length - i) 0 (by simp) (by simp [go_sem, omat_nil]) (by simp [go_sem]) ?_
  intro i hi
  simp [go_sem]
  refine ⟨fun h => ?_, fun h => ?_⟩ <;> simp at h
  · simp [go_sem]
    refine CallVC.of (column_c a i hl (fun r h2 => by rw [hr r h2]; exact h) (by omega)) (by decide) ?_
    simp [go_sem]
    have ho := omat_range_succ (colS a) i
    rw [colS_len] at ho
    exact ⟨⟨by omega, by omega⟩, by omega, i + 1, by omega, by omega, Off_reset _ _ _ (by simp), by rw [ho]; exact ⟨rfl, rfl⟩, by omega⟩
  · have e : i = (a[0]?.getD []).length := by omega
    subst e
    simp [go_sem]
    rfl
theorem cloneRows_c (a : List (List Int)) (hl : a.length ≤ 1048576) (hr : ∀ r ∈ a, r.length ≤ 1048576) :
    Con Try.prog 178 [.sl a.length (mat a)] (.own 23 a.length (omat a)) := by
  refine con_of_vc Try.mixed ⟨6, [], [], []⟩ Try.func178 (by decide) rfl (by simp) (by decide) (by simp [freshOK, freshL, go_sem]) ?_
  rw [Try.ntmps178]
  simp [go_sem]
  refine loop_inv (3 :: 5 :: List.range' 9 10) (fun i : Nat => [(3, .own 23 i (omat (a.take i))), (9, .int i)]) (fun i => i ≤ a.length) (fun i => a.length - i) 0 (by simp) (by simp [go_sem, omat_nil]) (by simp [go_sem]) ?_
  intro i hi
  simp [go_sem]
  refine ⟨fun h => ?_, fun h => ?_⟩ <;> simp at h
  · simp [go_sem, mat_drop h]
    refine ⟨⟨h, by rintro rfl; simp at h⟩, ?_⟩
    refine CallVC.of (Clone_c (a[i]?.getD []) (hr _ (by simp [h]))) (by decide) ?_
    simp [go_sem]
    have ht := omat_take a i h
    refine ⟨⟨by omega, by omega, by omega⟩, by omega, i + 1, by omega, by omega, Off_reset _ _ _ (by simp), by rw [ht]; exact ⟨rfl, rfl⟩, by omega⟩
  · have e : i = a.length := by omega
    subst e
    simp [go_sem]
theorem l01Own2_c (a : List (List Int)) (hl : a.length ≤ 1048576) (hr : ∀ r ∈ a, r.length ≤ 1048576) :
    Con Try.prog 146 [.sl a.length (mat a)] (.own 23 a.length (omat a)) := by
  refine con_of_vc Try.mixed ⟨5, [], [], []⟩ Try.func146 (by decide) rfl (by simp) (by decide) (by simp [freshOK, freshL, go_sem]) ?_
  rw [Try.ntmps146]
  simp [go_sem]
  refine loop_inv (3 :: 4 :: List.range' 6 14) (fun i : Nat => [(3, .own 23 i (omat (a.take i))), (4, .int i)]) (fun i => i ≤ a.length) (fun i => a.length - i) 0 (by simp) (by simp [go_sem, omat_nil]) (by simp [go_sem]) ?_
  intro i hi
  simp [go_sem]
  refine ⟨fun h => ?_, fun h => ?_⟩ <;> simp at h
  · simp [go_sem, mat_drop h]
    refine ⟨⟨h, by rintro rfl; simp at h⟩, ?_⟩
    refine CallVC.of (l01Own_c (a[i]?.getD []) (by have := hr _ (show a[i]?.getD [] ∈ a by simp [h]); omega)) (by decide) ?_
    simp [go_sem]
    have ht := omat_take a i h
    refine ⟨⟨by omega, by omega, by omega⟩, by omega, i + 1, by omega, by omega, Off_reset _ _ _ (by simp), by rw [ht]; exact ⟨rfl, rfl⟩, by omega⟩
  · have e : i = a.length := by omega
    subst e
    simp [go_sem]
end Go.Proofs.Ytngakdgkeemjhaa

/- Contracts: series raised by one degree. -/
namespace Go.Proofs.Ytngakdgkeemjhaa
open Go.Abs
set_option linter.unusedVariables false
set_option linter.unusedSimpArgs false
set_option maxHeartbeats 1000000
/-- A series raised by one degree, its last number dropped; the same by a factor. -/
def raiS (a : List Int) : List Int := tb (fun i => if i = 0 then 0 else a[i - 1]?.getD 0) a.length
@[simp] theorem raiS_len (a : List Int) : (raiS a).length = a.length := by simp [raiS]
theorem raiS_N {a : List Int} (h : Ns a) : Ns (raiS a) := tb_N fun i _ => by split; exact ⟨by omega, by omega⟩; exact h.get _
def rakS (a : List Int) (k : Int) : List Int := tb (fun i => if i = 0 then 0 else a[i - 1]?.getD 0 * k % 10007) a.length
@[simp] theorem rakS_len (a : List Int) (k : Int) : (rakS a k).length = a.length := by simp [rakS]
theorem rakS_N (a : List Int) (k : Int) : Ns (rakS a k) := tb_N fun i _ => by split; exact ⟨by omega, by omega⟩; exact isN_mod _
theorem raiS_eq {a : List Int} (h : 0 < a.length) : raiS a = 0 :: a.take (a.length - 1) := by
  refine List.ext_getElem (by simp; omega) fun i h1 h2 => ?_
  cases i with
  | zero => simp [raiS, tb]
  | succ j =>
    simp only [raiS, tb, List.getElem_map, List.getElem_range, List.getElem_cons_succ, List.getElem_take]
    simp at h2
    have : j < a.length := by omega
    simp [this]
theorem raised_c (a : List Int) (hl : a.length ≤ 1048576) (h0 : 0 < a.length) :
    Con Try.prog 179 [.sl a.length (avs a)] (.own 2 a.length (avs (raiS a))) := by
  rw [raiS_eq h0]
  refine con_of_vc Try.mixed ⟨3, [], [], []⟩ Try.func179 (by decide) rfl (by simp) (by decide) (by simp [freshOK, freshL, go_sem]) ?_
  rw [Try.ntmps179]
  simp [go_sem]
  exact ⟨⟨by omega, by omega⟩, ⟨by omega, by omega⟩, ⟨by omega, by omega⟩, by omega, by simp [avs, List.map_take]⟩
theorem l14Raise_c (a : List Int) (k : Int) (ha : Ns a) (hk : isN k) (hl : a.length ≤ 1048576) (h0 : 0 < a.length) :
    Con Try.prog 149 [.sl a.length (avs a), .int k] (.own 2 a.length (avs (rakS a k))) := by
  refine con_of_vc Try.mixed ⟨7, [], [], []⟩ Try.func149 (by decide) rfl (by simp) (by decide) (by simp [freshOK, freshL, go_sem]) ?_
  rw [Try.ntmps149]
  simp [go_sem]
  refine loop_inv (5 :: 6 :: List.range' 8 16) (fun i : Nat => [(5, .own 2 (i + 1) (avs (tb (fun i => if i = 0 then 0 else a[i - 1]?.getD 0 * k % 10007) (i + 1)))), (6, .int i)]) (fun i => i + 1 ≤ a.length) (fun i => a.length - i) 0 (by simp; omega) (by simp [go_sem, tb, avs]) (by simp [go_sem]) ?_
  intro i hi
  simp [go_sem]
  refine ⟨by omega, ?_⟩
  refine ⟨fun h => ?_, fun h => ?_⟩ <;> simp at h
  · have hi2 : i < a.length := by omega
    simp [go_sem, avs_drop hi2]
    refine ⟨⟨hi2, by rintro rfl; simp at hi2⟩, ?_⟩
    refine CallVC.of (l01Mul_c _ _ (mul_fits (ha.get i) hk)) (by decide) ?_
    simp [go_sem]
    refine ⟨⟨by omega, by omega⟩, by omega, i + 1, by omega, by omega, Off_reset _ _ _ (by simp), ?_, by omega⟩
    simp [tb_succ, avs]
  · have e : i + 1 = a.length := by omega
    simp [go_sem]
    exact ⟨e, by rw [e]; rfl⟩
/-- Lists of lists of rows: owned and frozen. -/
def ocube (X : List (List (List Int))) : List AV := X.map fun m => .own 23 m.length (omat m)
def cube (X : List (List (List Int))) : List AV := X.map fun m => .sl m.length (mat m)
@[simp] theorem ocube_len (X : List (List (List Int))) : (ocube X).length = X.length := by simp [ocube]
@[simp] theorem cube_len (X : List (List (List Int))) : (cube X).length = X.length := by simp [cube]
@[simp] theorem cube_ne {X : List (List (List Int))} : (cube X = []) = (X = []) := by cases X <;> simp [cube]
@[simp] theorem ocube_frz : ∀ X : List (List (List Int)), frzL (ocube X) = cube X
  | [] => rfl
  | m :: X => by
    have := ocube_frz X
    simp only [ocube, cube, List.map_cons] at this ⊢
    rw [frzL, this]
    simp [frz]
@[simp] theorem ocube_fresh : ∀ X : List (List (List Int)), freshL (ocube X) = true
  | [] => rfl
  | m :: X => by
    have := ocube_fresh X
    simp only [ocube, List.map_cons] at this ⊢
    rw [freshL, this]
    simp [freshOK]
theorem cube_drop {X : List (List (List Int))} {k : Nat} (h : k < X.length) : (cube X).drop k = .sl (X[k]?.getD []).length (mat (X[k]?.getD [])) :: cube (X.drop (k + 1)) := by
  rw [cube, ← List.map_drop, List.drop_eq_getElem_cons h, List.map_cons]; simp [h, cube]
theorem ocube_app (A C : List (List (List Int))) : ocube (A ++ C) = ocube A ++ ocube C := by simp [ocube]
theorem ocube_one (r : List (List Int)) : ocube [r] = [.own 23 r.length (omat r)] := rfl
end Go.Proofs.Ytngakdgkeemjhaa

/- Contracts: series moved by slopes, the program's and the reference's. -/
namespace Go.Proofs.Ytngakdgkeemjhaa
open Go.Abs
set_option linter.unusedVariables false
set_option linter.unusedSimpArgs false
set_option maxHeartbeats 1000000
/-- Series after some slopes, each with its factor; and within a round. -/
def mvS (start : List (List Int)) (c : List Int) (L : List (List (List Int))) : Nat → List (List Int)
  | 0 => start
  | i + 1 => (List.range start.length).map fun k => plusS ((mvS start c L i)[k]?.getD []) (raiS ((L[i]?.getD [])[k]?.getD [])) (c[i]?.getD 0)
theorem mvS_len (start : List (List Int)) (c : List Int) (L : List (List (List Int))) : ∀ i, (mvS start c L i).length = start.length
  | 0 => rfl
  | i + 1 => by simp [mvS]
theorem mvS_row {start : List (List Int)} {c : List Int} {L : List (List (List Int))} {n : Nat} (h : ∀ r ∈ start, r.length = n ∧ Ns r) : ∀ i, ∀ r ∈ mvS start c L i, r.length = n ∧ Ns r
  | 0 => h
  | i + 1 => by
    intro r hr
    rw [mvS] at hr
    obtain ⟨k, hk, rfl⟩ := List.mem_map.1 hr
    have hk : k < start.length := by simpa using hk
    have hm : (mvS start c L i)[k]?.getD [] ∈ mvS start c L i := by simp [mvS_len, hk]
    exact ⟨by rw [plusS_len]; exact (mvS_row h i _ hm).1, plusS_N _ _ _⟩
def mxS (A C : List (List Int)) (j : Nat) : List (List Int) := (List.range A.length).map fun k => if k < j then C[k]?.getD [] else A[k]?.getD []
theorem mxS_zero (A C : List (List Int)) : mxS A C 0 = A := by
  refine List.ext_getElem (by simp [mxS]) fun i h1 h2 => ?_
  simp [mxS, h2]
theorem mxS_all {A C : List (List Int)} (h : C.length = A.length) : mxS A C A.length = C := by
  refine List.ext_getElem (by simp [mxS, h]) fun i h1 h2 => ?_
  simp [mxS, show i < A.length by omega, h2]
@[simp] theorem mxS_len (A C : List (List Int)) (j : Nat) : (mxS A C j).length = A.length := by simp [mxS]
theorem mxS_get {A C : List (List Int)} {j : Nat} (h : j < A.length) : (mxS A C j)[j]?.getD [] = A[j]?.getD [] := by simp [mxS, h]
theorem mxS_set {A C : List (List Int)} {j : Nat} (h : j < A.length) : (mxS A C j).set j (C[j]?.getD []) = mxS A C (j + 1) := by
  refine List.ext_getElem (by simp) fun i h1 h2 => ?_
  simp at h1
  rw [List.getElem_set]
  by_cases e : j = i
  · subst e; simp [mxS]
  · simp only [e, if_false, mxS, List.getElem_map, List.getElem_range]
    by_cases h3 : i < j
    · simp [h3, show i < j + 1 by omega]
    · simp [h3, show ¬ i < j + 1 by omega]
set_option maxRecDepth 100000 in
theorem moved_c (start : List (List Int)) (c : List Int) (L : List (List (List Int))) (n : Nat) (hn : 0 < n) (hn8 : n ≤ 8) (hs : ∀ r ∈ start, r.length = n ∧ Ns r) (hl : start.length ≤ 1048576) (hc : c.length ≤ 8) (hcL : c.length ≤ L.length) (hcN : Ns c) (hL : ∀ m ∈ L, m.length = start.length ∧ ∀ r ∈ m, r.length = n ∧ Ns r) (hLl : L.length ≤ 1048576) :
    Con Try.prog 138 [.sl start.length (mat start), .sl c.length (avs c), .sl L.length (cube L)] (.own 23 start.length (omat (mvS start c L c.length))) := by
  refine con_of_vc Try.mixed ⟨11, [], [], []⟩ Try.func138 (by decide) rfl (by simp) (by decide) (by simp [freshOK, freshL, go_sem]) ?_
  rw [Try.ntmps138]
  simp [go_sem]
  refine CallVC.of (cloneRows_c start hl (fun r hr => by have := (hs r hr).1; omega)) (by decide) ?_
  simp [go_sem]
  refine loop_inv (7 :: 8 :: 9 :: 10 :: List.range' 15 29) (fun i : Nat => [(7, .own 23 start.length (omat (mvS start c L i))), (15, .int i)]) (fun i => i ≤ c.length) (fun i => c.length - i) 0 (by simp) (by simp [go_sem, mvS]) (by simp [go_sem]) ?_
  intro i hi
  simp [go_sem]
  refine ⟨fun h => ?_, fun h => ?_⟩ <;> simp at h
  · have hic := h
    have hiL : i < L.length := by omega
    simp [go_sem, avs_drop hic]
    refine ⟨⟨hic, by rintro rfl; simp at hic⟩, ?_⟩
    refine loop_inv (7 :: 10 :: List.range' 22 21) (fun j : Nat => [(7, .own 23 start.length (omat (mxS (mvS start c L i) (mvS start c L (i + 1)) j))), (22, .int j)]) (fun j => j ≤ start.length) (fun j => start.length - j) 0 (by simp) (by simp [go_sem, mxS_zero]) (by simp [go_sem]) ?_
    intro j hj
    simp [go_sem]
    refine ⟨fun h => ?_, fun h => ?_⟩ <;> simp at h
    · have hjs := h
      have hM : j < (mxS (mvS start c L i) (mvS start c L (i + 1)) j).length := by rw [mxS_len, mvS_len]; exact hjs
      have hg := omat_get hM
      have hj2 : j < (mvS start c L i).length := by rw [mvS_len]; exact hjs
      rw [mxS_get hj2] at hg
      have hx := hL (L[i]?.getD []) (by simp [hiL])
      have hjL : j < (L[i]?.getD []).length := by omega
      have hy := hx.2 ((L[i]?.getD [])[j]?.getD []) (by simp [hjL])
      have hz := mvS_row (c := c) (L := L) hs i ((mvS start c L i)[j]?.getD []) (by simp [hj2])
      have hset := omat_set (mxS (mvS start c L i) (mvS start c L (i + 1)) j) j ((mvS start c L (i + 1))[j]?.getD [])
      have hnext : (mvS start c L (i + 1))[j]?.getD [] = plusS ((mvS start c L i)[j]?.getD []) (raiS ((L[i]?.getD [])[j]?.getD [])) (c[i]?.getD 0) := by simp [mvS, hjs]
      rw [mxS_set hj2] at hset
      have cR := raised_c ((L[i]?.getD [])[j]?.getD []) (by omega) (by omega)
      have ck := hcN.get i
      have cP := plus_c ((mvS start c L i)[j]?.getD []) (raiS ((L[i]?.getD [])[j]?.getD [])) (c[i]?.getD 0) hz.2 (raiS_N hy.2) (by obtain ⟨x0, x1⟩ := ck; exact ⟨by omega, by omega⟩) (by omega) (by simp; omega)
      rw [raiS_len] at cP
      rw [← hnext] at cP
      rw [hnext, plusS_len, ← hnext] at hset
      generalize mxS (mvS start c L i) (mvS start c L (i + 1)) j = M at *
      generalize (mvS start c L (i + 1))[j]?.getD [] = new at *
      generalize (mvS start c L i)[j]?.getD [] = old at *
      simp [go_sem, hg, cube_drop hiL, mat_drop hjL]
      refine ⟨by kernel_rfl, hjs, ⟨hiL, by rintro rfl; simp at hiL⟩, ⟨hjL, by intro e; simp [e] at hjL⟩, ?_⟩
      refine CallD.of (cR) (by simp [roots, rootsL]) (by decide) ?_
      simp [go_sem]
      simp [go_sem, hg]
      refine CallD.of (cP) (by simp [roots, rootsL]) (by decide) ?_
      simp [go_sem]
      refine ⟨hjs, hM, ?_⟩
      refine ⟨by kernel_rfl, ?_⟩
      simp [go_sem]
      refine ⟨by omega, j + 1, by omega, by omega, Off_reset _ _ _ (by simp), ?_⟩
      rw [← hset]
      exact ⟨rfl, by omega⟩
    · have e : j = start.length := by omega
      have hall := mxS_all (A := mvS start c L i) (C := mvS start c L (i + 1)) (by rw [mvS_len, mvS_len])
      rw [mvS_len] at hall
      subst e
      simp [go_sem]
      exact ⟨by omega, i + 1, by omega, by omega, (Off.reset (by intro x hx; simp at hx ⊢; omega) (by simp) (by simp [go_sem, Off_reset])), by rw [hall], by omega⟩
  · have e : i = c.length := by omega
    subst e
    simp [go_sem]
end Go.Proofs.Ytngakdgkeemjhaa

/- Contracts: series moved by slopes, the reference's. -/
namespace Go.Proofs.Ytngakdgkeemjhaa
open Go.Abs
set_option linter.unusedVariables false
set_option linter.unusedSimpArgs false
set_option maxHeartbeats 1000000
theorem add_rak {a b : List Int} {k : Int} (hk : isN k) (h : a.length ≤ b.length) :
    tb (fun i => (a[i]?.getD 0 + (rakS b k)[i]?.getD 0) % 10007) a.length = plusS a (raiS b) k := by
  unfold plusS tb
  refine List.map_congr_left fun i hi => ?_
  have hi2 : i < b.length := by simp at hi; omega
  have e := tb_get (fun i => if i = 0 then 0 else b[i - 1]?.getD 0 * k % 10007) hi2
  have e2 := tb_get (fun i => if i = 0 then 0 else b[i - 1]?.getD 0) hi2
  have e3 : (rakS b k)[i]?.getD 0 = if i = 0 then 0 else b[i - 1]?.getD 0 * k % 10007 := e
  have e4 : (raiS b)[i]?.getD 0 = if i = 0 then 0 else b[i - 1]?.getD 0 := e2
  rw [e3, e4, Int.emod_eq_of_lt hk.1 (by have := hk.2; omega), Int.mul_comm k]
  split
  · simp
  · omega
set_option maxRecDepth 100000 in
theorem l15Sum_c (start : List (List Int)) (c : List Int) (L : List (List (List Int))) (n : Nat) (hn : 0 < n) (hn8 : n ≤ 8) (hs : ∀ r ∈ start, r.length = n ∧ Ns r) (hl : start.length ≤ 1048576) (hc : c.length ≤ 8) (hcL : L.length ≤ c.length) (hcN : Ns c) (hL : ∀ m ∈ L, m.length = start.length ∧ ∀ r ∈ m, r.length = n ∧ Ns r) (hLl : L.length ≤ 1048576) :
    Con Try.prog 128 [.sl start.length (mat start), .sl L.length (cube L), .sl c.length (avs c)] (.own 23 start.length (omat (mvS start c L L.length))) := by
  refine con_of_vc Try.mixed ⟨10, [], [], []⟩ Try.func128 (by decide) rfl (by simp) (by decide) (by simp [freshOK, freshL, go_sem]) ?_
  rw [Try.ntmps128]
  simp [go_sem]
  refine CallVC.of (l01Own2_c start hl (fun r hr => by have := (hs r hr).1; omega)) (by decide) ?_
  simp [go_sem]
  refine loop_inv (7 :: 8 :: 9 :: List.range' 12 32) (fun i : Nat => [(7, .own 23 start.length (omat (mvS start c L i))), (8, .int i)]) (fun i => i ≤ L.length) (fun i => L.length - i) 0 (by simp) (by simp [go_sem, mvS]) (by simp [go_sem]) ?_
  intro i hi
  simp [go_sem]
  refine ⟨fun h => ?_, fun h => ?_⟩ <;> simp at h
  · have hiL : i < L.length := by omega
    have hic : i < c.length := by omega
    simp [go_sem]
    refine loop_inv (7 :: 9 :: List.range' 18 26) (fun j : Nat => [(7, .own 23 start.length (omat (mxS (mvS start c L i) (mvS start c L (i + 1)) j))), (9, .int j)]) (fun j => j ≤ start.length) (fun j => start.length - j) 0 (by simp) (by simp [go_sem, mxS_zero]) (by simp [go_sem]) ?_
    intro j hj
    simp [go_sem]
    refine ⟨fun h => ?_, fun h => ?_⟩ <;> simp at h
    · have hjs := h
      have hM : j < (mxS (mvS start c L i) (mvS start c L (i + 1)) j).length := by rw [mxS_len, mvS_len]; exact hjs
      have hg := omat_get hM
      have hj2 : j < (mvS start c L i).length := by rw [mvS_len]; exact hjs
      rw [mxS_get hj2] at hg
      have hx := hL (L[i]?.getD []) (by simp [hiL])
      have hjL : j < (L[i]?.getD []).length := by omega
      have hy := hx.2 ((L[i]?.getD [])[j]?.getD []) (by simp [hjL])
      have hz := mvS_row (c := c) (L := L) hs i ((mvS start c L i)[j]?.getD []) (by simp [hj2])
      have hset := omat_set (mxS (mvS start c L i) (mvS start c L (i + 1)) j) j ((mvS start c L (i + 1))[j]?.getD [])
      have hnext : (mvS start c L (i + 1))[j]?.getD [] = plusS ((mvS start c L i)[j]?.getD []) (raiS ((L[i]?.getD [])[j]?.getD [])) (c[i]?.getD 0) := by simp [mvS, hjs]
      rw [mxS_set hj2] at hset
      have ck := hcN.get i
      have cR := l14Raise_c ((L[i]?.getD [])[j]?.getD []) (c[i]?.getD 0) hy.2 ck (by omega) (by omega)
      have cP := l02Add_c ((mvS start c L i)[j]?.getD []) (rakS ((L[i]?.getD [])[j]?.getD []) (c[i]?.getD 0)) hz.2 (rakS_N _ _) (by omega) (by simp; omega)
      rw [rakS_len, add_rak ck (by omega)] at cP
      rw [← hnext] at cP
      rw [hnext, plusS_len, ← hnext] at hset
      generalize mxS (mvS start c L i) (mvS start c L (i + 1)) j = M at *
      generalize (mvS start c L (i + 1))[j]?.getD [] = new at *
      generalize (mvS start c L i)[j]?.getD [] = old at *
      simp [go_sem, hg, cube_drop hiL, mat_drop hjL, avs_drop hic]
      refine ⟨by kernel_rfl, hjs, ⟨hiL, by rintro rfl; simp at hiL⟩, ⟨hjL, by intro e; simp [e] at hjL⟩, ⟨hic, by rintro rfl; simp at hic⟩, ?_⟩
      refine CallD.of (cR) (by simp [roots, rootsL]) (by decide) ?_
      simp [go_sem]
      simp [go_sem, hg]
      refine CallD.of (cP) (by simp [roots, rootsL]) (by decide) ?_
      simp [go_sem]
      refine ⟨hjs, hM, ?_⟩
      refine ⟨by kernel_rfl, ?_⟩
      simp [go_sem]
      refine ⟨by omega, j + 1, by omega, by omega, Off_reset _ _ _ (by simp), ?_⟩
      rw [← hset]
      exact ⟨rfl, by omega⟩
    · have e : j = start.length := by omega
      have hall := mxS_all (A := mvS start c L i) (C := mvS start c L (i + 1)) (by rw [mvS_len, mvS_len])
      rw [mvS_len] at hall
      subst e
      simp [go_sem]
      exact ⟨by omega, i + 1, by omega, by omega, (Off.reset (by intro x hx; simp at hx ⊢; omega) (by simp) (by simp [go_sem, Off_reset])), by rw [hall], by omega⟩
  · have e : i = L.length := by omega
    subst e
    simp [go_sem]
end Go.Proofs.Ytngakdgkeemjhaa

/- Contracts: the program's product of series. -/
namespace Go.Proofs.Ytngakdgkeemjhaa
open Go.Abs
set_option linter.unusedVariables false
set_option linter.unusedSimpArgs false
set_option maxHeartbeats 1000000
/-- The product while its terms are gathered: i factors of a done, j terms of the next. -/
def tmN (i j n : Nat) : Nat := if i ≤ n then (if n < i + j then i + 1 else i) else n + 1
def tmS (a b : List Int) (i j : Nat) : List Int := tb (fun n => cv a b n (tmN i j n) % 10007) a.length
@[simp] theorem tmS_len (a b : List Int) (i j : Nat) : (tmS a b i j).length = a.length := by simp [tmS]
theorem tmS_N (a b : List Int) (i j : Nat) : Ns (tmS a b i j) := tb_N fun i _ => isN_mod _
theorem tmS_zero (a b : List Int) : tmS a b 0 0 = List.replicate a.length 0 := by
  refine List.ext_getElem (by simp) fun n h1 h2 => ?_
  simp [tmS, tb, tmN, cv]
theorem tmS_next (a b : List Int) (i j : Nat) (h : a.length ≤ i + j) : tmS a b i j = tmS a b (i + 1) 0 := by
  unfold tmS tb
  refine List.map_congr_left fun n hn => ?_
  have hn : n < a.length := by simpa using hn
  have e : tmN i j n = tmN (i + 1) 0 n := by unfold tmN; (repeat' split) <;> omega
  rw [e]
theorem tmS_end (a b : List Int) : tmS a b a.length 0 = mulS a b := by
  unfold tmS mulS tb
  refine List.map_congr_left fun n hn => ?_
  have hn : n < a.length := by simpa using hn
  have e : tmN a.length 0 n = n + 1 := by unfold tmN; split <;> omega
  rw [e]
theorem tmS_set (a b : List Int) (i j : Nat) (h : i + j < a.length) : (tmS a b i j).set (i + j) (((tmS a b i j)[i + j]?.getD 0 + a[i]?.getD 0 * b[j]?.getD 0) % 10007) = tmS a b i (j + 1) := by
  refine List.ext_getElem (by simp) fun n h1 h2 => ?_
  simp at h1
  rw [List.getElem_set]
  by_cases e : i + j = n
  · subst e
    have e1 : tmN i j (i + j) = i := by unfold tmN; (repeat' split) <;> omega
    have e2 : tmN i (j + 1) (i + j) = i + 1 := by unfold tmN; (repeat' split) <;> omega
    have e3 : i + j - i = j := by omega
    have g := tb_get (fun n => cv a b n (tmN i j n) % 10007) h
    have g2 : (tmS a b i j)[i + j]?.getD 0 = cv a b (i + j) (tmN i j (i + j)) % 10007 := g
    simp only [if_true, g2, e1]
    simp only [tmS, tb, List.getElem_map, List.getElem_range, e2, cv, e3]
    omega
  · have e1 : tmN i j n = tmN i (j + 1) n := by unfold tmN; (repeat' split) <;> omega
    simp only [e, if_false, tmS, tb, List.getElem_map, List.getElem_range, e1]
set_option maxRecDepth 100000 in
theorem timesSeries_c (a b : List Int) (ha : Ns a) (hb : Ns b) (hl : a.length ≤ 1048576) (hab : a.length ≤ b.length) :
    Con Try.prog 187 [.sl a.length (avs a), .sl b.length (avs b)] (.own 2 a.length (avs (mulS a b))) := by
  refine con_of_vc Try.mixed ⟨9, [], [], []⟩ Try.func187 (by decide) rfl (by simp) (by decide) (by simp [freshOK, freshL, go_sem]) ?_
  rw [Try.ntmps187]
  simp [go_sem]
  refine ⟨by omega, ?_⟩
  refine loop_inv (5 :: 6 :: 7 :: 8 :: List.range' 14 33) (fun i : Nat => [(5, .own 2 a.length (avs (tmS a b i 0))), (14, .int i)]) (fun i => i ≤ a.length) (fun i => a.length - i) 0 (by simp) (by simp [go_sem, tmS_zero, avs_repl]) (by simp [go_sem]) ?_
  intro i hi
  simp [go_sem]
  refine ⟨fun h => ?_, fun h => ?_⟩ <;> simp at h
  · have hi2 := h
    simp [go_sem, avs_drop hi2]
    refine ⟨⟨hi2, by rintro rfl; simp at hi2⟩, ?_⟩
    refine loop_inv (5 :: 8 :: List.range' 19 27) (fun j : Nat => [(5, .own 2 a.length (avs (tmS a b i j))), (8, .int j)]) (fun j => i + j ≤ a.length) (fun j => a.length - j) 0 (by simp; omega) (by simp [go_sem]) (by simp [go_sem]) ?_
    intro j hj
    simp [go_sem]
    refine ⟨⟨by omega, by omega⟩, ?_⟩
    refine ⟨fun h => ?_, fun h => ?_⟩ <;> simp at h
    · have k0 : i + j < a.length := by omega
      have k1 : j < b.length := by omega
      have k2 : i + j < (tmS a b i j).length := by rw [tmS_len]; exact k0
      have hset := tmS_set a b i j k0
      have tN := (tmS_N a b i j).get (i + j)
      have m1 := mul_fits (ha.get i) (hb.get j)
      have m2 : fits ((tmS a b i j)[i + j]?.getD 0 + a[i]?.getD 0 * b[j]?.getD 0) := by
        have x0 := mul_bound (ha.get i) (hb.get j)
        obtain ⟨y0, y1⟩ := tN
        exact ⟨by omega, by omega⟩
      have ij : ((i : Int) + j).toNat = i + j := by omega
      simp [go_sem, ij, avs_drop k1, avs_at k2]
      refine ⟨by kernel_rfl, ⟨by omega, by omega⟩, ⟨by omega, by omega⟩, ⟨k1, by intro e; simp [e] at k1⟩, m1, m2, ?_⟩
      refine CallD.of (num_c _ m2.1 m2.2) (by simp [roots, rootsL]) (by decide) ?_
      simp [go_sem]
      refine ⟨⟨by omega, by omega⟩, by omega, ?_⟩
      refine ⟨by kernel_rfl, ?_⟩
      simp [go_sem]
      exact ⟨by omega, j + 1, by omega, by omega, Off_reset _ _ _ (by simp), by rw [ij, avs_set, hset], by omega⟩
    · have hx : a.length ≤ i + j := by omega
      have hn := tmS_next a b i j hx
      simp [go_sem]
      exact ⟨by omega, i + 1, by omega, by omega, (Off.reset (by intro x hx; simp at hx ⊢; omega) (by simp) (by simp [go_sem, Off_reset])), by rw [hn], by omega⟩
  · have e : i = a.length := by omega
    subst e
    simp [go_sem]
    exact tmS_end a b
end Go.Proofs.Ytngakdgkeemjhaa

/- Plain: series of monomials and of lists of monomials at series. -/
namespace Go.Proofs.Ytngakdgkeemjhaa
open Go.Abs
set_option linter.unusedVariables false
set_option linter.unusedSimpArgs false
set_option maxHeartbeats 1000000
def pwS (s x : List Int) : Nat → List Int
  | 0 => s
  | n + 1 => mulS (pwS s x n) x
@[simp] theorem pwS_len (s x : List Int) : ∀ n, (pwS s x n).length = s.length
  | 0 => rfl
  | n + 1 => by rw [pwS, mulS_len, pwS_len s x n]
theorem pwS_N {s x : List Int} (h : Ns s) : ∀ n, Ns (pwS s x n)
  | 0 => h
  | n + 1 => mulS_N _ _
/-- A monomial at series: the first i series taken in. -/
def teS (L : List (List Int)) (e : List Int) (s : List Int) : Nat → List Int
  | 0 => s
  | i + 1 => pwS (teS L e s i) (L[i]?.getD []) (e[i]?.getD 0).toNat
@[simp] theorem teS_len (L : List (List Int)) (e s : List Int) : ∀ i, (teS L e s i).length = s.length
  | 0 => rfl
  | i + 1 => by rw [teS, pwS_len, teS_len L e s i]
theorem teS_N {L : List (List Int)} {e s : List Int} (h : Ns s) : ∀ i, Ns (teS L e s i)
  | 0 => h
  | i + 1 => pwS_N (teS_N h i) _
theorem teS_congr {L : List (List Int)} {e e' s : List Int} : ∀ {n : Nat}, (∀ i, i < n → e[i]?.getD 0 = e'[i]?.getD 0) → teS L e s n = teS L e' s n
  | 0, _ => rfl
  | n + 1, h => by rw [teS, teS, teS_congr (fun i hi => h i (by omega)), h n (by omega)]
def unS (a : Int) : List Int := [a, 0, 0, 0, 0, 0, 0]
theorem unS_N {a : Int} (h : isN a) : Ns (unS a) := by
  intro x hx
  simp [unS] at hx
  rcases hx with rfl | rfl
  · exact h
  · exact ⟨by omega, by omega⟩
def teK (L : List (List Int)) (k : Key) (x : Int) : List Int := teS L [k.1, k.2.1, k.2.2] (unS x) L.length
/-- The n-th numbers of the terms of a map's entries, of a list's monomials, added up. -/
def reS (L : List (List Int)) (n : Nat) : List (Key × Int) → Int
  | [] => 0
  | e :: es => (teK L e.1 e.2)[n]?.getD 0 + reS L n es
def voS (L : List (List Int)) (n : Nat) : List Mon → Int
  | [] => 0
  | m :: p => (teS L m.2 (unS m.1) L.length)[n]?.getD 0 + voS L n p
theorem reS_app (L : List (List Int)) (n : Nat) (a b : List (Key × Int)) : reS L n (a ++ b) = reS L n a + reS L n b := by
  induction a with
  | nil => simp [reS]
  | cons e a ih => simp [reS, ih]; omega
theorem reS_perm (L : List (List Int)) (n : Nat) {a b : List (Key × Int)} (h : a.Perm b) : reS L n a = reS L n b := by
  induction h with
  | nil => rfl
  | cons x _ ih => simp [reS, ih]
  | swap x z l => simp [reS]; omega
  | trans _ _ i1 i2 => rw [i1, i2]
theorem teK_of {L : List (List Int)} (hl : L.length ≤ 3) (m : Mon) : teK L (keyOf m.2) m.1 = teS L m.2 (unS m.1) L.length := by
  refine teS_congr (fun i hi => ?_)
  have : i = 0 ∨ i = 1 ∨ i = 2 := by omega
  rcases this with rfl | rfl | rfl <;> simp [keyOf]
theorem reS_map {L : List (List Int)} (hl : L.length ≤ 3) (n : Nat) : ∀ p : List Mon, reS L n (p.map keyM) = voS L n p
  | [] => rfl
  | m :: p => by
    rw [List.map_cons, reS, voS, reS_map hl n p]
    have := teK_of hl m
    simp only [keyM]
    rw [this]
/-- A list of monomials at series. -/
def evS (L : List (List Int)) (p : List Mon) : List Int := tb (fun n => voS L n p % 10007) 7
@[simp] theorem evS_len (L : List (List Int)) (p : List Mon) : (evS L p).length = 7 := by simp [evS]
theorem evS_N (L : List (List Int)) (p : List Mon) : Ns (evS L p) := tb_N fun i _ => isN_mod _
end Go.Proofs.Ytngakdgkeemjhaa

/- Contracts: series of polynomials held in maps. -/
namespace Go.Proofs.Ytngakdgkeemjhaa
open Go.Abs
set_option linter.unusedVariables false
set_option linter.unusedSimpArgs false
set_option maxHeartbeats 1000000
set_option maxRecDepth 100000 in
theorem series_c (c : Key → Option Int) (L : List (List Int)) (T : Nat → Int) (hL : L.length ≤ 3) (hr : ∀ r ∈ L, r.length = 7 ∧ Ns r) (hc : ∀ k x, c k = some x → EOk (k, x)) (hE : ∀ es, Enum c es → ∀ n, reS L n es % 10007 = T n) :
    Con Try.prog 181 [.fmp c, .sl L.length (mat L)] (.own 2 7 (avs (tb T 7))) := by
  refine con_of_vc Try.mixed ⟨11, [], [], []⟩ Try.func181 (by decide) rfl (by simp) (by decide) (by simp [freshOK, freshL, go_sem]) ?_
  rw [Try.ntmps181]
  simp [go_sem]
  intro es hes
  have hok : ∀ e ∈ es, EOk e := fun e he => hc e.1 e.2 (hes.val e he)
  have hsum := hE es hes
  refine loop_inv (5 :: 6 :: 7 :: 8 :: 9 :: 10 :: List.range' 13 30) (fun x : List Int × Option (Key × Int) × List (Key × Int) => [(5, .own 2 7 (avs x.1)), (13, .it x.2.1 x.2.2)]) (fun x => x.1.length = 7 ∧ Ns x.1 ∧ (∀ n, n < 7 → (x.1[n]?.getD 0 + reS L n x.2.2) % 10007 = T n) ∧ ∀ e ∈ x.2.2, EOk e) (fun x => x.2.2.length) ([0, 0, 0, 0, 0, 0, 0], none, es) ?_ ?_ (by simp [go_sem]) ?_
  · refine ⟨rfl, ?_, fun n _ => ?_, hok⟩
    · intro x hx
      simp at hx; subst hx; exact ⟨by omega, by omega⟩
    · have e : ([0, 0, 0, 0, 0, 0, 0] : List Int)[n]?.getD 0 = 0 := by
        rcases Nat.lt_or_ge n 7 with h | h
        · have : n = 0 ∨ n = 1 ∨ n = 2 ∨ n = 3 ∨ n = 4 ∨ n = 5 ∨ n = 6 := by omega
          rcases this with rfl | rfl | rfl | rfl | rfl | rfl | rfl <;> rfl
        · simp [List.getElem?_eq_none, h]
      simp only [e, Int.zero_add]
      exact hsum n
  · simp [go_sem, avs]
  rintro ⟨o, l, rem⟩ ⟨ho, hoN, hoT, hrem⟩
  simp only at ho hoN hoT hrem
  simp [go_sem, keyAV]
  refine ⟨fun hr => ?_, fun l1 k0 k1 k2 x l2 hr2 => ?_⟩
  · subst hr
    refine List.ext_getElem (by simp [ho]) fun n h1 h2 => ?_
    have h7 : n < 7 := by omega
    have t := hoT n h7
    have oN := hoN.get n
    simp only [reS, Int.add_zero] at t
    rw [Int.emod_eq_of_lt oN.1 (by have := oN.2; omega)] at t
    simpa [tb, h1] using t
  · subst hr2
    have hek := hrem ((k0, k1, k2), x) (by simp)
    have hx : isN x := hek.1
    have hg : ∀ i : Nat, 0 ≤ ([k0, k1, k2] : List Int)[i]?.getD 0 ∧ ([k0, k1, k2] : List Int)[i]?.getD 0 ≤ 1000 := by
      intro i
      obtain ⟨_, a1, a2, a3, a4, a5, a6⟩ := hek
      match i with
      | 0 => exact ⟨a1, a2⟩
      | 1 => exact ⟨a3, a4⟩
      | 2 => exact ⟨a5, a6⟩
      | i + 3 => simp
    have hu := unS_N hx
    refine loop_inv (8 :: 9 :: 10 :: List.range' 25 15) (fun i : Nat => [(8, .own 2 7 (avs (teS L [k0, k1, k2] (unS x) i))), (25, .int i)]) (fun i => i ≤ L.length) (fun i => L.length - i) 0 (by simp) (by simp [go_sem, teS, unS, avs]) (by simp [go_sem]) ?_
    intro i hi
    simp [go_sem]
    refine ⟨fun h => ?_, fun h => ?_⟩ <;> simp at h
    · have hiL := h
      have h3 : i < ([k0, k1, k2] : List Int).length := by simp; omega
      have e3 : ([.val (.int .i64 k0), .val (.int .i64 k1), .val (.int .i64 k2)] : List AV)[i]? = some (.val (.int .i64 (([k0, k1, k2] : List Int)[i]?.getD 0))) := avs_at' (xs := [k0, k1, k2]) h3
      have g := hg i
      have hy := hr (L[i]?.getD []) (by simp [hiL])
      have hs : teS L [k0, k1, k2] (unS x) (i + 1) = pwS (teS L [k0, k1, k2] (unS x) i) (L[i]?.getD []) (([k0, k1, k2] : List Int)[i]?.getD 0).toNat := rfl
      simp [go_sem, mat_drop hiL, e3]
      refine ⟨⟨hiL, by rintro rfl; simp at hiL⟩, by omega, ?_⟩
      have hteN := teS_N (L := L) (e := [k0, k1, k2]) hu i
      have htl := teS_len L [k0, k1, k2] (unS x) i
      have hul : (unS x).length = 7 := rfl
      rw [hul] at htl
      generalize teS L [k0, k1, k2] (unS x) i = te at *
      generalize ([k0, k1, k2] : List Int)[i]?.getD 0 = ki at *
      obtain ⟨m, rfl⟩ : ∃ m : Nat, ki = m := ⟨ki.toNat, by omega⟩
      simp only [Int.toNat_natCast] at hs
      refine loop_inv (8 :: List.range' 33 6) (fun t : Nat => [(8, .own 2 7 (avs (pwS te (L[i]?.getD []) t))), (33, .int t)]) (fun t => t ≤ m) (fun t => m - t) 0 (by simp) (by simp [go_sem, pwS]) (by simp [go_sem]) ?_
      intro t ht
      simp [go_sem]
      refine ⟨fun h => ?_, fun h => ?_⟩ <;> simp at h
      · have cT := timesSeries_c (pwS te (L[i]?.getD []) t) (L[i]?.getD []) (pwS_N hteN t) hy.2 (by rw [pwS_len]; omega) (by rw [pwS_len]; omega)
        rw [pwS_len, htl] at cT
        simp [go_sem]
        refine CallVC.of (cT) (by decide) ?_
        simp [go_sem]
        exact ⟨by omega, t + 1, by omega, by omega, Off_reset _ _ _ (by simp), rfl, by omega⟩
      · have e : t = m := by omega
        subst e
        simp [go_sem]
        exact ⟨by omega, i + 1, by omega, by omega, (Off.reset (by intro x hx; simp at hx ⊢; omega) (by simp) (by simp [go_sem, Off_reset])), by rw [hs], by omega⟩
    · have e : i = L.length := by omega
      subst e
      have hteN := teS_N (L := L) (e := [k0, k1, k2]) hu L.length
      have htl := teS_len L [k0, k1, k2] (unS x) L.length
      have hul : (unS x).length = 7 := rfl
      rw [hul] at htl
      have hinv : ∀ n, n < 7 → ((plusS o (teS L [k0, k1, k2] (unS x) L.length) 1)[n]?.getD 0 + reS L n (l1 ++ l2)) % 10007 = T n := by
        intro n hn
        have t := hoT n hn
        have q := tb_get (fun i => (o[i]?.getD 0 + 1 % 10007 * (teS L [k0, k1, k2] (unS x) L.length)[i]?.getD 0) % 10007) (show n < o.length by omega)
        have q2 : (plusS o (teS L [k0, k1, k2] (unS x) L.length) 1)[n]?.getD 0 = (o[n]?.getD 0 + 1 % 10007 * (teS L [k0, k1, k2] (unS x) L.length)[n]?.getD 0) % 10007 := q
        rw [reS_app, reS] at t
        simp only [teK] at t
        rw [q2, reS_app, ← t]
        omega
      have cP := plus_c o (teS L [k0, k1, k2] (unS x) L.length) 1 hoN hteN ⟨by omega, by omega⟩ (by omega) (by omega)
      rw [ho, htl] at cP
      simp [go_sem]
      refine CallVC.of (cP) (by decide) ?_
      simp [go_sem]
      refine ⟨_, _, _, ⟨?_, plusS_N _ _ _, hinv, fun a b c d he => hrem _ ?_⟩, ?_, (Off.reset (by intro x hx; simp at hx ⊢; omega) (by simp) (by simp [go_sem, Off_reset])), rfl, rfl, rfl⟩
      · rw [plusS_len, ho]
      · rcases List.mem_append.1 he with he | he <;> simp [he]
      · simp
end Go.Proofs.Ytngakdgkeemjhaa

/- Contracts: series of parts, the program's. -/
namespace Go.Proofs.Ytngakdgkeemjhaa
open Go.Abs
set_option linter.unusedVariables false
set_option linter.unusedSimpArgs false
set_option maxHeartbeats 1000000
theorem partSeries_c {z : Int} {p : List Mon} {L : List (List Int)} (hz : z ≤ 3) (hp : partB z p = true) (hL : (L.length : Int) = z) (hr : ∀ r ∈ L, r.length = 7 ∧ Ns r) :
    Con Try.prog 181 [.fmp (polF p), .sl L.length (mat L)] (.own 2 7 (avs (evS L p))) := by
  refine series_c (polF p) L (fun n => voS L n p % 10007) (by omega) hr (fun k x hk => part_entries hz hp hk) (fun es he n => ?_)
  rw [reS_perm L n (enum_perm (keys_nd hz hp) he), reS_map (by omega) n p]
/-- A field's parts at series. -/
def fdS (L : List (List Int)) (f : List (List Mon)) : List (List Int) := f.map (evS L)
@[simp] theorem fdS_len (L : List (List Int)) (f : List (List Mon)) : (fdS L f).length = f.length := by simp [fdS]
theorem fdS_row {L : List (List Int)} {f : List (List Mon)} : ∀ r ∈ fdS L f, r.length = 7 ∧ Ns r := by
  intro r hr
  obtain ⟨p, _, rfl⟩ := List.mem_map.1 hr
  exact ⟨evS_len L p, evS_N L p⟩
theorem fdS_take {L : List (List Int)} {f : List (List Mon)} {i : Nat} (h : i < f.length) : fdS L (f.take (i + 1)) = fdS L (f.take i) ++ [evS L (f[i]?.getD [])] := by
  rw [List.take_add_one, List.getElem?_eq_getElem h]; simp only [fdS, List.map_append, Option.toList_some, List.map_cons, List.map_nil, Option.getD_some]
theorem voS_app (L : List (List Int)) (n : Nat) (p q : List Mon) : voS L n (p ++ q) = voS L n p + voS L n q := by
  induction p with
  | nil => simp [voS]
  | cons m p ih => simp [voS, ih]; omega
/-- One more monomial. -/
theorem evS_take {L : List (List Int)} {p : List Mon} {i : Nat} (h : i < p.length) :
    tb (fun n => ((evS L (p.take i))[n]?.getD 0 + (teS L (p[i]?.getD (0, [])).2 (unS (p[i]?.getD (0, [])).1) L.length)[n]?.getD 0) % 10007) 7 = evS L (p.take (i + 1)) := by
  rw [List.take_add_one, List.getElem?_eq_getElem h]
  unfold evS
  unfold tb
  refine List.map_congr_left fun n hn => ?_
  have hn : n < 7 := by simpa using hn
  have e := tb_get (fun n => voS L n (p.take i) % 10007) hn
  unfold tb at e
  rw [e, Option.toList_some, voS_app]
  simp [voS]
theorem evS_nil (L : List (List Int)) : evS L [] = [0, 0, 0, 0, 0, 0, 0] := by
  simp [evS, voS, tb, List.range, List.range.loop]
theorem unS_times (a : Int) (h : isN a) : tb (fun i => (tb (fun i => if i = 0 then (1 : Int) else 0) 7)[i]?.getD 0 * a % 10007) 7 = unS a := by
  have : a % 10007 = a := Int.emod_eq_of_lt h.1 (by have := h.2; omega)
  simp [unS, tb, List.range, List.range.loop, this]
end Go.Proofs.Ytngakdgkeemjhaa

/- Contracts: series of parts and of fields, the reference's; the program's series of fields. -/
namespace Go.Proofs.Ytngakdgkeemjhaa
open Go.Abs
set_option linter.unusedVariables false
set_option linter.unusedSimpArgs false
set_option maxHeartbeats 1000000
set_option maxRecDepth 100000 in
theorem l14ValueG_c {p : List Mon} {L : List (List Int)} (hp : ∀ m ∈ p, isN m.1 ∧ m.2.length = L.length ∧ ∀ k : Nat, 0 ≤ m.2[k]?.getD 0 ∧ m.2[k]?.getD 0 ≤ 1000000) (hpl : p.length ≤ 1000000000000) (hL : L.length ≤ 3) (hr : ∀ r ∈ L, r.length = 7 ∧ Ns r) :
    Con Try.prog 148 [.sl p.length (mons p), .sl L.length (mat L)] (.own 2 7 (avs (evS L p))) := by
  refine con_of_vc Try.mixed ⟨11, [], [], []⟩ Try.func148 (by decide) rfl (by simp) (by decide) (by simp [freshOK, freshL, go_sem]) ?_
  rw [Try.ntmps148]
  simp [go_sem]
  refine loop_inv (List.range' 6 48) (fun i : Nat => [(6, .own 2 7 (avs (evS L (p.take i)))), (7, .int i)]) (fun i => i ≤ p.length) (fun i => p.length - i) 0 (by simp) (by simp [go_sem, evS_nil, avs]) (by simp [go_sem]) ?_
  intro i hi
  simp [go_sem]
  refine ⟨fun h => ?_, fun h => ?_⟩ <;> simp at h
  · have hif := h
    have hx : p[i]?.getD (0, []) ∈ p := by simp [h]
    have hv := evS_take (L := L) h
    obtain ⟨mN, ml, mg⟩ := hp _ hx
    simp [go_sem]
    have cU := l02Unit_c 7 0 (by omega) (by omega)
    generalize hM : p[i]?.getD (0, []) = m at *
    have cT := l02Times_c (tb (fun i => if i = 0 then (1 : Int) else 0) 7) m.1 (tb_N fun i _ => by split <;> exact ⟨by omega, by omega⟩) mN (by simp)
    rw [tb_len, unS_times _ mN] at cT
    refine ⟨by kernel_rfl, ?_⟩
    refine CallD.of (cU) (by simp [roots, rootsL]) (by decide) ?_
    simp [go_sem]
    simp [go_sem, mons_drop hif, hM]
    refine ⟨⟨hif, by rintro rfl; simp at hif⟩, ?_⟩
    refine CallD.of (cT) (by simp [roots, rootsL]) (by decide) ?_
    simp [go_sem]
    refine ⟨by kernel_rfl, ?_⟩
    simp [go_sem]
    refine loop_inv (8 :: 9 :: 10 :: List.range' 27 24) (fun k : Nat => [(8, .own 2 7 (avs (teS L m.2 (unS m.1) k))), (9, .int k)]) (fun k => k ≤ L.length) (fun k => L.length - k) 0 (by simp) (by simp [go_sem, teS]) (by simp [go_sem]) ?_
    intro k hk
    simp [go_sem]
    refine ⟨fun h => ?_, fun h => ?_⟩ <;> simp at h
    · have hkL := h
      have hkm : k < m.2.length := by omega
      have hy := hr (L[k]?.getD []) (by simp [hkL])
      have g := mg k
      have hs : teS L m.2 (unS m.1) (k + 1) = pwS (teS L m.2 (unS m.1) k) (L[k]?.getD []) (m.2[k]?.getD 0).toNat := rfl
      have hteN := teS_N (L := L) (e := m.2) (unS_N mN) k
      have htl := teS_len L m.2 (unS m.1) k
      have hul : (unS m.1).length = 7 := rfl
      rw [hul] at htl
      generalize teS L m.2 (unS m.1) k = te at *
      simp [go_sem]
      refine loop_inv (8 :: 10 :: List.range' 33 18) (fun t : Nat => [(8, .own 2 7 (avs (pwS te (L[k]?.getD []) t))), (10, .int t)]) (fun t => (t : Int) ≤ m.2[k]?.getD 0) (fun t => (m.2[k]?.getD 0).toNat - t) 0 (by simp; omega) (by simp [go_sem, pwS]) (by simp [go_sem]) ?_
      intro t ht
      simp [go_sem, mons_drop hif, hM, avs_drop hkm]
      refine ⟨⟨hif, by rintro rfl; simp at hif⟩, ⟨hkm, by intro e; simp [e] at hkm⟩, ?_⟩
      refine ⟨fun h => ?_, fun h => ?_⟩ <;> simp at h
      · have cT := l02Mul_c (pwS te (L[k]?.getD []) t) (L[k]?.getD []) (pwS_N hteN t) hy.2 (by rw [pwS_len]; omega) (by rw [pwS_len]; omega)
        rw [pwS_len, htl] at cT
        simp [go_sem, mat_drop hkL]
        refine ⟨⟨hkL, by rintro rfl; simp at hkL⟩, ?_⟩
        refine CallVC.of (cT) (by decide) ?_
        simp [go_sem]
        exact ⟨⟨by omega, by omega⟩, t + 1, by omega, by omega, Off_reset _ _ _ (by simp), rfl, by omega⟩
      · have e : (m.2[k]?.getD 0).toNat = t := by omega
        rw [e] at hs
        simp [go_sem]
        exact ⟨by omega, k + 1, by omega, by omega, (Off.reset (by intro x hx; simp at hx ⊢; omega) (by simp) (by simp [go_sem, Off_reset])), by rw [hs], by omega⟩
    · have e : k = L.length := by omega
      subst e
      have hteN := teS_N (L := L) (e := m.2) (unS_N mN) L.length
      have htl := teS_len L m.2 (unS m.1) L.length
      have hul : (unS m.1).length = 7 := rfl
      rw [hul] at htl
      have cP := l02Add_c (evS L (p.take i)) (teS L m.2 (unS m.1) L.length) (evS_N _ _) hteN (by simp) (by simp; omega)
      rw [evS_len, htl, hv] at cP
      simp [go_sem]
      refine CallVC.of (cP) (by decide) ?_
      simp [go_sem]
      exact ⟨by omega, i + 1, by omega, by omega, (Off.reset (by intro x hx; simp at hx ⊢; omega) (by simp) (by simp [go_sem, Off_reset])), rfl, by omega⟩
  · have e : i = p.length := by omega
    subst e
    simp [go_sem]
theorem l14Value_c {z : Int} {p : List Mon} {L : List (List Int)} (hz : z ≤ 3) (hp : partB z p = true) (hpl : p.length ≤ 1048576) (hL : (L.length : Int) = z) (hr : ∀ r ∈ L, r.length = 7 ∧ Ns r) :
    Con Try.prog 148 [.sl p.length (mons p), .sl L.length (mat L)] (.own 2 7 (avs (evS L p))) :=
  l14ValueG_c (fun m hm => by
    have h := partB_mem hp hm
    have h1 := h.lo
    have h2 := h.hi
    have h3 := h.len
    exact ⟨⟨by omega, by omega⟩, by omega, fun k => ⟨(h.get k).1, by have := (h.get k).2; omega⟩⟩) (by omega) (by omega) hr
theorem l14Field_c {z : Int} {f : List (List Mon)} {L : List (List Int)} (hf : FieldOk z f) (hs : Small f) (hL : (L.length : Int) = z) (hr : ∀ r ∈ L, r.length = 7 ∧ Ns r) :
    Con Try.prog 143 [.agg [.int z, .sl f.length (prt f)], .sl L.length (mat L)] (.own 23 f.length (omat (fdS L f))) := by
  have fl := hs.1
  have z3 := hf.hi
  refine con_of_vc Try.mixed ⟨7, [], [], []⟩ Try.func143 (by decide) rfl (by simp) (by decide) (by simp [freshOK, freshL, go_sem]) ?_
  rw [Try.ntmps143]
  simp [go_sem]
  refine loop_inv (5 :: 6 :: List.range' 8 17) (fun i : Nat => [(5, .own 23 i (omat (fdS L (f.take i)))), (6, .int i)]) (fun i => i ≤ f.length) (fun i => f.length - i) 0 (by simp) (by simp [go_sem, fdS, omat_nil]) (by simp [go_sem]) ?_
  intro i hi
  simp [go_sem]
  refine ⟨fun h => ?_, fun h => ?_⟩ <;> simp at h
  · have hif := h
    have hx : f[i]?.getD [] ∈ f := by simp [h]
    have hv := fdS_take (L := L) h
    simp [go_sem, prt_drop hif]
    refine ⟨⟨hif, by rintro rfl; simp at hif⟩, ?_⟩
    refine CallVC.of (l14Value_c z3 (hf.part _ hx) (hs.2 _ hx).1 hL hr) (by decide) ?_
    simp [go_sem]
    refine ⟨⟨by omega, by omega⟩, by omega, i + 1, by omega, by omega, Off_reset _ _ _ (by simp), ?_, by omega⟩
    rw [hv, omat_app, omat_one]; simp
  · simp [go_sem]
    have e : i = f.length := by omega
    subst e; simp
theorem fieldSeries_c {z : Int} {f : List (List Mon)} {L : List (List Int)} (hf : FieldOk z f) (hs : Small f) (hL : (L.length : Int) = z) (hr : ∀ r ∈ L, r.length = 7 ∧ Ns r) :
    Con Try.prog 145 [.sl f.length (fpols f), .sl L.length (mat L)] (.own 23 f.length (omat (fdS L f))) := by
  have fl := hs.1
  have z3 := hf.hi
  refine con_of_vc Try.mixed ⟨8, [], [], []⟩ Try.func145 (by decide) rfl (by simp) (by decide) (by simp [freshOK, freshL, go_sem]) ?_
  rw [Try.ntmps145]
  simp [go_sem]
  refine loop_inv (5 :: 7 :: List.range' 11 11) (fun i : Nat => [(5, .own 23 i (omat (fdS L (f.take i)))), (11, .int i)]) (fun i => i ≤ f.length) (fun i => f.length - i) 0 (by simp) (by simp [go_sem, fdS, omat_nil]) (by simp [go_sem]) ?_
  intro i hi
  simp [go_sem]
  refine ⟨fun h => ?_, fun h => ?_⟩ <;> simp at h
  · have hif := h
    have hx : f[i]?.getD [] ∈ f := by simp [h]
    have hv := fdS_take (L := L) h
    simp [go_sem, fpols_drop hif]
    refine ⟨⟨hif, by rintro rfl; simp at hif⟩, ?_⟩
    refine CallVC.of (partSeries_c z3 (hf.part _ hx) hL hr) (by decide) ?_
    simp [go_sem]
    refine ⟨⟨by omega, by omega⟩, by omega, i + 1, by omega, by omega, Off_reset _ _ _ (by simp), ?_, by omega⟩
    rw [hv, omat_app, omat_one]; simp
  · simp [go_sem]
    have e : i = f.length := by omega
    subst e; simp
end Go.Proofs.Ytngakdgkeemjhaa

/- Contracts: slopes and steps, the program's and the reference's. -/
namespace Go.Proofs.Ytngakdgkeemjhaa
open Go.Abs
set_option linter.unusedVariables false
set_option linter.unusedSimpArgs false
set_option maxHeartbeats 1000000
abbrev z7 : List Int := [0, 0, 0, 0, 0, 0, 0]
/-- The slopes after some rounds. -/
def sloS (A : List (List Int)) (f : List (List Mon)) (start : List (List Int)) : Nat → List (List (List Int))
  | 0 => List.replicate A.length (List.replicate start.length z7)
  | n + 1 => A.map fun row => fdS (mvS start row (sloS A f start n) row.length) f
@[simp] theorem sloS_len (A : List (List Int)) (f : List (List Mon)) (start : List (List Int)) : ∀ n, (sloS A f start n).length = A.length
  | 0 => by simp [sloS]
  | n + 1 => by simp [sloS]
theorem sloS_row {A : List (List Int)} {f : List (List Mon)} {start : List (List Int)} (hl : f.length = start.length) : ∀ n, ∀ m ∈ sloS A f start n, m.length = start.length ∧ ∀ r ∈ m, r.length = 7 ∧ Ns r
  | 0, m, hm => by
    simp only [sloS, List.mem_replicate] at hm
    obtain ⟨_, rfl⟩ := hm
    refine ⟨by simp, fun r hr => ?_⟩
    obtain ⟨_, rfl⟩ := List.mem_replicate.1 hr
    refine ⟨rfl, fun x hx => ?_⟩
    simp at hx; subst hx; exact ⟨by omega, by omega⟩
  | n + 1, m, hm => by
    rw [sloS] at hm
    obtain ⟨row, _, rfl⟩ := List.mem_map.1 hm
    exact ⟨by simp [hl], fdS_row⟩
theorem omat_rep_succ (n : Nat) : omat (List.replicate (n + 1) z7) = omat (List.replicate n z7) ++ [.own 2 7 (avs z7)] := by
  rw [List.replicate_succ', omat_app, omat_one]; rfl
theorem ocube_rep_succ (n : Nat) (m : List (List Int)) : ocube (List.replicate (n + 1) m) = ocube (List.replicate n m) ++ [.own 23 m.length (omat m)] := by
  rw [List.replicate_succ', ocube_app, ocube_one]
theorem ocube_nil : ocube [] = [] := rfl
theorem ocube_take (X : List (List (List Int))) (i : Nat) (h : i < X.length) : ocube (X.take (i + 1)) = ocube (X.take i) ++ [.own 23 (X[i]?.getD []).length (omat (X[i]?.getD []))] := by
  rw [List.take_add_one, List.getElem?_eq_getElem h, ocube_app]; rfl
theorem sloS_at {A : List (List Int)} (f : List (List Mon)) (start : List (List Int)) (n : Nat) {i : Nat} (h : i < A.length) : (sloS A f start (n + 1))[i]?.getD [] = fdS (mvS start (A[i]?.getD []) (sloS A f start n) (A[i]?.getD []).length) f := by
  simp [sloS, h]
set_option maxRecDepth 100000 in
theorem slopes_c {z : Int} (A : List (List Int)) (B : List Int) (f : List (List Mon)) (start : List (List Int)) (hT : Tab A B) (hf : FieldOk z f) (hs : Small f) (hl : (start.length : Int) = z) (hr : ∀ r ∈ start, r.length = 7 ∧ Ns r) :
    Con Try.prog 82 [.agg [.sl A.length (mat A), .sl B.length (avs B)], .sl f.length (fpols f), .sl start.length (mat start)] (.own 22 A.length (ocube (sloS A f start 7))) := by
  have fl := hs.1
  have z3 := hf.hi
  have fz := hf.len
  have b8 := hT.le
  have ab := hT.len
  refine con_of_vc Try.mixed ⟨9, [], [], []⟩ Try.func82 (by decide) rfl (by simp) (by decide) (by simp [freshOK, freshL, go_sem]) ?_
  rw [Try.ntmps82]
  simp [go_sem]
  refine loop_inv (7 :: 8 :: List.range' 16 17) (fun i : Nat => [(7, .own 22 i (ocube (List.replicate i (List.replicate start.length z7)))), (16, .int i)]) (fun i => i ≤ B.length) (fun i => B.length - i) 0 (by simp) (by simp [go_sem, ocube_nil]) (by simp [go_sem]) ?_
  intro i hi
  simp [go_sem]
  refine ⟨fun h => ?_, fun h => ?_⟩ <;> simp at h
  · simp [go_sem]
    refine loop_inv (8 :: List.range' 21 7) (fun j : Nat => [(8, .own 23 j (omat (List.replicate j z7))), (21, .int j)]) (fun j => j ≤ start.length) (fun j => start.length - j) 0 (by simp) (by simp [go_sem, omat_nil]) (by simp [go_sem]) ?_
    intro j hj
    simp [go_sem]
    refine ⟨fun h => ?_, fun h => ?_⟩ <;> simp at h
    · simp [go_sem]
      refine ⟨⟨by omega, by omega⟩, by omega, j + 1, by omega, by omega, Off_reset _ _ _ (by simp), ?_, by omega⟩
      rw [omat_rep_succ]; exact ⟨rfl, rfl⟩
    · have e : j = start.length := by omega
      subst e
      simp [go_sem]
      refine ⟨⟨by omega, by omega⟩, by omega, i + 1, by omega, by omega, (Off.reset (by intro x hx; simp at hx ⊢; omega) (by simp) (by simp [go_sem, Off_reset])), ?_, by omega⟩
      rw [ocube_rep_succ]; simp
  · have e : i = B.length := by omega
    subst e
    simp [go_sem]
    refine loop_inv (7 :: 9 :: 11 :: List.range' 33 22) (fun n : Nat => [(7, .own 22 A.length (ocube (sloS A f start n))), (33, .int n)]) (fun n => n ≤ 7) (fun n => 7 - n) 0 (by simp) (by simp [go_sem, sloS, ab]) (by simp [go_sem]) ?_
    intro n hn
    simp [go_sem]
    refine ⟨fun h => ?_, fun h => ?_⟩ <;> simp at h
    · simp [go_sem]
      refine loop_inv (9 :: 11 :: List.range' 39 14) (fun i : Nat => [(9, .own 22 i (ocube ((sloS A f start (n + 1)).take i))), (39, .int i)]) (fun i => i ≤ A.length) (fun i => A.length - i) 0 (by simp) (by simp [go_sem, ocube_nil]) (by simp [go_sem]) ?_
      intro i hi
      simp [go_sem]
      refine ⟨fun h => ?_, fun h => ?_⟩ <;> simp at h
      · have hif := h
        have hx : A[i]?.getD [] ∈ A := by simp [h]
        have hm := hT.a _ hx
        have ht := ocube_take (sloS A f start (n + 1)) i (by rw [sloS_len]; exact hif)
        rw [sloS_at f start n hif, fdS_len] at ht
        have cM := moved_c start (A[i]?.getD []) (sloS A f start n) 7 (by omega) (by omega) hr (by omega) (by have := hm.1; omega) (by rw [sloS_len]; have := hm.1; omega) hm.2 (sloS_row (by omega) n) (by rw [sloS_len]; omega)
        rw [sloS_len] at cM
        have cF := fieldSeries_c (L := mvS start (A[i]?.getD []) (sloS A f start n) (A[i]?.getD []).length) hf hs (by rw [mvS_len]; exact hl) (mvS_row hr _)
        rw [mvS_len] at cF
        simp [go_sem, mat_drop hif]
        refine ⟨⟨hif, by rintro rfl; simp at hif⟩, ?_⟩
        refine CallVC.of (cM) (by decide) ?_
        simp [go_sem]
        refine CallVC.of (cF) (by decide) ?_
        simp [go_sem]
        refine ⟨⟨by omega, by omega⟩, by omega, i + 1, by omega, by omega, Off_reset _ _ _ (by simp), ?_, by omega⟩
        rw [ht]; exact ⟨rfl, rfl⟩
      · have e : i = A.length := by omega
        subst e
        simp [go_sem]
        have hfin : (sloS A f start (n + 1)).take A.length = sloS A f start (n + 1) := List.take_of_length_le (by simp)
        exact ⟨by omega, n + 1, by omega, by omega, (Off.reset (by intro x hx; simp at hx ⊢; omega) (by simp) (by simp [go_sem, Off_reset])), by rw [hfin], by omega⟩
    · have e : n = 7 := by omega
      subst e
      simp [go_sem]
set_option maxRecDepth 100000 in
theorem l15Slopes_c {z : Int} (A : List (List Int)) (B : List Int) (f : List (List Mon)) (start : List (List Int)) (hT : Tab A B) (hf : FieldOk z f) (hs : Small f) (hl : (start.length : Int) = z) (hr : ∀ r ∈ start, r.length = 7 ∧ Ns r) :
    Con Try.prog 80 [.agg [.sl A.length (mat A), .sl B.length (avs B)], .agg [.int z, .sl f.length (prt f)], .sl start.length (mat start)] (.own 22 A.length (ocube (sloS A f start 7))) := by
  have fl := hs.1
  have z3 := hf.hi
  have fz := hf.len
  have b8 := hT.le
  have ab := hT.len
  refine con_of_vc Try.mixed ⟨12, [], [], []⟩ Try.func80 (by decide) rfl (by simp) (by decide) (by simp [freshOK, freshL, go_sem]) ?_
  rw [Try.ntmps80]
  simp [go_sem]
  refine loop_inv (7 :: 8 :: 9 :: 10 :: List.range' 15 22) (fun i : Nat => [(7, .own 22 i (ocube (List.replicate i (List.replicate start.length z7)))), (8, .int i)]) (fun i => i ≤ B.length) (fun i => B.length - i) 0 (by simp) (by simp [go_sem, ocube_nil]) (by simp [go_sem]) ?_
  intro i hi
  simp [go_sem]
  refine ⟨fun h => ?_, fun h => ?_⟩ <;> simp at h
  · simp [go_sem]
    refine loop_inv (9 :: 10 :: List.range' 23 10) (fun j : Nat => [(9, .own 23 j (omat (List.replicate j z7))), (10, .int j)]) (fun j => j ≤ start.length) (fun j => start.length - j) 0 (by simp) (by simp [go_sem, omat_nil]) (by simp [go_sem]) ?_
    intro j hj
    simp [go_sem]
    refine ⟨fun h => ?_, fun h => ?_⟩ <;> simp at h
    · simp [go_sem]
      refine ⟨⟨by omega, by omega⟩, by omega, j + 1, by omega, by omega, Off_reset _ _ _ (by simp), ?_, by omega⟩
      rw [omat_rep_succ]; exact ⟨rfl, rfl⟩
    · have e : j = start.length := by omega
      subst e
      simp [go_sem]
      refine ⟨⟨by omega, by omega⟩, by omega, i + 1, by omega, by omega, (Off.reset (by intro x hx; simp at hx ⊢; omega) (by simp) (by simp [go_sem, Off_reset])), ?_, by omega⟩
      rw [ocube_rep_succ]; simp
  · have e : i = B.length := by omega
    subst e
    simp [go_sem]
    refine loop_inv (7 :: 11 :: 12 :: 13 :: List.range' 37 26) (fun n : Nat => [(7, .own 22 A.length (ocube (sloS A f start n))), (11, .int n)]) (fun n => n ≤ 7) (fun n => 7 - n) 0 (by simp) (by simp [go_sem, sloS, ab]) (by simp [go_sem]) ?_
    intro n hn
    simp [go_sem]
    refine ⟨fun h => ?_, fun h => ?_⟩ <;> simp at h
    · simp [go_sem]
      refine loop_inv (12 :: 13 :: List.range' 42 20) (fun i : Nat => [(12, .own 22 i (ocube ((sloS A f start (n + 1)).take i))), (13, .int i)]) (fun i => i ≤ A.length) (fun i => A.length - i) 0 (by simp) (by simp [go_sem, ocube_nil]) (by simp [go_sem]) ?_
      intro i hi
      simp [go_sem]
      refine ⟨fun h => ?_, fun h => ?_⟩ <;> simp at h
      · have hif : i < A.length := by omega
        have hx : A[i]?.getD [] ∈ A := by simp [hif]
        have hm := hT.a _ hx
        have ht := ocube_take (sloS A f start (n + 1)) i (by rw [sloS_len]; exact hif)
        rw [sloS_at f start n hif, fdS_len] at ht
        have cM := l15Sum_c start (A[i]?.getD []) (sloS A f start n) 7 (by omega) (by omega) hr (by omega) (by have := hm.1; omega) (by rw [sloS_len]; have := hm.1; omega) hm.2 (sloS_row (by omega) n) (by rw [sloS_len]; omega)
        rw [sloS_len, show A.length = (A[i]?.getD []).length by have := hm.1; omega] at cM
        have cF := l14Field_c (L := mvS start (A[i]?.getD []) (sloS A f start n) (A[i]?.getD []).length) hf hs (by rw [mvS_len]; exact hl) (mvS_row hr _)
        rw [mvS_len] at cF
        have hel : (A[i]?.getD []).length = A.length := by have := hm.1; omega
        simp [go_sem, mat_drop hif]
        refine ⟨by kernel_rfl, ⟨hif, by rintro rfl; simp at hif⟩, ?_⟩
        rw [← hel]
        refine CallD.of (cM) (by simp [roots, rootsL]) (by decide) ?_
        simp [go_sem]
        refine CallD.of (cF) (by simp [roots, rootsL]) (by decide) ?_
        simp [go_sem]
        refine ⟨⟨by omega, by omega⟩, ?_⟩
        refine ⟨by kernel_rfl, ?_⟩
        simp [go_sem]
        refine ⟨by omega, i + 1, by omega, by omega, Off_reset _ _ _ (by simp), ?_, by omega⟩
        rw [ht]; exact ⟨rfl, rfl⟩
      · have e : i = A.length := by omega
        subst e
        simp [go_sem]
        have hfin : (sloS A f start (n + 1)).take A.length = sloS A f start (n + 1) := List.take_of_length_le (by simp)
        exact ⟨by omega, n + 1, by omega, by omega, (Off.reset (by intro x hx; simp at hx ⊢; omega) (by simp) (by simp [go_sem, Off_reset])), by rw [hfin], by omega⟩
    · have e : n = 7 := by omega
      subst e
      simp [go_sem]
end Go.Proofs.Ytngakdgkeemjhaa

/- Contracts: steps and vector series, the program's and the reference's. -/
namespace Go.Proofs.Ytngakdgkeemjhaa
open Go.Abs
set_option linter.unusedVariables false
set_option linter.unusedSimpArgs false
set_option maxHeartbeats 1000000
theorem getD_mem {α : Type} {l : List α} {i : Nat} (d : α) (h : i < l.length) : l[i]?.getD d ∈ l := by simp [h]
theorem colS_N {a : List (List Int)} (h : ∀ r ∈ a, Ns r) (k : Nat) : Ns (colS a k) := tb_N fun i hi => (h (a[i]?.getD []) (by simp [hi])).get k
theorem turnS_row {n : Nat} {a : List (List Int)} (h7 : a.length = n) (h : ∀ r ∈ a, Ns r) : ∀ r ∈ turnS a, r.length = n ∧ Ns r := by
  intro r hr
  obtain ⟨k, _, rfl⟩ := List.mem_map.1 hr
  exact ⟨by rw [colS_len, h7], colS_N h k⟩
/-- The step from a start, as one series for each variable. -/
def steS (A : List (List Int)) (B : List Int) (f : List (List Mon)) (start : List (List Int)) : List (List Int) := mvS start B (sloS A f start 7) B.length
@[simp] theorem steS_len (A : List (List Int)) (B : List Int) (f : List (List Mon)) (start : List (List Int)) : (steS A B f start).length = start.length := mvS_len _ _ _ _
theorem steS_row {A : List (List Int)} {B : List Int} {f : List (List Mon)} {start : List (List Int)} (hr : ∀ r ∈ start, r.length = 7 ∧ Ns r) : ∀ r ∈ steS A B f start, r.length = 7 ∧ Ns r := mvS_row hr _
set_option maxRecDepth 100000 in
theorem stepped_c {z : Int} (A : List (List Int)) (B : List Int) (f : List (List Mon)) (start : List (List Int)) (hT : Tab A B) (hf : FieldOk z f) (hs : Small f) (hl : (start.length : Int) = z) (hr : ∀ r ∈ start, r.length = 7 ∧ Ns r) :
    Con Try.prog 71 [.agg [.sl A.length (mat A), .sl B.length (avs B)], .sl f.length (fpols f), .sl start.length (mat start)] (.own 23 start.length (omat (steS A B f start))) := by
  have fl := hs.1
  have z3 := hf.hi
  have fz := hf.len
  have b8 := hT.le
  have ab := hT.len
  have cS := slopes_c A B f start hT hf hs hl hr
  have cM := moved_c start B (sloS A f start 7) 7 (by omega) (by omega) hr (by omega) (by omega) (by rw [sloS_len]; omega) hT.b (sloS_row (by omega) 7) (by rw [sloS_len]; omega)
  rw [sloS_len] at cM
  refine con_of_vc Try.mixed ⟨7, [], [], []⟩ Try.func71 (by decide) rfl (by simp) (by decide) (by simp [freshOK, freshL, go_sem]) ?_
  rw [Try.ntmps71]
  simp [go_sem]
  refine ⟨by kernel_rfl, ?_⟩
  refine CallD.of (cS) (by simp [roots, rootsL]) (by decide) ?_
  simp [go_sem]
  refine CallD.of (cM) (by simp [roots, rootsL]) (by decide) ?_
  simp [go_sem]
  refine ⟨by kernel_rfl, ?_⟩
  simp [go_sem]
  rfl
set_option maxRecDepth 100000 in
theorem l15Step_c {z : Int} (A : List (List Int)) (B : List Int) (f : List (List Mon)) (start : List (List Int)) (hT : Tab A B) (hf : FieldOk z f) (hs : Small f) (h7 : start.length = 7) (hr : ∀ r ∈ start, (r.length : Int) = z ∧ Ns r) :
    Con Try.prog 65 [.agg [.sl A.length (mat A), .sl B.length (avs B)], .agg [.int z, .sl f.length (prt f)], .sl start.length (mat start)] (.own 23 7 (omat (turnS (steS A B f (turnS start))))) := by
  have fl := hs.1
  have z3 := hf.hi
  have z1 := hf.lo
  have fz := hf.len
  have b8 := hT.le
  have ab := hT.len
  have h0 : (start[0]?.getD []) ∈ start := by simp [show 0 < start.length by omega]
  have hz := (hr _ h0).1
  have tl : (turnS start).length = (start[0]?.getD []).length := turnS_len _
  have tr : ∀ r ∈ turnS start, r.length = 7 ∧ Ns r := turnS_row h7 (fun r h => (hr r h).2)
  have cT := l14Turn_c start (by omega) (by omega) (fun r h => by have := (hr r h).1; omega) (by omega)
  have cS := l15Slopes_c A B f (turnS start) hT hf hs (by omega) tr
  have cM := l15Sum_c (turnS start) B (sloS A f (turnS start) 7) 7 (by omega) (by omega) tr (by omega) (by omega) (by rw [sloS_len]; omega) hT.b (sloS_row (by omega) 7) (by rw [sloS_len]; omega)
  rw [sloS_len] at cM
  have sl := steS_len A B f (turnS start)
  have sr := steS_row (A := A) (B := B) (f := f) tr
  have s0 : ((steS A B f (turnS start))[0]?.getD []) ∈ steS A B f (turnS start) := getD_mem _ (by rw [steS_len]; omega)
  have s7 := (sr _ s0).1
  have cE := l14Turn_c (steS A B f (turnS start)) (by omega) (by omega) (fun r h => by have := (sr r h).1; omega) (by omega)
  rw [turnS_len, s7] at cE
  have hm : mvS (turnS start) B (sloS A f (turnS start) 7) A.length = steS A B f (turnS start) := by unfold steS; rw [ab]
  rw [hm] at cM
  generalize steS A B f (turnS start) = E at *
  rw [sl] at cE
  generalize turnS start = U at *
  refine con_of_vc Try.mixed ⟨8, [], [], []⟩ Try.func65 (by decide) rfl (by simp) (by decide) (by simp [freshOK, freshL, go_sem]) ?_
  rw [Try.ntmps65]
  simp [go_sem]
  refine CallVC.of (cT) (by decide) ?_
  simp [go_sem]
  refine ⟨by kernel_rfl, ?_⟩
  refine CallD.of (cS) (by simp [roots, rootsL]) (by decide) ?_
  simp [go_sem]
  refine CallD.of (cM) (by simp [roots, rootsL]) (by decide) ?_
  simp [go_sem]
  refine CallD.of (cE) (by simp [roots, rootsL]) (by decide) ?_
  simp [go_sem]
  refine ⟨by kernel_rfl, ?_⟩
  simp [go_sem]
/-- Vector series of a field. -/
def serB (z : Int) (L : List (List Int)) : Bool := decide (L.length = 7) && L.all (vecB z)
theorem notSeries_c (z : Int) (n : Nat) (cs : List AV) (y : List Int) (hl : y.length ≤ 9223372036854775807) :
    Con Try.prog 136 [.sl y.length (avs y), .fptr [.int z, .sl n cs]] (.bool (!vecB z y)) := by
  refine con_of_vc Try.mixed ⟨4, [], [], []⟩ Try.func136 (by decide) rfl (by simp) (by decide) (by simp [freshOK, freshL, go_sem]) ?_
  rw [Try.ntmps136]
  simp [go_sem]
  refine CallVC.of (isVector_c z n cs y hl) (by decide) ?_
  simp [go_sem]
theorem isVectorSeries_c (z : Int) (n : Nat) (cs : List AV) (L : List (List Int)) (hl : L.length ≤ 9223372036854775807) (hr : ∀ y ∈ L, y.length ≤ 9223372036854775807) :
    Con Try.prog 69 [.agg [.int z, .sl n cs], .sl L.length (mat L)] (.bool (serB z L)) := by
  have cC := ContainsFuncV_c 136 [.int z, .sl n cs] (fun y => !vecB z y) L hl (fun y hy => notSeries_c z n cs y (hr y hy))
  have e : L.any (fun y => !vecB z y) = !L.all (vecB z) := by rw [List.not_all_eq_any_not]
  rw [e] at cC
  unfold serB
  generalize L.all (vecB z) = b at *
  refine con_of_vc Try.mixed ⟨5, [], [], []⟩ Try.func69 (by decide) rfl (by simp) (by decide) (by simp [freshOK, freshL, go_sem]) ?_
  rw [Try.ntmps69]
  simp [go_sem]
  by_cases h : L.length = 7
  · have h2 : (L.length : Int) = 7 := by omega
    simp [go_sem, h2]
    refine CallVC.of (cC) (by decide) ?_
    simp [go_sem]
    cases b <;> simp [h]
  · have h2 : ¬ (L.length : Int) = 7 := by omega
    simp [go_sem, h2]
    simp [h]
theorem l14Series_c (z : Int) (L : List (List Int)) (hl : L.length ≤ 9223372036854775807) (hr : ∀ y ∈ L, y.length ≤ 9223372036854775807) :
    Con Try.prog 64 [.int z, .sl L.length (mat L)] (.bool (serB z L)) := by
  unfold serB
  refine con_of_vc Try.mixed ⟨6, [], [], []⟩ Try.func64 (by decide) rfl (by simp) (by decide) (by simp [freshOK, freshL, go_sem]) ?_
  rw [Try.ntmps64]
  simp [go_sem]
  by_cases h7 : L.length = 7
  · have h2 : (L.length : Int) = 7 := by omega
    simp [go_sem, h2, h7]
    refine loop_inv (4 :: 5 :: List.range' 9 13) (fun i : Nat => [(5, .int i)]) (fun i => i ≤ L.length ∧ ∀ p ∈ L.take i, vecB z p = true) (fun i => L.length - i) 0 (by simp) (by simp [go_sem]) (by simp [go_sem]) ?_
    rintro i ⟨hi, hp⟩
    simp [go_sem]
    refine ⟨fun h => ?_, fun h => ?_⟩ <;> simp at h
    · have hif : i < L.length := by omega
      have hx : L[i]?.getD [] ∈ L := getD_mem _ hif
      have cR := l13Point_c z (L[i]?.getD []) (hr _ hx)
      have hvb : (decide (((L[i]?.getD []).length : Int) = z) && numsB (L[i]?.getD [])) = vecB z (L[i]?.getD []) := rfl
      rw [hvb] at cR
      simp [go_sem, mat_drop hif]
      refine ⟨⟨by omega, by rintro rfl; simp at hif⟩, ?_⟩
      cases hv : vecB z (L[i]?.getD []) with
      | false =>
        rw [hv] at cR
        refine CallVC.of (cR) (by decide) ?_
        simp [go_sem]
        exact ⟨_, hx, hv⟩
      | true =>
        rw [hv] at cR
        refine CallVC.of (cR) (by decide) ?_
        simp [go_sem]
        refine ⟨by omega, i + 1, ⟨by omega, take_all hif hp (by simpa [hif] using hv)⟩, by omega, Off_reset _ _ _ (by simp), by omega⟩
    · simp [go_sem]
      rw [List.take_of_length_le (by omega)] at hp
      exact hp
  · have h2 : ¬ (L.length : Int) = 7 := by omega
    simp [go_sem, h2, h7]
end Go.Proofs.Ytngakdgkeemjhaa

/- Contracts: steps from a vector series, the program's and the reference's. -/
namespace Go.Proofs.Ytngakdgkeemjhaa
open Go.Abs
set_option linter.unusedVariables false
set_option linter.unusedSimpArgs false
set_option maxHeartbeats 1000000
def sfE (A : List (List Int)) (B : List Int) (z : Int) (f : List (List Mon)) (L : List (List Int)) : Int := if (tabB A B && fieldB z f) = false then 1 else if serB z L = false then 2 else 0
def sfX (A : List (List Int)) (B : List Int) (z : Int) (f : List (List Mon)) (L : List (List Int)) : List (List Int) := if sfE A B z f L = 0 then turnS (steS A B f (turnS L)) else []
def sfR (A : List (List Int)) (B : List Int) (z : Int) (f : List (List Mon)) (L : List (List Int)) : AV := .tup [.own 23 (sfX A B z f L).length (omat (sfX A B z f L)), .int (sfE A B z f L)]
theorem sfE_zero {A : List (List Int)} {B : List Int} {z : Int} {f : List (List Mon)} {L : List (List Int)} (h : sfE A B z f L = 0) : tabB A B = true ∧ fieldB z f = true ∧ serB z L = true := by
  unfold sfE at h
  generalize tabB A B = a at *
  generalize fieldB z f = b at *
  generalize serB z L = c at *
  cases a <;> cases b <;> cases c <;> simp_all
theorem serB_iff {z : Int} {L : List (List Int)} : serB z L = true ↔ L.length = 7 ∧ ∀ y ∈ L, (y.length : Int) = z ∧ Ns y := by
  unfold serB vecB
  simp [numsB_N]
/-- The step's shape. -/
theorem ste_turn {A : List (List Int)} {B : List Int} {z : Int} {f : List (List Mon)} {L : List (List Int)} (z1 : 1 ≤ z) (hL : L.length = 7 ∧ ∀ y ∈ L, (y.length : Int) = z ∧ Ns y) :
    ((turnS L).length : Int) = z ∧ (∀ r ∈ turnS L, r.length = 7 ∧ Ns r) ∧ (turnS (steS A B f (turnS L))).length = 7 ∧ ∀ r ∈ turnS (steS A B f (turnS L)), (r.length : Int) = z ∧ Ns r := by
  have h0 : (L[0]?.getD []) ∈ L := getD_mem _ (by omega)
  have hz := (hL.2 _ h0).1
  have tl : (turnS L).length = (L[0]?.getD []).length := turnS_len _
  have tr : ∀ r ∈ turnS L, r.length = 7 ∧ Ns r := turnS_row hL.1 (fun r h => (hL.2 r h).2)
  have sl := steS_len A B f (turnS L)
  have sr := steS_row (A := A) (B := B) (f := f) tr
  have s0 : ((steS A B f (turnS L))[0]?.getD []) ∈ steS A B f (turnS L) := getD_mem _ (by rw [steS_len]; omega)
  have s7 := (sr _ s0).1
  refine ⟨by omega, tr, by rw [turnS_len, s7], fun r h => ?_⟩
  have := turnS_row (a := steS A B f (turnS L)) rfl (fun r h => (sr r h).2) r h
  exact ⟨by omega, this.2⟩
theorem sfX_ok (A : List (List Int)) (B : List Int) (z : Int) (f : List (List Mon)) (L : List (List Int)) : (sfX A B z f L).length ≤ 7 ∧ ∀ r ∈ sfX A B z f L, r.length ≤ 3 := by
  unfold sfX
  split
  · rename_i h
    obtain ⟨hT, hF, hS⟩ := sfE_zero h
    have hF := fieldB_iff.1 hF
    have hL := serB_iff.1 hS
    obtain ⟨_, _, e1, e2⟩ := ste_turn (A := A) (B := B) (f := f) hF.lo hL
    have := hF.hi
    exact ⟨by omega, fun r hr => by have := (e2 r hr).1; omega⟩
  · simp
set_option maxRecDepth 100000 in
theorem StepFrom_c (A : List (List Int)) (B : List Int) (z : Int) (f : List (List Mon)) (L : List (List Int)) (hA : A.length ≤ 1048576) (hB : B.length ≤ 1048576) (hr : ∀ r ∈ A, r.length ≤ 1048576) (hs : Small f) (hl : L.length ≤ 1048576) (hrl : ∀ r ∈ L, r.length ≤ 1048576) :
    Con Try.prog 19 [.agg [.sl A.length (mat A), .sl B.length (avs B)], .agg [.int z, .sl f.length (prt f)], .sl L.length (mat L)] (sfR A B z f L) := by
  have cA := IsTableau_c A B (by omega) (by omega) (fun r h => by have := hr r h; omega)
  have cT := IsField_c z f hs
  have cR := isVectorSeries_c z f.length (prt f) L (by omega) (fun r h => by have := hrl r h; omega)
  unfold sfR sfX
  have hz := @sfE_zero A B z f L
  have hd : sfE A B z f L = if (tabB A B && fieldB z f) = false then 1 else if serB z L = false then 2 else 0 := rfl
  generalize sfE A B z f L = e at *
  by_cases he : e = 0
  · subst he
    obtain ⟨hT, hF, hS⟩ := hz rfl
    rw [hT] at cA
    rw [hF] at cT
    rw [hS] at cR
    have hT := tabB_iff.1 hT
    have hF := fieldB_iff.1 hF
    have hL := serB_iff.1 hS
    have fl := hs.1
    have z1 := hF.lo
    have z3 := hF.hi
    have h0 : (L[0]?.getD []) ∈ L := getD_mem _ (by omega)
    have h0z := (hL.2 _ h0).1
    obtain ⟨t1, t2, t3, t4⟩ := ste_turn (A := A) (B := B) (f := f) z1 hL
    have cP := polynomials_c z f hF hs
    have cU := turned_c L (by omega) (by omega) (fun r h => by have := (hL.2 r h).1; omega) (by omega)
    have cS := stepped_c A B f (turnS L) hT hF hs t1 t2
    have sl := steS_len A B f (turnS L)
    have sr := steS_row (A := A) (B := B) (f := f) t2
    have s0 : ((steS A B f (turnS L))[0]?.getD []) ∈ steS A B f (turnS L) := getD_mem _ (by rw [steS_len]; omega)
    have s7 := (sr _ s0).1
    have cE := turned_c (steS A B f (turnS L)) (by omega) (by omega) (fun r h => by have := (sr r h).1; omega) (by omega)
    rw [sl] at cE
    rw [if_pos rfl]
    generalize turnS (steS A B f (turnS L)) = X at *
    generalize steS A B f (turnS L) = E at *
    generalize turnS L = U at *
    refine con_of_vc Try.mixed ⟨8, [], [], []⟩ Try.func19 (by decide) rfl (by simp) (by decide) (by simp [freshOK, freshL, go_sem]) ?_
    rw [Try.ntmps19]
    simp [go_sem]
    refine CallVC.of (cA) (by decide) ?_
    simp [go_sem]
    refine CallVC.of (cT) (by decide) ?_
    simp [go_sem]
    refine CallVC.of (cR) (by decide) ?_
    simp [go_sem]
    refine ⟨by kernel_rfl, ?_⟩
    refine CallD.of (cP) (by simp [roots, rootsL]) (by decide) ?_
    simp [go_sem]
    refine CallD.of (cU) (by simp [roots, rootsL]) (by decide) ?_
    simp [go_sem]
    refine CallD.of (cS) (by simp [roots, rootsL]) (by decide) ?_
    simp [go_sem]
    refine CallD.of (cE) (by simp [roots, rootsL]) (by decide) ?_
    simp [go_sem]
    refine ⟨by kernel_rfl, ?_⟩
    simp [go_sem]
  · rw [if_neg he]
    refine Con.n1 _ ?_
    generalize tabB A B = a at *
    generalize fieldB z f = b at *
    generalize serB z L = c at *
    clear hz
    cases a <;> cases b <;> cases c
    all_goals simp only [Bool.and_self, Bool.and_false, Bool.false_and, Bool.true_and, Bool.false_eq_true, if_true, if_false, reduceCtorEq] at hd
    all_goals subst hd
    · refine con_of_vc Try.mixed ⟨8, [], [], []⟩ Try.func19 (by decide) rfl (by simp) (by decide) (by simp [freshOK, freshL, go_sem]) ?_
      rw [Try.ntmps19]
      simp [go_sem]
      refine CallVC.of (cA) (by decide) ?_
      simp [go_sem]
    · refine con_of_vc Try.mixed ⟨8, [], [], []⟩ Try.func19 (by decide) rfl (by simp) (by decide) (by simp [freshOK, freshL, go_sem]) ?_
      rw [Try.ntmps19]
      simp [go_sem]
      refine CallVC.of (cA) (by decide) ?_
      simp [go_sem]
    · refine con_of_vc Try.mixed ⟨8, [], [], []⟩ Try.func19 (by decide) rfl (by simp) (by decide) (by simp [freshOK, freshL, go_sem]) ?_
      rw [Try.ntmps19]
      simp [go_sem]
      refine CallVC.of (cA) (by decide) ?_
      simp [go_sem]
    · refine con_of_vc Try.mixed ⟨8, [], [], []⟩ Try.func19 (by decide) rfl (by simp) (by decide) (by simp [freshOK, freshL, go_sem]) ?_
      rw [Try.ntmps19]
      simp [go_sem]
      refine CallVC.of (cA) (by decide) ?_
      simp [go_sem]
    · refine con_of_vc Try.mixed ⟨8, [], [], []⟩ Try.func19 (by decide) rfl (by simp) (by decide) (by simp [freshOK, freshL, go_sem]) ?_
      rw [Try.ntmps19]
      simp [go_sem]
      refine CallVC.of (cA) (by decide) ?_
      simp [go_sem]
      refine CallVC.of (cT) (by decide) ?_
      simp [go_sem]
    · refine con_of_vc Try.mixed ⟨8, [], [], []⟩ Try.func19 (by decide) rfl (by simp) (by decide) (by simp [freshOK, freshL, go_sem]) ?_
      rw [Try.ntmps19]
      simp [go_sem]
      refine CallVC.of (cA) (by decide) ?_
      simp [go_sem]
      refine CallVC.of (cT) (by decide) ?_
      simp [go_sem]
    · refine con_of_vc Try.mixed ⟨8, [], [], []⟩ Try.func19 (by decide) rfl (by simp) (by decide) (by simp [freshOK, freshL, go_sem]) ?_
      rw [Try.ntmps19]
      simp [go_sem]
      refine CallVC.of (cA) (by decide) ?_
      simp [go_sem]
      refine CallVC.of (cT) (by decide) ?_
      simp [go_sem]
      refine CallVC.of (cR) (by decide) ?_
      simp [go_sem]
    · exact absurd rfl he
set_option maxRecDepth 100000 in
theorem specStepFrom_c (A : List (List Int)) (B : List Int) (z : Int) (f : List (List Mon)) (L : List (List Int)) (hA : A.length ≤ 1048576) (hB : B.length ≤ 1048576) (hr : ∀ r ∈ A, r.length ≤ 1048576) (hs : Small f) (hl : L.length ≤ 1048576) (hrl : ∀ r ∈ L, r.length ≤ 1048576) :
    Con Try.prog 15 [.agg [.sl A.length (mat A), .sl B.length (avs B)], .agg [.int z, .sl f.length (prt f)], .sl L.length (mat L)] (sfR A B z f L) := by
  have cA := l09Is_c A B (by omega) (by omega) (fun r h => by have := hr r h; omega)
  have cT := l13Is_c z f hs
  have cR := l14Series_c z L (by omega) (fun r h => by have := hrl r h; omega)
  unfold sfR sfX
  have hz := @sfE_zero A B z f L
  have hd : sfE A B z f L = if (tabB A B && fieldB z f) = false then 1 else if serB z L = false then 2 else 0 := rfl
  generalize sfE A B z f L = e at *
  by_cases he : e = 0
  · subst he
    obtain ⟨hT, hF, hS⟩ := hz rfl
    rw [hT] at cA
    rw [hF] at cT
    rw [hS] at cR
    have hT := tabB_iff.1 hT
    have hF := fieldB_iff.1 hF
    have hL := serB_iff.1 hS
    obtain ⟨t1, t2, t3, t4⟩ := ste_turn (A := A) (B := B) (f := f) hF.lo hL
    have cS := l15Step_c A B f L hT hF hs hL.1 hL.2
    rw [if_pos rfl, t3]
    generalize turnS (steS A B f (turnS L)) = X at *
    refine con_of_vc Try.mixed ⟨8, [], [], []⟩ Try.func15 (by decide) rfl (by simp) (by decide) (by simp [freshOK, freshL, go_sem]) ?_
    rw [Try.ntmps15]
    simp [go_sem]
    refine CallVC.of (cA) (by decide) ?_
    simp [go_sem]
    refine CallVC.of (cT) (by decide) ?_
    simp [go_sem]
    refine CallVC.of (cR) (by decide) ?_
    simp [go_sem]
    refine CallVC.of (cS) (by decide) ?_
    simp [go_sem]
  · rw [if_neg he]
    refine Con.n1 _ ?_
    generalize tabB A B = a at *
    generalize fieldB z f = b at *
    generalize serB z L = c at *
    clear hz
    cases a <;> cases b <;> cases c
    all_goals simp only [Bool.and_self, Bool.and_false, Bool.false_and, Bool.true_and, Bool.false_eq_true, if_true, if_false, reduceCtorEq] at hd
    all_goals subst hd
    · refine con_of_vc Try.mixed ⟨8, [], [], []⟩ Try.func15 (by decide) rfl (by simp) (by decide) (by simp [freshOK, freshL, go_sem]) ?_
      rw [Try.ntmps15]
      simp [go_sem]
      refine CallVC.of (cA) (by decide) ?_
      simp [go_sem]
    · refine con_of_vc Try.mixed ⟨8, [], [], []⟩ Try.func15 (by decide) rfl (by simp) (by decide) (by simp [freshOK, freshL, go_sem]) ?_
      rw [Try.ntmps15]
      simp [go_sem]
      refine CallVC.of (cA) (by decide) ?_
      simp [go_sem]
    · refine con_of_vc Try.mixed ⟨8, [], [], []⟩ Try.func15 (by decide) rfl (by simp) (by decide) (by simp [freshOK, freshL, go_sem]) ?_
      rw [Try.ntmps15]
      simp [go_sem]
      refine CallVC.of (cA) (by decide) ?_
      simp [go_sem]
    · refine con_of_vc Try.mixed ⟨8, [], [], []⟩ Try.func15 (by decide) rfl (by simp) (by decide) (by simp [freshOK, freshL, go_sem]) ?_
      rw [Try.ntmps15]
      simp [go_sem]
      refine CallVC.of (cA) (by decide) ?_
      simp [go_sem]
    · refine con_of_vc Try.mixed ⟨8, [], [], []⟩ Try.func15 (by decide) rfl (by simp) (by decide) (by simp [freshOK, freshL, go_sem]) ?_
      rw [Try.ntmps15]
      simp [go_sem]
      refine CallVC.of (cA) (by decide) ?_
      simp [go_sem]
      refine CallVC.of (cT) (by decide) ?_
      simp [go_sem]
    · refine con_of_vc Try.mixed ⟨8, [], [], []⟩ Try.func15 (by decide) rfl (by simp) (by decide) (by simp [freshOK, freshL, go_sem]) ?_
      rw [Try.ntmps15]
      simp [go_sem]
      refine CallVC.of (cA) (by decide) ?_
      simp [go_sem]
      refine CallVC.of (cT) (by decide) ?_
      simp [go_sem]
    · refine con_of_vc Try.mixed ⟨8, [], [], []⟩ Try.func15 (by decide) rfl (by simp) (by decide) (by simp [freshOK, freshL, go_sem]) ?_
      rw [Try.ntmps15]
      simp [go_sem]
      refine CallVC.of (cA) (by decide) ?_
      simp [go_sem]
      refine CallVC.of (cT) (by decide) ?_
      simp [go_sem]
      refine CallVC.of (cR) (by decide) ?_
      simp [go_sem]
    · exact absurd rfl he
end Go.Proofs.Ytngakdgkeemjhaa

/- Contracts: points as series, steps and stages from a point, the program's and the reference's. -/
namespace Go.Proofs.Ytngakdgkeemjhaa
open Go.Abs
set_option linter.unusedVariables false
set_option linter.unusedSimpArgs false
set_option maxHeartbeats 1000000
/-- A point as series, one for each variable; as a vector series. -/
def poS (y : List Int) : List (List Int) := y.map unS
@[simp] theorem poS_len (y : List Int) : (poS y).length = y.length := by simp [poS]
theorem poS_row {y : List Int} (h : Ns y) : ∀ r ∈ poS y, r.length = 7 ∧ Ns r := by
  intro r hr
  obtain ⟨a, ha, rfl⟩ := List.mem_map.1 hr
  exact ⟨rfl, unS_N (h a ha)⟩
theorem poS_take {y : List Int} {i : Nat} (h : i < y.length) : omat (poS (y.take (i + 1))) = omat (poS (y.take i)) ++ [.own 2 7 (avs (unS (y[i]?.getD 0)))] := by
  rw [List.take_add_one, List.getElem?_eq_getElem h]
  simp only [poS, List.map_append, omat_app]; rfl
def stV (y : List Int) : List (List Int) := y :: List.replicate 6 (List.replicate y.length 0)
@[simp] theorem stV_len (y : List Int) : (stV y).length = 7 := by simp [stV]
theorem stV_row {y : List Int} (h : Ns y) : ∀ r ∈ stV y, r.length = y.length ∧ Ns r := by
  intro r hr
  rcases List.mem_cons.1 hr with rfl | hr
  · exact ⟨rfl, h⟩
  · obtain ⟨_, rfl⟩ := List.mem_replicate.1 hr
    refine ⟨by simp, fun x hx => ?_⟩
    obtain ⟨_, rfl⟩ := List.mem_replicate.1 hx
    exact ⟨by omega, by omega⟩
theorem turn_stV (y : List Int) : turnS (stV y) = poS y := by
  refine List.ext_getElem (by simp [stV]) fun k h1 h2 => ?_
  have hk : k < y.length := by simpa using h2
  have e : (y :: List.replicate 6 (List.replicate y.length 0))[0]?.getD [] = y := rfl
  simp only [turnS, List.getElem_map, List.getElem_range, poS, colS, stV]
  simp [tb, List.range, List.range.loop, unS, hk, List.replicate]
theorem pointStart_c (y : List Int) (hy : y.length ≤ 1048576) : Con Try.prog 79 [.sl y.length (avs y)] (.own 23 y.length (omat (poS y))) := by
  refine con_of_vc Try.mixed ⟨7, [], [], []⟩ Try.func79 (by decide) rfl (by simp) (by decide) (by simp [freshOK, freshL, go_sem]) ?_
  rw [Try.ntmps79]
  simp [go_sem]
  refine loop_inv (3 :: 5 :: 6 :: List.range' 10 13) (fun i : Nat => [(3, .own 23 i (omat (poS (y.take i)))), (10, .int i)]) (fun i => i ≤ y.length) (fun i => y.length - i) 0 (by simp) (by simp [go_sem, poS, omat_nil]) (by simp [go_sem]) ?_
  intro i hi
  simp [go_sem]
  refine ⟨fun h => ?_, fun h => ?_⟩ <;> simp at h
  · have ht := poS_take h
    simp [go_sem, avs_drop h]
    refine ⟨⟨h, by rintro rfl; simp at h⟩, ⟨by omega, by omega⟩, by omega, i + 1, by omega, by omega, Off_reset _ _ _ (by simp), ⟨rfl, ?_⟩, by omega⟩
    rw [ht]; rfl
  · have e : i = y.length := by omega
    subst e
    simp [go_sem]
theorem l14Start_c (y : List Int) (hy : y.length ≤ 1048576) : Con Try.prog 77 [.sl y.length (avs y)] (.own 23 7 (omat (stV y))) := by
  refine con_of_vc Try.mixed ⟨4, [], [], []⟩ Try.func77 (by decide) rfl (by simp) (by decide) (by simp [freshOK, freshL, go_sem]) ?_
  rw [Try.ntmps77]
  simp [go_sem]
  refine CallVC.of (l01Own_c y (by omega)) (by decide) ?_
  simp [go_sem]
  have e0 : ∀ k, omat (y :: List.replicate (k + 1) (List.replicate y.length 0)) = omat (y :: List.replicate k (List.replicate y.length 0)) ++ [.own 2 y.length (avs (List.replicate y.length 0))] := fun k => by
    rw [List.replicate_succ', ← List.cons_append, omat_app, omat_one]; simp
  refine loop_inv (3 :: List.range' 7 9) (fun i : Nat => [(3, .own 23 (i + 1) (omat (y :: List.replicate i (List.replicate y.length 0))))]) (fun i => i ≤ 6) (fun i => 6 - i) 0 (by simp) (by simp [go_sem, omat]) (by simp [go_sem]) ?_
  intro i hi
  simp [go_sem]
  refine ⟨fun h => ?_, fun h => ?_⟩ <;> simp at h
  · have ht := e0 i
    simp [go_sem]
    refine ⟨⟨by omega, by omega⟩, ⟨by omega, by omega⟩, i + 1, by omega, by omega, Off_reset _ _ _ (by simp), ⟨by omega, ?_⟩⟩
    rw [ht, ← avs_repl]
  · have e : i = 6 := by omega
    subst e
    simp [go_sem]
    rfl
def ssX (A : List (List Int)) (B : List Int) (z : Int) (f : List (List Mon)) (y : List Int) : List (List Int) := if stE A B z f y = 0 then turnS (steS A B f (poS y)) else []
def ssR (A : List (List Int)) (B : List Int) (z : Int) (f : List (List Mon)) (y : List Int) : AV := .tup [.own 23 (ssX A B z f y).length (omat (ssX A B z f y)), .int (stE A B z f y)]
theorem ste_point {A : List (List Int)} {B : List Int} {f : List (List Mon)} {y : List Int} (y1 : 1 ≤ y.length) (hy : Ns y) :
    (turnS (steS A B f (poS y))).length = 7 ∧ ∀ r ∈ turnS (steS A B f (poS y)), r.length = y.length ∧ Ns r := by
  have sr := steS_row (A := A) (B := B) (f := f) (poS_row hy)
  have s0 : ((steS A B f (poS y))[0]?.getD []) ∈ steS A B f (poS y) := getD_mem _ (by rw [steS_len, poS_len]; omega)
  refine ⟨by rw [turnS_len, (sr _ s0).1], fun r h => ?_⟩
  have := turnS_row (a := steS A B f (poS y)) rfl (fun r h => (sr r h).2) r h
  rw [steS_len, poS_len] at this
  exact this
theorem stE_ok {A : List (List Int)} {B : List Int} {z : Int} {f : List (List Mon)} {y : List Int} (h : stE A B z f y = 0) : Tab A B ∧ FieldOk z f ∧ (y.length : Int) = z ∧ Ns y := by
  obtain ⟨hT, hF, hV⟩ := stE_zero h
  unfold vecB at hV
  simp only [Bool.and_eq_true, decide_eq_true_eq] at hV
  exact ⟨tabB_iff.1 hT, fieldB_iff.1 hF, hV.1, numsB_N.1 hV.2⟩
theorem ssX_ok (A : List (List Int)) (B : List Int) (z : Int) (f : List (List Mon)) (y : List Int) : (ssX A B z f y).length ≤ 7 ∧ ∀ r ∈ ssX A B z f y, r.length ≤ 3 := by
  unfold ssX
  split
  · rename_i h
    obtain ⟨hT, hF, hl, hy⟩ := stE_ok h
    have z1 := hF.lo
    have z3 := hF.hi
    obtain ⟨e1, e2⟩ := ste_point (A := A) (B := B) (f := f) (by omega) hy
    exact ⟨by omega, fun r hr => by have := (e2 r hr).1; omega⟩
  · simp
set_option maxRecDepth 100000 in
theorem StepSeries_c (A : List (List Int)) (B : List Int) (z : Int) (f : List (List Mon)) (y : List Int) (hA : A.length ≤ 1048576) (hB : B.length ≤ 1048576) (hr : ∀ r ∈ A, r.length ≤ 1048576) (hs : Small f) (hy : y.length ≤ 1048576) :
    Con Try.prog 29 [.agg [.sl A.length (mat A), .sl B.length (avs B)], .agg [.int z, .sl f.length (prt f)], .sl y.length (avs y)] (ssR A B z f y) := by
  have c1 := checkStep_c A B z f y hA hB hr hs hy
  unfold ssR ssX
  have hz := @stE_ok A B z f y
  generalize stE A B z f y = e at *
  by_cases he : e = 0
  · subst he
    obtain ⟨hT, hF, hl, hN⟩ := hz rfl
    have fl := hs.1
    have z1 := hF.lo
    have z3 := hF.hi
    have cP := polynomials_c z f hF hs
    have cU := pointStart_c y hy
    have cS := stepped_c A B f (poS y) hT hF hs (by rw [poS_len]; exact hl) (poS_row hN)
    have sl := steS_len A B f (poS y)
    have sr := steS_row (A := A) (B := B) (f := f) (poS_row hN)
    rw [poS_len] at cS sl
    have cE := turned_c (steS A B f (poS y)) (by omega) (by omega) (fun r h => by
      have s0 : ((steS A B f (poS y))[0]?.getD []) ∈ steS A B f (poS y) := getD_mem _ (by omega)
      have := (sr r h).1; have := (sr _ s0).1; omega) (by
      have s0 : ((steS A B f (poS y))[0]?.getD []) ∈ steS A B f (poS y) := getD_mem _ (by omega)
      have := (sr _ s0).1; omega)
    rw [sl] at cE
    rw [if_pos rfl]
    generalize turnS (steS A B f (poS y)) = X at *
    generalize steS A B f (poS y) = E at *
    generalize poS y = U at *
    refine con_of_vc Try.mixed ⟨9, [], [], []⟩ Try.func29 (by decide) rfl (by simp) (by decide) (by simp [freshOK, freshL, go_sem]) ?_
    rw [Try.ntmps29]
    simp [go_sem]
    refine CallVC.of (c1) (by decide) ?_
    simp [go_sem]
    refine ⟨by kernel_rfl, ?_⟩
    refine CallD.of (cP) (by simp [roots, rootsL]) (by decide) ?_
    simp [go_sem]
    refine CallD.of (cU) (by simp [roots, rootsL]) (by decide) ?_
    simp [go_sem]
    refine CallD.of (cS) (by simp [roots, rootsL]) (by decide) ?_
    simp [go_sem]
    refine CallD.of (cE) (by simp [roots, rootsL]) (by decide) ?_
    simp [go_sem]
    refine ⟨by kernel_rfl, ?_⟩
    simp [go_sem]
  · rw [if_neg he]
    refine Con.n1 _ ?_
    refine con_of_vc Try.mixed ⟨9, [], [], []⟩ Try.func29 (by decide) rfl (by simp) (by decide) (by simp [freshOK, freshL, go_sem]) ?_
    rw [Try.ntmps29]
    simp [go_sem]
    refine CallVC.of (c1) (by decide) ?_
    simp [go_sem]
    simp [go_sem, he]
set_option maxRecDepth 100000 in
theorem specStepSeries_c (A : List (List Int)) (B : List Int) (z : Int) (f : List (List Mon)) (y : List Int) (hA : A.length ≤ 1048576) (hB : B.length ≤ 1048576) (hr : ∀ r ∈ A, r.length ≤ 1048576) (hs : Small f) (hy : y.length ≤ 1048576) :
    Con Try.prog 27 [.agg [.sl A.length (mat A), .sl B.length (avs B)], .agg [.int z, .sl f.length (prt f)], .sl y.length (avs y)] (ssR A B z f y) := by
  have c1 := l15Code_c A B z f y hA hB hr hs hy
  unfold ssR ssX
  have hz := @stE_ok A B z f y
  generalize stE A B z f y = e at *
  by_cases he : e = 0
  · subst he
    obtain ⟨hT, hF, hl, hN⟩ := hz rfl
    have fl := hs.1
    have z1 := hF.lo
    have z3 := hF.hi
    have cU := l14Start_c y hy
    have cS := l15Step_c A B f (stV y) hT hF hs (stV_len y) (fun r h => by rw [← hl]; have := stV_row hN r h; exact ⟨by omega, this.2⟩)
    rw [stV_len, turn_stV] at cS
    obtain ⟨e1, e2⟩ := ste_point (A := A) (B := B) (f := f) (by omega) hN
    rw [if_pos rfl, e1]
    generalize turnS (steS A B f (poS y)) = X at *
    generalize stV y = U at *
    refine con_of_vc Try.mixed ⟨9, [], [], []⟩ Try.func27 (by decide) rfl (by simp) (by decide) (by simp [freshOK, freshL, go_sem]) ?_
    rw [Try.ntmps27]
    simp [go_sem]
    refine CallVC.of (c1) (by decide) ?_
    simp [go_sem]
    refine ⟨by kernel_rfl, ?_⟩
    refine CallD.of (cU) (by simp [roots, rootsL]) (by decide) ?_
    simp [go_sem]
    refine CallD.of (cS) (by simp [roots, rootsL]) (by decide) ?_
    simp [go_sem]
    refine ⟨by kernel_rfl, ?_⟩
    simp [go_sem]
  · rw [if_neg he]
    refine Con.n1 _ ?_
    refine con_of_vc Try.mixed ⟨9, [], [], []⟩ Try.func27 (by decide) rfl (by simp) (by decide) (by simp [freshOK, freshL, go_sem]) ?_
    rw [Try.ntmps27]
    simp [go_sem]
    refine CallVC.of (c1) (by decide) ?_
    simp [go_sem]
    simp [go_sem, he]
end Go.Proofs.Ytngakdgkeemjhaa
