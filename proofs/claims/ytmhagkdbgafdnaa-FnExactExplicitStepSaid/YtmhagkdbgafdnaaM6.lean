/- Texts of the own layer and contracts, part 6: G1 Q1 Q2 LK Q9 Q10 Q11 Q12 Q13 L21. -/
import Derived.Test.YtmhagkdbgafdnaaM5
/- Lists of monomials as polynomials over any ring: values of sums, products and derivatives along fields. -/
namespace Go.Proofs.Ytmhagkdbgafdnaa
open CR
set_option linter.unusedVariables false
set_option linter.unusedSimpArgs false
set_option maxHeartbeats 1000000
def ex (e : List Int) : Nat → Nat := fun k => (e[k]?.getD 0).toNat
def tr (m : Mon) : Trm := (m.1, ex m.2)
/-- Monomials of n variables with exponents up to B. -/
structure WOk (n : Nat) (B : Int) (m : Mon) : Prop where
  num : isN m.1
  len : m.2.length = n
  pw : ∀ x ∈ m.2, 0 ≤ x ∧ x ≤ B
theorem VOk.wok {n : Nat} {m : Mon} (h : VOk n m) : WOk n 3 m := ⟨h.num, h.len, h.pw⟩
theorem WOk.le {n : Nat} {B C : Int} {m : Mon} (h : WOk n B m) (hBC : B ≤ C) : WOk n C m := ⟨h.num, h.len, fun x hx => ⟨(h.pw x hx).1, Int.le_trans (h.pw x hx).2 hBC⟩⟩
theorem WOk.get {n : Nat} {B : Int} {m : Mon} (h : WOk n B m) (hB : 0 ≤ B) (k : Nat) : 0 ≤ m.2[k]?.getD 0 ∧ m.2[k]?.getD 0 ≤ B := by
  rcases Nat.lt_or_ge k m.2.length with hk | hk
  · simp [hk]; exact h.pw _ (List.getElem_mem hk)
  · simp [hk]; exact hB
section
variable {α : Type} [CR α]
def evM (d : Nat) (U : Nat → α) (L : List Mon) : α := ev d U (L.map tr)
def evM1 (d k : Nat) (U : Nat → α) (L : List Mon) : α := ev1 d k U (L.map tr)
theorem evM_nil (d : Nat) (U : Nat → α) : evM d U [] = ofI 0 := rfl
theorem evM_cons (d : Nat) (U : Nat → α) (m : Mon) (L : List Mon) : evM d U (m :: L) = ofI m.1 * mon U (ex m.2) d + evM d U L := rfl
theorem evM_app (d : Nat) (U : Nat → α) (L R : List Mon) : evM d U (L ++ R) = evM d U L + evM d U R := by
  unfold evM ev; rw [List.map_append, sL_app]
theorem evM1_cons (d k : Nat) (U : Nat → α) (m : Mon) (L : List Mon) : evM1 d k U (m :: L) = ofI (m.1 * (ex m.2 k : Int)) * mon U (dx k (ex m.2)) d + evM1 d k U L := rfl
theorem evM_if (d : Nat) (U : Nat → α) (m : Mon) : evM d U (if m.1 = 0 then [] else [m]) = ofI m.1 * mon U (ex m.2) d := by
  split
  · rename_i h; rw [h, zmul]; rfl
  · rw [evM_cons, evM_nil, add0]
theorem Cg.eq (c : Cg α) {a b : α} (h : a = b) : c.r a b := by rw [h]; exact c.refl _
theorem putGo_ev (c : Cg α) (d : Nat) (U : Nat → α) (k : Int) (e : List Int) : ∀ (l : List Mon) (done : Bool),
    c.r (evM d U (putGo k e l done)) (evM d U l + if done = true then ofI 0 else ofI k * mon U (ex e) d)
  | [], true => c.eq (by simp [putGo]; rw [add0])
  | [], false => c.eq (by simp [putGo]; rw [evM_cons, evM_nil, addC])
  | m :: l, done => by
    rw [putGo]
    by_cases h1 : done = false ∧ m.2 = e
    · rw [if_pos h1, evM_app, h1.1, ← h1.2]
      have e1 := evM_if d U ((m.1 + k) % 10007, m.2)
      simp only at e1
      rw [e1]
      refine c.trans (c.add (c.mul (c.of (a := (m.1 + k) % 10007) (b := m.1 + k) (by omega)) (c.refl _)) (putGo_ev c d U k m.2 l true)) (c.eq ?_)
      simp only [if_true, Bool.false_eq_true, if_false]
      rw [evM_cons, ofAdd, Dmul, add0]; ac_rfl
    · rw [if_neg h1]
      by_cases h2 : done = false ∧ ltL e m.2 = true
      · rw [if_pos h2, evM_cons, evM_app, evM_if, h2.1]
        refine c.trans (c.add (c.refl _) (c.add (c.refl _) (putGo_ev c d U k e l true))) (c.eq ?_)
        simp only [if_true, Bool.false_eq_true, if_false]
        rw [evM_cons, add0]; ac_rfl
      · rw [if_neg h2, evM_app, evM_if]
        refine c.trans (c.add (c.refl _) (putGo_ev c d U k e l done)) (c.eq ?_)
        rw [evM_cons, addA]
theorem putL_ev (c : Cg α) (d : Nat) (U : Nat → α) (L : List Mon) (k : Int) (e : List Int) : c.r (evM d U (putL L k e)) (evM d U L + ofI k * mon U (ex e) d) := by
  unfold putL
  refine c.trans (putGo_ev c d U k e L _) (c.eq ?_)
  by_cases h : k = 0
  · simp [h]; rw [zmul]
  · simp [h]
/-- Sums. -/
def plusL (p : List Mon) (k : Int) : List Mon → List Mon
  | [] => p
  | m :: q => plusL (putL p (k * m.1 % 10007) m.2) k q
theorem plusL_app (p : List Mon) (k : Int) (q r : List Mon) : plusL p k (q ++ r) = plusL (plusL p k q) k r := by
  induction q generalizing p with
  | nil => rfl
  | cons m q ih => exact ih _
theorem plusL_ev (c : Cg α) (d : Nat) (U : Nat → α) (k : Int) : ∀ (q p : List Mon), c.r (evM d U (plusL p k q)) (evM d U p + ofI k * evM d U q)
  | [], p => c.eq (by rw [evM_nil, mul0, add0]; rfl)
  | m :: q, p => by
    rw [plusL]
    refine c.trans (plusL_ev c d U k q _) ?_
    refine c.trans (c.add (putL_ev c d U p _ m.2) (c.refl _)) ?_
    refine c.trans (c.add (c.add (c.refl _) (c.mul (c.of (a := k * m.1 % 10007) (b := k * m.1) (by omega)) (c.refl _))) (c.refl _)) (c.eq ?_)
    rw [evM_cons, mulD, ofMul]; ac_rfl
/-- Products. -/
def addE (a b : List Int) : List Int := List.zipWith (· + ·) a b
def prodRow (a : Mon) (acc : List Mon) : List Mon → List Mon
  | [] => acc
  | b :: q => prodRow a (putL acc (a.1 * b.1 % 10007) (addE a.2 b.2)) q
def prodGo (acc : List Mon) (q : List Mon) : List Mon → List Mon
  | [] => acc
  | a :: p => prodGo (prodRow a acc q) q p
def prodL (p q : List Mon) : List Mon := prodGo [] q p
theorem prodRow_app (a : Mon) (acc p q : List Mon) : prodRow a acc (p ++ q) = prodRow a (prodRow a acc p) q := by
  induction p generalizing acc with
  | nil => rfl
  | cons m p ih => exact ih _
theorem prodGo_app (acc q p r : List Mon) : prodGo acc q (p ++ r) = prodGo (prodGo acc q p) q r := by
  induction p generalizing acc with
  | nil => rfl
  | cons m p ih => exact ih _
theorem pwr_add (a : α) (n : Nat) : ∀ m : Nat, pwr a (n + m) = pwr a n * pwr a m
  | 0 => (mul1 _).symm
  | m + 1 => by rw [← Nat.add_assoc, pwr, pwr, pwr_add a n m, mulA]
theorem mon_add (U : Nat → α) (e f : Nat → Nat) : ∀ d, mon U (fun k => e k + f k) d = mon U e d * mon U f d
  | 0 => (mul1 _).symm
  | d + 1 => by rw [mon, mon, mon, mon_add U e f d, pwr_add]; ac_rfl
theorem ex_add {a b : List Int} {n : Nat} (ha : a.length = n) (hb : b.length = n) (h1 : ∀ x ∈ a, 0 ≤ x) (h2 : ∀ x ∈ b, 0 ≤ x) (k : Nat) : ex (addE a b) k = ex a k + ex b k := by
  unfold ex addE
  rcases Nat.lt_or_ge k n with hk | hk
  · rw [List.getElem?_eq_getElem (by simp; omega), List.getElem?_eq_getElem (by omega), List.getElem?_eq_getElem (by omega)]
    have := h1 _ (List.getElem_mem (show k < a.length by omega))
    have := h2 _ (List.getElem_mem (show k < b.length by omega))
    simp; omega
  · rw [List.getElem?_eq_none (by simp; omega), List.getElem?_eq_none (by omega), List.getElem?_eq_none (by omega)]; rfl
/-- Lists of n variables' monomials. -/
def LOk (n : Nat) (L : List Mon) : Prop := ∀ m ∈ L, m.2.length = n ∧ ∀ x ∈ m.2, 0 ≤ x
theorem LOk.tl {n : Nat} {m : Mon} {L : List Mon} (h : LOk n (m :: L)) : LOk n L := fun a ha => h a (by simp [ha])
theorem LOk.hd {n : Nat} {m : Mon} {L : List Mon} (h : LOk n (m :: L)) : m.2.length = n ∧ ∀ x ∈ m.2, 0 ≤ x := h m (by simp)
theorem prodRow_ev (c : Cg α) (d : Nat) (U : Nat → α) {n : Nat} {a : Mon} (ha : a.2.length = n ∧ ∀ x ∈ a.2, 0 ≤ x) : ∀ (q acc : List Mon), LOk n q → c.r (evM d U (prodRow a acc q)) (evM d U acc + ofI a.1 * mon U (ex a.2) d * evM d U q)
  | [], acc, _ => c.eq (by rw [evM_nil, mul0, add0]; rfl)
  | b :: q, acc, hq => by
    have hb := hq.hd
    rw [prodRow]
    refine c.trans (prodRow_ev c d U ha q _ hq.tl) ?_
    refine c.trans (c.add (putL_ev c d U acc _ _) (c.refl _)) ?_
    refine c.trans (c.add (c.add (c.refl _) (c.mul (c.of (a := a.1 * b.1 % 10007) (b := a.1 * b.1) (by omega)) (c.refl _))) (c.refl _)) (c.eq ?_)
    have : mon U (ex (addE a.2 b.2)) d = mon U (ex a.2) d * mon U (ex b.2) d := by
      rw [← mon_add]; exact mon_congr U (fun k _ => ex_add ha.1 hb.1 ha.2 hb.2 k)
    rw [this, evM_cons, mulD, ofMul]; ac_rfl
theorem prodGo_ev (c : Cg α) (d : Nat) (U : Nat → α) {n : Nat} {q : List Mon} (hq : LOk n q) : ∀ (p acc : List Mon), LOk n p → c.r (evM d U (prodGo acc q p)) (evM d U acc + evM d U p * evM d U q)
  | [], acc, _ => c.eq (by rw [evM_nil, zmul, add0]; rfl)
  | a :: p, acc, hp => by
    rw [prodGo]
    refine c.trans (prodGo_ev c d U hq p _ hp.tl) ?_
    refine c.trans (c.add (prodRow_ev c d U hp.hd q acc hq) (c.refl _)) (c.eq ?_)
    rw [evM_cons, Dmul]; ac_rfl
theorem prodL_ev (c : Cg α) (d : Nat) (U : Nat → α) {n : Nat} {p q : List Mon} (hp : LOk n p) (hq : LOk n q) : c.r (evM d U (prodL p q)) (evM d U p * evM d U q) :=
  c.trans (prodGo_ev c d U hq p [] hp) (c.eq (zadd _))
theorem ex_low {e : List Int} {i n : Nat} (hi : i < n) (hl : e.length = n) (k : Nat) : ex (e.set i (e[i]?.getD 0 - 1)) k = dx i (ex e) k := by
  unfold ex dx
  rw [List.getElem?_set]
  by_cases h : i = k
  · subst h
    rw [if_pos rfl, if_pos (by omega), if_pos rfl]
    simp
  · rw [if_neg h, if_neg (Ne.symm h)]
theorem derGo_ev (c : Cg α) (d : Nat) (U : Nat → α) {n i : Nat} (hi : i < n) : ∀ (p acc : List Mon), LOk n p → c.r (evM d U (derGo i acc p)) (evM d U acc + evM1 d i U p)
  | [], acc, _ => c.eq (add0 _).symm
  | m :: p, acc, h => by
    have hm := h.hd
    rw [derGo, evM1_cons]
    refine c.trans (derGo_ev c d U hi p _ h.tl) ?_
    have h0 : 0 ≤ m.2[i]?.getD 0 := by
      rw [List.getElem?_eq_getElem (by omega), Option.getD_some]; exact hm.2 _ (List.getElem_mem _)
    by_cases hpos : 0 < m.2[i]?.getD 0
    · rw [if_pos hpos]
      refine c.trans (c.add (putL_ev c d U acc _ _) (c.refl _)) ?_
      refine c.trans (c.add (c.add (c.refl _) (c.mul (c.of (a := m.1 * m.2[i]?.getD 0 % 10007) (b := m.1 * (ex m.2 i : Int)) ?_) (c.refl _))) (c.refl _)) (c.eq ?_)
      · unfold ex; rw [Int.toNat_of_nonneg h0, Int.emod_emod_of_dvd _ (Int.dvd_refl _)]
      · rw [mon_congr U (fun k _ => ex_low hi hm.1 k), addA]
    · rw [if_neg hpos]
      have : ex m.2 i = 0 := by unfold ex; omega
      rw [this]
      have z : ofI (m.1 * ((0 : Nat) : Int)) = (ofI 0 : α) := by simp
      rw [z, zmul, zadd]
      exact c.refl _
theorem derL_ev (c : Cg α) (d : Nat) (U : Nat → α) {n i : Nat} (hi : i < n) {p : List Mon} (hp : LOk n p) : c.r (evM d U (derL i p)) (evM1 d i U p) :=
  c.trans (derGo_ev c d U hi p [] hp) (c.eq (zadd _))
/-- The derivative along a field. -/
def alongGo (acc p : List Mon) (k : Nat) : List (List Mon) → List Mon
  | [] => acc
  | F :: f => alongGo (plusL acc 1 (prodL F (derL k p))) p (k + 1) f
def alongL (f : List (List Mon)) (p : List Mon) : List Mon := alongGo [] p 0 f
theorem alongGo_app (acc p : List Mon) (k : Nat) (f g : List (List Mon)) : alongGo acc p k (f ++ g) = alongGo (alongGo acc p k f) p (k + f.length) g := by
  induction f generalizing acc k with
  | nil => rfl
  | cons F f ih => simp only [List.cons_append, alongGo, ih, List.length_cons]; congr 1; omega
theorem putGo_lok {n : Nat} {k : Int} {e : List Int} (h : e.length = n ∧ ∀ x ∈ e, 0 ≤ x) : ∀ (l : List Mon) (done : Bool), LOk n l → LOk n (putGo k e l done)
  | [], true, _, m, hm => by simp [putGo] at hm
  | [], false, _, m, hm => by simp [putGo] at hm; rw [hm]; exact h
  | a :: l, done, hl, m, hm => by
    have ha := hl.hd
    have ih := fun d => putGo_lok (k := k) h l d hl.tl
    have one : ∀ b : Mon, (b.2.length = n ∧ ∀ x ∈ b.2, 0 ≤ x) → m ∈ (if b.1 = 0 then [] else [b]) → (m.2.length = n ∧ ∀ x ∈ m.2, 0 ≤ x) := fun b hb hmm => by
      split at hmm
      · simp at hmm
      · simp at hmm; rw [hmm]; exact hb
    rw [putGo] at hm
    split at hm
    · rcases List.mem_append.1 hm with hm | hm
      · exact one ((a.1 + k) % 10007, a.2) ha hm
      · exact ih _ m hm
    · split at hm
      · rcases List.mem_cons.1 hm with hm | hm
        · rw [hm]; exact h
        · rcases List.mem_append.1 hm with hm | hm
          · exact one a ha hm
          · exact ih _ m hm
      · rcases List.mem_append.1 hm with hm | hm
        · exact one a ha hm
        · exact ih _ m hm
theorem plusL_lok {n : Nat} {k : Int} : ∀ (q p : List Mon), LOk n q → LOk n p → LOk n (plusL p k q)
  | [], p, _, hp => hp
  | m :: q, p, hq, hp => plusL_lok q _ hq.tl (putGo_lok hq.hd p _ hp)
theorem addE_ok {n : Nat} {a b : List Int} (ha : a.length = n ∧ ∀ x ∈ a, 0 ≤ x) (hb : b.length = n ∧ ∀ x ∈ b, 0 ≤ x) : (addE a b).length = n ∧ ∀ x ∈ addE a b, 0 ≤ x := by
  refine ⟨by unfold addE; simp; omega, fun x hx => ?_⟩
  obtain ⟨i, hi, rfl⟩ := List.getElem_of_mem hx
  unfold addE at hi ⊢
  simp at hi ⊢
  have h1 := ha.2 _ (List.getElem_mem (show i < a.length by omega))
  have h2 := hb.2 _ (List.getElem_mem (show i < b.length by omega))
  omega
theorem prodRow_lok {n : Nat} {a : Mon} (ha : a.2.length = n ∧ ∀ x ∈ a.2, 0 ≤ x) : ∀ (q acc : List Mon), LOk n q → LOk n acc → LOk n (prodRow a acc q)
  | [], _, _, h => h
  | b :: q, acc, hq, h => prodRow_lok ha q _ hq.tl (putGo_lok (addE_ok ha hq.hd) acc _ h)
theorem prodGo_lok {n : Nat} {q : List Mon} (hq : LOk n q) : ∀ (p acc : List Mon), LOk n p → LOk n acc → LOk n (prodGo acc q p)
  | [], _, _, h => h
  | a :: p, acc, hp, h => prodGo_lok hq p _ hp.tl (prodRow_lok hp.hd q acc hq h)
theorem derGo_lok {n i : Nat} (hi : i < n) : ∀ (p acc : List Mon), LOk n p → LOk n acc → LOk n (derGo i acc p)
  | [], acc, _, ha => ha
  | a :: p, acc, hp, ha => by
    rw [derGo]
    have hav := hp.hd
    refine derGo_lok hi p _ hp.tl ?_
    split
    · rename_i hpos
      refine putGo_lok ⟨by simpa using hav.1, fun x hx => ?_⟩ acc _ ha
      rcases List.mem_or_eq_of_mem_set hx with hx | rfl
      · exact hav.2 x hx
      · omega
    · exact ha
theorem alongGo_lok {n : Nat} {p : List Mon} (hp : LOk n p) : ∀ (f : List (List Mon)) (k : Nat) (acc : List Mon), k + f.length ≤ n → (∀ F ∈ f, LOk n F) → LOk n acc → LOk n (alongGo acc p k f)
  | [], _, _, _, _, h => h
  | F :: f, k, acc, hk, hf, h => by
    rw [List.length_cons] at hk
    exact alongGo_lok hp f (k + 1) _ (by omega) (fun G hG => hf G (by simp [hG])) (plusL_lok _ _ (prodGo_lok (derGo_lok (by omega) p [] hp (by intro m hm; simp at hm)) F [] (hf F (by simp)) (by intro m hm; simp at hm)) h)
theorem alongL_lok {n : Nat} {f : List (List Mon)} {p : List Mon} (hp : LOk n p) (hf : ∀ F ∈ f, LOk n F) (hl : f.length ≤ n) : LOk n (alongL f p) := alongGo_lok hp f 0 [] (by omega) hf (by intro m hm; simp at hm)
theorem sT_shift (f : Nat → α) : ∀ n, sT f (n + 1) = f 0 + sT (fun k => f (k + 1)) n
  | 0 => by simp only [sT]; rw [addC]
  | n + 1 => by rw [sT, sT_shift f n, sT, addA]
theorem alongGo_ev (c : Cg α) (d : Nat) (U : Nat → α) {n : Nat} {p : List Mon} (hp : LOk n p) : ∀ (f : List (List Mon)) (k : Nat) (acc : List Mon), k + f.length ≤ n → (∀ F ∈ f, LOk n F) →
    c.r (evM d U (alongGo acc p k f)) (evM d U acc + sT (fun j => evM1 d (k + j) U p * evM d U (f[j]?.getD [])) f.length)
  | [], k, acc, _, _ => c.eq (add0 _).symm
  | F :: f, k, acc, hk, hf => by
    rw [List.length_cons] at hk
    rw [alongGo, List.length_cons, sT_shift]
    have hD : LOk n (derL k p) := derGo_lok (by omega) p [] hp (by intro m hm; simp at hm)
    refine c.trans (alongGo_ev c d U hp f (k + 1) _ (by omega) (fun G hG => hf G (by simp [hG]))) ?_
    refine c.trans (c.add (c.trans (plusL_ev c d U 1 _ acc) (c.add (c.refl _) (c.mul (c.refl _) (c.trans (prodL_ev c d U (hf F (by simp)) hD) (c.mul (c.refl _) (derL_ev c d U (by omega) hp)))))) (c.refl _)) (c.eq ?_)
    have e1 : sT (fun j => evM1 d (k + 1 + j) U p * evM d U (f[j]?.getD [])) f.length = sT (fun j => evM1 d (k + (j + 1)) U p * evM d U ((F :: f)[j + 1]?.getD [])) f.length :=
      sT_congr (fun j _ => by simp [Nat.add_assoc, Nat.add_comm 1 j])
    rw [e1, omul, addA]
    simp only [Nat.add_zero, List.getElem?_cons_zero, Option.getD_some]
    rw [mulC (evM d U F)]
theorem alongL_ev (c : Cg α) (d : Nat) (U : Nat → α) {n : Nat} {p : List Mon} (hp : LOk n p) {f : List (List Mon)} (hl : f.length ≤ n) (hf : ∀ F ∈ f, LOk n F) :
    c.r (evM d U (alongL f p)) (sT (fun j => evM1 d j U p * evM d U (f[j]?.getD [])) f.length) := by
  refine c.trans (alongGo_ev c d U hp f 0 [] (by omega) hf) (c.eq ?_)
  rw [evM_nil, zadd]
  exact sT_congr (fun j _ => by rw [Nat.zero_add])
/-- The flow that a field drives, by the derivatives along it. -/
theorem flow_is (c : Cg α) {d N : Nat} {U : Nat → Ser α} {f : List (List Mon)} (hl : f.length = d) (hf : ∀ F ∈ f, LOk d F)
    (hU : ∀ k, k < d → ∀ n, n < N → c.r (ofI ((n + 1 : Nat) : Int) * U k (n + 1)) (evM d U (f[k]?.getD []) n)) :
    ∀ (n : Nat) (L : List Mon), n ≤ N → LOk d L → c.r (ofI (fct n) * evM d U L n) (evM d (fun k => U k 0) (Nat.repeat (alongL f) n L)) := by
  refine flow_at c (π := List Mon) (fun L => L.map tr) (F := fun k => f[k]?.getD []) (A := alongL f) (Ok := LOk d) (fun L hL => ⟨alongL_lok hL hf (by omega), ?_⟩) hU
  have := alongL_ev (cgS c N) d U hL (f := f) (by omega) hf
  rw [hl] at this
  exact this
end
end Go.Proofs.Ytmhagkdbgafdnaa

/- Contracts: the reference's derivative of a list, values of such lists, the program's derivative of a map. -/
namespace Go.Proofs.Ytmhagkdbgafdnaa
open Go.Abs
set_option linter.unusedVariables false
set_option linter.unusedSimpArgs false
set_option maxHeartbeats 1000000
theorem putGo_len (c : Int) (e : List Int) : ∀ (l : List Mon) (done : Bool), (putGo c e l done).length ≤ l.length + 1
  | [], true => by simp [putGo]
  | [], false => by simp [putGo]
  | m :: l, done => by
    have one : ∀ b : Mon, (if b.1 = 0 then [] else [b]).length ≤ 1 := fun b => by split <;> simp
    have ht : ∀ l : List Mon, (putGo c e l true).length ≤ l.length := by
      intro l
      induction l with
      | nil => simp [putGo]
      | cons m l ih => rw [putGo_t]; have := one m; simp; omega
    have h1 := putGo_len c e l done
    have h2 := ht l
    have h3 := one m
    have h4 := one ((m.1 + c) % 10007, m.2)
    simp only at h4
    rw [putGo]
    split
    · simp only [List.length_append, List.length_cons]; omega
    · split
      · simp only [List.length_append, List.length_cons]; omega
      · simp only [List.length_append, List.length_cons]; omega
theorem putL_len (L : List Mon) (c : Int) (e : List Int) : (putL L c e).length ≤ L.length + 1 := putGo_len c e L _
theorem derGo_len (i : Nat) : ∀ (p acc : List Mon), (derGo i acc p).length ≤ acc.length + p.length
  | [], acc => by simp [derGo]
  | m :: p, acc => by
    rw [derGo]
    have := derGo_len i p (if 0 < m.2[i]?.getD 0 then putL acc (m.1 * m.2[i]?.getD 0 % 10007) (m.2.set i (m.2[i]?.getD 0 - 1)) else acc)
    have h : (if 0 < m.2[i]?.getD 0 then putL acc (m.1 * m.2[i]?.getD 0 % 10007) (m.2.set i (m.2[i]?.getD 0 - 1)) else acc).length ≤ acc.length + 1 := by
      split
      · exact putL_len _ _ _
      · omega
    simp; omega
/-- Monomials of n variables stay such. -/
theorem putGo_wok {n : Nat} {B c : Int} {e : List Int} (h : WOk n B (c, e)) : ∀ (l : List Mon) (done : Bool), (∀ m ∈ l, WOk n B m) → ∀ m ∈ putGo c e l done, WOk n B m
  | [], true, _, m, hm => by simp [putGo] at hm
  | [], false, _, m, hm => by simp [putGo] at hm; rw [hm]; exact h
  | a :: l, done, hl, m, hm => by
    have ha := hl a (by simp)
    have ih := fun d => putGo_wok h l d (fun b hb => hl b (by simp [hb]))
    have one : ∀ b : Mon, WOk n B b → m ∈ (if b.1 = 0 then [] else [b]) → WOk n B m := fun b hb hmm => by
      split at hmm
      · simp at hmm
      · simp at hmm; rw [hmm]; exact hb
    rw [putGo] at hm
    split at hm
    · rcases List.mem_append.1 hm with hm | hm
      · exact one ((a.1 + c) % 10007, a.2) ⟨isN_mod _, ha.len, ha.pw⟩ hm
      · exact ih _ m hm
    · split at hm
      · rcases List.mem_cons.1 hm with hm | hm
        · rw [hm]; exact h
        · rcases List.mem_append.1 hm with hm | hm
          · exact one a ha hm
          · exact ih _ m hm
      · rcases List.mem_append.1 hm with hm | hm
        · exact one a ha hm
        · exact ih _ m hm
theorem WOk.low {n i : Nat} {B : Int} {m : Mon} (h : WOk n B m) (hi : i < n) (hp : 0 < m.2[i]?.getD 0) : WOk n B (m.1 * m.2[i]?.getD 0 % 10007, m.2.set i (m.2[i]?.getD 0 - 1)) := by
  have hl := h.len
  refine ⟨isN_mod _, by simpa using hl, fun x hx => ?_⟩
  rcases List.mem_or_eq_of_mem_set hx with hx | rfl
  · exact h.pw x hx
  · have hm : m.2[i]?.getD 0 ∈ m.2 := by
      rw [List.getElem?_eq_getElem (by omega), Option.getD_some]; exact List.getElem_mem _
    have := h.pw _ hm
    omega
theorem derGo_wok {n i : Nat} {B : Int} (hi : i < n) : ∀ (p acc : List Mon), (∀ m ∈ p, WOk n B m) → (∀ m ∈ acc, WOk n B m) → ∀ m ∈ derGo i acc p, WOk n B m
  | [], acc, _, ha, m, hm => ha m hm
  | a :: p, acc, hp, ha, m, hm => by
    rw [derGo] at hm
    have hav := hp a (by simp)
    refine derGo_wok hi p _ (fun b hb => hp b (by simp [hb])) ?_ m hm
    split
    · rename_i hpos
      exact fun b hb => putGo_wok (hav.low hi hpos) acc _ ha b hb
    · exact ha
theorem small_mul {a b : Int} (ha : isN a) (h0 : 0 ≤ b) (h1 : b ≤ 1000000) : fits (a * b) := by
  obtain ⟨a0, a1⟩ := ha
  have := Int.mul_nonneg a0 h0
  have : a * b ≤ 10006 * 1000000 := Int.mul_le_mul (by omega) h1 h0 (by omega)
  exact ⟨by omega, by omega⟩
set_option maxRecDepth 100000 in
theorem l13Derive_c {n : Nat} {B : Int} (p : List Mon) (k : Nat) (hk : k < n) (hn : n ≤ 1000) (hB : 0 ≤ B) (hB2 : B ≤ 1000000) (hp : ∀ m ∈ p, WOk n B m) (hl : p.length ≤ 10000000) :
    Con Try.prog 60 [.sl p.length (mons p), .int k] (.own 93 (derL k p).length (omons (derL k p))) := by
  refine con_of_vc Try.mixed ⟨9, [], [], []⟩ Try.func60 (by decide) rfl (by simp) (by decide) (by simp [freshOK, freshL, go_sem]) ?_
  rw [Try.ntmps60]
  simp [go_sem]
  refine loop_inv (List.range' 5 45) (fun i : Nat => [(5, .own 93 (derL k (p.take i)).length (omons (derL k (p.take i)))), (6, .int i)]) (fun i => i ≤ p.length) (fun i => p.length - i) 0 (by simp) (by simp [go_sem, derL, derGo]) (by simp [go_sem]) ?_
  intro i hi
  simp [go_sem]
  refine ⟨fun h => ?_, fun h => ?_⟩ <;> simp at h
  · have hif := h
    have hx : p[i]?.getD (0, []) ∈ p := by simp [h]
    have hm := hp _ hx
    have hd : derL k (p.take (i + 1)) = (if 0 < (p[i]?.getD (0, [])).2[k]?.getD 0 then putL (derL k (p.take i)) ((p[i]?.getD (0, [])).1 * (p[i]?.getD (0, [])).2[k]?.getD 0 % 10007) ((p[i]?.getD (0, [])).2.set k ((p[i]?.getD (0, [])).2[k]?.getD 0 - 1)) else derL k (p.take i)) := by
      unfold derL
      rw [List.take_add_one, derGo_app]; simp [hif, derGo]
    have hw : ∀ m ∈ derL k (p.take i), WOk n B m := derGo_wok hk _ [] (fun m hm => hp m (List.mem_of_mem_take hm)) (by simp)
    have hdl := derGo_len k (p.take i) []
    have hdl2 : (derL k (p.take i)).length ≤ i := by unfold derL; simp at hdl; omega
    simp [go_sem, mons_drop hif]
    generalize hM : p[i]?.getD (0, []) = m at *
    have hml := hm.len
    have g := hm.get hB k
    have hkl : k < m.2.length := by omega
    have cO := l01Own_c m.2 (by omega)
    refine ⟨⟨hif, by rintro rfl; simp at hif⟩, ?_⟩
    refine CallVC.of (cO) (by decide) ?_
    simp [go_sem]
    simp [go_sem, mons_drop hif, hM, avs_at hkl]
    refine ⟨by kernel_rfl, ⟨hif, by rintro rfl; simp at hif⟩, hkl, ?_⟩
    refine CallD.of (l01Mul_c _ _ (small_mul hm.num g.1 (by omega))) (by simp [roots, rootsL]) (by decide) ?_
    simp [go_sem]
    refine ⟨by kernel_rfl, ?_⟩
    simp [go_sem]
    simp [go_sem, avs_at hkl]
    refine ⟨hkl, ?_⟩
    by_cases hpos : 0 < m.2[k]?.getD 0
    · rw [if_pos hpos] at hd
      have hv := hm.low (by omega) hpos
      have cP := l13Put_c (derL k (p.take i)) (m.1 * m.2[k]?.getD 0 % 10007) (m.2.set k (m.2[k]?.getD 0 - 1)) (isN_mod _) (fun q hq => ⟨(hw q hq).num, by have := (hw q hq).len; omega⟩) (by omega) (by simp; omega)
      rw [List.length_set] at cP
      simp [go_sem, hpos, avs_at hkl]
      refine ⟨hkl, ⟨by omega, by omega⟩, hkl, ?_⟩
      rw [avs_set, avs_frz]
      refine CallVC.of (cP) (by decide) ?_
      simp [go_sem]
      exact ⟨by omega, i + 1, by omega, by omega, Off_reset _ _ _ (by simp), by rw [hd]; exact ⟨rfl, rfl⟩, by omega⟩
    · rw [if_neg hpos] at hd
      simp [go_sem, hpos]
      exact ⟨by omega, i + 1, by omega, by omega, Off_reset _ _ _ (by simp), by rw [hd]; exact ⟨rfl, rfl⟩, by omega⟩
  · simp [go_sem]
    rw [List.take_of_length_le h]
    simp
set_option maxRecDepth 100000 in
theorem l13ValueW_c {B : Int} (p : List Mon) (y : List Int) (hy : Ns y) (hl : y.length ≤ 1000) (hp : p.length ≤ 10000000) (hB : 0 ≤ B) (hB2 : B ≤ 1000000) (hm : ∀ m ∈ p, WOk y.length B m) :
    Con Try.prog 59 [.sl p.length (mons p), .sl y.length (avs y)] (.int (vsum y p % 10007)) := by
  refine con_of_vc Try.mixed ⟨9, [], [], []⟩ Try.func59 (by decide) rfl (by simp) (by decide) (by simp [freshOK, freshL, go_sem]) ?_
  rw [Try.ntmps59]
  simp [go_sem]
  refine loop_inv (5 :: 6 :: 7 :: 8 :: List.range' 9 35) (fun i : Nat => [(5, .int (vsum y (p.take i) % 10007)), (6, .int i)]) (fun i => i ≤ p.length) (fun i => p.length - i) 0 (by simp) (by simp [go_sem, vsum]) (by simp [go_sem]) ?_
  intro i hi
  simp [go_sem]
  refine ⟨fun h => ?_, fun h => ?_⟩ <;> simp at h
  · have hif := h
    have hx : p[i]?.getD (0, []) ∈ p := by simp [h]
    have ho := hm _ hx
    have hv := vsum_take (y := y) h
    simp [go_sem, mons_drop hif]
    refine ⟨⟨hif, by rintro rfl; simp at hif⟩, ?_⟩
    generalize hM : p[i]?.getD (0, []) = m at *
    have hml : m.2.length = y.length := ho.len
    have hx1 : isN m.1 := ho.num
    refine loop_inv (7 :: 8 :: List.range' 20 21) (fun k : Nat => [(7, .int (tmF y m.2 m.1 k)), (8, .int k)]) (fun k => k ≤ y.length) (fun k => y.length - k) 0 (by simp) (by simp [go_sem, tmF]) (by simp [go_sem]) ?_
    intro k hk
    simp [go_sem]
    refine ⟨fun h => ?_, fun h => ?_⟩ <;> simp at h
    · have hk2 : k < m.2.length := by omega
      have g := ho.get hB k
      simp [go_sem, mons_drop hif, hM, avs_drop h, avs_drop hk2]
      refine ⟨by kernel_rfl, ⟨h, by rintro rfl; simp at h⟩, ⟨hif, by rintro rfl; simp at hif⟩, ⟨hk2, fun e => by rw [e] at hk2; simp at hk2⟩, ?_⟩
      refine CallD.of (l01Pow_c _ _ (hy.get k) g.1 (by omega)) (by simp [roots, rootsL]) (by decide) ?_
      simp [go_sem]
      refine CallD.of (l01Mul_c _ _ (mul_fits (tmF_N hx1 k) (isN_mod _))) (by simp [roots, rootsL]) (by decide) ?_
      simp [go_sem]
      refine ⟨by kernel_rfl, ?_⟩
      simp [go_sem]
      refine ⟨by omega, k + 1, by omega, by omega, Off_reset _ _ _ (by simp), by simp [tmF], by omega⟩
    · have e : k = y.length := by omega
      subst e
      simp [go_sem]
      refine CallVC.of (l01Add_c _ _ (add_fits (isN_mod _) (tmF_N hx1 _))) (by decide) ?_
      simp [go_sem]
      refine ⟨by omega, i + 1, by omega, by omega, (Off.reset (by intro x hx; simp at hx ⊢; omega) (by simp) (by simp [go_sem, Off_reset])), ?_, by omega⟩
      rw [hv]
  · simp [go_sem]
    have e : i = p.length := by omega
    subst e; simp
set_option maxRecDepth 100000 in
theorem derivative_c {n : Nat} (c : Key → Option Int) (i : Nat) (hi : i < n) (hn : n ≤ 3) (hc : ∀ k x, c k = some x → isN x ∧ KOk n k) :
    Con Try.prog 64 [.fmp c, .int i] (.mp (derM i c)) := by
  refine con_of_vc Try.mixed ⟨9, [], [], []⟩ Try.func64 (by decide) rfl (by simp) (by decide) (by simp [freshOK, freshL, go_sem]) ?_
  rw [Try.ntmps64]
  simp [go_sem]
  intro es hes
  have hok : ∀ e ∈ es, c e.1 = some e.2 := fun e he => hes.val e he
  refine loop_inv (List.range' 5 34) (fun x : Option (Key × Int) × List (Key × Int) => [(5, .mp (remD i c x.2)), (11, .it x.1 x.2)]) (fun x => x.2.Pairwise (fun a b => a.1 ≠ b.1) ∧ ∀ e ∈ x.2, c e.1 = some e.2) (fun x => x.2.length) (none, es) ⟨hes.nd, hok⟩ (by simp [go_sem, remD_start hes]) (by simp [go_sem]) ?_
  rintro ⟨l, rem⟩ ⟨hnd, hrem⟩
  simp only at hnd hrem
  simp [go_sem, keyAV]
  refine ⟨fun hr => ?_, fun l1 k0 k1 k2 x l2 hr => ?_⟩
  · subst hr
    exact remD_end i c
  · subst hr
    have h3 : i = 0 ∨ i = 1 ∨ i = 2 := by omega
    have hcx := hrem ((k0, k1, k2), x) (by simp)
    have hx := hc _ _ hcx
    have hbx := mem_box.1 hx.2.1
    simp only at hcx hbx
    have hnum := hx.1
    have hnd2 : (l1 ++ l2).Pairwise (fun a b => a.1 ≠ b.1) := hnd.sublist (List.Sublist.append (List.Sublist.refl _) (List.sublist_cons_self _ _))
    have hrem2 : ∀ a b c' y, ((a, b, c'), y) ∈ l1 ++ l2 → c (a, b, c') = some y := fun a b c' y hm => hrem ((a, b, c'), y) (by
      rcases List.mem_append.1 hm with hm | hm <;> simp [hm])
    rcases h3 with rfl | rfl | rfl
    · have hz : remD 0 c (l1 ++ ((k0, k1, k2), x) :: l2) (k0 - 1, k1, k2) = none := remD_at (i := 0) (c := c) (l1 := l1) (l2 := l2) (k0 := (k0, k1, k2)) (x := x)
      simp [go_sem]
      by_cases hp : 0 < k0
      · have hs : mset (remD 0 c (l1 ++ ((k0, k1, k2), x) :: l2)) (k0 - 1, k1, k2) (k0 * x % 10007) = remD 0 c (l1 ++ l2) := remD_step (i := 0) hnd hcx hp
        have hf : fits (k0 * x) := by rw [Int.mul_comm]; exact small_mul hnum (by omega) (by omega)
        simp [go_sem, hp, hz]
        refine ⟨⟨by omega, by omega⟩, by kernel_rfl, hf, ?_⟩
        refine CallD.of (num_c _ hf.1 hf.2) (by simp [roots, rootsL]) (by decide) ?_
        simp [go_sem]
        refine ⟨by kernel_rfl, ?_⟩
        simp [go_sem]
        exact ⟨_, _, ⟨hnd2, hrem2⟩, by simp; try omega, Off_reset _ _ _ (by simp), hs, rfl, rfl⟩
      · have hs : remD 0 c (l1 ++ ((k0, k1, k2), x) :: l2) = remD 0 c (l1 ++ l2) := remD_skip (i := 0) hnd hcx hp
        simp [go_sem, hp]
        exact ⟨_, _, ⟨hnd2, hrem2⟩, by simp; try omega, Off_reset _ _ _ (by simp), hs, rfl, rfl⟩
    · have hz : remD 1 c (l1 ++ ((k0, k1, k2), x) :: l2) (k0, k1 - 1, k2) = none := remD_at (i := 1) (c := c) (l1 := l1) (l2 := l2) (k0 := (k0, k1, k2)) (x := x)
      simp [go_sem]
      by_cases hp : 0 < k1
      · have hs : mset (remD 1 c (l1 ++ ((k0, k1, k2), x) :: l2)) (k0, k1 - 1, k2) (k1 * x % 10007) = remD 1 c (l1 ++ l2) := remD_step (i := 1) hnd hcx hp
        have hf : fits (k1 * x) := by rw [Int.mul_comm]; exact small_mul hnum (by omega) (by omega)
        simp [go_sem, hp, hz]
        refine ⟨⟨by omega, by omega⟩, by kernel_rfl, hf, ?_⟩
        refine CallD.of (num_c _ hf.1 hf.2) (by simp [roots, rootsL]) (by decide) ?_
        simp [go_sem]
        refine ⟨by kernel_rfl, ?_⟩
        simp [go_sem]
        exact ⟨_, _, ⟨hnd2, hrem2⟩, by simp; try omega, Off_reset _ _ _ (by simp), hs, rfl, rfl⟩
      · have hs : remD 1 c (l1 ++ ((k0, k1, k2), x) :: l2) = remD 1 c (l1 ++ l2) := remD_skip (i := 1) hnd hcx hp
        simp [go_sem, hp]
        exact ⟨_, _, ⟨hnd2, hrem2⟩, by simp; try omega, Off_reset _ _ _ (by simp), hs, rfl, rfl⟩
    · have hz : remD 2 c (l1 ++ ((k0, k1, k2), x) :: l2) (k0, k1, k2 - 1) = none := remD_at (i := 2) (c := c) (l1 := l1) (l2 := l2) (k0 := (k0, k1, k2)) (x := x)
      simp [go_sem]
      by_cases hp : 0 < k2
      · have hs : mset (remD 2 c (l1 ++ ((k0, k1, k2), x) :: l2)) (k0, k1, k2 - 1) (k2 * x % 10007) = remD 2 c (l1 ++ l2) := remD_step (i := 2) hnd hcx hp
        have hf : fits (k2 * x) := by rw [Int.mul_comm]; exact small_mul hnum (by omega) (by omega)
        simp [go_sem, hp, hz]
        refine ⟨⟨by omega, by omega⟩, by kernel_rfl, hf, ?_⟩
        refine CallD.of (num_c _ hf.1 hf.2) (by simp [roots, rootsL]) (by decide) ?_
        simp [go_sem]
        refine ⟨by kernel_rfl, ?_⟩
        simp [go_sem]
        exact ⟨_, _, ⟨hnd2, hrem2⟩, by simp; try omega, Off_reset _ _ _ (by simp), hs, rfl, rfl⟩
      · have hs : remD 2 c (l1 ++ ((k0, k1, k2), x) :: l2) = remD 2 c (l1 ++ l2) := remD_skip (i := 2) hnd hcx hp
        simp [go_sem, hp]
        exact ⟨_, _, ⟨hnd2, hrem2⟩, by simp; try omega, Off_reset _ _ _ (by simp), hs, rfl, rfl⟩
end Go.Proofs.Ytmhagkdbgafdnaa

/- Contracts: Jacobians, the reference's and the program's; rows of marks. -/
namespace Go.Proofs.Ytmhagkdbgafdnaa
open Go.Abs
set_option linter.unusedVariables false
set_option linter.unusedSimpArgs false
set_option maxHeartbeats 1000000
theorem heldInt64SS_c (A : List (List Int)) (k : Int) (hA : A.length ≤ 1048576) (hr : ∀ r ∈ A, r.length ≤ 1048576) (h0 : 0 ≤ k) (h1 : k + sumL A ≤ 9223372036854775807) :
    Con Try.prog 26 [.sl A.length (mat (marksM A k)), .int k] (.int (k + sumL A)) := by
  refine con_of_vc Try.mixed ⟨6, [], [], []⟩ Try.func26 (by decide) rfl (by simp) (by decide) (by simp [freshOK, freshL, go_sem]) ?_
  rw [Try.ntmps26]
  simp [go_sem]
  refine loop_inv (1 :: 4 :: 5 :: List.range' 6 14) (fun i : Nat => [(1, .int (k + sumL (A.take i))), (5, .int i)]) (fun i => i ≤ A.length) (fun i => A.length - i) 0 (by simp) (by simp [go_sem, sumL]) (by simp [go_sem]) ?_
  intro i hi
  simp [go_sem]
  refine ⟨fun h => ?_, fun h => ?_⟩ <;> simp at h
  · have hi2 : i < (marksM A k).length := by simpa using h
    have t1 := sumL_take h
    have t2 := sumL_le A (i + 1)
    have hmem : A[i]?.getD [] ∈ A := by simp [h]
    have hl := hr _ hmem
    have e1 : (marksM A k)[i]?.getD [] = marks (A[i]?.getD []).length (k + sumL (A.take i)) := by
      have hs : marksM A k = marksM (A.take i) k ++ marksM (A.drop i) (k + sumL (A.take i)) := by
        have gen : ∀ (C D : List (List Int)) (k : Int), marksM (C ++ D) k = marksM C k ++ marksM D (k + sumL C) := by
          intro C
          induction C with
          | nil => intro D k; simp [marksM, sumL]
          | cons r C ih => intro D k; simp only [List.cons_append, marksM, ih, sumL]; congr 3; omega
        rw [← gen, List.take_append_drop]
      rw [hs, List.getElem?_append_right (by simp; omega), List.drop_eq_getElem_cons h]
      simp [marksM, h, Nat.min_eq_left hi]
    have cH := heldInt64S_c (marks (A[i]?.getD []).length (k + sumL (A.take i))) (k + sumL (A.take i)) (by omega) (by simp [marks]; omega)
    have hml : (marks (A[i]?.getD []).length (k + sumL (A.take i))).length = (A[i]?.getD []).length := by simp [marks]
    have hh : held (marks (A[i]?.getD []).length (k + sumL (A.take i))) (k + sumL (A.take i)) = k + sumL (A.take i) + (A[i]?.getD []).length := held_mark _ _
    rw [hh] at cH
    generalize (marks (A[i]?.getD []).length (k + sumL (A.take i))) = M at *
    generalize (A[i]?.getD []).length = rl at *
    simp [go_sem, mat_drop hi2, e1]
    refine ⟨⟨h, fun e => by rw [e] at hi2; simp at hi2⟩, ?_⟩
    refine CallVC.of (cH) (by decide) ?_
    simp [go_sem]
    have p1 : ¬ (k + (sumL (A.take i) : Int) + rl < 0) := by omega
    simp [go_sem, p1]
    exact ⟨by omega, i + 1, by omega, by omega, Off_reset _ _ _ (by simp), by omega, by omega⟩
  · simp [go_sem]
    rw [List.take_of_length_le h]
/-- Rows of derivatives. -/
def jacR (n : Nat) (y : List Int) (p : List Mon) : List Int := (List.range n).map fun k => vsum y (derL k p) % 10007
def jacL (n : Nat) (y : List Int) (f : List (List Mon)) : List (List Int) := f.map (jacR n y)
@[simp] theorem jacR_len (n : Nat) (y : List Int) (p : List Mon) : (jacR n y p).length = n := by simp [jacR]
@[simp] theorem jacL_len (n : Nat) (y : List Int) (f : List (List Mon)) : (jacL n y f).length = f.length := by simp [jacL]
theorem jacR_succ (n : Nat) (y : List Int) (p : List Mon) : jacR (n + 1) y p = jacR n y p ++ [vsum y (derL n p) % 10007] := by simp [jacR, List.range_succ]
theorem jacL_take {n : Nat} {y : List Int} {f : List (List Mon)} {i : Nat} (h : i < f.length) : jacL n y (f.take (i + 1)) = jacL n y (f.take i) ++ [jacR n y (f[i]?.getD [])] := by
  rw [jacL, jacL, List.take_add_one, List.map_append, List.getElem?_eq_getElem h]; rfl
theorem omat_app (A C : List (List Int)) : omat (A ++ C) = omat A ++ omat C := by simp [omat]
theorem omat_one (r : List Int) : omat [r] = [.own 2 r.length (avs r)] := rfl
theorem omat_nil : omat [] = [] := rfl
def jcX (z : Int) (f : List (List Mon)) (y : List Int) : List (List Int) := if fieldB z f = true ∧ (decide ((y.length : Int) = z) && numsB y) = true then jacL y.length y f else []
def jcR (z : Int) (f : List (List Mon)) (y : List Int) : AV := .tup [.own 25 (jcX z f y).length (omat (jcX z f y)), .int (evE z f y)]
set_option maxRecDepth 100000 in
theorem specJacobianAt_c (z : Int) (f : List (List Mon)) (y : List Int) (hs : Small f) (hy : y.length ≤ 9223372036854775807) :
    Con Try.prog 16 [.agg [.int z, .sl f.length (prt f)], .sl y.length (avs y)] (jcR z f y) := by
  have cT := l13Is_c z f hs
  have cR := l13Point_c z y hy
  unfold jcR jcX evE
  cases hT : fieldB z f with
  | false =>
    rw [hT] at cT
    refine Con.n1 _ ?_
    refine con_of_vc Try.mixed ⟨10, [], [], []⟩ Try.func16 (by decide) rfl (by simp) (by decide) (by simp [freshOK, freshL, go_sem]) ?_
    rw [Try.ntmps16]
    simp [go_sem]
    refine CallVC.of (cT) (by decide) ?_
    simp [go_sem]
  | true =>
    rw [hT] at cT
    cases hn : (decide ((y.length : Int) = z) && numsB y) with
    | true =>
      rw [hn] at cR
      simp only [and_self, if_true, jacL_len]
      have hn2 : (y.length : Int) = z ∧ numsB y = true := by simpa using hn
      have hF := fieldB_iff.1 hT
      have hN := numsB_N.1 hn2.2
      have fl := hs.1
      have z3 := hF.hi
      refine con_of_vc Try.mixed ⟨10, [], [], []⟩ Try.func16 (by decide) rfl (by simp) (by decide) (by simp [freshOK, freshL, go_sem]) ?_
      rw [Try.ntmps16]
      simp [go_sem]
      refine CallVC.of (cT) (by decide) ?_
      simp [go_sem]
      refine CallVC.of (cR) (by decide) ?_
      simp [go_sem]
      refine loop_inv (List.range' 6 43) (fun i : Nat => [(6, .own 25 i (omat (jacL y.length y (f.take i)))), (7, .int i)]) (fun i => i ≤ f.length) (fun i => f.length - i) 0 (by simp) (by simp [go_sem, jacL, omat_nil]) (by simp [go_sem]) ?_
      intro i hi
      simp [go_sem]
      refine ⟨fun h => ?_, fun h => ?_⟩ <;> simp at h
      · have hif := h
        have hx : f[i]?.getD [] ∈ f := by simp [h]
        have hv := jacL_take (n := y.length) (y := y) h
        simp [go_sem]
        refine loop_inv (8 :: 9 :: List.range' 27 18) (fun k : Nat => [(8, .own 2 k (avs (jacR k y (f[i]?.getD [])))), (9, .int k)]) (fun k => k ≤ y.length) (fun k => y.length - k) 0 (by simp) (by simp [go_sem, jacR]) (by simp [go_sem]) ?_
        intro k hk
        simp [go_sem]
        refine ⟨fun h => ?_, fun h => ?_⟩ <;> simp at h
        · have hkl := h
          have hpp : partB (y.length : Int) (f[i]?.getD []) = true := by rw [hn2.1]; exact hF.part _ hx
          have hw : ∀ m ∈ f[i]?.getD [], WOk y.length 3 m := fun m hm => (partB_mem hpp hm).vok.wok
          have hsz := (hs.2 _ hx).1
          have hdl := derGo_len k (f[i]?.getD []) []
          have cD := l13Derive_c (n := y.length) (B := 3) (f[i]?.getD []) k hkl (by omega) (by omega) (by omega) hw (by omega)
          have cV := l13ValueW_c (B := 3) (derL k (f[i]?.getD [])) y hN (by omega) (by unfold derL; simp at hdl; omega) (by omega) (by omega) (derGo_wok hkl _ [] hw (by simp))
          have hj := jacR_succ k y (f[i]?.getD [])
          simp [go_sem, prt_drop hif]
          generalize f[i]?.getD [] = p at *
          refine ⟨⟨hif, by rintro rfl; simp at hif⟩, ?_⟩
          refine CallVC.of (cD) (by decide) ?_
          simp [go_sem]
          refine CallVC.of (cV) (by decide) ?_
          simp [go_sem]
          exact ⟨by omega, by omega, k + 1, by omega, by omega, Off_reset _ _ _ (by simp), by rw [hj]; simp [avs_snoc], by omega⟩
        · have e : k = y.length := by omega
          subst e
          simp [go_sem]
          exact ⟨by omega, by omega, i + 1, by omega, by omega, (Off.reset (by intro x hx; simp at hx ⊢; omega) (by simp) (by simp [go_sem, Off_reset])), by rw [hv, omat_app, omat_one]; simp, by omega⟩
      · simp [go_sem]
        have e : i = f.length := by omega
        subst e; simp
    | false =>
      rw [hn] at cR
      refine Con.n1 _ ?_
      refine con_of_vc Try.mixed ⟨10, [], [], []⟩ Try.func16 (by decide) rfl (by simp) (by decide) (by simp [freshOK, freshL, go_sem]) ?_
      rw [Try.ntmps16]
      simp [go_sem]
      refine CallVC.of (cT) (by decide) ?_
      simp [go_sem]
      refine CallVC.of (cR) (by decide) ?_
      simp [go_sem]
theorem polF_kok {n : Nat} {p : List Mon} (hn : n ≤ 3) (hp : partB (n : Int) p = true) {k : Key} {x : Int} (hk : polF p k = some x) : isN x ∧ KOk n k := by
  obtain ⟨m, hm, he⟩ := List.mem_map.1 ((polF_some (keys_nd (by omega) hp)).1 hk)
  simp only [keyM, Prod.mk.injEq] at he
  obtain ⟨rfl, rfl⟩ := he
  have := (partB_mem hp hm).vok
  exact ⟨this.num, this.kok hn⟩
set_option maxRecDepth 100000 in
theorem JacobianAt_c (z : Int) (f : List (List Mon)) (y : List Int) (hs : Small f) (hy : y.length ≤ 9223372036854775807) :
    Con Try.prog 19 [.agg [.int z, .sl f.length (prt f)], .sl y.length (avs y)] (jcR z f y) := by
  have cK := checkVectors_c z f [y] hs (by simp) (by simpa using hy)
  have e1 : mat [y] = [.sl y.length (avs y)] := rfl
  have e2 : ([y] : List (List Int)).length = 1 := rfl
  rw [e1, e2] at cK
  unfold jcR jcX evE
  have hv : ([y] : List (List Int)).any (fun y => !vecB z y) = !vecB z y := by simp
  unfold chk at cK
  rw [hv] at cK
  have hvb : (decide ((y.length : Int) = z) && numsB y) = vecB z y := rfl
  rw [hvb]
  cases hT : fieldB z f with
  | false =>
    rw [hT] at cK
    refine Con.n1 _ ?_
    refine con_of_vc Try.mixed ⟨12, [], [], []⟩ Try.func19 (by decide) rfl (by simp) (by decide) (by simp [freshOK, freshL, go_sem]) ?_
    rw [Try.ntmps19]
    simp [go_sem]
    refine CallVC.of (cK) (by decide) ?_
    simp [go_sem]
  | true =>
    rw [hT] at cK
    cases hn : vecB z y with
    | true =>
      rw [hn] at cK
      simp at cK
      have hn2 : (y.length : Int) = z ∧ numsB y = true := by simpa [vecB] using hn
      have hF := fieldB_iff.1 hT
      have hN := numsB_N.1 hn2.2
      have fl := hs.1
      have z3 := hF.hi
      simp only [and_self, if_true, jacL_len]
      refine con_of_vc Try.mixed ⟨12, [21], [], []⟩ Try.func19 (by decide) rfl (by simp) (by decide) (by simp [freshOK, freshL, go_sem]) ?_
      rw [Try.ntmps19]
      simp [go_sem]
      refine CallVC.of (cK) (by decide) ?_
      simp [go_sem]
      refine CallVC.of (polynomials_c z f hF hs) (by decide) ?_
      simp [go_sem]
      refine loop_inv (7 :: 9 :: 10 :: 11 :: List.range' 23 24) (fun i : Nat => [(7, .own 25 i (omat (jacL y.length y (f.take i)))), (23, .int i)]) (fun i => i ≤ f.length) (fun i => f.length - i) 0 (by simp) (by simp [go_sem, jacL, omat_nil]) (by simp [go_sem]) ?_
      intro i hi
      simp [go_sem]
      refine ⟨fun h => ?_, fun h => ?_⟩ <;> simp at h
      · have hif := h
        have hx : f[i]?.getD [] ∈ f := by simp [h]
        have hv := jacL_take (n := y.length) (y := y) h
        simp [go_sem, fpols_drop hif]
        refine ⟨⟨hif, by rintro rfl; simp at hif⟩, ?_⟩
        refine loop_inv (10 :: 11 :: List.range' 30 12) (fun k : Nat => [(10, .own 2 k (avs (jacR k y (f[i]?.getD [])))), (30, .int k)]) (fun k => k ≤ y.length) (fun k => y.length - k) 0 (by simp) (by simp [go_sem, jacR]) (by simp [go_sem]) ?_
        intro k hk
        simp [go_sem]
        refine ⟨fun h => ?_, fun h => ?_⟩ <;> simp at h
        · have hkl := h
          have hpp : partB (y.length : Int) (f[i]?.getD []) = true := by rw [hn2.1]; exact hF.part _ hx
          have hj := jacR_succ k y (f[i]?.getD [])
          have hq : ∀ kk x, polF (f[i]?.getD []) kk = some x → isN x ∧ KOk y.length kk := fun kk x hkx => polF_kok (by omega) hpp hkx
          have cD := derivative_c (n := y.length) (polF (f[i]?.getD [])) k hkl (by omega) hq
          have cV := value_c2 (derM k (polF (f[i]?.getD []))) y hN (by omega) (derM_ok hkl (by omega) hq)
          rw [← jac_eq (n := y.length) (by omega) hkl rfl hpp] at cV
          simp [go_sem]
          refine CallVC.of (cD) (by decide) ?_
          simp [go_sem]
          refine CallVC.of (cV) (by decide) ?_
          simp [go_sem]
          exact ⟨by omega, by omega, k + 1, by omega, by omega, Off_reset _ _ _ (by simp), by rw [hj]; simp [avs_snoc], by omega⟩
        · have e : k = y.length := by omega
          subst e
          simp [go_sem]
          exact ⟨by omega, by omega, i + 1, by omega, by omega, (Off.reset (by intro x hx; simp at hx ⊢; omega) (by simp) (by simp [go_sem, Off_reset])), by rw [hv, omat_app, omat_one]; simp, by omega⟩
      · simp [go_sem]
        have e : i = f.length := by omega
        subst e; simp
    | false =>
      rw [hn] at cK
      simp at cK
      refine Con.n1 _ ?_
      refine con_of_vc Try.mixed ⟨12, [], [], []⟩ Try.func19 (by decide) rfl (by simp) (by decide) (by simp [freshOK, freshL, go_sem]) ?_
      rw [Try.ntmps19]
      simp [go_sem]
      refine CallVC.of (cK) (by decide) ?_
      simp [go_sem]
end Go.Proofs.Ytmhagkdbgafdnaa

/- What the statements' walks share: sizes. -/
namespace Go.Proofs.Ytmhagkdbgafdnaa
open Go.Abs
set_option linter.unusedVariables false
theorem small_of {f : List (List Mon)} (h : (cF f : Int) ≤ 1048576) : Small f := by
  unfold cF at h
  refine ⟨by omega, fun p hp => ?_⟩
  have h1 : p.length + sumC cM p ≤ sumC cP f := sumC_mem cP hp
  refine ⟨by omega, fun q hq => ?_⟩
  have h2 : q.2.length ≤ sumC cM p := sumC_mem cM hq
  omega
theorem sumL_bound {A : List (List Int)} {n : Nat} (h : ∀ r ∈ A, r.length ≤ n) : sumL A ≤ A.length * n := by
  induction A with
  | nil => simp [sumL]
  | cons r A ih =>
    have h1 := h r (by simp)
    have h2 := ih (fun q hq => h q (by simp [hq]))
    simp only [sumL, List.length_cons, Nat.add_mul, Nat.one_mul]; omega
theorem szT_hi {A : List (List Int)} {B : List Int} {left : Int} (h0 : 0 ≤ left) : szT A B left ≤ left := by
  unfold szT
  split
  · omega
  · rename_i h
    have := (szM_ok h0 (by omega : 0 ≤ szM left A)).2.1
    have := szR_le (left := szM left A) (n := (B.length : Int)) (by omega) (by omega)
    omega
end Go.Proofs.Ytmhagkdbgafdnaa

/- Contracts: sums and multiples of rows, copies, explicit tableaus, the codes of steps. -/
namespace Go.Proofs.Ytmhagkdbgafdnaa
open Go.Abs
set_option linter.unusedVariables false
set_option linter.unusedSimpArgs false
set_option maxHeartbeats 4000000
def plusS (a b : List Int) (k : Int) : List Int := tb (fun i => (a[i]?.getD 0 + k % 10007 * b[i]?.getD 0) % 10007) a.length
@[simp] theorem plusS_len (a b : List Int) (k : Int) : (plusS a b k).length = a.length := by simp [plusS]
theorem plusS_N (a b : List Int) (k : Int) : Ns (plusS a b k) := tb_N fun i _ => isN_mod _
def scalS (a : List Int) (k : Int) : List Int := tb (fun i => a[i]?.getD 0 * (k % 10007) % 10007) a.length
@[simp] theorem scalS_len (a : List Int) (k : Int) : (scalS a k).length = a.length := by simp [scalS]
theorem scalS_N (a : List Int) (k : Int) : Ns (scalS a k) := tb_N fun i _ => isN_mod _
theorem plus_c (a b : List Int) (k : Int) (ha : Ns a) (hb : Ns b) (hk : fits k) (hl : a.length ≤ 1048576) (hab : a.length ≤ b.length) :
    Con Try.prog 151 [.sl a.length (avs a), .sl b.length (avs b), .int k] (.own 2 a.length (avs (plusS a b k))) := by
  refine con_of_vc Try.mixed ⟨10, [], [], []⟩ Try.func151 (by decide) rfl (by simp) (by decide) (by simp [freshOK, freshL, go_sem]) ?_
  rw [Try.ntmps151]
  simp [go_sem]
  refine loop_inv (7 :: 8 :: 9 :: List.range' 13 19) (fun i : Nat => [(7, .own 2 i (avs (tb (fun i => (a[i]?.getD 0 + k % 10007 * b[i]?.getD 0) % 10007) i))), (13, .int i)]) (fun i => i ≤ a.length) (fun i => a.length - i) 0 (by simp) (by simp [go_sem]) (by simp [go_sem]) ?_
  intro i hi
  simp [go_sem]
  refine ⟨fun h => ?_, fun h => ?_⟩ <;> simp at h
  · have h2 : i < b.length := by omega
    have m1 := mul_bound (isN_mod k) (hb.get i)
    have m2 := ha.get i
    have f1 : fits (k % 10007 * b[i]?.getD 0) := ⟨by omega, by omega⟩
    have f2 : fits (a[i]?.getD 0 + k % 10007 * b[i]?.getD 0) := by obtain ⟨x0, x1⟩ := m2; exact ⟨by omega, by omega⟩
    simp [go_sem, avs_drop h, avs_drop h2]
    refine ⟨⟨h, by rintro rfl; simp at h⟩, by kernel_rfl, ?_⟩
    refine CallD.of (num_c _ hk.1 hk.2) (by simp [roots, rootsL]) (by decide) ?_
    simp [go_sem]
    simp [go_sem, avs_drop h, avs_drop h2]
    refine ⟨⟨h2, by rintro rfl; simp at h2⟩, f1, f2, ?_⟩
    refine CallD.of (num_c _ f2.1 f2.2) (by simp [roots, rootsL]) (by decide) ?_
    simp [go_sem]
    refine ⟨by omega, ?_⟩
    refine ⟨by kernel_rfl, ?_⟩
    simp [go_sem]
    exact ⟨by omega, i + 1, by omega, by omega, Off_reset _ _ _ (by simp), by simp [tb_succ, avs_snoc], by omega⟩
  · have e : i = a.length := by omega
    subst e
    simp [go_sem]
    rfl
theorem scaled_c (a : List Int) (k : Int) (ha : Ns a) (hk : fits k) (hl : a.length ≤ 1048576) :
    Con Try.prog 113 [.sl a.length (avs a), .int k] (.own 2 a.length (avs (scalS a k))) := by
  refine con_of_vc Try.mixed ⟨8, [], [], []⟩ Try.func113 (by decide) rfl (by simp) (by decide) (by simp [freshOK, freshL, go_sem]) ?_
  rw [Try.ntmps113]
  simp [go_sem]
  refine loop_inv (5 :: 7 :: List.range' 11 13) (fun i : Nat => [(5, .own 2 i (avs (tb (fun i => a[i]?.getD 0 * (k % 10007) % 10007) i))), (11, .int i)]) (fun i => i ≤ a.length) (fun i => a.length - i) 0 (by simp) (by simp [go_sem]) (by simp [go_sem]) ?_
  intro i hi
  simp [go_sem]
  refine ⟨fun h => ?_, fun h => ?_⟩ <;> simp at h
  · have f1 := mul_fits (ha.get i) (isN_mod k)
    simp [go_sem, avs_drop h]
    refine ⟨⟨h, by rintro rfl; simp at h⟩, ?_⟩
    refine CallVC.of (num_c _ hk.1 hk.2) (by decide) ?_
    simp [go_sem]
    refine ⟨f1, ?_⟩
    refine CallVC.of (num_c _ f1.1 f1.2) (by decide) ?_
    simp [go_sem]
    exact ⟨by omega, by omega, i + 1, by omega, by omega, Off_reset _ _ _ (by simp), by simp [tb_succ, avs_snoc], by omega⟩
  · have e : i = a.length := by omega
    subst e
    simp [go_sem]
    rfl
theorem Clone_c (xs : List Int) (hl : xs.length ≤ 1048576) : Con Try.prog 94 [.sl xs.length (avs xs)] (.own 2 xs.length (avs xs)) := by
  refine con_of_vcN Try.mixed ⟨3, [], [], []⟩ Try.func94 (by decide) rfl (by simp) (by decide) (by simp [freshOK, freshL, go_sem]) ?_
  rw [Try.ntmps94]
  simp [go_sem]
  exact ⟨by omega, by omega⟩
/-- That rows have zeros alone from a distance on. -/
def lowB (A : List (List Int)) (d : Nat) : Bool := (List.range A.length).all fun i => (List.range (A[i]?.getD []).length).all fun k => decide (k < i + d) || decide ((A[i]?.getD [])[k]?.getD 0 = 0)
theorem lowB_no {A : List (List Int)} {d i k : Nat} (hi : i < A.length) (hk : k < (A[i]?.getD []).length) (h1 : i + d ≤ k) (h2 : (A[i]?.getD [])[k]?.getD 0 ≠ 0) : lowB A d = false := by
  unfold lowB
  rw [List.all_eq_false]
  refine ⟨i, by simpa using hi, ?_⟩
  rw [Bool.not_eq_true, List.all_eq_false]
  exact ⟨k, by simpa using hk, by simp [h2]; omega⟩
theorem lowB_yes {A : List (List Int)} {d : Nat} (h : ∀ i, i < A.length → ∀ k, k < (A[i]?.getD []).length → i + d ≤ k → (A[i]?.getD [])[k]?.getD 0 = 0) : lowB A d = true := by
  unfold lowB
  rw [List.all_eq_true]
  intro i hi
  rw [List.all_eq_true]
  intro k hk
  by_cases h1 : k < i + d
  · simp [h1]
  · simp [h i (by simpa using hi) k (by simpa using hk) (by omega)]
set_option maxRecDepth 100000 in
theorem zeroFrom_c (A : List (List Int)) (B : List Int) (d : Nat) (hd : d ≤ 1048576) (hA : A.length ≤ 1048576) (hr : ∀ r ∈ A, r.length ≤ 1048576) :
    Con Try.prog 150 [.agg [.sl A.length (mat A), .sl B.length (avs B)], .int d] (.bool (lowB A d)) := by
  refine con_of_vc Try.mixed ⟨8, [], [], []⟩ Try.func150 (by decide) rfl (by simp) (by decide) (by simp [freshOK, freshL, go_sem]) ?_
  rw [Try.ntmps150]
  simp [go_sem]
  refine loop_inv (4 :: 5 :: 6 :: 7 :: List.range' 11 20) (fun i : Nat => [(11, .int i)]) (fun i => i ≤ A.length ∧ ∀ j, j < i → ∀ k, k < (A[j]?.getD []).length → j + d ≤ k → (A[j]?.getD [])[k]?.getD 0 = 0) (fun i => A.length - i) 0 (by simp) (by simp [go_sem]) (by simp [go_sem]) ?_
  rintro i ⟨hi, hp⟩
  simp [go_sem]
  refine ⟨fun h => ?_, fun h => ?_⟩ <;> simp at h
  · have hif := h
    have hx : A[i]?.getD [] ∈ A := by simp [h]
    have hrl := hr _ hx
    simp [go_sem, mat_drop hif]
    refine ⟨⟨hif, by rintro rfl; simp at hif⟩, by omega, ?_⟩
    generalize hR : A[i]?.getD [] = row at *
    refine loop_inv (4 :: 7 :: List.range' 19 11) (fun k : Nat => [(7, .int k)]) (fun k => i + d ≤ k ∧ (k ≤ row.length ∨ k = i + d) ∧ ∀ j, j < k → i + d ≤ j → j < row.length → row[j]?.getD 0 = 0) (fun k => row.length - k) (i + d) ⟨Nat.le_refl _, .inr rfl, fun j h1 h2 => by omega⟩ (by simp [go_sem]) (by simp [go_sem]) ?_
    rintro k ⟨hk1, hk2, hq⟩
    simp [go_sem]
    refine ⟨fun h => ?_, fun h => ?_⟩ <;> simp at h
    · have hkl := h
      simp [go_sem, avs_drop hkl]
      refine ⟨⟨hkl, by rintro rfl; simp at hkl⟩, ?_⟩
      by_cases h0 : row[k]?.getD 0 = 0
      · simp [go_sem, h0]
        refine ⟨by omega, k + 1, ⟨by omega, by omega, fun j h1 h2 h3 => ?_⟩, by omega, Off_reset _ _ _ (by simp), by omega⟩
        by_cases e : j = k
        · rw [e]; exact h0
        · exact hq j (by omega) h2 h3
      · simp [go_sem, h0]
        rw [lowB_no hif (by rw [hR]; exact hkl) hk1 (by rw [hR]; exact h0)]
    · simp [go_sem]
      refine ⟨by omega, i + 1, ⟨by omega, fun j h1 k2 h2 h3 => ?_⟩, by omega, (Off.reset (by intro x hx; simp at hx ⊢; omega) (by simp) (by simp [go_sem, Off_reset])), by omega⟩
      by_cases e : j = i
      · subst e; rw [hR] at h2 ⊢; exact hq k2 (by omega) h3 h2
      · exact hp j (by omega) k2 h2 h3
  · simp [go_sem]
    rw [lowB_yes (fun j hj => hp j (by omega))]
set_option maxRecDepth 100000 in
theorem l09Lower_c (A : List (List Int)) (B : List Int) (d : Nat) (hd : d ≤ 1048576) (hB : B.length ≤ 1048576) (hA : A.length = B.length) (hr : ∀ r ∈ A, r.length = B.length) :
    Con Try.prog 90 [.agg [.sl A.length (mat A), .sl B.length (avs B)], .int d] (.bool (lowB A d)) := by
  refine con_of_vc Try.mixed ⟨7, [], [], []⟩ Try.func90 (by decide) rfl (by simp) (by decide) (by simp [freshOK, freshL, go_sem]) ?_
  rw [Try.ntmps90]
  simp [go_sem]
  refine loop_inv (List.range' 4 29) (fun i : Nat => [(5, .int i)]) (fun i => i ≤ A.length ∧ ∀ j, j < i → ∀ k, k < (A[j]?.getD []).length → j + d ≤ k → (A[j]?.getD [])[k]?.getD 0 = 0) (fun i => A.length - i) 0 (by simp) (by simp [go_sem]) (by simp [go_sem]) ?_
  rintro i ⟨hi, hp⟩
  simp [go_sem]
  refine ⟨fun h => ?_, fun h => ?_⟩ <;> simp at h
  · have hif : i < A.length := by omega
    have hx : A[i]?.getD [] ∈ A := by simp [hif]
    have hrl := hr _ hx
    simp [go_sem]
    refine ⟨by omega, ?_⟩
    refine loop_inv (4 :: 6 :: List.range' 17 16) (fun k : Nat => [(6, .int k)]) (fun k => i + d ≤ k ∧ (k ≤ B.length ∨ k = i + d) ∧ ∀ j, j < k → i + d ≤ j → j < B.length → (A[i]?.getD [])[j]?.getD 0 = 0) (fun k => B.length - k) (i + d) ⟨Nat.le_refl _, .inr rfl, fun j h1 h2 => by omega⟩ (by simp [go_sem]) (by simp [go_sem]) ?_
    rintro k ⟨hk1, hk2, hq⟩
    simp [go_sem]
    refine ⟨fun h => ?_, fun h => ?_⟩ <;> simp at h
    · have hkl : k < (A[i]?.getD []).length := by omega
      simp [go_sem, mat_drop hif, avs_drop hkl]
      refine ⟨⟨hif, by rintro rfl; simp at hif⟩, ⟨hkl, fun e => by rw [e] at hkl; simp at hkl⟩, ?_⟩
      by_cases h0 : (A[i]?.getD [])[k]?.getD 0 = 0
      · simp [go_sem, h0]
        refine ⟨by omega, k + 1, ⟨by omega, by omega, fun j h1 h2 h3 => ?_⟩, by omega, Off_reset _ _ _ (by simp), by omega⟩
        by_cases e : j = k
        · rw [e]; exact h0
        · exact hq j (by omega) h2 h3
      · simp [go_sem, h0]
        rw [lowB_no hif hkl hk1 h0]
    · simp [go_sem]
      refine ⟨by omega, i + 1, ⟨by omega, fun j h1 k2 h2 h3 => ?_⟩, by omega, (Off.reset (by intro x hx; simp at hx ⊢; omega) (by simp) (by simp [go_sem, Off_reset])), by omega⟩
      by_cases e : j = i
      · subst e; exact hq k2 (by omega) h3 (by omega)
      · exact hp j (by omega) k2 h2 h3
  · simp [go_sem]
    rw [lowB_yes (fun j hj => hp j (by omega))]
end Go.Proofs.Ytmhagkdbgafdnaa

/- Contracts: explicit steps, the program's and the reference's. -/
namespace Go.Proofs.Ytmhagkdbgafdnaa
open Go.Abs
set_option linter.unusedVariables false
set_option linter.unusedSimpArgs false
set_option maxHeartbeats 1000000
@[go_sem] theorem klW_bor (W : List Nat) (s : Nat) (p : List Nat) : kl W (.bor s p) = if W.contains s then .any else .bor s p := by rw [kl]
@[go_sem] theorem klW_ptr (W : List Nat) (s : Nat) (p : List Nat) (o : Nat) : kl W (.ptr s p o) = if W.contains s then .any else .ptr s p o := by rw [kl]
/-- The place of a stage; the values and the point after some stages. -/
def plF (h : Int) (row : List Int) (vs : List (List Int)) (y : List Int) : Nat → List Int
  | 0 => y
  | k + 1 => plusS (plF h row vs y k) (vs[k]?.getD []) (h * row[k]?.getD 0 % 10007)
def exF (A : List (List Int)) (B : List Int) (f : List (List Mon)) (y : List Int) (h : Int) : Nat → List (List Int) × List Int
  | 0 => ([], y)
  | i + 1 => ((exF A B f y h i).1 ++ [evL (plF h (A[i]?.getD []) (exF A B f y h i).1 y i) f], plusS (exF A B f y h i).2 (evL (plF h (A[i]?.getD []) (exF A B f y h i).1 y i) f) (h * B[i]?.getD 0 % 10007))
theorem plF_len (h : Int) (row : List Int) (vs : List (List Int)) (y : List Int) : ∀ k, (plF h row vs y k).length = y.length
  | 0 => rfl
  | k + 1 => by rw [plF, plusS_len, plF_len h row vs y k]
theorem plF_N {h : Int} {row : List Int} {vs : List (List Int)} {y : List Int} (hy : Ns y) : ∀ k, Ns (plF h row vs y k)
  | 0 => hy
  | k + 1 => plusS_N _ _ _
theorem evL_N (y : List Int) (f : List (List Mon)) : Ns (evL y f) := by
  intro x hx
  obtain ⟨p, _, rfl⟩ := List.mem_map.1 hx
  exact isN_mod _
theorem exF_len1 (A : List (List Int)) (B : List Int) (f : List (List Mon)) (y : List Int) (h : Int) : ∀ i, (exF A B f y h i).1.length = i
  | 0 => rfl
  | i + 1 => by simp [exF, exF_len1 A B f y h i]
theorem exF_mem {A : List (List Int)} {B : List Int} {f : List (List Mon)} {y : List Int} {h : Int} : ∀ i, ∀ v ∈ (exF A B f y h i).1, v.length = f.length ∧ Ns v
  | 0 => by simp [exF]
  | i + 1 => by
    intro v hv
    rw [exF] at hv
    rcases List.mem_append.1 hv with hv | hv
    · exact exF_mem i v hv
    · simp at hv; subst hv; exact ⟨by simp, evL_N _ _⟩
theorem exF_len2 (A : List (List Int)) (B : List Int) (f : List (List Mon)) (y : List Int) (h : Int) : ∀ i, (exF A B f y h i).2.length = y.length
  | 0 => rfl
  | i + 1 => by simp [exF, exF_len2 A B f y h i]
theorem exF_N2 {A : List (List Int)} {B : List Int} {f : List (List Mon)} {y : List Int} {h : Int} (hy : Ns y) : ∀ i, Ns (exF A B f y h i).2
  | 0 => hy
  | i + 1 => plusS_N _ _ _
theorem omat_get {A : List (List Int)} {k : Nat} (h : k < A.length) : (omat A)[k]? = some (.own 2 (A[k]?.getD []).length (avs (A[k]?.getD []))) := by simp [omat, h]
theorem omat_snoc_get {A : List (List Int)} {v : List Int} {n : Nat} {i : Nat} (h : A.length = i) (hn : v.length = n) : (omat A ++ [.own 2 n (avs v)])[i]? = some (.own 2 n (avs v)) := by
  rw [List.getElem?_append_right (by simp; omega)]
  simp [h]
set_option maxRecDepth 100000 in
theorem explicitStep_c (z : Int) (A : List (List Int)) (B : List Int) (f : List (List Mon)) (y : List Int) (s : Int) (hT : tabB A B = true) (hf : FieldOk z f) (hs : Small f) (hy : Ns y) (hl : (y.length : Int) = z) (hh : isN s) :
    Con Try.prog 95 [.agg [.sl A.length (mat A), .sl B.length (avs B)], .sl f.length (fpols f), .sl y.length (avs y), .int s] (.own 2 y.length (avs (exF A B f y s A.length).2)) := by
  have fl := hs.1
  have z3 := hf.hi
  have hfl := hf.len
  have hT2 := hT
  unfold tabB at hT2
  simp only [Bool.and_eq_true, decide_eq_true_eq, List.all_eq_true] at hT2
  obtain ⟨⟨⟨hB1, hB8, hAB⟩, hBN⟩, hrows⟩ := hT2
  have hBN := numsB_N.1 hBN
  refine con_of_vc Try.mixed ⟨16, [], [], []⟩ Try.func95 (by decide) rfl (by simp) (by decide) (by simp [freshOK, freshL, go_sem]) ?_
  rw [Try.ntmps95]
  simp [go_sem]
  refine CallVC.of (Clone_c y (by omega)) (by decide) ?_
  simp [go_sem]
  refine loop_inv (List.range' 9 7 ++ List.range' 22 46) (fun i : Nat => [(9, .own 25 i (omat (exF A B f y s i).1)), (10, .own 2 y.length (avs (exF A B f y s i).2)), (22, .int i)]) (fun i => i ≤ A.length) (fun i => A.length - i) 0 (by simp) (by simp [go_sem, exF, omat_nil]) (by simp [go_sem]) ?_
  intro i hi
  simp [go_sem]
  refine ⟨fun h => ?_, fun h => ?_⟩ <;> simp at h
  · have hif := h
    have hx : A[i]?.getD [] ∈ A := by simp [h]
    have hrl : (A[i]?.getD []).length = B.length := (hrows _ hx).1
    have hrN : Ns (A[i]?.getD []) := numsB_N.1 (hrows _ hx).2
    have v1 := exF_len1 A B f y s i
    have v2 := exF_mem (A := A) (B := B) (f := f) (y := y) (h := s) i
    have v3 := exF_len2 A B f y s i
    have v4 := exF_N2 (A := A) (B := B) (f := f) (h := s) hy i
    have hE : exF A B f y s (i + 1) = ((exF A B f y s i).1 ++ [evL (plF s (A[i]?.getD []) (exF A B f y s i).1 y i) f], plusS (exF A B f y s i).2 (evL (plF s (A[i]?.getD []) (exF A B f y s i).1 y i) f) (s * B[i]?.getD 0 % 10007)) := rfl
    generalize exF A B f y s i = p at *
    obtain ⟨vs, o⟩ := p
    simp only at v1 v2 v3 v4 hE
    simp [go_sem, mat_drop hif]
    refine ⟨⟨hif, by rintro rfl; simp at hif⟩, ?_⟩
    generalize A[i]?.getD [] = row at *
    refine CallVC.of (Clone_c y (by omega)) (by decide) ?_
    simp [go_sem]
    refine loop_inv (13 :: 14 :: 15 :: List.range' 31 16) (fun k : Nat => [(13, .own 2 y.length (avs (plF s row vs y k))), (31, .int k)]) (fun k => k ≤ i) (fun k => i - k) 0 (by simp) (by simp [go_sem, plF]) (by simp [go_sem]) ?_
    intro k hk
    simp [go_sem]
    refine ⟨fun h => ?_, fun h => ?_⟩ <;> simp at h
    · have hkv : k < vs.length := by omega
      have hkr : k < row.length := by omega
      have hg := omat_get hkv
      have hvk := v2 (vs[k]?.getD []) (by simp [hkv])
      have m1 := mul_fits hh (hrN.get k)
      have q1 := plF_len s row vs y k
      have q2 := plF_N (h := s) (row := row) (vs := vs) hy k
      have fm : fits (s * row[k]?.getD 0 % 10007) := by have := isN_mod (s * row[k]?.getD 0); obtain ⟨x0, x1⟩ := this; exact ⟨by omega, by omega⟩
      have cP := plus_c (plF s row vs y k) (vs[k]?.getD []) (s * row[k]?.getD 0 % 10007) q2 hvk.2 fm (by omega) (by omega)
      have hpl : plF s row vs y (k + 1) = plusS (plF s row vs y k) (vs[k]?.getD []) (s * row[k]?.getD 0 % 10007) := rfl
      rw [q1] at cP
      generalize plF s row vs y k = P at *
      generalize vs[k]?.getD [] = vk at *
      simp [go_sem, hg, avs_drop hkr]
      refine ⟨by omega, ⟨hkr, by rintro rfl; simp at hkr⟩, m1, ?_⟩
      refine CallVC.of (num_c _ m1.1 m1.2) (by decide) ?_
      simp [go_sem]
      simp [go_sem, hg]
      refine CallVC.of (cP) (by decide) ?_
      simp [go_sem]
      exact ⟨by omega, k + 1, by omega, by omega, Off_reset _ _ _ (by simp), by rw [hpl], by omega⟩
    · have e : k = i := by omega
      subst e
      have hbk : k < B.length := by omega
      have m1 := mul_fits hh (hBN.get k)
      have q1 := plF_len s row vs y k
      have q2 := plF_N (h := s) (row := row) (vs := vs) hy k
      have cV := valuesAt_c z f (plF s row vs y k) hf hs q2 (by rw [q1]; exact hl)
      rw [q1] at cV
      have fm : fits (s * B[k]?.getD 0 % 10007) := by have := isN_mod (s * B[k]?.getD 0); obtain ⟨x0, x1⟩ := this; exact ⟨by omega, by omega⟩
      have cP := plus_c o (evL (plF s row vs y k) f) (s * B[k]?.getD 0 % 10007) v4 (evL_N _ _) fm (by omega) (by simp; omega)
      have hsg := omat_snoc_get (A := vs) (v := evL (plF s row vs y k) f) (n := f.length) v1 (by simp)
      have hso : omat vs ++ [.own 2 f.length (avs (evL (plF s row vs y k) f))] = omat (vs ++ [evL (plF s row vs y k) f]) := by rw [omat_app, omat_one]; simp
      rw [v3, evL_len] at cP
      generalize evL (plF s row vs y k) f = ev at *
      simp [go_sem]
      refine CallVC.of (cV) (by decide) ?_
      simp [go_sem]
      simp [go_sem, hsg, avs_drop hbk]
      refine ⟨⟨v1, by omega, by omega⟩, by kernel_rfl, by omega, ⟨hbk, by rintro rfl; simp at hbk⟩, m1, ?_⟩
      refine CallD.of (num_c _ m1.1 m1.2) (by simp [roots, rootsL]) (by decide) ?_
      simp [go_sem]
      simp [go_sem, hsg]
      refine CallD.of (cP) (by simp [roots, rootsL]) (by decide) ?_
      simp [go_sem]
      refine ⟨by kernel_rfl, ?_⟩
      simp [go_sem]
      refine ⟨by omega, k + 1, by omega, by omega, (Off.reset (by intro x hx; simp at hx ⊢; omega) (by simp) (by simp [go_sem, Off_reset])), ?_⟩
      rw [hE]
      exact ⟨⟨rfl, hso⟩, rfl, by omega⟩
  · simp [go_sem]
    have e : i = A.length := by omega
    subst e; rfl
theorem add_times {a b : List Int} {k : Int} (hk : isN k) (h : a.length ≤ b.length) :
    tb (fun i => (a[i]?.getD 0 + (tb (fun j => b[j]?.getD 0 * k % 10007) b.length)[i]?.getD 0) % 10007) a.length = plusS a b k := by
  unfold plusS
  unfold tb
  refine List.map_congr_left fun i hi => ?_
  have hi2 : i < b.length := by simp at hi; omega
  have e := tb_get (fun j => b[j]?.getD 0 * k % 10007) hi2
  unfold tb at e
  simp only [e]
  rw [Int.emod_eq_of_lt hk.1 (by have := hk.2; omega), Int.mul_comm k]
  omega
set_option maxRecDepth 100000 in
theorem l15Explicit_c (z : Int) (A : List (List Int)) (B : List Int) (f : List (List Mon)) (y : List Int) (s : Int) (hT : tabB A B = true) (hf : FieldOk z f) (hs : Small f) (hy : Ns y) (hl : (y.length : Int) = z) (hh : isN s) :
    Con Try.prog 92 [.agg [.sl A.length (mat A), .sl B.length (avs B)], .agg [.int z, .sl f.length (prt f)], .sl y.length (avs y), .int s] (.own 2 y.length (avs (exF A B f y s A.length).2)) := by
  have fl := hs.1
  have z3 := hf.hi
  have hfl := hf.len
  have hT2 := hT
  unfold tabB at hT2
  simp only [Bool.and_eq_true, decide_eq_true_eq, List.all_eq_true] at hT2
  obtain ⟨⟨⟨hB1, hB8, hAB⟩, hBN⟩, hrows⟩ := hT2
  have hBN := numsB_N.1 hBN
  refine con_of_vc Try.mixed ⟨14, [], [], []⟩ Try.func92 (by decide) rfl (by simp) (by decide) (by simp [freshOK, freshL, go_sem]) ?_
  rw [Try.ntmps92]
  simp [go_sem]
  refine CallVC.of (l01Own_c y (by omega)) (by decide) ?_
  simp [go_sem]
  refine loop_inv (List.range' 9 5 ++ List.range' 17 51) (fun i : Nat => [(9, .own 25 i (omat (exF A B f y s i).1)), (10, .own 2 y.length (avs (exF A B f y s i).2)), (11, .int i)]) (fun i => i ≤ A.length) (fun i => A.length - i) 0 (by simp) (by simp [go_sem, exF, omat_nil]) (by simp [go_sem]) ?_
  intro i hi
  simp [go_sem]
  refine ⟨fun h => ?_, fun h => ?_⟩ <;> simp at h
  · have hif : i < A.length := by omega
    have hx : A[i]?.getD [] ∈ A := by simp [hif]
    have hrl : (A[i]?.getD []).length = B.length := (hrows _ hx).1
    have hrN : Ns (A[i]?.getD []) := numsB_N.1 (hrows _ hx).2
    have v1 := exF_len1 A B f y s i
    have v2 := exF_mem (A := A) (B := B) (f := f) (y := y) (h := s) i
    have v3 := exF_len2 A B f y s i
    have v4 := exF_N2 (A := A) (B := B) (f := f) (h := s) hy i
    have hE : exF A B f y s (i + 1) = ((exF A B f y s i).1 ++ [evL (plF s (A[i]?.getD []) (exF A B f y s i).1 y i) f], plusS (exF A B f y s i).2 (evL (plF s (A[i]?.getD []) (exF A B f y s i).1 y i) f) (s * B[i]?.getD 0 % 10007)) := rfl
    generalize exF A B f y s i = p at *
    obtain ⟨vs, o⟩ := p
    simp only at v1 v2 v3 v4 hE
    simp [go_sem]
    refine CallVC.of (l01Own_c y (by omega)) (by decide) ?_
    simp [go_sem]
    refine loop_inv (12 :: 13 :: List.range' 26 22) (fun k : Nat => [(12, .own 2 y.length (avs (plF s (A[i]?.getD []) vs y k))), (13, .int k)]) (fun k => k ≤ i) (fun k => i - k) 0 (by simp) (by simp [go_sem, plF]) (by simp [go_sem]) ?_
    intro k hk
    simp [go_sem]
    refine ⟨fun h => ?_, fun h => ?_⟩ <;> simp at h
    · have hkv : k < vs.length := by omega
      have hkr : k < (A[i]?.getD []).length := by omega
      have hg := omat_get hkv
      have hvk := v2 (vs[k]?.getD []) (by simp [hkv])
      have m1 := mul_fits hh (hrN.get k)
      have q1 := plF_len s (A[i]?.getD []) vs y k
      have q2 := plF_N (h := s) (row := A[i]?.getD []) (vs := vs) hy k
      have mN := isN_mod (s * (A[i]?.getD [])[k]?.getD 0)
      have cT := l02Times_c (vs[k]?.getD []) _ hvk.2 mN (by omega)
      have cA := l02Add_c (plF s (A[i]?.getD []) vs y k) (tb (fun j => (vs[k]?.getD [])[j]?.getD 0 * (s * (A[i]?.getD [])[k]?.getD 0 % 10007) % 10007) (vs[k]?.getD []).length) q2 (tb_N fun i _ => isN_mod _) (by omega) (by simp; omega)
      rw [add_times mN (by omega)] at cA
      have cM := l01Mul_c s ((A[i]?.getD [])[k]?.getD 0) m1
      have hpl : plF s (A[i]?.getD []) vs y (k + 1) = plusS (plF s (A[i]?.getD []) vs y k) (vs[k]?.getD []) (s * (A[i]?.getD [])[k]?.getD 0 % 10007) := rfl
      rw [q1, show (tb (fun j => (vs[k]?.getD [])[j]?.getD 0 * (s * (A[i]?.getD [])[k]?.getD 0 % 10007) % 10007) (vs[k]?.getD []).length).length = (vs[k]?.getD []).length by simp] at cA
      generalize plF s (A[i]?.getD []) vs y k = P at *
      generalize vs[k]?.getD [] = vk at *
      simp [go_sem, hg, mat_drop hif, avs_drop hkr]
      refine ⟨by kernel_rfl, by omega, ⟨hif, by rintro rfl; simp at hif⟩, ⟨hkr, by intro e; simp [e] at hkr⟩, ?_⟩
      refine CallD.of (cM) (by simp [roots, rootsL]) (by decide) ?_
      simp [go_sem]
      simp [go_sem, hg]
      refine CallD.of (cT) (by simp [roots, rootsL]) (by decide) ?_
      simp [go_sem]
      refine CallD.of (cA) (by simp [roots, rootsL]) (by decide) ?_
      simp [go_sem]
      refine ⟨by kernel_rfl, ?_⟩
      simp [go_sem]
      exact ⟨by omega, k + 1, by omega, by omega, Off_reset _ _ _ (by simp), by rw [hpl], by omega⟩
    · have e : k = i := by omega
      subst e
      have hbk : k < B.length := by omega
      have m1 := mul_fits hh (hBN.get k)
      have q1 := plF_len s (A[k]?.getD []) vs y k
      have q2 := plF_N (h := s) (row := A[k]?.getD []) (vs := vs) hy k
      have cV := l13Field_c z f (plF s (A[k]?.getD []) vs y k) hf hs q2 (by rw [q1]; exact hl)
      rw [q1] at cV
      have eN := evL_N (plF s (A[k]?.getD []) vs y k) f
      have hsg := omat_snoc_get (A := vs) (v := evL (plF s (A[k]?.getD []) vs y k) f) (n := f.length) v1 (by simp)
      have hso : omat vs ++ [.own 2 f.length (avs (evL (plF s (A[k]?.getD []) vs y k) f))] = omat (vs ++ [evL (plF s (A[k]?.getD []) vs y k) f]) := by rw [omat_app, omat_one]; simp
      have el := evL_len (plF s (A[k]?.getD []) vs y k) f
      generalize evL (plF s (A[k]?.getD []) vs y k) f = ev at *
      have mN := isN_mod (s * B[k]?.getD 0)
      have cT := l02Times_c ev _ eN mN (by omega)
      have cA := l02Add_c o (tb (fun j => ev[j]?.getD 0 * (s * B[k]?.getD 0 % 10007) % 10007) ev.length) v4 (tb_N fun i _ => isN_mod _) (by omega) (by simp; omega)
      rw [add_times mN (by omega)] at cA
      rw [v3, show (tb (fun j => ev[j]?.getD 0 * (s * B[k]?.getD 0 % 10007) % 10007) ev.length).length = f.length by simp [el]] at cA
      rw [el] at cT cA
      have cM := l01Mul_c s (B[k]?.getD 0) m1
      simp [go_sem]
      refine CallVC.of (cV) (by decide) ?_
      simp [go_sem]
      simp [go_sem, hsg, avs_drop hbk]
      refine ⟨⟨v1, by omega, by omega⟩, by kernel_rfl, by omega, ⟨hbk, by rintro rfl; simp at hbk⟩, ?_⟩
      refine CallD.of (cM) (by simp [roots, rootsL]) (by decide) ?_
      simp [go_sem]
      simp [go_sem, hsg]
      refine CallD.of (cT) (by simp [roots, rootsL]) (by decide) ?_
      simp [go_sem]
      refine CallD.of (cA) (by simp [roots, rootsL]) (by decide) ?_
      simp [go_sem]
      refine ⟨by kernel_rfl, ?_⟩
      simp [go_sem]
      refine ⟨by omega, k + 1, by omega, by omega, (Off.reset (by intro x hx; simp at hx ⊢; omega) (by simp) (by simp [go_sem, Off_reset])), ?_⟩
      rw [hE]
      exact ⟨⟨rfl, hso⟩, rfl, by omega⟩
  · simp [go_sem]
    have e : i = A.length := by omega
    subst e; rfl
end Go.Proofs.Ytmhagkdbgafdnaa

/- Contracts: runs of explicit steps, the program's and the reference's. -/
namespace Go.Proofs.Ytmhagkdbgafdnaa
open Go.Abs
set_option linter.unusedVariables false
set_option linter.unusedSimpArgs false
set_option maxHeartbeats 1000000
def itF (A : List (List Int)) (B : List Int) (f : List (List Mon)) (y : List Int) (h : Int) : Nat → List Int
  | 0 => y
  | i + 1 => (exF A B f (itF A B f y h i) h A.length).2
theorem itF_len (A : List (List Int)) (B : List Int) (f : List (List Mon)) (y : List Int) (h : Int) : ∀ i, (itF A B f y h i).length = y.length
  | 0 => rfl
  | i + 1 => by rw [itF, exF_len2, itF_len A B f y h i]
theorem itF_N {A : List (List Int)} {B : List Int} {f : List (List Mon)} {y : List Int} {h : Int} (hy : Ns y) : ∀ i, Ns (itF A B f y h i)
  | 0 => hy
  | i + 1 => exF_N2 (itF_N hy i) _
def stE (A : List (List Int)) (B : List Int) (z : Int) (f : List (List Mon)) (y : List Int) : Int := if (tabB A B && fieldB z f) = false then 1 else if vecB z y = false then 2 else 0
def rsE (A : List (List Int)) (B : List Int) (z : Int) (f : List (List Mon)) (y : List Int) (h n : Int) : Int := if stE A B z f y = 0 then (if (0 ≤ h ∧ h ≤ 10006) ∧ 0 ≤ n ∧ n ≤ 1000 then (if lowB A 0 = true then 0 else 5) else 2) else stE A B z f y
def rsX (A : List (List Int)) (B : List Int) (z : Int) (f : List (List Mon)) (y : List Int) (h n : Int) : List Int := if rsE A B z f y h n = 0 then itF A B f y h n.toNat else []
def rsR (A : List (List Int)) (B : List Int) (z : Int) (f : List (List Mon)) (y : List Int) (h n : Int) : AV := .tup [.own 2 (rsX A B z f y h n).length (avs (rsX A B z f y h n)), .int (rsE A B z f y h n)]
theorem rsX_len (A : List (List Int)) (B : List Int) (z : Int) (f : List (List Mon)) (y : List Int) (h n : Int) : (rsX A B z f y h n).length ≤ y.length := by
  unfold rsX; split <;> simp [itF_len]
theorem l15Code_c (A : List (List Int)) (B : List Int) (z : Int) (f : List (List Mon)) (y : List Int) (hA : A.length ≤ 1048576) (hB : B.length ≤ 1048576) (hr : ∀ r ∈ A, r.length ≤ 1048576) (hs : Small f) (hy : y.length ≤ 1048576) :
    Con Try.prog 87 [.agg [.sl A.length (mat A), .sl B.length (avs B)], .agg [.int z, .sl f.length (prt f)], .sl y.length (avs y)] (.int (stE A B z f y)) := by
  have cA := l09Is_c A B (by omega) (by omega) (fun r h => by have := hr r h; omega)
  have cT := l13Is_c z f hs
  have cR := l13Point_c z y (by omega)
  have hvb : (decide ((y.length : Int) = z) && numsB y) = vecB z y := rfl
  rw [hvb] at cR
  unfold stE
  generalize tabB A B = a at *
  generalize fieldB z f = b at *
  generalize vecB z y = c at *
  cases a <;> cases b <;> cases c
  all_goals simp only [Bool.and_self, Bool.and_false, Bool.false_and, Bool.true_and, Bool.false_eq_true, if_true, if_false, reduceCtorEq]
  · refine con_of_vc Try.mixed ⟨7, [], [], []⟩ Try.func87 (by decide) rfl (by simp) (by decide) (by simp [freshOK, freshL, go_sem]) ?_
    rw [Try.ntmps87]
    simp [go_sem]
    refine CallVC.of (cA) (by decide) ?_
    simp [go_sem]
  · refine con_of_vc Try.mixed ⟨7, [], [], []⟩ Try.func87 (by decide) rfl (by simp) (by decide) (by simp [freshOK, freshL, go_sem]) ?_
    rw [Try.ntmps87]
    simp [go_sem]
    refine CallVC.of (cA) (by decide) ?_
    simp [go_sem]
  · refine con_of_vc Try.mixed ⟨7, [], [], []⟩ Try.func87 (by decide) rfl (by simp) (by decide) (by simp [freshOK, freshL, go_sem]) ?_
    rw [Try.ntmps87]
    simp [go_sem]
    refine CallVC.of (cA) (by decide) ?_
    simp [go_sem]
  · refine con_of_vc Try.mixed ⟨7, [], [], []⟩ Try.func87 (by decide) rfl (by simp) (by decide) (by simp [freshOK, freshL, go_sem]) ?_
    rw [Try.ntmps87]
    simp [go_sem]
    refine CallVC.of (cA) (by decide) ?_
    simp [go_sem]
  · refine con_of_vc Try.mixed ⟨7, [], [], []⟩ Try.func87 (by decide) rfl (by simp) (by decide) (by simp [freshOK, freshL, go_sem]) ?_
    rw [Try.ntmps87]
    simp [go_sem]
    refine CallVC.of (cA) (by decide) ?_
    simp [go_sem]
    refine CallVC.of (cT) (by decide) ?_
    simp [go_sem]
  · refine con_of_vc Try.mixed ⟨7, [], [], []⟩ Try.func87 (by decide) rfl (by simp) (by decide) (by simp [freshOK, freshL, go_sem]) ?_
    rw [Try.ntmps87]
    simp [go_sem]
    refine CallVC.of (cA) (by decide) ?_
    simp [go_sem]
    refine CallVC.of (cT) (by decide) ?_
    simp [go_sem]
  · refine con_of_vc Try.mixed ⟨7, [], [], []⟩ Try.func87 (by decide) rfl (by simp) (by decide) (by simp [freshOK, freshL, go_sem]) ?_
    rw [Try.ntmps87]
    simp [go_sem]
    refine CallVC.of (cA) (by decide) ?_
    simp [go_sem]
    refine CallVC.of (cT) (by decide) ?_
    simp [go_sem]
    refine CallVC.of (cR) (by decide) ?_
    simp [go_sem]
  · refine con_of_vc Try.mixed ⟨7, [], [], []⟩ Try.func87 (by decide) rfl (by simp) (by decide) (by simp [freshOK, freshL, go_sem]) ?_
    rw [Try.ntmps87]
    simp [go_sem]
    refine CallVC.of (cA) (by decide) ?_
    simp [go_sem]
    refine CallVC.of (cT) (by decide) ?_
    simp [go_sem]
    refine CallVC.of (cR) (by decide) ?_
    simp [go_sem]
theorem checkStep_c (A : List (List Int)) (B : List Int) (z : Int) (f : List (List Mon)) (y : List Int) (hA : A.length ≤ 1048576) (hB : B.length ≤ 1048576) (hr : ∀ r ∈ A, r.length ≤ 1048576) (hs : Small f) (hy : y.length ≤ 1048576) :
    Con Try.prog 109 [.agg [.sl A.length (mat A), .sl B.length (avs B)], .agg [.int z, .sl f.length (prt f)], .sl y.length (avs y)] (.int (stE A B z f y)) := by
  have cA := IsTableau_c A B (by omega) (by omega) (fun r h => by have := hr r h; omega)
  have cT := IsField_c z f hs
  have cR := isVector_c z f.length (prt f) y (by omega)
  unfold stE
  generalize tabB A B = a at *
  generalize fieldB z f = b at *
  generalize vecB z y = c at *
  cases a <;> cases b <;> cases c
  all_goals simp only [Bool.and_self, Bool.and_false, Bool.false_and, Bool.true_and, Bool.false_eq_true, if_true, if_false, reduceCtorEq]
  · refine con_of_vc Try.mixed ⟨7, [], [], []⟩ Try.func109 (by decide) rfl (by simp) (by decide) (by simp [freshOK, freshL, go_sem]) ?_
    rw [Try.ntmps109]
    simp [go_sem]
    refine CallVC.of (cA) (by decide) ?_
    simp [go_sem]
  · refine con_of_vc Try.mixed ⟨7, [], [], []⟩ Try.func109 (by decide) rfl (by simp) (by decide) (by simp [freshOK, freshL, go_sem]) ?_
    rw [Try.ntmps109]
    simp [go_sem]
    refine CallVC.of (cA) (by decide) ?_
    simp [go_sem]
  · refine con_of_vc Try.mixed ⟨7, [], [], []⟩ Try.func109 (by decide) rfl (by simp) (by decide) (by simp [freshOK, freshL, go_sem]) ?_
    rw [Try.ntmps109]
    simp [go_sem]
    refine CallVC.of (cA) (by decide) ?_
    simp [go_sem]
  · refine con_of_vc Try.mixed ⟨7, [], [], []⟩ Try.func109 (by decide) rfl (by simp) (by decide) (by simp [freshOK, freshL, go_sem]) ?_
    rw [Try.ntmps109]
    simp [go_sem]
    refine CallVC.of (cA) (by decide) ?_
    simp [go_sem]
  · refine con_of_vc Try.mixed ⟨7, [], [], []⟩ Try.func109 (by decide) rfl (by simp) (by decide) (by simp [freshOK, freshL, go_sem]) ?_
    rw [Try.ntmps109]
    simp [go_sem]
    refine CallVC.of (cA) (by decide) ?_
    simp [go_sem]
    refine CallVC.of (cT) (by decide) ?_
    simp [go_sem]
  · refine con_of_vc Try.mixed ⟨7, [], [], []⟩ Try.func109 (by decide) rfl (by simp) (by decide) (by simp [freshOK, freshL, go_sem]) ?_
    rw [Try.ntmps109]
    simp [go_sem]
    refine CallVC.of (cA) (by decide) ?_
    simp [go_sem]
    refine CallVC.of (cT) (by decide) ?_
    simp [go_sem]
  · refine con_of_vc Try.mixed ⟨7, [], [], []⟩ Try.func109 (by decide) rfl (by simp) (by decide) (by simp [freshOK, freshL, go_sem]) ?_
    rw [Try.ntmps109]
    simp [go_sem]
    refine CallVC.of (cA) (by decide) ?_
    simp [go_sem]
    refine CallVC.of (cT) (by decide) ?_
    simp [go_sem]
    refine CallVC.of (cR) (by decide) ?_
    simp [go_sem]
  · refine con_of_vc Try.mixed ⟨7, [], [], []⟩ Try.func109 (by decide) rfl (by simp) (by decide) (by simp [freshOK, freshL, go_sem]) ?_
    rw [Try.ntmps109]
    simp [go_sem]
    refine CallVC.of (cA) (by decide) ?_
    simp [go_sem]
    refine CallVC.of (cT) (by decide) ?_
    simp [go_sem]
    refine CallVC.of (cR) (by decide) ?_
    simp [go_sem]
theorem stE_zero {A : List (List Int)} {B : List Int} {z : Int} {f : List (List Mon)} {y : List Int} (h : stE A B z f y = 0) : tabB A B = true ∧ fieldB z f = true ∧ vecB z y = true := by
  unfold stE at h
  generalize tabB A B = a at *
  generalize fieldB z f = b at *
  generalize vecB z y = c at *
  cases a <;> cases b <;> cases c <;> simp_all
theorem checkExplicit_c (A : List (List Int)) (B : List Int) (z : Int) (f : List (List Mon)) (y : List Int) (h n : Int) (hA : A.length ≤ 1048576) (hB : B.length ≤ 1048576) (hr : ∀ r ∈ A, r.length ≤ 1048576) (hs : Small f) (hy : y.length ≤ 1048576) :
    Con Try.prog 93 [.agg [.sl A.length (mat A), .sl B.length (avs B)], .agg [.int z, .sl f.length (prt f)], .sl y.length (avs y), .int h, .int n] (.int (rsE A B z f y h n)) := by
  have c1 := checkStep_c A B z f y hA hB hr hs hy
  have c2 := IsNumber_c h
  have c3 := inRange_c n 0 1000
  have c4 := zeroFrom_c A B 0 (by omega) hA hr
  unfold rsE
  generalize stE A B z f y = e at *
  generalize lowB A 0 = l at *
  by_cases he : e = 0
  · subst he
    by_cases hh : 0 ≤ h ∧ h ≤ 10006
    · rw [decide_eq_true hh] at c2
      by_cases hn : 0 ≤ n ∧ n ≤ 1000
      · rw [show (decide (0 ≤ n) && decide (n ≤ 1000)) = true by simp; omega] at c3
        simp only [hh, hn, and_self, if_true]
        cases l
        · simp only [Bool.false_eq_true, if_false]
          refine con_of_vc Try.mixed ⟨12, [], [], []⟩ Try.func93 (by decide) rfl (by simp) (by decide) (by simp [freshOK, freshL, go_sem]) ?_
          rw [Try.ntmps93]
          simp [go_sem]
          refine CallVC.of (c1) (by decide) ?_
          simp [go_sem]
          refine CallVC.of (c2) (by decide) ?_
          simp [go_sem]
          refine CallVC.of (c3) (by decide) ?_
          simp [go_sem]
          refine CallVC.of (c4) (by decide) ?_
          simp [go_sem]
        · simp only [if_true]
          refine con_of_vc Try.mixed ⟨12, [], [], []⟩ Try.func93 (by decide) rfl (by simp) (by decide) (by simp [freshOK, freshL, go_sem]) ?_
          rw [Try.ntmps93]
          simp [go_sem]
          refine CallVC.of (c1) (by decide) ?_
          simp [go_sem]
          refine CallVC.of (c2) (by decide) ?_
          simp [go_sem]
          refine CallVC.of (c3) (by decide) ?_
          simp [go_sem]
          refine CallVC.of (c4) (by decide) ?_
          simp [go_sem]
      · rw [show (decide (0 ≤ n) && decide (n ≤ 1000)) = false by simp; omega] at c3
        rw [if_pos rfl, if_neg (fun x => hn x.2)]
        refine con_of_vc Try.mixed ⟨12, [], [], []⟩ Try.func93 (by decide) rfl (by simp) (by decide) (by simp [freshOK, freshL, go_sem]) ?_
        rw [Try.ntmps93]
        simp [go_sem]
        refine CallVC.of (c1) (by decide) ?_
        simp [go_sem]
        refine CallVC.of (c2) (by decide) ?_
        simp [go_sem]
        refine CallVC.of (c3) (by decide) ?_
        simp [go_sem]
    · rw [decide_eq_false hh] at c2
      rw [if_pos rfl, if_neg (fun x => hh x.1)]
      refine con_of_vc Try.mixed ⟨12, [], [], []⟩ Try.func93 (by decide) rfl (by simp) (by decide) (by simp [freshOK, freshL, go_sem]) ?_
      rw [Try.ntmps93]
      simp [go_sem]
      refine CallVC.of (c1) (by decide) ?_
      simp [go_sem]
      refine CallVC.of (c2) (by decide) ?_
      simp [go_sem]
  · rw [if_neg he]
    refine con_of_vc Try.mixed ⟨12, [], [], []⟩ Try.func93 (by decide) rfl (by simp) (by decide) (by simp [freshOK, freshL, go_sem]) ?_
    rw [Try.ntmps93]
    simp [go_sem]
    refine CallVC.of (c1) (by decide) ?_
    simp [go_sem]
    simp [go_sem, he]
set_option maxRecDepth 100000 in
theorem RunSteps_c (A : List (List Int)) (B : List Int) (z : Int) (f : List (List Mon)) (y : List Int) (s n : Int) (hA : A.length ≤ 1048576) (hB : B.length ≤ 1048576) (hr : ∀ r ∈ A, r.length ≤ 1048576) (hs : Small f) (hy : y.length ≤ 1048576) :
    Con Try.prog 39 [.agg [.sl A.length (mat A), .sl B.length (avs B)], .agg [.int z, .sl f.length (prt f)], .sl y.length (avs y), .int s, .int n] (rsR A B z f y s n) := by
  have c1 := checkExplicit_c A B z f y s n hA hB hr hs hy
  unfold rsR rsX
  have hz : rsE A B z f y s n = 0 → stE A B z f y = 0 ∧ (0 ≤ s ∧ s ≤ 10006) ∧ 0 ≤ n ∧ n ≤ 1000 := by
    intro e
    unfold rsE at e
    split at e
    · split at e
      · exact ⟨by assumption, by assumption⟩
      · omega
    · contradiction
  generalize rsE A B z f y s n = e at *
  by_cases he : e = 0
  · subst he
    obtain ⟨hst, hh, hn⟩ := hz rfl
    obtain ⟨hT, hF, hV⟩ := stE_zero hst
    have hF := fieldB_iff.1 hF
    unfold vecB at hV
    simp only [Bool.and_eq_true, decide_eq_true_eq] at hV
    have hyN := numsB_N.1 hV.2
    have fl := hs.1
    rw [if_pos rfl, itF_len]
    refine con_of_vc Try.mixed ⟨15, [], [], []⟩ Try.func39 (by decide) rfl (by simp) (by decide) (by simp [freshOK, freshL, go_sem]) ?_
    rw [Try.ntmps39]
    simp [go_sem]
    refine CallVC.of (c1) (by decide) ?_
    simp [go_sem]
    refine CallVC.of (polynomials_c z f hF hs) (by decide) ?_
    simp [go_sem]
    refine CallVC.of (Clone_c y hy) (by decide) ?_
    simp [go_sem]
    obtain ⟨m, rfl⟩ : ∃ m : Nat, n = m := ⟨n.toNat, by omega⟩
    simp only [Int.toNat_natCast]
    refine loop_inv (14 :: List.range' 29 8) (fun i : Nat => [(14, .own 2 y.length (avs (itF A B f y s i))), (29, .int i)]) (fun i => i ≤ m) (fun i => m - i) 0 (by simp) (by simp [go_sem, itF]) (by simp [go_sem]) ?_
    intro i hi
    simp [go_sem]
    refine ⟨fun h => ?_, fun h => ?_⟩ <;> simp at h
    · have hE := explicitStep_c z A B f (itF A B f y s i) s hT hF hs (itF_N hyN i) (by rw [itF_len]; exact hV.1) ⟨hh.1, by omega⟩
      have hI : itF A B f y s (i + 1) = (exF A B f (itF A B f y s i) s A.length).2 := rfl
      rw [itF_len] at hE
      rw [← hI] at hE
      simp [go_sem]
      refine CallVC.of (hE) (by decide) ?_
      simp [go_sem]
      exact ⟨by omega, i + 1, by omega, by omega, Off_reset _ _ _ (by simp), rfl, by omega⟩
    · simp [go_sem]
      have e : i = m := by omega
      subst e; rfl
  · rw [if_neg he]
    refine Con.n1 _ ?_
    refine con_of_vc Try.mixed ⟨15, [], [], []⟩ Try.func39 (by decide) rfl (by simp) (by decide) (by simp [freshOK, freshL, go_sem]) ?_
    rw [Try.ntmps39]
    simp [go_sem]
    refine CallVC.of (c1) (by decide) ?_
    simp [go_sem]
    simp [go_sem, he]
end Go.Proofs.Ytmhagkdbgafdnaa

/- Contracts: the reference's run of explicit steps. -/
namespace Go.Proofs.Ytmhagkdbgafdnaa
open Go.Abs
set_option linter.unusedVariables false
set_option linter.unusedSimpArgs false
set_option maxHeartbeats 1000000
set_option maxRecDepth 100000 in
theorem specRunSteps_c (A : List (List Int)) (B : List Int) (z : Int) (f : List (List Mon)) (y : List Int) (s n : Int) (hA : A.length ≤ 1048576) (hB : B.length ≤ 1048576) (hr : ∀ r ∈ A, r.length ≤ 1048576) (hs : Small f) (hy : y.length ≤ 1048576) :
    Con Try.prog 37 [.agg [.sl A.length (mat A), .sl B.length (avs B)], .agg [.int z, .sl f.length (prt f)], .sl y.length (avs y), .int s, .int n] (rsR A B z f y s n) := by
  have c1 := l15Code_c A B z f y hA hB hr hs hy
  have c2 := specIsNumber_c s
  have c3 := l01In_c n 0 1000
  unfold rsR rsX
  have hrs : rsE A B z f y s n = if stE A B z f y = 0 then (if (0 ≤ s ∧ s ≤ 10006) ∧ 0 ≤ n ∧ n ≤ 1000 then (if lowB A 0 = true then 0 else 5) else 2) else stE A B z f y := rfl
  have hz : stE A B z f y = 0 → tabB A B = true ∧ fieldB z f = true ∧ vecB z y = true := stE_zero
  generalize stE A B z f y = e at *
  by_cases he : e = 0
  · subst he
    obtain ⟨hT, hF, hV⟩ := hz rfl
    have hT2 := hT
    unfold tabB at hT2
    simp only [Bool.and_eq_true, decide_eq_true_eq, List.all_eq_true] at hT2
    obtain ⟨⟨⟨hB1, hB8, hAB⟩, hBN⟩, hrows⟩ := hT2
    have c4 := l09Lower_c A B 0 (by omega) hB hAB (fun r hr => (hrows r hr).1)
    have hF := fieldB_iff.1 hF
    unfold vecB at hV
    simp only [Bool.and_eq_true, decide_eq_true_eq] at hV
    have hyN := numsB_N.1 hV.2
    have fl := hs.1
    rw [if_pos rfl] at hrs
    by_cases hh : 0 ≤ s ∧ s ≤ 10006
    · rw [decide_eq_true hh] at c2
      by_cases hn : 0 ≤ n ∧ n ≤ 1000
      · rw [show (decide (0 ≤ n) && decide (n ≤ 1000)) = true by simp; omega] at c3
        rw [if_pos ⟨hh, hn⟩] at hrs
        cases hl : lowB A 0
        · rw [hl] at c4
          rw [hl, if_neg (by simp)] at hrs
          rw [hrs, if_neg (by omega)]
          refine Con.n1 _ ?_
          refine con_of_vc Try.mixed ⟨14, [], [], []⟩ Try.func37 (by decide) rfl (by simp) (by decide) (by simp [freshOK, freshL, go_sem]) ?_
          rw [Try.ntmps37]
          simp [go_sem]
          refine CallVC.of (c1) (by decide) ?_
          simp -implicitDefEqProofs [go_sem]
          refine CallVC.of (c2) (by decide) ?_
          simp -implicitDefEqProofs [go_sem]
          refine CallVC.of (c3) (by decide) ?_
          simp -implicitDefEqProofs [go_sem]
          refine CallVC.of (c4) (by decide) ?_
          simp -implicitDefEqProofs [go_sem]
        · rw [hl] at c4
          rw [hl, if_pos rfl] at hrs
          rw [hrs, if_pos rfl, itF_len]
          refine con_of_vc Try.mixed ⟨14, [], [], []⟩ Try.func37 (by decide) rfl (by simp) (by decide) (by simp [freshOK, freshL, go_sem]) ?_
          rw [Try.ntmps37]
          simp [go_sem]
          refine CallVC.of (c1) (by decide) ?_
          simp -implicitDefEqProofs [go_sem]
          refine CallVC.of (c2) (by decide) ?_
          simp -implicitDefEqProofs [go_sem]
          refine CallVC.of (c3) (by decide) ?_
          simp -implicitDefEqProofs [go_sem]
          refine CallVC.of (c4) (by decide) ?_
          simp -implicitDefEqProofs [go_sem]
          refine CallVC.of (l01Own_c y (by omega)) (by decide) ?_
          simp -implicitDefEqProofs [go_sem]
          obtain ⟨m, rfl⟩ : ∃ m : Nat, n = m := ⟨n.toNat, by omega⟩
          simp only [Int.toNat_natCast]
          refine loop_inv (4 :: 13 :: List.range' 42 9) (fun i : Nat => [(13, .own 2 y.length (avs (itF A B f y s i))), (4, .int ((m : Int) - i))]) (fun i => i ≤ m) (fun i => m - i) 0 (by simp) (by simp [go_sem, itF]) (by simp [go_sem]) ?_
          intro i hi
          simp -implicitDefEqProofs [go_sem]
          refine ⟨fun h => ?_, fun h => ?_⟩ <;> simp at h
          · have hE := l15Explicit_c z A B f (itF A B f y s i) s hT hF hs (itF_N hyN i) (by rw [itF_len]; exact hV.1) ⟨hh.1, by omega⟩
            have hI : itF A B f y s (i + 1) = (exF A B f (itF A B f y s i) s A.length).2 := rfl
            rw [itF_len] at hE
            rw [← hI] at hE
            simp -implicitDefEqProofs [go_sem]
            refine CallVC.of (hE) (by decide) ?_
            simp -implicitDefEqProofs [go_sem]
            exact ⟨by omega, i + 1, by omega, by omega, Off_reset _ _ _ (by simp), rfl, by omega⟩
          · simp -implicitDefEqProofs [go_sem]
            have e : i = m := by omega
            subst e; rfl
      · rw [show (decide (0 ≤ n) && decide (n ≤ 1000)) = false by simp; omega] at c3
        rw [if_neg (fun x => hn x.2)] at hrs
        rw [hrs, if_neg (by omega)]
        refine Con.n1 _ ?_
        refine con_of_vc Try.mixed ⟨14, [], [], []⟩ Try.func37 (by decide) rfl (by simp) (by decide) (by simp [freshOK, freshL, go_sem]) ?_
        rw [Try.ntmps37]
        simp [go_sem]
        refine CallVC.of (c1) (by decide) ?_
        simp -implicitDefEqProofs [go_sem]
        refine CallVC.of (c2) (by decide) ?_
        simp -implicitDefEqProofs [go_sem]
        refine CallVC.of (c3) (by decide) ?_
        simp -implicitDefEqProofs [go_sem]
    · rw [decide_eq_false hh] at c2
      rw [if_neg (fun x => hh x.1)] at hrs
      rw [hrs, if_neg (by omega)]
      refine Con.n1 _ ?_
      refine con_of_vc Try.mixed ⟨14, [], [], []⟩ Try.func37 (by decide) rfl (by simp) (by decide) (by simp [freshOK, freshL, go_sem]) ?_
      rw [Try.ntmps37]
      simp [go_sem]
      refine CallVC.of (c1) (by decide) ?_
      simp -implicitDefEqProofs [go_sem]
      refine CallVC.of (c2) (by decide) ?_
      simp -implicitDefEqProofs [go_sem]
  · rw [if_neg he] at hrs
    rw [hrs, if_neg he]
    refine Con.n1 _ ?_
    refine con_of_vc Try.mixed ⟨14, [], [], []⟩ Try.func37 (by decide) rfl (by simp) (by decide) (by simp [freshOK, freshL, go_sem]) ?_
    rw [Try.ntmps37]
    simp [go_sem]
    refine CallVC.of (c1) (by decide) ?_
    simp -implicitDefEqProofs [go_sem]
    simp -implicitDefEqProofs [go_sem, he]
end Go.Proofs.Ytmhagkdbgafdnaa

/- Contracts: one explicit step, the program's and the reference's. -/
namespace Go.Proofs.Ytmhagkdbgafdnaa
open Go.Abs
set_option linter.unusedVariables false
set_option linter.unusedSimpArgs false
set_option maxHeartbeats 1000000
theorem ExplicitStep_c (A : List (List Int)) (B : List Int) (z : Int) (f : List (List Mon)) (y : List Int) (s : Int) (hA : A.length ≤ 1048576) (hB : B.length ≤ 1048576) (hr : ∀ r ∈ A, r.length ≤ 1048576) (hs : Small f) (hy : y.length ≤ 1048576) :
    Con Try.prog 43 [.agg [.sl A.length (mat A), .sl B.length (avs B)], .agg [.int z, .sl f.length (prt f)], .sl y.length (avs y), .int s] (rsR A B z f y s 1) := by
  have c := RunSteps_c A B z f y s 1 hA hB hr hs hy
  unfold rsR at c ⊢
  generalize rsX A B z f y s 1 = xs at *
  generalize rsE A B z f y s 1 = e at *
  refine con_of_vc Try.mixed ⟨10, [], [], []⟩ Try.func43 (by decide) rfl (by simp) (by decide) (by simp [freshOK, freshL, go_sem]) ?_
  rw [Try.ntmps43]
  simp [go_sem]
  refine CallVC.of (c) (by decide) ?_
  simp [go_sem]
theorem specExplicitStep_c (A : List (List Int)) (B : List Int) (z : Int) (f : List (List Mon)) (y : List Int) (s : Int) (hA : A.length ≤ 1048576) (hB : B.length ≤ 1048576) (hr : ∀ r ∈ A, r.length ≤ 1048576) (hs : Small f) (hy : y.length ≤ 1048576) :
    Con Try.prog 42 [.agg [.sl A.length (mat A), .sl B.length (avs B)], .agg [.int z, .sl f.length (prt f)], .sl y.length (avs y), .int s] (rsR A B z f y s 1) := by
  have c := specRunSteps_c A B z f y s 1 hA hB hr hs hy
  unfold rsR at c ⊢
  generalize rsX A B z f y s 1 = xs at *
  generalize rsE A B z f y s 1 = e at *
  refine con_of_vc Try.mixed ⟨11, [], [], []⟩ Try.func42 (by decide) rfl (by simp) (by decide) (by simp [freshOK, freshL, go_sem]) ?_
  rw [Try.ntmps42]
  simp [go_sem]
  refine CallVC.of (c) (by decide) ?_
  simp [go_sem]
end Go.Proofs.Ytmhagkdbgafdnaa

/- The statement's function FnExactExplicitStep, walked: it answers true. -/
namespace Go.Proofs.Ytmhagkdbgafdnaa
open Go.Abs
set_option linter.unusedVariables false
set_option linter.unusedSimpArgs false
set_option maxHeartbeats 4000000
set_option maxRecDepth 100000 in
theorem law21_c (A0 : List (List Int)) (B0 : List Int) (z1 : Int) (f1 : List (List Mon)) (y2 : List Int) (n3 : Int) (hA0 : A0.length ≤ 9223372036854775807) (hr0 : ∀ r ∈ A0, r.length ≤ 9223372036854775807) (hB0 : B0.length ≤ 9223372036854775807) (hf1 : Fit f1) (hy2 : y2.length ≤ 9223372036854775807) :
    Con Try.prog 8 [.agg [.sl A0.length (mat A0), .sl B0.length (avs B0)], .agg [.int z1, .sl f1.length (prt f1)], .sl y2.length (avs y2), .int n3] (.bool true) := by
  refine con_of_vc Try.mixed ⟨22, [43, 125], [41, 23, 24], []⟩ Try.func8 (by decide) rfl (by simp) (by decide) (by simp [freshOK, freshL, go_sem]) ?_
  rw [Try.ntmps8]
  simp [go_sem]
  by_cases hl2 : (1048576 : Int) < y2.length
  · have hl22 : 1048576 < y2.length := by omega
    simp [go_sem, hl2, hl22]
  have hk2 : ¬ 1048576 < y2.length := by omega
  simp [go_sem, hl2, hk2]
  have cS0 := szTableau_c A0 B0 (1048576) hA0 hr0 hB0 (by omega) (by omega)
  refine CallVC.of (cS0) (by decide) ?_
  simp [go_sem]
  by_cases hs0 : szT A0 B0 (1048576) < 0
  · simp [go_sem, hs0]
  simp [go_sem, hs0]
  have hc0 := szT_ok (A := A0) (B := B0) (left := 1048576) (by omega) (by omega)
  have hh0 := szT_hi (A := A0) (B := B0) (left := 1048576) (by omega)
  generalize hL0 : szT A0 B0 (1048576) = L0 at *
  have cS1 := szField_c z1 f1 (L0) hf1 (by omega) (by omega)
  refine CallVC.of (cS1) (by decide) ?_
  simp [go_sem]
  by_cases hs1 : szF (L0) f1 < 0
  · simp [go_sem, hs1]
  simp [go_sem, hs1]
  have hc1 := szF_ok.ok (L0) f1 (by omega) (by omega)
  have hh1 := szF_ok.hi (L0) f1 (by omega)
  generalize hL1 : szF (L0) f1 = L1 at *
  have A0l : A0.length ≤ 1048576 := by omega
  have A0r : ∀ r ∈ A0, r.length ≤ 1048576 := fun r hr => by have := hc0.2 r hr; omega
  have B0l : B0.length ≤ 1048576 := by omega
  have cT0 := toTableau_c A0 B0 A0l A0r B0l
  have cQ0 := eqTableau_c A0 A0 B0 B0 hA0 hr0 hB0
  simp at cQ0
  have sm1 := small_of (f := f1) (by omega)
  have cT1 := toField_c z1 f1 sm1.1 sm1.2
  have cQ1 := eqField_c z1 f1 hf1
  have fl1 := sm1.1
  have ct1 : (sumC cP f1 : Int) ≤ 1048576 := by unfold cF at hc1; omega
  have y2l : y2.length ≤ 1048576 := by omega
  have cT2 := toInt64S_c y2 y2l
  have cQ2 := eqInt64S_c y2 y2 (by omega)
  simp at cQ2
  have cSp := specExplicitStep_c A0 B0 z1 f1 y2 n3 A0l B0l A0r sm1 y2l
  have cIm := ExplicitStep_c A0 B0 z1 f1 y2 n3 A0l B0l A0r sm1 y2l
  have xl : (rsX A0 B0 z1 f1 y2 n3 1).length ≤ 1048576 := by have := rsX_len A0 B0 z1 f1 y2 n3 1; omega
  unfold rsR at cSp cIm
  generalize rsX A0 B0 z1 f1 y2 n3 1 = xs at cSp cIm xl
  generalize rsE A0 B0 z1 f1 y2 n3 1 = e at cSp cIm
  have cM0 := markTableau_c A0 B0 (1) A0l A0r (by omega) (by omega)
  have cM1 := markField_c z1 f1 (1 + sumL A0 + B0.length) sm1.1 sm1.2 (by omega) (by omega)
  have cM2 := markInt64S_c 2 y2 (1 + sumL A0 + B0.length + sumC cP f1) (by omega) (by omega)
  have p2 : ¬ (1 + (sumL A0 : Int) + (B0.length : Int) + (sumC cP f1 : Int) + (y2.length : Int) < 0) := by omega
  have cE := eqInt64S_c xs xs (by omega)
  have cN := markInt64S_c 2 xs 1 (by omega) (by omega)
  have cH := heldInt64S_c ((List.range xs.length).map fun (i : Nat) => 1 + (i : Int)) 1 (by omega) (by simp; omega)
  rw [held_mark, List.length_map, List.length_range] at cH
  simp at cE
  have p1 : ¬ (1 + (xs.length : Int) < 0) := by omega
  refine ⟨by kernel_rfl, ?_⟩
  refine CallD.of (cT0) (by simp [roots, rootsL]) (by decide) ?_
  simp [go_sem]
  refine CallD.of (cT1) (by simp [roots, rootsL]) (by decide) ?_
  simp [go_sem]
  refine CallD.of (cT2) (by simp [roots, rootsL]) (by decide) ?_
  simp [go_sem]
  refine CallD.of (cSp) (by simp [go_sem, roots, rootsL]) (by decide) ?_
  simp [go_sem]
  refine ⟨by kernel_rfl, ?_⟩
  simp [go_sem]
  refine CallVC.of (cT0) (by decide) ?_
  simp [go_sem]
  refine CallVC.of (cT1) (by decide) ?_
  simp [go_sem]
  refine CallVC.of (cT2) (by decide) ?_
  simp [go_sem]
  refine CallVC.of (cIm) (by decide) ?_
  simp [go_sem]
  refine CallVC.of (cE) (by decide) ?_
  simp [go_sem]
  refine ⟨by kernel_rfl, ?_⟩
  refine CallD.of (cT0) (by simp [roots, rootsL]) (by decide) ?_
  simp [go_sem]
  refine CallD.of (cQ0) (by simp [roots, rootsL]) (by decide) ?_
  simp [go_sem]
  refine ⟨by kernel_rfl, ?_⟩
  simp [go_sem]
  refine ⟨by kernel_rfl, ?_⟩
  refine CallD.of (cT1) (by simp [roots, rootsL]) (by decide) ?_
  simp [go_sem]
  refine CallD.of (cQ1) (by simp [roots, rootsL]) (by decide) ?_
  simp [go_sem]
  refine ⟨by kernel_rfl, ?_⟩
  simp [go_sem]
  refine CallVC.of (cT2) (by decide) ?_
  simp [go_sem]
  refine CallVC.of (cQ2) (by decide) ?_
  simp [go_sem]
  refine ⟨_, _, cM0, ?_⟩
  simp [go_sem]
  refine ⟨_, _, cM1, ?_⟩
  simp [go_sem]
  refine ⟨_, _, cM2, ?_⟩
  simp [go_sem]
  simp [go_sem, p2]
  refine CallVC.of (cE) (by decide) ?_
  simp [go_sem]
  refine ⟨_, _, cN, ?_⟩
  simp [go_sem]
  refine CallVC.of (cH) (by decide) ?_
  simp [go_sem]
  simp [go_sem, p1]
  refine ⟨by kernel_rfl, ?_⟩
  refine CallD.of (cT0) (by simp [roots, rootsL]) (by decide) ?_
  simp [go_sem]
  refine CallD.of (cT1) (by simp [roots, rootsL]) (by decide) ?_
  simp [go_sem]
  refine CallD.of (cT2) (by simp [roots, rootsL]) (by decide) ?_
  simp [go_sem]
  refine CallD.of (cIm) (by simp [go_sem, roots, rootsL]) (by decide) ?_
  simp [go_sem]
  refine ⟨by kernel_rfl, ?_⟩
  simp [go_sem]
  refine CallVC.of (cE) (by decide) ?_
  simp [go_sem]
  refine CallVC.of (cH) (by decide) ?_
  simp [go_sem]
  simp [go_sem, p1]
end Go.Proofs.Ytmhagkdbgafdnaa
