/- Texts of the own layer and contracts, part 6: G1 Q1 Q2 L10. -/
import Derived.Test.YtmhagkdbgafdnaaM5
/- Lists of monomials as polynomials over any ring: values of sums, products and derivatives along fields. -/
namespace Go.Proofs.Ytmhagkdbgafdnaa
open CR
set_option linter.unusedVariables false
set_option linter.unusedSimpArgs false
set_option maxHeartbeats 1000000
def ex (e : List Int) : Nat → Nat := fun k => (e[k]?.getD 0).toNat
def tr (m : Mon) : Trm := (m.1, ex m.2)
/-- Monomials of n variables with exponents up to B. -/
structure WOk (n : Nat) (B : Int) (m : Mon) : Prop where
  num : isN m.1
  len : m.2.length = n
  pw : ∀ x ∈ m.2, 0 ≤ x ∧ x ≤ B
theorem VOk.wok {n : Nat} {m : Mon} (h : VOk n m) : WOk n 3 m := ⟨h.num, h.len, h.pw⟩
theorem WOk.le {n : Nat} {B C : Int} {m : Mon} (h : WOk n B m) (hBC : B ≤ C) : WOk n C m := ⟨h.num, h.len, fun x hx => ⟨(h.pw x hx).1, Int.le_trans (h.pw x hx).2 hBC⟩⟩
theorem WOk.get {n : Nat} {B : Int} {m : Mon} (h : WOk n B m) (hB : 0 ≤ B) (k : Nat) : 0 ≤ m.2[k]?.getD 0 ∧ m.2[k]?.getD 0 ≤ B := by
  rcases Nat.lt_or_ge k m.2.length with hk | hk
  · simp [hk]; exact h.pw _ (List.getElem_mem hk)
  · simp [hk]; exact hB
section
variable {α : Type} [CR α]
def evM (d : Nat) (U : Nat → α) (L : List Mon) : α := ev d U (L.map tr)
def evM1 (d k : Nat) (U : Nat → α) (L : List Mon) : α := ev1 d k U (L.map tr)
theorem evM_nil (d : Nat) (U : Nat → α) : evM d U [] = ofI 0 := rfl
theorem evM_cons (d : Nat) (U : Nat → α) (m : Mon) (L : List Mon) : evM d U (m :: L) = ofI m.1 * mon U (ex m.2) d + evM d U L := rfl
theorem evM_app (d : Nat) (U : Nat → α) (L R : List Mon) : evM d U (L ++ R) = evM d U L + evM d U R := by
  unfold evM ev; rw [List.map_append, sL_app]
theorem evM1_cons (d k : Nat) (U : Nat → α) (m : Mon) (L : List Mon) : evM1 d k U (m :: L) = ofI (m.1 * (ex m.2 k : Int)) * mon U (dx k (ex m.2)) d + evM1 d k U L := rfl
theorem evM_if (d : Nat) (U : Nat → α) (m : Mon) : evM d U (if m.1 = 0 then [] else [m]) = ofI m.1 * mon U (ex m.2) d := by
  split
  · rename_i h; rw [h, zmul]; rfl
  · rw [evM_cons, evM_nil, add0]
theorem Cg.eq (c : Cg α) {a b : α} (h : a = b) : c.r a b := by rw [h]; exact c.refl _
theorem putGo_ev (c : Cg α) (d : Nat) (U : Nat → α) (k : Int) (e : List Int) : ∀ (l : List Mon) (done : Bool),
    c.r (evM d U (putGo k e l done)) (evM d U l + if done = true then ofI 0 else ofI k * mon U (ex e) d)
  | [], true => c.eq (by simp [putGo]; rw [add0])
  | [], false => c.eq (by simp [putGo]; rw [evM_cons, evM_nil, addC])
  | m :: l, done => by
    rw [putGo]
    by_cases h1 : done = false ∧ m.2 = e
    · rw [if_pos h1, evM_app, h1.1, ← h1.2]
      have e1 := evM_if d U ((m.1 + k) % 10007, m.2)
      simp only at e1
      rw [e1]
      refine c.trans (c.add (c.mul (c.of (a := (m.1 + k) % 10007) (b := m.1 + k) (by omega)) (c.refl _)) (putGo_ev c d U k m.2 l true)) (c.eq ?_)
      simp only [if_true, Bool.false_eq_true, if_false]
      rw [evM_cons, ofAdd, Dmul, add0]; ac_rfl
    · rw [if_neg h1]
      by_cases h2 : done = false ∧ ltL e m.2 = true
      · rw [if_pos h2, evM_cons, evM_app, evM_if, h2.1]
        refine c.trans (c.add (c.refl _) (c.add (c.refl _) (putGo_ev c d U k e l true))) (c.eq ?_)
        simp only [if_true, Bool.false_eq_true, if_false]
        rw [evM_cons, add0]; ac_rfl
      · rw [if_neg h2, evM_app, evM_if]
        refine c.trans (c.add (c.refl _) (putGo_ev c d U k e l done)) (c.eq ?_)
        rw [evM_cons, addA]
theorem putL_ev (c : Cg α) (d : Nat) (U : Nat → α) (L : List Mon) (k : Int) (e : List Int) : c.r (evM d U (putL L k e)) (evM d U L + ofI k * mon U (ex e) d) := by
  unfold putL
  refine c.trans (putGo_ev c d U k e L _) (c.eq ?_)
  by_cases h : k = 0
  · simp [h]; rw [zmul]
  · simp [h]
/-- Sums. -/
def plusL (p : List Mon) (k : Int) : List Mon → List Mon
  | [] => p
  | m :: q => plusL (putL p (k * m.1 % 10007) m.2) k q
theorem plusL_app (p : List Mon) (k : Int) (q r : List Mon) : plusL p k (q ++ r) = plusL (plusL p k q) k r := by
  induction q generalizing p with
  | nil => rfl
  | cons m q ih => exact ih _
theorem plusL_ev (c : Cg α) (d : Nat) (U : Nat → α) (k : Int) : ∀ (q p : List Mon), c.r (evM d U (plusL p k q)) (evM d U p + ofI k * evM d U q)
  | [], p => c.eq (by rw [evM_nil, mul0, add0]; rfl)
  | m :: q, p => by
    rw [plusL]
    refine c.trans (plusL_ev c d U k q _) ?_
    refine c.trans (c.add (putL_ev c d U p _ m.2) (c.refl _)) ?_
    refine c.trans (c.add (c.add (c.refl _) (c.mul (c.of (a := k * m.1 % 10007) (b := k * m.1) (by omega)) (c.refl _))) (c.refl _)) (c.eq ?_)
    rw [evM_cons, mulD, ofMul]; ac_rfl
/-- Products. -/
def addE (a b : List Int) : List Int := List.zipWith (· + ·) a b
def prodRow (a : Mon) (acc : List Mon) : List Mon → List Mon
  | [] => acc
  | b :: q => prodRow a (putL acc (a.1 * b.1 % 10007) (addE a.2 b.2)) q
def prodGo (acc : List Mon) (q : List Mon) : List Mon → List Mon
  | [] => acc
  | a :: p => prodGo (prodRow a acc q) q p
def prodL (p q : List Mon) : List Mon := prodGo [] q p
theorem prodRow_app (a : Mon) (acc p q : List Mon) : prodRow a acc (p ++ q) = prodRow a (prodRow a acc p) q := by
  induction p generalizing acc with
  | nil => rfl
  | cons m p ih => exact ih _
theorem prodGo_app (acc q p r : List Mon) : prodGo acc q (p ++ r) = prodGo (prodGo acc q p) q r := by
  induction p generalizing acc with
  | nil => rfl
  | cons m p ih => exact ih _
theorem pwr_add (a : α) (n : Nat) : ∀ m : Nat, pwr a (n + m) = pwr a n * pwr a m
  | 0 => (mul1 _).symm
  | m + 1 => by rw [← Nat.add_assoc, pwr, pwr, pwr_add a n m, mulA]
theorem mon_add (U : Nat → α) (e f : Nat → Nat) : ∀ d, mon U (fun k => e k + f k) d = mon U e d * mon U f d
  | 0 => (mul1 _).symm
  | d + 1 => by rw [mon, mon, mon, mon_add U e f d, pwr_add]; ac_rfl
theorem ex_add {a b : List Int} {n : Nat} (ha : a.length = n) (hb : b.length = n) (h1 : ∀ x ∈ a, 0 ≤ x) (h2 : ∀ x ∈ b, 0 ≤ x) (k : Nat) : ex (addE a b) k = ex a k + ex b k := by
  unfold ex addE
  rcases Nat.lt_or_ge k n with hk | hk
  · rw [List.getElem?_eq_getElem (by simp; omega), List.getElem?_eq_getElem (by omega), List.getElem?_eq_getElem (by omega)]
    have := h1 _ (List.getElem_mem (show k < a.length by omega))
    have := h2 _ (List.getElem_mem (show k < b.length by omega))
    simp; omega
  · rw [List.getElem?_eq_none (by simp; omega), List.getElem?_eq_none (by omega), List.getElem?_eq_none (by omega)]; rfl
/-- Lists of n variables' monomials. -/
def LOk (n : Nat) (L : List Mon) : Prop := ∀ m ∈ L, m.2.length = n ∧ ∀ x ∈ m.2, 0 ≤ x
theorem LOk.tl {n : Nat} {m : Mon} {L : List Mon} (h : LOk n (m :: L)) : LOk n L := fun a ha => h a (by simp [ha])
theorem LOk.hd {n : Nat} {m : Mon} {L : List Mon} (h : LOk n (m :: L)) : m.2.length = n ∧ ∀ x ∈ m.2, 0 ≤ x := h m (by simp)
theorem prodRow_ev (c : Cg α) (d : Nat) (U : Nat → α) {n : Nat} {a : Mon} (ha : a.2.length = n ∧ ∀ x ∈ a.2, 0 ≤ x) : ∀ (q acc : List Mon), LOk n q → c.r (evM d U (prodRow a acc q)) (evM d U acc + ofI a.1 * mon U (ex a.2) d * evM d U q)
  | [], acc, _ => c.eq (by rw [evM_nil, mul0, add0]; rfl)
  | b :: q, acc, hq => by
    have hb := hq.hd
    rw [prodRow]
    refine c.trans (prodRow_ev c d U ha q _ hq.tl) ?_
    refine c.trans (c.add (putL_ev c d U acc _ _) (c.refl _)) ?_
    refine c.trans (c.add (c.add (c.refl _) (c.mul (c.of (a := a.1 * b.1 % 10007) (b := a.1 * b.1) (by omega)) (c.refl _))) (c.refl _)) (c.eq ?_)
    have : mon U (ex (addE a.2 b.2)) d = mon U (ex a.2) d * mon U (ex b.2) d := by
      rw [← mon_add]; exact mon_congr U (fun k _ => ex_add ha.1 hb.1 ha.2 hb.2 k)
    rw [this, evM_cons, mulD, ofMul]; ac_rfl
theorem prodGo_ev (c : Cg α) (d : Nat) (U : Nat → α) {n : Nat} {q : List Mon} (hq : LOk n q) : ∀ (p acc : List Mon), LOk n p → c.r (evM d U (prodGo acc q p)) (evM d U acc + evM d U p * evM d U q)
  | [], acc, _ => c.eq (by rw [evM_nil, zmul, add0]; rfl)
  | a :: p, acc, hp => by
    rw [prodGo]
    refine c.trans (prodGo_ev c d U hq p _ hp.tl) ?_
    refine c.trans (c.add (prodRow_ev c d U hp.hd q acc hq) (c.refl _)) (c.eq ?_)
    rw [evM_cons, Dmul]; ac_rfl
theorem prodL_ev (c : Cg α) (d : Nat) (U : Nat → α) {n : Nat} {p q : List Mon} (hp : LOk n p) (hq : LOk n q) : c.r (evM d U (prodL p q)) (evM d U p * evM d U q) :=
  c.trans (prodGo_ev c d U hq p [] hp) (c.eq (zadd _))
theorem ex_low {e : List Int} {i n : Nat} (hi : i < n) (hl : e.length = n) (k : Nat) : ex (e.set i (e[i]?.getD 0 - 1)) k = dx i (ex e) k := by
  unfold ex dx
  rw [List.getElem?_set]
  by_cases h : i = k
  · subst h
    rw [if_pos rfl, if_pos (by omega), if_pos rfl]
    simp
  · rw [if_neg h, if_neg (Ne.symm h)]
theorem derGo_ev (c : Cg α) (d : Nat) (U : Nat → α) {n i : Nat} (hi : i < n) : ∀ (p acc : List Mon), LOk n p → c.r (evM d U (derGo i acc p)) (evM d U acc + evM1 d i U p)
  | [], acc, _ => c.eq (add0 _).symm
  | m :: p, acc, h => by
    have hm := h.hd
    rw [derGo, evM1_cons]
    refine c.trans (derGo_ev c d U hi p _ h.tl) ?_
    have h0 : 0 ≤ m.2[i]?.getD 0 := by
      rw [List.getElem?_eq_getElem (by omega), Option.getD_some]; exact hm.2 _ (List.getElem_mem _)
    by_cases hpos : 0 < m.2[i]?.getD 0
    · rw [if_pos hpos]
      refine c.trans (c.add (putL_ev c d U acc _ _) (c.refl _)) ?_
      refine c.trans (c.add (c.add (c.refl _) (c.mul (c.of (a := m.1 * m.2[i]?.getD 0 % 10007) (b := m.1 * (ex m.2 i : Int)) ?_) (c.refl _))) (c.refl _)) (c.eq ?_)
      · unfold ex; rw [Int.toNat_of_nonneg h0, Int.emod_emod_of_dvd _ (Int.dvd_refl _)]
      · rw [mon_congr U (fun k _ => ex_low hi hm.1 k), addA]
    · rw [if_neg hpos]
      have : ex m.2 i = 0 := by unfold ex; omega
      rw [this]
      have z : ofI (m.1 * ((0 : Nat) : Int)) = (ofI 0 : α) := by simp
      rw [z, zmul, zadd]
      exact c.refl _
theorem derL_ev (c : Cg α) (d : Nat) (U : Nat → α) {n i : Nat} (hi : i < n) {p : List Mon} (hp : LOk n p) : c.r (evM d U (derL i p)) (evM1 d i U p) :=
  c.trans (derGo_ev c d U hi p [] hp) (c.eq (zadd _))
/-- The derivative along a field. -/
def alongGo (acc p : List Mon) (k : Nat) : List (List Mon) → List Mon
  | [] => acc
  | F :: f => alongGo (plusL acc 1 (prodL F (derL k p))) p (k + 1) f
def alongL (f : List (List Mon)) (p : List Mon) : List Mon := alongGo [] p 0 f
theorem alongGo_app (acc p : List Mon) (k : Nat) (f g : List (List Mon)) : alongGo acc p k (f ++ g) = alongGo (alongGo acc p k f) p (k + f.length) g := by
  induction f generalizing acc k with
  | nil => rfl
  | cons F f ih => simp only [List.cons_append, alongGo, ih, List.length_cons]; congr 1; omega
theorem putGo_lok {n : Nat} {k : Int} {e : List Int} (h : e.length = n ∧ ∀ x ∈ e, 0 ≤ x) : ∀ (l : List Mon) (done : Bool), LOk n l → LOk n (putGo k e l done)
  | [], true, _, m, hm => by simp [putGo] at hm
  | [], false, _, m, hm => by simp [putGo] at hm; rw [hm]; exact h
  | a :: l, done, hl, m, hm => by
    have ha := hl.hd
    have ih := fun d => putGo_lok (k := k) h l d hl.tl
    have one : ∀ b : Mon, (b.2.length = n ∧ ∀ x ∈ b.2, 0 ≤ x) → m ∈ (if b.1 = 0 then [] else [b]) → (m.2.length = n ∧ ∀ x ∈ m.2, 0 ≤ x) := fun b hb hmm => by
      split at hmm
      · simp at hmm
      · simp at hmm; rw [hmm]; exact hb
    rw [putGo] at hm
    split at hm
    · rcases List.mem_append.1 hm with hm | hm
      · exact one ((a.1 + k) % 10007, a.2) ha hm
      · exact ih _ m hm
    · split at hm
      · rcases List.mem_cons.1 hm with hm | hm
        · rw [hm]; exact h
        · rcases List.mem_append.1 hm with hm | hm
          · exact one a ha hm
          · exact ih _ m hm
      · rcases List.mem_append.1 hm with hm | hm
        · exact one a ha hm
        · exact ih _ m hm
theorem plusL_lok {n : Nat} {k : Int} : ∀ (q p : List Mon), LOk n q → LOk n p → LOk n (plusL p k q)
  | [], p, _, hp => hp
  | m :: q, p, hq, hp => plusL_lok q _ hq.tl (putGo_lok hq.hd p _ hp)
theorem addE_ok {n : Nat} {a b : List Int} (ha : a.length = n ∧ ∀ x ∈ a, 0 ≤ x) (hb : b.length = n ∧ ∀ x ∈ b, 0 ≤ x) : (addE a b).length = n ∧ ∀ x ∈ addE a b, 0 ≤ x := by
  refine ⟨by unfold addE; simp; omega, fun x hx => ?_⟩
  obtain ⟨i, hi, rfl⟩ := List.getElem_of_mem hx
  unfold addE at hi ⊢
  simp at hi ⊢
  have h1 := ha.2 _ (List.getElem_mem (show i < a.length by omega))
  have h2 := hb.2 _ (List.getElem_mem (show i < b.length by omega))
  omega
theorem prodRow_lok {n : Nat} {a : Mon} (ha : a.2.length = n ∧ ∀ x ∈ a.2, 0 ≤ x) : ∀ (q acc : List Mon), LOk n q → LOk n acc → LOk n (prodRow a acc q)
  | [], _, _, h => h
  | b :: q, acc, hq, h => prodRow_lok ha q _ hq.tl (putGo_lok (addE_ok ha hq.hd) acc _ h)
theorem prodGo_lok {n : Nat} {q : List Mon} (hq : LOk n q) : ∀ (p acc : List Mon), LOk n p → LOk n acc → LOk n (prodGo acc q p)
  | [], _, _, h => h
  | a :: p, acc, hp, h => prodGo_lok hq p _ hp.tl (prodRow_lok hp.hd q acc hq h)
theorem derGo_lok {n i : Nat} (hi : i < n) : ∀ (p acc : List Mon), LOk n p → LOk n acc → LOk n (derGo i acc p)
  | [], acc, _, ha => ha
  | a :: p, acc, hp, ha => by
    rw [derGo]
    have hav := hp.hd
    refine derGo_lok hi p _ hp.tl ?_
    split
    · rename_i hpos
      refine putGo_lok ⟨by simpa using hav.1, fun x hx => ?_⟩ acc _ ha
      rcases List.mem_or_eq_of_mem_set hx with hx | rfl
      · exact hav.2 x hx
      · omega
    · exact ha
theorem alongGo_lok {n : Nat} {p : List Mon} (hp : LOk n p) : ∀ (f : List (List Mon)) (k : Nat) (acc : List Mon), k + f.length ≤ n → (∀ F ∈ f, LOk n F) → LOk n acc → LOk n (alongGo acc p k f)
  | [], _, _, _, _, h => h
  | F :: f, k, acc, hk, hf, h => by
    rw [List.length_cons] at hk
    exact alongGo_lok hp f (k + 1) _ (by omega) (fun G hG => hf G (by simp [hG])) (plusL_lok _ _ (prodGo_lok (derGo_lok (by omega) p [] hp (by intro m hm; simp at hm)) F [] (hf F (by simp)) (by intro m hm; simp at hm)) h)
theorem alongL_lok {n : Nat} {f : List (List Mon)} {p : List Mon} (hp : LOk n p) (hf : ∀ F ∈ f, LOk n F) (hl : f.length ≤ n) : LOk n (alongL f p) := alongGo_lok hp f 0 [] (by omega) hf (by intro m hm; simp at hm)
theorem sT_shift (f : Nat → α) : ∀ n, sT f (n + 1) = f 0 + sT (fun k => f (k + 1)) n
  | 0 => by simp only [sT]; rw [addC]
  | n + 1 => by rw [sT, sT_shift f n, sT, addA]
theorem alongGo_ev (c : Cg α) (d : Nat) (U : Nat → α) {n : Nat} {p : List Mon} (hp : LOk n p) : ∀ (f : List (List Mon)) (k : Nat) (acc : List Mon), k + f.length ≤ n → (∀ F ∈ f, LOk n F) →
    c.r (evM d U (alongGo acc p k f)) (evM d U acc + sT (fun j => evM1 d (k + j) U p * evM d U (f[j]?.getD [])) f.length)
  | [], k, acc, _, _ => c.eq (add0 _).symm
  | F :: f, k, acc, hk, hf => by
    rw [List.length_cons] at hk
    rw [alongGo, List.length_cons, sT_shift]
    have hD : LOk n (derL k p) := derGo_lok (by omega) p [] hp (by intro m hm; simp at hm)
    refine c.trans (alongGo_ev c d U hp f (k + 1) _ (by omega) (fun G hG => hf G (by simp [hG]))) ?_
    refine c.trans (c.add (c.trans (plusL_ev c d U 1 _ acc) (c.add (c.refl _) (c.mul (c.refl _) (c.trans (prodL_ev c d U (hf F (by simp)) hD) (c.mul (c.refl _) (derL_ev c d U (by omega) hp)))))) (c.refl _)) (c.eq ?_)
    have e1 : sT (fun j => evM1 d (k + 1 + j) U p * evM d U (f[j]?.getD [])) f.length = sT (fun j => evM1 d (k + (j + 1)) U p * evM d U ((F :: f)[j + 1]?.getD [])) f.length :=
      sT_congr (fun j _ => by simp [Nat.add_assoc, Nat.add_comm 1 j])
    rw [e1, omul, addA]
    simp only [Nat.add_zero, List.getElem?_cons_zero, Option.getD_some]
    rw [mulC (evM d U F)]
theorem alongL_ev (c : Cg α) (d : Nat) (U : Nat → α) {n : Nat} {p : List Mon} (hp : LOk n p) {f : List (List Mon)} (hl : f.length ≤ n) (hf : ∀ F ∈ f, LOk n F) :
    c.r (evM d U (alongL f p)) (sT (fun j => evM1 d j U p * evM d U (f[j]?.getD [])) f.length) := by
  refine c.trans (alongGo_ev c d U hp f 0 [] (by omega) hf) (c.eq ?_)
  rw [evM_nil, zadd]
  exact sT_congr (fun j _ => by rw [Nat.zero_add])
/-- The flow that a field drives, by the derivatives along it. -/
theorem flow_is (c : Cg α) {d N : Nat} {U : Nat → Ser α} {f : List (List Mon)} (hl : f.length = d) (hf : ∀ F ∈ f, LOk d F)
    (hU : ∀ k, k < d → ∀ n, n < N → c.r (ofI ((n + 1 : Nat) : Int) * U k (n + 1)) (evM d U (f[k]?.getD []) n)) :
    ∀ (n : Nat) (L : List Mon), n ≤ N → LOk d L → c.r (ofI (fct n) * evM d U L n) (evM d (fun k => U k 0) (Nat.repeat (alongL f) n L)) := by
  refine flow_at c (π := List Mon) (fun L => L.map tr) (F := fun k => f[k]?.getD []) (A := alongL f) (Ok := LOk d) (fun L hL => ⟨alongL_lok hL hf (by omega), ?_⟩) hU
  have := alongL_ev (cgS c N) d U hL (f := f) (by omega) hf
  rw [hl] at this
  exact this
end
end Go.Proofs.Ytmhagkdbgafdnaa

/- Contracts: the reference's derivative of a list, values of such lists, the program's derivative of a map. -/
namespace Go.Proofs.Ytmhagkdbgafdnaa
open Go.Abs
set_option linter.unusedVariables false
set_option linter.unusedSimpArgs false
set_option maxHeartbeats 1000000
theorem putGo_len (c : Int) (e : List Int) : ∀ (l : List Mon) (done : Bool), (putGo c e l done).length ≤ l.length + 1
  | [], true => by simp [putGo]
  | [], false => by simp [putGo]
  | m :: l, done => by
    have one : ∀ b : Mon, (if b.1 = 0 then [] else [b]).length ≤ 1 := fun b => by split <;> simp
    have ht : ∀ l : List Mon, (putGo c e l true).length ≤ l.length := by
      intro l
      induction l with
      | nil => simp [putGo]
      | cons m l ih => rw [putGo_t]; have := one m; simp; omega
    have h1 := putGo_len c e l done
    have h2 := ht l
    have h3 := one m
    have h4 := one ((m.1 + c) % 10007, m.2)
    simp only at h4
    rw [putGo]
    split
    · simp only [List.length_append, List.length_cons]; omega
    · split
      · simp only [List.length_append, List.length_cons]; omega
      · simp only [List.length_append, List.length_cons]; omega
theorem putL_len (L : List Mon) (c : Int) (e : List Int) : (putL L c e).length ≤ L.length + 1 := putGo_len c e L _
theorem derGo_len (i : Nat) : ∀ (p acc : List Mon), (derGo i acc p).length ≤ acc.length + p.length
  | [], acc => by simp [derGo]
  | m :: p, acc => by
    rw [derGo]
    have := derGo_len i p (if 0 < m.2[i]?.getD 0 then putL acc (m.1 * m.2[i]?.getD 0 % 10007) (m.2.set i (m.2[i]?.getD 0 - 1)) else acc)
    have h : (if 0 < m.2[i]?.getD 0 then putL acc (m.1 * m.2[i]?.getD 0 % 10007) (m.2.set i (m.2[i]?.getD 0 - 1)) else acc).length ≤ acc.length + 1 := by
      split
      · exact putL_len _ _ _
      · omega
    simp; omega
/-- Monomials of n variables stay such. -/
theorem putGo_wok {n : Nat} {B c : Int} {e : List Int} (h : WOk n B (c, e)) : ∀ (l : List Mon) (done : Bool), (∀ m ∈ l, WOk n B m) → ∀ m ∈ putGo c e l done, WOk n B m
  | [], true, _, m, hm => by simp [putGo] at hm
  | [], false, _, m, hm => by simp [putGo] at hm; rw [hm]; exact h
  | a :: l, done, hl, m, hm => by
    have ha := hl a (by simp)
    have ih := fun d => putGo_wok h l d (fun b hb => hl b (by simp [hb]))
    have one : ∀ b : Mon, WOk n B b → m ∈ (if b.1 = 0 then [] else [b]) → WOk n B m := fun b hb hmm => by
      split at hmm
      · simp at hmm
      · simp at hmm; rw [hmm]; exact hb
    rw [putGo] at hm
    split at hm
    · rcases List.mem_append.1 hm with hm | hm
      · exact one ((a.1 + c) % 10007, a.2) ⟨isN_mod _, ha.len, ha.pw⟩ hm
      · exact ih _ m hm
    · split at hm
      · rcases List.mem_cons.1 hm with hm | hm
        · rw [hm]; exact h
        · rcases List.mem_append.1 hm with hm | hm
          · exact one a ha hm
          · exact ih _ m hm
      · rcases List.mem_append.1 hm with hm | hm
        · exact one a ha hm
        · exact ih _ m hm
theorem WOk.low {n i : Nat} {B : Int} {m : Mon} (h : WOk n B m) (hi : i < n) (hp : 0 < m.2[i]?.getD 0) : WOk n B (m.1 * m.2[i]?.getD 0 % 10007, m.2.set i (m.2[i]?.getD 0 - 1)) := by
  have hl := h.len
  refine ⟨isN_mod _, by simpa using hl, fun x hx => ?_⟩
  rcases List.mem_or_eq_of_mem_set hx with hx | rfl
  · exact h.pw x hx
  · have hm : m.2[i]?.getD 0 ∈ m.2 := by
      rw [List.getElem?_eq_getElem (by omega), Option.getD_some]; exact List.getElem_mem _
    have := h.pw _ hm
    omega
theorem derGo_wok {n i : Nat} {B : Int} (hi : i < n) : ∀ (p acc : List Mon), (∀ m ∈ p, WOk n B m) → (∀ m ∈ acc, WOk n B m) → ∀ m ∈ derGo i acc p, WOk n B m
  | [], acc, _, ha, m, hm => ha m hm
  | a :: p, acc, hp, ha, m, hm => by
    rw [derGo] at hm
    have hav := hp a (by simp)
    refine derGo_wok hi p _ (fun b hb => hp b (by simp [hb])) ?_ m hm
    split
    · rename_i hpos
      exact fun b hb => putGo_wok (hav.low hi hpos) acc _ ha b hb
    · exact ha
theorem small_mul {a b : Int} (ha : isN a) (h0 : 0 ≤ b) (h1 : b ≤ 1000000) : fits (a * b) := by
  obtain ⟨a0, a1⟩ := ha
  have := Int.mul_nonneg a0 h0
  have : a * b ≤ 10006 * 1000000 := Int.mul_le_mul (by omega) h1 h0 (by omega)
  exact ⟨by omega, by omega⟩
set_option maxRecDepth 100000 in
theorem l13Derive_c {n : Nat} {B : Int} (p : List Mon) (k : Nat) (hk : k < n) (hn : n ≤ 1000) (hB : 0 ≤ B) (hB2 : B ≤ 1000000) (hp : ∀ m ∈ p, WOk n B m) (hl : p.length ≤ 10000000) :
    Con Try.prog 60 [.sl p.length (mons p), .int k] (.own 93 (derL k p).length (omons (derL k p))) := by
  refine con_of_vc Try.mixed ⟨9, [], [], []⟩ Try.func60 (by decide) rfl (by simp) (by decide) (by simp [freshOK, freshL, go_sem]) ?_
  rw [Try.ntmps60]
  simp [go_sem]
  refine loop_inv (List.range' 5 45) (fun i : Nat => [(5, .own 93 (derL k (p.take i)).length (omons (derL k (p.take i)))), (6, .int i)]) (fun i => i ≤ p.length) (fun i => p.length - i) 0 (by simp) (by simp [go_sem, derL, derGo]) (by simp [go_sem]) ?_
  intro i hi
  simp [go_sem]
  refine ⟨fun h => ?_, fun h => ?_⟩ <;> simp at h
  · have hif := h
    have hx : p[i]?.getD (0, []) ∈ p := by simp [h]
    have hm := hp _ hx
    have hd : derL k (p.take (i + 1)) = (if 0 < (p[i]?.getD (0, [])).2[k]?.getD 0 then putL (derL k (p.take i)) ((p[i]?.getD (0, [])).1 * (p[i]?.getD (0, [])).2[k]?.getD 0 % 10007) ((p[i]?.getD (0, [])).2.set k ((p[i]?.getD (0, [])).2[k]?.getD 0 - 1)) else derL k (p.take i)) := by
      unfold derL
      rw [List.take_add_one, derGo_app]; simp [hif, derGo]
    have hw : ∀ m ∈ derL k (p.take i), WOk n B m := derGo_wok hk _ [] (fun m hm => hp m (List.mem_of_mem_take hm)) (by simp)
    have hdl := derGo_len k (p.take i) []
    have hdl2 : (derL k (p.take i)).length ≤ i := by unfold derL; simp at hdl; omega
    simp [go_sem, mons_drop hif]
    generalize hM : p[i]?.getD (0, []) = m at *
    have hml := hm.len
    have g := hm.get hB k
    have hkl : k < m.2.length := by omega
    have cO := l01Own_c m.2 (by omega)
    refine ⟨⟨hif, by rintro rfl; simp at hif⟩, ?_⟩
    refine CallVC.of (cO) (by decide) ?_
    simp [go_sem]
    simp [go_sem, mons_drop hif, hM, avs_at hkl]
    refine ⟨by kernel_rfl, ⟨hif, by rintro rfl; simp at hif⟩, hkl, ?_⟩
    refine CallD.of (l01Mul_c _ _ (small_mul hm.num g.1 (by omega))) (by simp [roots, rootsL]) (by decide) ?_
    simp [go_sem]
    refine ⟨by kernel_rfl, ?_⟩
    simp [go_sem]
    simp [go_sem, avs_at hkl]
    refine ⟨hkl, ?_⟩
    by_cases hpos : 0 < m.2[k]?.getD 0
    · rw [if_pos hpos] at hd
      have hv := hm.low (by omega) hpos
      have cP := l13Put_c (derL k (p.take i)) (m.1 * m.2[k]?.getD 0 % 10007) (m.2.set k (m.2[k]?.getD 0 - 1)) (isN_mod _) (fun q hq => ⟨(hw q hq).num, by have := (hw q hq).len; omega⟩) (by omega) (by simp; omega)
      rw [List.length_set] at cP
      simp [go_sem, hpos, avs_at hkl]
      refine ⟨hkl, ⟨by omega, by omega⟩, hkl, ?_⟩
      rw [avs_set, avs_frz]
      refine CallVC.of (cP) (by decide) ?_
      simp [go_sem]
      exact ⟨by omega, i + 1, by omega, by omega, Off_reset _ _ _ (by simp), by rw [hd]; exact ⟨rfl, rfl⟩, by omega⟩
    · rw [if_neg hpos] at hd
      simp [go_sem, hpos]
      exact ⟨by omega, i + 1, by omega, by omega, Off_reset _ _ _ (by simp), by rw [hd]; exact ⟨rfl, rfl⟩, by omega⟩
  · simp [go_sem]
    rw [List.take_of_length_le h]
    simp
set_option maxRecDepth 100000 in
theorem l13ValueW_c {B : Int} (p : List Mon) (y : List Int) (hy : Ns y) (hl : y.length ≤ 1000) (hp : p.length ≤ 10000000) (hB : 0 ≤ B) (hB2 : B ≤ 1000000) (hm : ∀ m ∈ p, WOk y.length B m) :
    Con Try.prog 59 [.sl p.length (mons p), .sl y.length (avs y)] (.int (vsum y p % 10007)) := by
  refine con_of_vc Try.mixed ⟨9, [], [], []⟩ Try.func59 (by decide) rfl (by simp) (by decide) (by simp [freshOK, freshL, go_sem]) ?_
  rw [Try.ntmps59]
  simp [go_sem]
  refine loop_inv (5 :: 6 :: 7 :: 8 :: List.range' 9 35) (fun i : Nat => [(5, .int (vsum y (p.take i) % 10007)), (6, .int i)]) (fun i => i ≤ p.length) (fun i => p.length - i) 0 (by simp) (by simp [go_sem, vsum]) (by simp [go_sem]) ?_
  intro i hi
  simp [go_sem]
  refine ⟨fun h => ?_, fun h => ?_⟩ <;> simp at h
  · have hif := h
    have hx : p[i]?.getD (0, []) ∈ p := by simp [h]
    have ho := hm _ hx
    have hv := vsum_take (y := y) h
    simp [go_sem, mons_drop hif]
    refine ⟨⟨hif, by rintro rfl; simp at hif⟩, ?_⟩
    generalize hM : p[i]?.getD (0, []) = m at *
    have hml : m.2.length = y.length := ho.len
    have hx1 : isN m.1 := ho.num
    refine loop_inv (7 :: 8 :: List.range' 20 21) (fun k : Nat => [(7, .int (tmF y m.2 m.1 k)), (8, .int k)]) (fun k => k ≤ y.length) (fun k => y.length - k) 0 (by simp) (by simp [go_sem, tmF]) (by simp [go_sem]) ?_
    intro k hk
    simp [go_sem]
    refine ⟨fun h => ?_, fun h => ?_⟩ <;> simp at h
    · have hk2 : k < m.2.length := by omega
      have g := ho.get hB k
      simp [go_sem, mons_drop hif, hM, avs_drop h, avs_drop hk2]
      refine ⟨by kernel_rfl, ⟨h, by rintro rfl; simp at h⟩, ⟨hif, by rintro rfl; simp at hif⟩, ⟨hk2, fun e => by rw [e] at hk2; simp at hk2⟩, ?_⟩
      refine CallD.of (l01Pow_c _ _ (hy.get k) g.1 (by omega)) (by simp [roots, rootsL]) (by decide) ?_
      simp [go_sem]
      refine CallD.of (l01Mul_c _ _ (mul_fits (tmF_N hx1 k) (isN_mod _))) (by simp [roots, rootsL]) (by decide) ?_
      simp [go_sem]
      refine ⟨by kernel_rfl, ?_⟩
      simp [go_sem]
      refine ⟨by omega, k + 1, by omega, by omega, Off_reset _ _ _ (by simp), by simp [tmF], by omega⟩
    · have e : k = y.length := by omega
      subst e
      simp [go_sem]
      refine CallVC.of (l01Add_c _ _ (add_fits (isN_mod _) (tmF_N hx1 _))) (by decide) ?_
      simp [go_sem]
      refine ⟨by omega, i + 1, by omega, by omega, (Off.reset (by intro x hx; simp at hx ⊢; omega) (by simp) (by simp [go_sem, Off_reset])), ?_, by omega⟩
      rw [hv]
  · simp [go_sem]
    have e : i = p.length := by omega
    subst e; simp
set_option maxRecDepth 100000 in
theorem derivative_c {n : Nat} (c : Key → Option Int) (i : Nat) (hi : i < n) (hn : n ≤ 3) (hc : ∀ k x, c k = some x → isN x ∧ KOk n k) :
    Con Try.prog 64 [.fmp c, .int i] (.mp (derM i c)) := by
  refine con_of_vc Try.mixed ⟨9, [], [], []⟩ Try.func64 (by decide) rfl (by simp) (by decide) (by simp [freshOK, freshL, go_sem]) ?_
  rw [Try.ntmps64]
  simp [go_sem]
  intro es hes
  have hok : ∀ e ∈ es, c e.1 = some e.2 := fun e he => hes.val e he
  refine loop_inv (List.range' 5 34) (fun x : Option (Key × Int) × List (Key × Int) => [(5, .mp (remD i c x.2)), (11, .it x.1 x.2)]) (fun x => x.2.Pairwise (fun a b => a.1 ≠ b.1) ∧ ∀ e ∈ x.2, c e.1 = some e.2) (fun x => x.2.length) (none, es) ⟨hes.nd, hok⟩ (by simp [go_sem, remD_start hes]) (by simp [go_sem]) ?_
  rintro ⟨l, rem⟩ ⟨hnd, hrem⟩
  simp only at hnd hrem
  simp [go_sem, keyAV]
  refine ⟨fun hr => ?_, fun l1 k0 k1 k2 x l2 hr => ?_⟩
  · subst hr
    exact remD_end i c
  · subst hr
    have h3 : i = 0 ∨ i = 1 ∨ i = 2 := by omega
    have hcx := hrem ((k0, k1, k2), x) (by simp)
    have hx := hc _ _ hcx
    have hbx := mem_box.1 hx.2.1
    simp only at hcx hbx
    have hnum := hx.1
    have hnd2 : (l1 ++ l2).Pairwise (fun a b => a.1 ≠ b.1) := hnd.sublist (List.Sublist.append (List.Sublist.refl _) (List.sublist_cons_self _ _))
    have hrem2 : ∀ a b c' y, ((a, b, c'), y) ∈ l1 ++ l2 → c (a, b, c') = some y := fun a b c' y hm => hrem ((a, b, c'), y) (by
      rcases List.mem_append.1 hm with hm | hm <;> simp [hm])
    rcases h3 with rfl | rfl | rfl
    · have hz : remD 0 c (l1 ++ ((k0, k1, k2), x) :: l2) (k0 - 1, k1, k2) = none := remD_at (i := 0) (c := c) (l1 := l1) (l2 := l2) (k0 := (k0, k1, k2)) (x := x)
      simp [go_sem]
      by_cases hp : 0 < k0
      · have hs : mset (remD 0 c (l1 ++ ((k0, k1, k2), x) :: l2)) (k0 - 1, k1, k2) (k0 * x % 10007) = remD 0 c (l1 ++ l2) := remD_step (i := 0) hnd hcx hp
        have hf : fits (k0 * x) := by rw [Int.mul_comm]; exact small_mul hnum (by omega) (by omega)
        simp [go_sem, hp, hz]
        refine ⟨⟨by omega, by omega⟩, by kernel_rfl, hf, ?_⟩
        refine CallD.of (num_c _ hf.1 hf.2) (by simp [roots, rootsL]) (by decide) ?_
        simp [go_sem]
        refine ⟨by kernel_rfl, ?_⟩
        simp [go_sem]
        exact ⟨_, _, ⟨hnd2, hrem2⟩, by simp; try omega, Off_reset _ _ _ (by simp), hs, rfl, rfl⟩
      · have hs : remD 0 c (l1 ++ ((k0, k1, k2), x) :: l2) = remD 0 c (l1 ++ l2) := remD_skip (i := 0) hnd hcx hp
        simp [go_sem, hp]
        exact ⟨_, _, ⟨hnd2, hrem2⟩, by simp; try omega, Off_reset _ _ _ (by simp), hs, rfl, rfl⟩
    · have hz : remD 1 c (l1 ++ ((k0, k1, k2), x) :: l2) (k0, k1 - 1, k2) = none := remD_at (i := 1) (c := c) (l1 := l1) (l2 := l2) (k0 := (k0, k1, k2)) (x := x)
      simp [go_sem]
      by_cases hp : 0 < k1
      · have hs : mset (remD 1 c (l1 ++ ((k0, k1, k2), x) :: l2)) (k0, k1 - 1, k2) (k1 * x % 10007) = remD 1 c (l1 ++ l2) := remD_step (i := 1) hnd hcx hp
        have hf : fits (k1 * x) := by rw [Int.mul_comm]; exact small_mul hnum (by omega) (by omega)
        simp [go_sem, hp, hz]
        refine ⟨⟨by omega, by omega⟩, by kernel_rfl, hf, ?_⟩
        refine CallD.of (num_c _ hf.1 hf.2) (by simp [roots, rootsL]) (by decide) ?_
        simp [go_sem]
        refine ⟨by kernel_rfl, ?_⟩
        simp [go_sem]
        exact ⟨_, _, ⟨hnd2, hrem2⟩, by simp; try omega, Off_reset _ _ _ (by simp), hs, rfl, rfl⟩
      · have hs : remD 1 c (l1 ++ ((k0, k1, k2), x) :: l2) = remD 1 c (l1 ++ l2) := remD_skip (i := 1) hnd hcx hp
        simp [go_sem, hp]
        exact ⟨_, _, ⟨hnd2, hrem2⟩, by simp; try omega, Off_reset _ _ _ (by simp), hs, rfl, rfl⟩
    · have hz : remD 2 c (l1 ++ ((k0, k1, k2), x) :: l2) (k0, k1, k2 - 1) = none := remD_at (i := 2) (c := c) (l1 := l1) (l2 := l2) (k0 := (k0, k1, k2)) (x := x)
      simp [go_sem]
      by_cases hp : 0 < k2
      · have hs : mset (remD 2 c (l1 ++ ((k0, k1, k2), x) :: l2)) (k0, k1, k2 - 1) (k2 * x % 10007) = remD 2 c (l1 ++ l2) := remD_step (i := 2) hnd hcx hp
        have hf : fits (k2 * x) := by rw [Int.mul_comm]; exact small_mul hnum (by omega) (by omega)
        simp [go_sem, hp, hz]
        refine ⟨⟨by omega, by omega⟩, by kernel_rfl, hf, ?_⟩
        refine CallD.of (num_c _ hf.1 hf.2) (by simp [roots, rootsL]) (by decide) ?_
        simp [go_sem]
        refine ⟨by kernel_rfl, ?_⟩
        simp [go_sem]
        exact ⟨_, _, ⟨hnd2, hrem2⟩, by simp; try omega, Off_reset _ _ _ (by simp), hs, rfl, rfl⟩
      · have hs : remD 2 c (l1 ++ ((k0, k1, k2), x) :: l2) = remD 2 c (l1 ++ l2) := remD_skip (i := 2) hnd hcx hp
        simp [go_sem, hp]
        exact ⟨_, _, ⟨hnd2, hrem2⟩, by simp; try omega, Off_reset _ _ _ (by simp), hs, rfl, rfl⟩
end Go.Proofs.Ytmhagkdbgafdnaa

/- Contracts: Jacobians, the reference's and the program's; rows of marks. -/
namespace Go.Proofs.Ytmhagkdbgafdnaa
open Go.Abs
set_option linter.unusedVariables false
set_option linter.unusedSimpArgs false
set_option maxHeartbeats 1000000
theorem heldInt64SS_c (A : List (List Int)) (k : Int) (hA : A.length ≤ 1048576) (hr : ∀ r ∈ A, r.length ≤ 1048576) (h0 : 0 ≤ k) (h1 : k + sumL A ≤ 9223372036854775807) :
    Con Try.prog 26 [.sl A.length (mat (marksM A k)), .int k] (.int (k + sumL A)) := by
  refine con_of_vc Try.mixed ⟨6, [], [], []⟩ Try.func26 (by decide) rfl (by simp) (by decide) (by simp [freshOK, freshL, go_sem]) ?_
  rw [Try.ntmps26]
  simp [go_sem]
  refine loop_inv (1 :: 4 :: 5 :: List.range' 6 14) (fun i : Nat => [(1, .int (k + sumL (A.take i))), (5, .int i)]) (fun i => i ≤ A.length) (fun i => A.length - i) 0 (by simp) (by simp [go_sem, sumL]) (by simp [go_sem]) ?_
  intro i hi
  simp [go_sem]
  refine ⟨fun h => ?_, fun h => ?_⟩ <;> simp at h
  · have hi2 : i < (marksM A k).length := by simpa using h
    have t1 := sumL_take h
    have t2 := sumL_le A (i + 1)
    have hmem : A[i]?.getD [] ∈ A := by simp [h]
    have hl := hr _ hmem
    have e1 : (marksM A k)[i]?.getD [] = marks (A[i]?.getD []).length (k + sumL (A.take i)) := by
      have hs : marksM A k = marksM (A.take i) k ++ marksM (A.drop i) (k + sumL (A.take i)) := by
        have gen : ∀ (C D : List (List Int)) (k : Int), marksM (C ++ D) k = marksM C k ++ marksM D (k + sumL C) := by
          intro C
          induction C with
          | nil => intro D k; simp [marksM, sumL]
          | cons r C ih => intro D k; simp only [List.cons_append, marksM, ih, sumL]; congr 3; omega
        rw [← gen, List.take_append_drop]
      rw [hs, List.getElem?_append_right (by simp; omega), List.drop_eq_getElem_cons h]
      simp [marksM, h, Nat.min_eq_left hi]
    have cH := heldInt64S_c (marks (A[i]?.getD []).length (k + sumL (A.take i))) (k + sumL (A.take i)) (by omega) (by simp [marks]; omega)
    have hml : (marks (A[i]?.getD []).length (k + sumL (A.take i))).length = (A[i]?.getD []).length := by simp [marks]
    have hh : held (marks (A[i]?.getD []).length (k + sumL (A.take i))) (k + sumL (A.take i)) = k + sumL (A.take i) + (A[i]?.getD []).length := held_mark _ _
    rw [hh] at cH
    generalize (marks (A[i]?.getD []).length (k + sumL (A.take i))) = M at *
    generalize (A[i]?.getD []).length = rl at *
    simp [go_sem, mat_drop hi2, e1]
    refine ⟨⟨h, fun e => by rw [e] at hi2; simp at hi2⟩, ?_⟩
    refine CallVC.of (cH) (by decide) ?_
    simp [go_sem]
    have p1 : ¬ (k + (sumL (A.take i) : Int) + rl < 0) := by omega
    simp [go_sem, p1]
    exact ⟨by omega, i + 1, by omega, by omega, Off_reset _ _ _ (by simp), by omega, by omega⟩
  · simp [go_sem]
    rw [List.take_of_length_le h]
/-- Rows of derivatives. -/
def jacR (n : Nat) (y : List Int) (p : List Mon) : List Int := (List.range n).map fun k => vsum y (derL k p) % 10007
def jacL (n : Nat) (y : List Int) (f : List (List Mon)) : List (List Int) := f.map (jacR n y)
@[simp] theorem jacR_len (n : Nat) (y : List Int) (p : List Mon) : (jacR n y p).length = n := by simp [jacR]
@[simp] theorem jacL_len (n : Nat) (y : List Int) (f : List (List Mon)) : (jacL n y f).length = f.length := by simp [jacL]
theorem jacR_succ (n : Nat) (y : List Int) (p : List Mon) : jacR (n + 1) y p = jacR n y p ++ [vsum y (derL n p) % 10007] := by simp [jacR, List.range_succ]
theorem jacL_take {n : Nat} {y : List Int} {f : List (List Mon)} {i : Nat} (h : i < f.length) : jacL n y (f.take (i + 1)) = jacL n y (f.take i) ++ [jacR n y (f[i]?.getD [])] := by
  rw [jacL, jacL, List.take_add_one, List.map_append, List.getElem?_eq_getElem h]; rfl
theorem omat_app (A C : List (List Int)) : omat (A ++ C) = omat A ++ omat C := by simp [omat]
theorem omat_one (r : List Int) : omat [r] = [.own 2 r.length (avs r)] := rfl
theorem omat_nil : omat [] = [] := rfl
def jcX (z : Int) (f : List (List Mon)) (y : List Int) : List (List Int) := if fieldB z f = true ∧ (decide ((y.length : Int) = z) && numsB y) = true then jacL y.length y f else []
def jcR (z : Int) (f : List (List Mon)) (y : List Int) : AV := .tup [.own 25 (jcX z f y).length (omat (jcX z f y)), .int (evE z f y)]
set_option maxRecDepth 100000 in
theorem specJacobianAt_c (z : Int) (f : List (List Mon)) (y : List Int) (hs : Small f) (hy : y.length ≤ 9223372036854775807) :
    Con Try.prog 16 [.agg [.int z, .sl f.length (prt f)], .sl y.length (avs y)] (jcR z f y) := by
  have cT := l13Is_c z f hs
  have cR := l13Point_c z y hy
  unfold jcR jcX evE
  cases hT : fieldB z f with
  | false =>
    rw [hT] at cT
    refine Con.n1 _ ?_
    refine con_of_vc Try.mixed ⟨10, [], [], []⟩ Try.func16 (by decide) rfl (by simp) (by decide) (by simp [freshOK, freshL, go_sem]) ?_
    rw [Try.ntmps16]
    simp [go_sem]
    refine CallVC.of (cT) (by decide) ?_
    simp [go_sem]
  | true =>
    rw [hT] at cT
    cases hn : (decide ((y.length : Int) = z) && numsB y) with
    | true =>
      rw [hn] at cR
      simp only [and_self, if_true, jacL_len]
      have hn2 : (y.length : Int) = z ∧ numsB y = true := by simpa using hn
      have hF := fieldB_iff.1 hT
      have hN := numsB_N.1 hn2.2
      have fl := hs.1
      have z3 := hF.hi
      refine con_of_vc Try.mixed ⟨10, [], [], []⟩ Try.func16 (by decide) rfl (by simp) (by decide) (by simp [freshOK, freshL, go_sem]) ?_
      rw [Try.ntmps16]
      simp [go_sem]
      refine CallVC.of (cT) (by decide) ?_
      simp [go_sem]
      refine CallVC.of (cR) (by decide) ?_
      simp [go_sem]
      refine loop_inv (List.range' 6 43) (fun i : Nat => [(6, .own 25 i (omat (jacL y.length y (f.take i)))), (7, .int i)]) (fun i => i ≤ f.length) (fun i => f.length - i) 0 (by simp) (by simp [go_sem, jacL, omat_nil]) (by simp [go_sem]) ?_
      intro i hi
      simp [go_sem]
      refine ⟨fun h => ?_, fun h => ?_⟩ <;> simp at h
      · have hif := h
        have hx : f[i]?.getD [] ∈ f := by simp [h]
        have hv := jacL_take (n := y.length) (y := y) h
        simp [go_sem]
        refine loop_inv (8 :: 9 :: List.range' 27 18) (fun k : Nat => [(8, .own 2 k (avs (jacR k y (f[i]?.getD [])))), (9, .int k)]) (fun k => k ≤ y.length) (fun k => y.length - k) 0 (by simp) (by simp [go_sem, jacR]) (by simp [go_sem]) ?_
        intro k hk
        simp [go_sem]
        refine ⟨fun h => ?_, fun h => ?_⟩ <;> simp at h
        · have hkl := h
          have hpp : partB (y.length : Int) (f[i]?.getD []) = true := by rw [hn2.1]; exact hF.part _ hx
          have hw : ∀ m ∈ f[i]?.getD [], WOk y.length 3 m := fun m hm => (partB_mem hpp hm).vok.wok
          have hsz := (hs.2 _ hx).1
          have hdl := derGo_len k (f[i]?.getD []) []
          have cD := l13Derive_c (n := y.length) (B := 3) (f[i]?.getD []) k hkl (by omega) (by omega) (by omega) hw (by omega)
          have cV := l13ValueW_c (B := 3) (derL k (f[i]?.getD [])) y hN (by omega) (by unfold derL; simp at hdl; omega) (by omega) (by omega) (derGo_wok hkl _ [] hw (by simp))
          have hj := jacR_succ k y (f[i]?.getD [])
          simp [go_sem, prt_drop hif]
          generalize f[i]?.getD [] = p at *
          refine ⟨⟨hif, by rintro rfl; simp at hif⟩, ?_⟩
          refine CallVC.of (cD) (by decide) ?_
          simp [go_sem]
          refine CallVC.of (cV) (by decide) ?_
          simp [go_sem]
          exact ⟨by omega, by omega, k + 1, by omega, by omega, Off_reset _ _ _ (by simp), by rw [hj]; simp [avs_snoc], by omega⟩
        · have e : k = y.length := by omega
          subst e
          simp [go_sem]
          exact ⟨by omega, by omega, i + 1, by omega, by omega, (Off.reset (by intro x hx; simp at hx ⊢; omega) (by simp) (by simp [go_sem, Off_reset])), by rw [hv, omat_app, omat_one]; simp, by omega⟩
      · simp [go_sem]
        have e : i = f.length := by omega
        subst e; simp
    | false =>
      rw [hn] at cR
      refine Con.n1 _ ?_
      refine con_of_vc Try.mixed ⟨10, [], [], []⟩ Try.func16 (by decide) rfl (by simp) (by decide) (by simp [freshOK, freshL, go_sem]) ?_
      rw [Try.ntmps16]
      simp [go_sem]
      refine CallVC.of (cT) (by decide) ?_
      simp [go_sem]
      refine CallVC.of (cR) (by decide) ?_
      simp [go_sem]
theorem polF_kok {n : Nat} {p : List Mon} (hn : n ≤ 3) (hp : partB (n : Int) p = true) {k : Key} {x : Int} (hk : polF p k = some x) : isN x ∧ KOk n k := by
  obtain ⟨m, hm, he⟩ := List.mem_map.1 ((polF_some (keys_nd (by omega) hp)).1 hk)
  simp only [keyM, Prod.mk.injEq] at he
  obtain ⟨rfl, rfl⟩ := he
  have := (partB_mem hp hm).vok
  exact ⟨this.num, this.kok hn⟩
set_option maxRecDepth 100000 in
theorem JacobianAt_c (z : Int) (f : List (List Mon)) (y : List Int) (hs : Small f) (hy : y.length ≤ 9223372036854775807) :
    Con Try.prog 19 [.agg [.int z, .sl f.length (prt f)], .sl y.length (avs y)] (jcR z f y) := by
  have cK := checkVectors_c z f [y] hs (by simp) (by simpa using hy)
  have e1 : mat [y] = [.sl y.length (avs y)] := rfl
  have e2 : ([y] : List (List Int)).length = 1 := rfl
  rw [e1, e2] at cK
  unfold jcR jcX evE
  have hv : ([y] : List (List Int)).any (fun y => !vecB z y) = !vecB z y := by simp
  unfold chk at cK
  rw [hv] at cK
  have hvb : (decide ((y.length : Int) = z) && numsB y) = vecB z y := rfl
  rw [hvb]
  cases hT : fieldB z f with
  | false =>
    rw [hT] at cK
    refine Con.n1 _ ?_
    refine con_of_vc Try.mixed ⟨12, [], [], []⟩ Try.func19 (by decide) rfl (by simp) (by decide) (by simp [freshOK, freshL, go_sem]) ?_
    rw [Try.ntmps19]
    simp [go_sem]
    refine CallVC.of (cK) (by decide) ?_
    simp [go_sem]
  | true =>
    rw [hT] at cK
    cases hn : vecB z y with
    | true =>
      rw [hn] at cK
      simp at cK
      have hn2 : (y.length : Int) = z ∧ numsB y = true := by simpa [vecB] using hn
      have hF := fieldB_iff.1 hT
      have hN := numsB_N.1 hn2.2
      have fl := hs.1
      have z3 := hF.hi
      simp only [and_self, if_true, jacL_len]
      refine con_of_vc Try.mixed ⟨12, [21], [], []⟩ Try.func19 (by decide) rfl (by simp) (by decide) (by simp [freshOK, freshL, go_sem]) ?_
      rw [Try.ntmps19]
      simp [go_sem]
      refine CallVC.of (cK) (by decide) ?_
      simp [go_sem]
      refine CallVC.of (polynomials_c z f hF hs) (by decide) ?_
      simp [go_sem]
      refine loop_inv (7 :: 9 :: 10 :: 11 :: List.range' 23 24) (fun i : Nat => [(7, .own 25 i (omat (jacL y.length y (f.take i)))), (23, .int i)]) (fun i => i ≤ f.length) (fun i => f.length - i) 0 (by simp) (by simp [go_sem, jacL, omat_nil]) (by simp [go_sem]) ?_
      intro i hi
      simp [go_sem]
      refine ⟨fun h => ?_, fun h => ?_⟩ <;> simp at h
      · have hif := h
        have hx : f[i]?.getD [] ∈ f := by simp [h]
        have hv := jacL_take (n := y.length) (y := y) h
        simp [go_sem, fpols_drop hif]
        refine ⟨⟨hif, by rintro rfl; simp at hif⟩, ?_⟩
        refine loop_inv (10 :: 11 :: List.range' 30 12) (fun k : Nat => [(10, .own 2 k (avs (jacR k y (f[i]?.getD [])))), (30, .int k)]) (fun k => k ≤ y.length) (fun k => y.length - k) 0 (by simp) (by simp [go_sem, jacR]) (by simp [go_sem]) ?_
        intro k hk
        simp [go_sem]
        refine ⟨fun h => ?_, fun h => ?_⟩ <;> simp at h
        · have hkl := h
          have hpp : partB (y.length : Int) (f[i]?.getD []) = true := by rw [hn2.1]; exact hF.part _ hx
          have hj := jacR_succ k y (f[i]?.getD [])
          have hq : ∀ kk x, polF (f[i]?.getD []) kk = some x → isN x ∧ KOk y.length kk := fun kk x hkx => polF_kok (by omega) hpp hkx
          have cD := derivative_c (n := y.length) (polF (f[i]?.getD [])) k hkl (by omega) hq
          have cV := value_c2 (derM k (polF (f[i]?.getD []))) y hN (by omega) (derM_ok hkl (by omega) hq)
          rw [← jac_eq (n := y.length) (by omega) hkl rfl hpp] at cV
          simp [go_sem]
          refine CallVC.of (cD) (by decide) ?_
          simp [go_sem]
          refine CallVC.of (cV) (by decide) ?_
          simp [go_sem]
          exact ⟨by omega, by omega, k + 1, by omega, by omega, Off_reset _ _ _ (by simp), by rw [hj]; simp [avs_snoc], by omega⟩
        · have e : k = y.length := by omega
          subst e
          simp [go_sem]
          exact ⟨by omega, by omega, i + 1, by omega, by omega, (Off.reset (by intro x hx; simp at hx ⊢; omega) (by simp) (by simp [go_sem, Off_reset])), by rw [hv, omat_app, omat_one]; simp, by omega⟩
      · simp [go_sem]
        have e : i = f.length := by omega
        subst e; simp
    | false =>
      rw [hn] at cK
      simp at cK
      refine Con.n1 _ ?_
      refine con_of_vc Try.mixed ⟨12, [], [], []⟩ Try.func19 (by decide) rfl (by simp) (by decide) (by simp [freshOK, freshL, go_sem]) ?_
      rw [Try.ntmps19]
      simp [go_sem]
      refine CallVC.of (cK) (by decide) ?_
      simp [go_sem]
end Go.Proofs.Ytmhagkdbgafdnaa

/- The statement's function over Jacobians of fields, walked: it answers true. -/
namespace Go.Proofs.Ytmhagkdbgafdnaa
open Go.Abs
set_option linter.unusedVariables false
set_option linter.unusedSimpArgs false
set_option maxHeartbeats 1000000
theorem small_of {f : List (List Mon)} (h : (cF f : Int) ≤ 1048576) : Small f := by
  unfold cF at h
  refine ⟨by omega, fun p hp => ?_⟩
  have h1 : p.length + sumC cM p ≤ sumC cP f := sumC_mem cP hp
  refine ⟨by omega, fun q hq => ?_⟩
  have h2 : q.2.length ≤ sumC cM p := sumC_mem cM hq
  omega
theorem jcX_len (z : Int) (f : List (List Mon)) (y : List Int) : (jcX z f y).length ≤ f.length := by
  unfold jcX; split <;> simp
theorem jcX_row (z : Int) (f : List (List Mon)) (y : List Int) : ∀ r ∈ jcX z f y, r.length = y.length := by
  unfold jcX
  split
  · intro r hr
    obtain ⟨p, _, rfl⟩ := List.mem_map.1 hr
    simp
  · simp
theorem sumL_bound {A : List (List Int)} {n : Nat} (h : ∀ r ∈ A, r.length ≤ n) : sumL A ≤ A.length * n := by
  induction A with
  | nil => simp [sumL]
  | cons r A ih =>
    have h1 := h r (by simp)
    have h2 := ih (fun q hq => h q (by simp [hq]))
    simp only [sumL, List.length_cons, Nat.add_mul, Nat.one_mul]; omega
set_option maxRecDepth 100000 in
theorem law10_c (z : Int) (f : List (List Mon)) (y : List Int) (hf : Fit f) (hy : y.length ≤ 9223372036854775807) :
    Con Try.prog 3 [.agg [.int z, .sl f.length (prt f)], .sl y.length (avs y)] (.bool true) := by
  have cS := szField_c z f 1048576 hf (by omega) (by omega)
  refine con_of_vc Try.mixed ⟨17, [], [23, 24, 25], []⟩ Try.func3 (by decide) rfl (by simp) (by decide) (by simp [freshOK, freshL, go_sem]) ?_
  rw [Try.ntmps3]
  simp [go_sem]
  by_cases hy1 : (1048576 : Int) < y.length
  · have hy1' : 1048576 < y.length := by omega
    simp [go_sem, hy1, hy1']
  have hy2 : ¬ 1048576 < y.length := by omega
  simp [go_sem, hy1, hy2]
  refine CallVC.of (cS) (by decide) ?_
  simp [go_sem]
  by_cases hs : szF 1048576 f < 0
  · simp [go_sem, hs]
  · have hc := szF_ok.ok 1048576 f (by omega) (by omega)
    have hsm := small_of (f := f) (by omega)
    have cT := toField_c z f hsm.1 hsm.2
    have cY := toInt64S_c y (by omega)
    have cSp := specJacobianAt_c z f y hsm hy
    have cI := JacobianAt_c z f y hsm hy
    have xl := jcX_len z f y
    have xr := jcX_row z f y
    have fl := hsm.1
    unfold jcR at cSp cI
    generalize jcX z f y = xs at cSp cI xl xr
    generalize evE z f y = e at cSp cI
    have xr2 : ∀ r ∈ xs, r.length ≤ 1048576 := fun r hr => by rw [xr r hr]; omega
    have xs2 : (sumL xs : Int) ≤ 1099511627776 := by
      have h1 := sumL_bound xr2
      have h2 := Nat.mul_le_mul (show xs.length ≤ 1048576 by omega) (Nat.le_refl 1048576)
      omega
    have cE := eqInt64SS_c xs xs (by omega) (fun r hr => by have := xr2 r hr; omega)
    have cEy := eqInt64S_c y y (by omega)
    have cQ := eqField_c z f hf
    have ct : (sumC cP f : Int) ≤ 1048576 := by unfold cF at hc; omega
    have cM := markField_c z f 1 hsm.1 hsm.2 (by omega) (by omega)
    have cMy := markInt64S_c 2 y (1 + sumC cP f) (by omega) (by omega)
    have cN := markInt64SS_c xs 1 (by omega) xr2 (by omega) (by omega)
    have cH := heldInt64SS_c xs 1 (by omega) xr2 (by omega) (by omega)
    simp at cE cEy
    have p1 : ¬ (1 + (sumL xs : Int) < 0) := by omega
    have p2 : ¬ (1 + (sumC cP f : Int) + y.length < 0) := by omega
    simp [go_sem, hs]
    refine CallVC.of (cT) (by decide) ?_
    simp [go_sem]
    refine CallVC.of (cY) (by decide) ?_
    simp [go_sem]
    refine CallVC.of (cSp) (by decide) ?_
    simp [go_sem]
    refine CallVC.of (cT) (by decide) ?_
    simp [go_sem]
    refine CallVC.of (cY) (by decide) ?_
    simp [go_sem]
    refine CallVC.of (cI) (by decide) ?_
    simp [go_sem]
    refine CallVC.of (cE) (by decide) ?_
    simp [go_sem]
    refine ⟨by kernel_rfl, ?_⟩
    refine CallD.of (cT) (by simp [roots, rootsL]) (by decide) ?_
    simp [go_sem]
    refine CallD.of (cQ) (by simp [roots, rootsL]) (by decide) ?_
    simp [go_sem]
    refine ⟨by kernel_rfl, ?_⟩
    simp [go_sem]
    refine CallVC.of (cY) (by decide) ?_
    simp [go_sem]
    refine CallVC.of (cEy) (by decide) ?_
    simp [go_sem]
    refine ⟨_, _, cM, ?_⟩
    simp [go_sem]
    refine ⟨_, _, cMy, ?_⟩
    simp [go_sem]
    simp [go_sem, p2]
    refine CallVC.of (cE) (by decide) ?_
    simp [go_sem]
    refine ⟨_, _, cN, ?_⟩
    simp [go_sem]
    refine CallVC.of (cH) (by decide) ?_
    simp [go_sem]
    simp [go_sem, p1]
    refine CallVC.of (cT) (by decide) ?_
    simp [go_sem]
    refine CallVC.of (cY) (by decide) ?_
    simp [go_sem]
    refine CallVC.of (cI) (by decide) ?_
    simp [go_sem]
    refine CallVC.of (cE) (by decide) ?_
    simp [go_sem]
    refine CallVC.of (cH) (by decide) ?_
    simp [go_sem]
    simp [go_sem, p1]
end Go.Proofs.Ytmhagkdbgafdnaa
