/- Texts of the own layer and contracts, part 6: G0 G1 Q1 Q2 LK Q9 Q3 Q29 Q35 Q37 V0 V1 V2 V3 V4 V5 Q10 Q11 Q12 Q13 Q4 Q5 P7 Q6 Q7 Q8 Q14 Q15 Q16 Q17 Q18. -/
import Derived.Test.YtjpeakcapddimaaM5
/- Commutative rings with whole numbers in them, power series over them, polynomials and the chain rule: plain laws. -/
namespace Go.Proofs.Ytjpeakcapddimaa
set_option linter.unusedVariables false
set_option linter.unusedSimpArgs false
class CR (α : Type) extends Add α, Mul α where
  ofI : Int → α
  addC : ∀ a b : α, a + b = b + a
  addA : ∀ a b c : α, a + b + c = a + (b + c)
  add0 : ∀ a : α, a + ofI 0 = a
  mulC : ∀ a b : α, a * b = b * a
  mulA : ∀ a b c : α, a * b * c = a * (b * c)
  mul1 : ∀ a : α, a * ofI 1 = a
  mulD : ∀ a b c : α, a * (b + c) = a * b + a * c
  mul0 : ∀ a : α, a * ofI 0 = ofI 0
  ofAdd : ∀ a b : Int, ofI (a + b) = ofI a + ofI b
  ofMul : ∀ a b : Int, ofI (a * b) = ofI a * ofI b
namespace CR
section
variable {α : Type} [CR α]
instance : Std.Associative (α := α) (· + ·) := ⟨addA⟩
instance : Std.Commutative (α := α) (· + ·) := ⟨addC⟩
instance : Std.Associative (α := α) (· * ·) := ⟨mulA⟩
instance : Std.Commutative (α := α) (· * ·) := ⟨mulC⟩
theorem zadd (a : α) : ofI 0 + a = a := by rw [addC, add0]
theorem omul (a : α) : ofI 1 * a = a := by rw [mulC, mul1]
theorem zmul (a : α) : ofI 0 * a = ofI 0 := by rw [mulC, mul0]
theorem Dmul (a b c : α) : (a + b) * c = a * c + b * c := by rw [mulC, mulD, mulC c, mulC c]
end
end CR
open CR
instance : CR Int where
  ofI := id
  addC := Int.add_comm
  addA := Int.add_assoc
  add0 := Int.add_zero
  mulC := Int.mul_comm
  mulA := Int.mul_assoc
  mul1 := Int.mul_one
  mulD := Int.mul_add
  mul0 := Int.mul_zero
  ofAdd := fun _ _ => rfl
  ofMul := fun _ _ => rfl
/-- Power series. -/
abbrev Ser (α : Type) := Nat → α
def sh {α : Type} (a : Ser α) : Ser α := fun n => a (n + 1)
def cmul {α : Type} [CR α] : Nat → Ser α → Ser α → α
  | 0, a, b => a 0 * b 0
  | n + 1, a, b => a 0 * b (n + 1) + cmul n (sh a) b
section
variable {α : Type} [CR α]
theorem cmul_add (n : Nat) : ∀ (a b c : Ser α), cmul n a (fun i => b i + c i) = cmul n a b + cmul n a c := by
  induction n with
  | zero => intro a b c; exact mulD _ _ _
  | succ n ih => intro a b c; simp only [cmul, ih, mulD]; ac_rfl
theorem cmul_last (n : Nat) : ∀ (a b : Ser α), cmul (n + 1) a b = cmul n a (sh b) + a (n + 1) * b 0 := by
  induction n with
  | zero => intro a b; rfl
  | succ n ih =>
    intro a b
    rw [cmul, ih, cmul]
    show a 0 * b (n + 1 + 1) + (cmul n (sh a) (sh b) + a (n + 1 + 1) * b 0) = a 0 * b (n + 1 + 1) + cmul n (sh a) (sh b) + a (n + 1 + 1) * b 0
    ac_rfl
theorem cmul_comm (n : Nat) : ∀ (a b : Ser α), cmul n a b = cmul n b a := by
  induction n with
  | zero => intro a b; exact mulC _ _
  | succ n ih => intro a b; rw [cmul, cmul_last, ih, mulC, addC]
theorem cmul_smul (c : α) (n : Nat) : ∀ (a b : Ser α), cmul n (fun i => c * a i) b = c * cmul n a b := by
  induction n with
  | zero => intro a b; exact mulA _ _ _
  | succ n ih =>
    intro a b
    have := ih (sh a) b
    simp only [cmul, mulD]
    rw [← this, mulA]; rfl
theorem cmul_addl (n : Nat) (a b c : Ser α) : cmul n (fun i => a i + b i) c = cmul n a c + cmul n b c := by
  rw [cmul_comm n (fun i => a i + b i) c, cmul_add, cmul_comm n c a, cmul_comm n c b]
theorem cmul_assoc (n : Nat) : ∀ (a b c : Ser α), cmul n (fun i => cmul i a b) c = cmul n a (fun i => cmul i b c) := by
  induction n with
  | zero => intro a b c; exact mulA _ _ _
  | succ n ih =>
    intro a b c
    have e : sh (fun i => cmul i a b) = fun i => a 0 * sh b i + cmul i (sh a) b := rfl
    simp only [cmul]
    rw [e, cmul_addl, cmul_smul, ih, mulD]
    show a 0 * b 0 * c (n + 1) + _ = _
    rw [mulA]; ac_rfl
def sOf (k : Int) : Ser α := fun n => if n = 0 then ofI k else ofI 0
theorem cmul_of (k : Int) : ∀ (n : Nat) (a : Ser α), cmul n a (sOf k) = a n * ofI k := by
  intro n
  induction n with
  | zero => intro a; rfl
  | succ n ih =>
    intro a
    rw [cmul, ih]
    show a 0 * ofI 0 + a (n + 1) * ofI k = _
    rw [mul0, zadd]
instance : CR (Ser α) where
  add := fun a b n => a n + b n
  mul := fun a b n => cmul n a b
  ofI := sOf
  addC := fun a b => funext fun n => addC _ _
  addA := fun a b c => funext fun n => addA _ _ _
  add0 := fun a => funext fun n => by show a n + (if n = 0 then ofI 0 else ofI 0) = a n; rw [ite_self, add0]
  mulC := fun a b => funext fun n => cmul_comm n a b
  mulA := fun a b c => funext fun n => cmul_assoc n a b c
  mul1 := fun a => funext fun n => by show cmul n a (sOf 1) = a n; rw [cmul_of, mul1]
  mulD := fun a b c => funext fun n => cmul_add n a b c
  mul0 := fun a => funext fun n => by show cmul n a (sOf 0) = if n = 0 then ofI 0 else ofI 0; rw [cmul_of, mul0, ite_self]
  ofAdd := fun a b => funext fun n => by
    show (if n = 0 then (ofI (a + b) : α) else ofI 0) = (if n = 0 then ofI a else ofI 0) + (if n = 0 then ofI b else ofI 0)
    split
    · exact ofAdd _ _
    · rw [add0]
  ofMul := fun a b => funext fun n => by
    show (if n = 0 then (ofI (a * b) : α) else ofI 0) = cmul n (sOf a) (sOf b)
    rw [cmul_of]
    show (if n = 0 then (ofI (a * b) : α) else ofI 0) = (if n = 0 then ofI a else ofI 0) * ofI b
    split
    · exact ofMul _ _
    · rw [zmul]
theorem ser_add (a b : Ser α) (n : Nat) : (a + b) n = a n + b n := rfl
theorem ser_mul (a b : Ser α) (n : Nat) : (a * b) n = cmul n a b := rfl
theorem ser_of0 (k : Int) : (ofI k : Ser α) 0 = ofI k := rfl
theorem ser_ofS (k : Int) (n : Nat) : (ofI k : Ser α) (n + 1) = ofI 0 := rfl
theorem mul_at0 (a b : Ser α) : (a * b : Ser α) 0 = a 0 * b 0 := rfl
/-- Multiplication of each coefficient by its index. -/
def th (a : Ser α) : Ser α := fun n => ofI (n : Int) * a n
theorem th_mul (a b : Ser α) : th (a * b) = th a * b + a * th b := by
  have gen : ∀ (n : Nat) (a b : Ser α), ofI (n : Int) * cmul n a b = cmul n (th a) b + cmul n a (th b) := by
    intro n
    induction n with
    | zero => intro a b; simp [cmul, th, zmul, mul0, add0]
    | succ n ih =>
      intro a b
      have e1 : sh (th a) = fun i => th (sh a) i + sh a i := funext fun i => by
        show ofI ((i + 1 : Nat) : Int) * a (i + 1) = ofI (i : Int) * a (i + 1) + a (i + 1)
        rw [show ((i + 1 : Nat) : Int) = (i : Int) + 1 by omega, ofAdd, Dmul, omul]
      have e2 : th a 0 = ofI 0 := by show ofI ((0 : Nat) : Int) * a 0 = _; exact zmul _
      have e3 : th b (n + 1) = ofI ((n + 1 : Nat) : Int) * b (n + 1) := rfl
      simp only [cmul]
      rw [e1, e2, e3, zmul, zadd, cmul_addl, mulD, show ((n + 1 : Nat) : Int) = (n : Int) + 1 by omega, ofAdd, Dmul (ofI (n : Int)) (ofI 1) (cmul n (sh a) b), ih, omul]
      have : (ofI (n : Int) + ofI 1) * (a 0 * b (n + 1)) = a 0 * ((ofI (n : Int) + ofI 1) * b (n + 1)) := by ac_rfl
      rw [this]; ac_rfl
  exact funext fun n => gen n a b
theorem th_add (a b : Ser α) : th (a + b) = th a + th b := funext fun n => mulD _ _ _
theorem th_of (k : Int) : th (ofI k : Ser α) = ofI 0 := funext fun n => by
  cases n with
  | zero => exact zmul _
  | succ n => show ofI _ * ofI 0 = ofI 0; exact mul0 _
def pwr (a : α) : Nat → α
  | 0 => ofI 1
  | n + 1 => pwr a n * a
theorem th_pwr (a : Ser α) : ∀ n : Nat, th (pwr a n) = ofI (n : Int) * (pwr a (n - 1) * th a)
  | 0 => by rw [pwr, th_of]; exact (zmul _).symm
  | n + 1 => by
    rw [pwr, th_mul, th_pwr a n, show ((n + 1 : Nat) : Int) = (n : Int) + 1 by omega, ofAdd, Dmul, omul, Nat.add_sub_cancel]
    cases n with
    | zero =>
      have z : (ofI ((0 : Nat) : Int) : Ser α) = ofI 0 := rfl
      rw [z, zmul, zmul, zadd]
    | succ n =>
      rw [Nat.add_sub_cancel, pwr]; ac_rfl
/-- Sums of lists, of the first numbers. -/
def sL {β : Type} (f : β → α) : List β → α
  | [] => ofI 0
  | b :: l => f b + sL f l
def sT (f : Nat → α) : Nat → α
  | 0 => ofI 0
  | n + 1 => sT f n + f n
/-- A monomial's exponents, one less at k. -/
def dx (k : Nat) (e : Nat → Nat) : Nat → Nat := fun j => if j = k then e j - 1 else e j
def mon (U : Nat → α) (e : Nat → Nat) : Nat → α
  | 0 => ofI 1
  | d + 1 => mon U e d * pwr (U d) (e d)
theorem mon_congr (U : Nat → α) {e e' : Nat → Nat} : ∀ {d : Nat}, (∀ j, j < d → e j = e' j) → mon U e d = mon U e' d
  | 0, _ => rfl
  | d + 1, h => by rw [mon, mon, mon_congr U (fun j hj => h j (by omega)), h d (by omega)]
theorem sT_congr {f g : Nat → α} : ∀ {n : Nat}, (∀ j, j < n → f j = g j) → sT f n = sT g n
  | 0, _ => rfl
  | n + 1, h => by rw [sT, sT, sT_congr (fun j hj => h j (by omega)), h n (by omega)]
theorem sT_mul (c : α) (f : Nat → α) : ∀ n, sT (fun k => c * f k) n = c * sT f n
  | 0 => (mul0 _).symm
  | n + 1 => by rw [sT, sT, sT_mul c f n, mulD]
theorem sT_add (f g : Nat → α) : ∀ n, sT (fun k => f k + g k) n = sT f n + sT g n
  | 0 => (add0 _).symm
  | n + 1 => by simp only [sT, sT_add f g n]; ac_rfl
theorem sT_zero : ∀ n, sT (fun _ => (ofI 0 : α)) n = ofI 0
  | 0 => rfl
  | n + 1 => by rw [sT, sT_zero n, add0]
theorem sL_app {β : Type} (f : β → α) (l r : List β) : sL f (l ++ r) = sL f l + sL f r := by
  induction l with
  | nil => exact (zadd _).symm
  | cons a l ih => simp only [List.cons_append, sL, ih]; ac_rfl
theorem sL_add {β : Type} (f g : β → α) : ∀ l : List β, sL (fun b => f b + g b) l = sL f l + sL g l
  | [] => (add0 _).symm
  | b :: l => by simp only [sL, sL_add f g l]; ac_rfl
theorem sL_mul {β : Type} (c : α) (f : β → α) : ∀ l : List β, sL (fun b => c * f b) l = c * sL f l
  | [] => (mul0 _).symm
  | b :: l => by rw [sL, sL, sL_mul c f l, mulD]
theorem sL_congr {β : Type} {f g : β → α} : ∀ {l : List β}, (∀ b ∈ l, f b = g b) → sL f l = sL g l
  | [], _ => rfl
  | b :: l, h => by rw [sL, sL, h b (by simp), sL_congr (fun c hc => h c (by simp [hc]))]
theorem sL_zero {β : Type} {f : β → α} : ∀ {l : List β}, (∀ b ∈ l, f b = ofI 0) → sL f l = ofI 0
  | [], _ => rfl
  | b :: l, h => by rw [sL, h b (by simp), zadd, sL_zero (fun c hc => h c (by simp [hc]))]
theorem sL_sT {β : Type} (f : β → Nat → α) (n : Nat) : ∀ l : List β, sL (fun b => sT (f b) n) l = sT (fun k => sL (fun b => f b k) l) n
  | [] => (sT_zero n).symm
  | b :: l => by
    simp only [sL]
    rw [sL_sT f n l, ← sT_add]
theorem th_mon (U : Nat → Ser α) (e : Nat → Nat) : ∀ d, th (mon U e d) = sT (fun k => ofI (e k : Int) * (mon U (dx k e) d * th (U k))) d
  | 0 => th_of 1
  | d + 1 => by
    rw [mon, th_mul, th_mon U e d, th_pwr, sT]
    have e1 : sT (fun k => ofI (e k : Int) * (mon U (dx k e) (d + 1) * th (U k))) d = sT (fun k => pwr (U d) (e d) * (ofI (e k : Int) * (mon U (dx k e) d * th (U k)))) d := by
      refine sT_congr (fun k hk => ?_)
      rw [mon]
      have : dx k e d = e d := by unfold dx; rw [if_neg (by omega)]
      rw [this]; ac_rfl
    have e2 : mon U (dx d e) (d + 1) = mon U e d * pwr (U d) (e d - 1) := by
      rw [mon, mon_congr U (e := dx d e) (e' := e) (fun j hj => by unfold dx; rw [if_neg (by omega)])]
      have : dx d e d = e d - 1 := by unfold dx; rw [if_pos rfl]
      rw [this]
    rw [e1, e2, sT_mul]
    ac_rfl
/-- A polynomial: a list of terms; its value; that of its derivative by a variable. -/
abbrev Trm := Int × (Nat → Nat)
def ev (d : Nat) (U : Nat → α) (L : List Trm) : α := sL (fun m => ofI m.1 * mon U m.2 d) L
def ev1 (d k : Nat) (U : Nat → α) (L : List Trm) : α := sL (fun m => ofI (m.1 * (m.2 k : Int)) * mon U (dx k m.2) d) L
/-- The chain rule. -/
theorem th_ev (d : Nat) (U : Nat → Ser α) : ∀ L : List Trm, th (ev d U L) = sT (fun k => ev1 d k U L * th (U k)) d := by
  intro L
  have h1 : ∀ L : List Trm, th (ev d U L) = sL (fun m => sT (fun k => ofI (m.1 * (m.2 k : Int)) * mon U (dx k m.2) d * th (U k)) d) L := by
    intro L
    induction L with
    | nil => exact th_of 0
    | cons m L ih =>
      have : ev d U (m :: L) = ofI m.1 * mon U m.2 d + ev d U L := rfl
      rw [this, th_add, ih, sL, th_mul, th_of, zmul, zadd, th_mon, ← sT_mul]
      congr 1
      refine sT_congr (fun k hk => ?_)
      rw [ofMul]; ac_rfl
  rw [h1, sL_sT]
  refine sT_congr (fun k hk => ?_)
  unfold ev1
  rw [mulC, ← sL_mul]
  exact sL_congr (fun m hm => mulC _ _)
/-- The coefficient of index 0. -/
theorem pwr_at0 (a : Ser α) : ∀ n, (pwr a n) 0 = pwr (a 0) n
  | 0 => rfl
  | n + 1 => by rw [pwr, mul_at0, pwr_at0 a n]; rfl
theorem mon_at0 (U : Nat → Ser α) (e : Nat → Nat) : ∀ d, (mon U e d) 0 = mon (fun k => U k 0) e d
  | 0 => rfl
  | d + 1 => by rw [mon, mul_at0, mon_at0 U e d, pwr_at0]; rfl
theorem ev_at0 (d : Nat) (U : Nat → Ser α) : ∀ L : List Trm, (ev d U L) 0 = ev d (fun k => U k 0) L
  | [] => rfl
  | m :: L => by
    have : ev d U (m :: L) = ofI m.1 * mon U m.2 d + ev d U L := rfl
    rw [this, ser_add, mul_at0, ser_of0, mon_at0, ev_at0 d U L]; rfl
theorem sh_mul (a b : Ser α) (h : b 0 = ofI 0) : sh (a * b) = a * sh b := funext fun n => by
  show cmul (n + 1) a b = cmul n a (sh b)
  rw [cmul_last, h, mul0, add0]
theorem sh_add (a b : Ser α) : sh (a + b) = sh a + sh b := rfl
theorem th_0 (a : Ser α) : th a 0 = ofI 0 := zmul _
theorem sh_sT (f : Nat → Ser α) : ∀ n, sh (sT f n) = sT (fun k => sh (f k)) n
  | 0 => funext fun n => by cases n <;> rfl
  | n + 1 => by rw [sT, sh_add, sh_sT f n, sT]
theorem sh_th_ev (d : Nat) (U : Nat → Ser α) (L : List Trm) : sh (th (ev d U L)) = sT (fun k => ev1 d k U L * sh (th (U k))) d := by
  rw [th_ev, sh_sT]
  exact sT_congr (fun k _ => sh_mul _ _ (th_0 _))
end
/-- Congruences. -/
structure Cg (α : Type) [CR α] where
  r : α → α → Prop
  refl : ∀ a, r a a
  symm : ∀ {a b}, r a b → r b a
  trans : ∀ {a b c}, r a b → r b c → r a c
  add : ∀ {a b c d}, r a b → r c d → r (a + c) (b + d)
  mul : ∀ {a b c d}, r a b → r c d → r (a * c) (b * d)
  of : ∀ {a b : Int}, a % 10007 = b % 10007 → r (ofI a) (ofI b)
def cgI : Cg Int where
  r := fun a b => a % 10007 = b % 10007
  refl := fun _ => rfl
  symm := fun h => h.symm
  trans := fun h k => h.trans k
  add := fun h k => by omega
  mul := fun {a b c d} h k => by rw [Int.mul_emod, h, k, ← Int.mul_emod]
  of := fun h => h
section
variable {α : Type} [CR α]
theorem cmul_cg (c : Cg α) {N : Nat} : ∀ {n : Nat} {a b a' b' : Ser α}, n < N → (∀ i, i < N → c.r (a i) (a' i)) → (∀ i, i < N → c.r (b i) (b' i)) → c.r (cmul n a b) (cmul n a' b')
  | n, a, b, a', b', hn, ha, hb => by
    have gen : ∀ (n : Nat) (a b a' b' : Ser α), (∀ i, i ≤ n → c.r (a i) (a' i)) → (∀ i, i ≤ n → c.r (b i) (b' i)) → c.r (cmul n a b) (cmul n a' b') := by
      intro n
      induction n with
      | zero => intro a b a' b' ha hb; exact c.mul (ha 0 (by omega)) (hb 0 (by omega))
      | succ n ih =>
        intro a b a' b' ha hb
        exact c.add (c.mul (ha 0 (by omega)) (hb (n + 1) (by omega))) (ih _ _ _ _ (fun i hi => ha (i + 1) (by omega)) (fun i hi => hb i (by omega)))
    exact gen n a b a' b' (fun i hi => ha i (by omega)) (fun i hi => hb i (by omega))
def cgS (c : Cg α) (N : Nat) : Cg (Ser α) where
  r := fun a b => ∀ n, n < N → c.r (a n) (b n)
  refl := fun a n _ => c.refl _
  symm := fun h n hn => c.symm (h n hn)
  trans := fun h k n hn => c.trans (h n hn) (k n hn)
  add := fun h k n hn => c.add (h n hn) (k n hn)
  mul := fun h k n hn => cmul_cg c hn h k
  of := fun {a b} h n hn => by
    show c.r (if n = 0 then ofI a else ofI 0) (if n = 0 then ofI b else ofI 0)
    split
    · exact c.of h
    · exact c.refl _
theorem Cg.sT (c : Cg α) {f g : Nat → α} : ∀ {n : Nat}, (∀ k, k < n → c.r (f k) (g k)) → c.r (sT f n) (sT g n)
  | 0, _ => c.refl _
  | n + 1, h => c.add (Cg.sT c (fun k hk => h k (by omega))) (h n (by omega))
theorem Cg.sL (c : Cg α) {β : Type} {f g : β → α} : ∀ {l : List β}, (∀ b ∈ l, c.r (f b) (g b)) → c.r (sL f l) (sL g l)
  | [], _ => c.refl _
  | b :: l, h => c.add (h b (by simp)) (Cg.sL c (fun x hx => h x (by simp [hx])))
theorem Cg.pwr (c : Cg α) {a b : α} (h : c.r a b) : ∀ n, c.r (pwr a n) (pwr b n)
  | 0 => c.refl _
  | n + 1 => c.mul (Cg.pwr c h n) h
theorem Cg.mon (c : Cg α) {U V : Nat → α} (e : Nat → Nat) : ∀ {d : Nat}, (∀ k, k < d → c.r (U k) (V k)) → c.r (mon U e d) (mon V e d)
  | 0, _ => c.refl _
  | d + 1, h => c.mul (Cg.mon c e (fun k hk => h k (by omega))) (Cg.pwr c (h d (by omega)) _)
theorem Cg.ev (c : Cg α) {d : Nat} {U V : Nat → α} (h : ∀ k, k < d → c.r (U k) (V k)) (L : List Trm) : c.r (ev d U L) (ev d V L) :=
  c.sL (fun m _ => c.mul (c.refl _) (c.mon m.2 h))
def fct : Nat → Int
  | 0 => 1
  | n + 1 => fct n * ((n : Int) + 1)
/-- What a series that the polynomials F drive is: A is any map of polynomials whose value is the derivative along F. -/
theorem flow_at (c : Cg α) {π : Type} (T : π → List Trm) {d N : Nat} {U : Nat → Ser α} {F : Nat → π} {A : π → π} {Ok : π → Prop}
    (hA : ∀ L, Ok L → Ok (A L) ∧ (cgS c N).r (ev d U (T (A L))) (sT (fun k => ev1 d k U (T L) * ev d U (T (F k))) d))
    (hU : ∀ k, k < d → ∀ n, n < N → c.r (ofI ((n + 1 : Nat) : Int) * U k (n + 1)) (ev d U (T (F k)) n)) :
    ∀ (n : Nat) (L : π), n ≤ N → Ok L → c.r (ofI (fct n) * ev d U (T L) n) (ev d (fun k => U k 0) (T (Nat.repeat A n L))) := by
  have step : ∀ L, Ok L → ∀ n, n < N → c.r (ofI ((n + 1 : Nat) : Int) * ev d U (T L) (n + 1)) (ev d U (T (A L)) n) := by
    intro L hL n hn
    refine c.trans ?_ (c.symm ((hA L hL).2 n hn))
    have : ofI ((n + 1 : Nat) : Int) * ev d U (T L) (n + 1) = sh (th (ev d U (T L))) n := rfl
    rw [this, sh_th_ev]
    exact (cgS c N).sT (fun k hk => (cgS c N).mul ((cgS c N).refl _) (fun n hn => hU k hk n hn)) n hn
  have rep : ∀ (n : Nat) (L : π), Nat.repeat A (n + 1) L = Nat.repeat A n (A L) := by
    intro n
    induction n with
    | zero => intro L; rfl
    | succ n ih => intro L; rw [Nat.repeat, ih]; rfl
  intro n
  induction n with
  | zero =>
    intro L _ _
    show c.r (ofI 1 * ev d U (T L) 0) (ev d (fun k => U k 0) (T L))
    rw [omul, ev_at0]; exact c.refl _
  | succ n ih =>
    intro L hn hL
    have h1 := ih (A L) (by omega) (hA L hL).1
    rw [rep]
    refine c.trans ?_ h1
    have : ofI (fct (n + 1)) * ev d U (T L) (n + 1) = ofI (fct n) * (ofI ((n + 1 : Nat) : Int) * ev d U (T L) (n + 1)) := by
      rw [fct, ofMul, mulA]; rfl
    rw [this]
    exact c.mul (c.refl _) (step L hL n (by omega))
end
end Go.Proofs.Ytjpeakcapddimaa

/- Lists of monomials as polynomials over any ring: values of sums, products and derivatives along fields. -/
namespace Go.Proofs.Ytjpeakcapddimaa
open CR
set_option linter.unusedVariables false
set_option linter.unusedSimpArgs false
set_option maxHeartbeats 1000000
def ex (e : List Int) : Nat → Nat := fun k => (e[k]?.getD 0).toNat
def tr (m : Mon) : Trm := (m.1, ex m.2)
/-- Monomials of n variables with exponents up to B. -/
structure WOk (n : Nat) (B : Int) (m : Mon) : Prop where
  num : isN m.1
  len : m.2.length = n
  pw : ∀ x ∈ m.2, 0 ≤ x ∧ x ≤ B
theorem VOk.wok {n : Nat} {m : Mon} (h : VOk n m) : WOk n 3 m := ⟨h.num, h.len, h.pw⟩
theorem WOk.le {n : Nat} {B C : Int} {m : Mon} (h : WOk n B m) (hBC : B ≤ C) : WOk n C m := ⟨h.num, h.len, fun x hx => ⟨(h.pw x hx).1, Int.le_trans (h.pw x hx).2 hBC⟩⟩
theorem WOk.get {n : Nat} {B : Int} {m : Mon} (h : WOk n B m) (hB : 0 ≤ B) (k : Nat) : 0 ≤ m.2[k]?.getD 0 ∧ m.2[k]?.getD 0 ≤ B := by
  rcases Nat.lt_or_ge k m.2.length with hk | hk
  · simp [hk]; exact h.pw _ (List.getElem_mem hk)
  · simp [hk]; exact hB
section
variable {α : Type} [CR α]
def evM (d : Nat) (U : Nat → α) (L : List Mon) : α := ev d U (L.map tr)
def evM1 (d k : Nat) (U : Nat → α) (L : List Mon) : α := ev1 d k U (L.map tr)
theorem evM_nil (d : Nat) (U : Nat → α) : evM d U [] = ofI 0 := rfl
theorem evM_cons (d : Nat) (U : Nat → α) (m : Mon) (L : List Mon) : evM d U (m :: L) = ofI m.1 * mon U (ex m.2) d + evM d U L := rfl
theorem evM_app (d : Nat) (U : Nat → α) (L R : List Mon) : evM d U (L ++ R) = evM d U L + evM d U R := by
  unfold evM ev; rw [List.map_append, sL_app]
theorem evM1_cons (d k : Nat) (U : Nat → α) (m : Mon) (L : List Mon) : evM1 d k U (m :: L) = ofI (m.1 * (ex m.2 k : Int)) * mon U (dx k (ex m.2)) d + evM1 d k U L := rfl
theorem evM_if (d : Nat) (U : Nat → α) (m : Mon) : evM d U (if m.1 = 0 then [] else [m]) = ofI m.1 * mon U (ex m.2) d := by
  split
  · rename_i h; rw [h, zmul]; rfl
  · rw [evM_cons, evM_nil, add0]
theorem Cg.eq (c : Cg α) {a b : α} (h : a = b) : c.r a b := by rw [h]; exact c.refl _
theorem putGo_ev (c : Cg α) (d : Nat) (U : Nat → α) (k : Int) (e : List Int) : ∀ (l : List Mon) (done : Bool),
    c.r (evM d U (putGo k e l done)) (evM d U l + if done = true then ofI 0 else ofI k * mon U (ex e) d)
  | [], true => c.eq (by simp [putGo]; rw [add0])
  | [], false => c.eq (by simp [putGo]; rw [evM_cons, evM_nil, addC])
  | m :: l, done => by
    rw [putGo]
    by_cases h1 : done = false ∧ m.2 = e
    · rw [if_pos h1, evM_app, h1.1, ← h1.2]
      have e1 := evM_if d U ((m.1 + k) % 10007, m.2)
      simp only at e1
      rw [e1]
      refine c.trans (c.add (c.mul (c.of (a := (m.1 + k) % 10007) (b := m.1 + k) (by omega)) (c.refl _)) (putGo_ev c d U k m.2 l true)) (c.eq ?_)
      simp only [if_true, Bool.false_eq_true, if_false]
      rw [evM_cons, ofAdd, Dmul, add0]; ac_rfl
    · rw [if_neg h1]
      by_cases h2 : done = false ∧ ltL e m.2 = true
      · rw [if_pos h2, evM_cons, evM_app, evM_if, h2.1]
        refine c.trans (c.add (c.refl _) (c.add (c.refl _) (putGo_ev c d U k e l true))) (c.eq ?_)
        simp only [if_true, Bool.false_eq_true, if_false]
        rw [evM_cons, add0]; ac_rfl
      · rw [if_neg h2, evM_app, evM_if]
        refine c.trans (c.add (c.refl _) (putGo_ev c d U k e l done)) (c.eq ?_)
        rw [evM_cons, addA]
theorem putL_ev (c : Cg α) (d : Nat) (U : Nat → α) (L : List Mon) (k : Int) (e : List Int) : c.r (evM d U (putL L k e)) (evM d U L + ofI k * mon U (ex e) d) := by
  unfold putL
  refine c.trans (putGo_ev c d U k e L _) (c.eq ?_)
  by_cases h : k = 0
  · simp [h]; rw [zmul]
  · simp [h]
/-- Sums. -/
def plusL (p : List Mon) (k : Int) : List Mon → List Mon
  | [] => p
  | m :: q => plusL (putL p (k * m.1 % 10007) m.2) k q
theorem plusL_app (p : List Mon) (k : Int) (q r : List Mon) : plusL p k (q ++ r) = plusL (plusL p k q) k r := by
  induction q generalizing p with
  | nil => rfl
  | cons m q ih => exact ih _
theorem plusL_ev (c : Cg α) (d : Nat) (U : Nat → α) (k : Int) : ∀ (q p : List Mon), c.r (evM d U (plusL p k q)) (evM d U p + ofI k * evM d U q)
  | [], p => c.eq (by rw [evM_nil, mul0, add0]; rfl)
  | m :: q, p => by
    rw [plusL]
    refine c.trans (plusL_ev c d U k q _) ?_
    refine c.trans (c.add (putL_ev c d U p _ m.2) (c.refl _)) ?_
    refine c.trans (c.add (c.add (c.refl _) (c.mul (c.of (a := k * m.1 % 10007) (b := k * m.1) (by omega)) (c.refl _))) (c.refl _)) (c.eq ?_)
    rw [evM_cons, mulD, ofMul]; ac_rfl
/-- Products. -/
def addE (a b : List Int) : List Int := List.zipWith (· + ·) a b
def prodRow (a : Mon) (acc : List Mon) : List Mon → List Mon
  | [] => acc
  | b :: q => prodRow a (putL acc (a.1 * b.1 % 10007) (addE a.2 b.2)) q
def prodGo (acc : List Mon) (q : List Mon) : List Mon → List Mon
  | [] => acc
  | a :: p => prodGo (prodRow a acc q) q p
def prodL (p q : List Mon) : List Mon := prodGo [] q p
theorem prodRow_app (a : Mon) (acc p q : List Mon) : prodRow a acc (p ++ q) = prodRow a (prodRow a acc p) q := by
  induction p generalizing acc with
  | nil => rfl
  | cons m p ih => exact ih _
theorem prodGo_app (acc q p r : List Mon) : prodGo acc q (p ++ r) = prodGo (prodGo acc q p) q r := by
  induction p generalizing acc with
  | nil => rfl
  | cons m p ih => exact ih _
theorem pwr_add (a : α) (n : Nat) : ∀ m : Nat, pwr a (n + m) = pwr a n * pwr a m
  | 0 => (mul1 _).symm
  | m + 1 => by rw [← Nat.add_assoc, pwr, pwr, pwr_add a n m, mulA]
theorem mon_add (U : Nat → α) (e f : Nat → Nat) : ∀ d, mon U (fun k => e k + f k) d = mon U e d * mon U f d
  | 0 => (mul1 _).symm
  | d + 1 => by rw [mon, mon, mon, mon_add U e f d, pwr_add]; ac_rfl
theorem ex_add {a b : List Int} {n : Nat} (ha : a.length = n) (hb : b.length = n) (h1 : ∀ x ∈ a, 0 ≤ x) (h2 : ∀ x ∈ b, 0 ≤ x) (k : Nat) : ex (addE a b) k = ex a k + ex b k := by
  unfold ex addE
  rcases Nat.lt_or_ge k n with hk | hk
  · rw [List.getElem?_eq_getElem (by simp; omega), List.getElem?_eq_getElem (by omega), List.getElem?_eq_getElem (by omega)]
    have := h1 _ (List.getElem_mem (show k < a.length by omega))
    have := h2 _ (List.getElem_mem (show k < b.length by omega))
    simp; omega
  · rw [List.getElem?_eq_none (by simp; omega), List.getElem?_eq_none (by omega), List.getElem?_eq_none (by omega)]; rfl
/-- Lists of n variables' monomials. -/
def LOk (n : Nat) (L : List Mon) : Prop := ∀ m ∈ L, m.2.length = n ∧ ∀ x ∈ m.2, 0 ≤ x
theorem LOk.tl {n : Nat} {m : Mon} {L : List Mon} (h : LOk n (m :: L)) : LOk n L := fun a ha => h a (by simp [ha])
theorem LOk.hd {n : Nat} {m : Mon} {L : List Mon} (h : LOk n (m :: L)) : m.2.length = n ∧ ∀ x ∈ m.2, 0 ≤ x := h m (by simp)
theorem prodRow_ev (c : Cg α) (d : Nat) (U : Nat → α) {n : Nat} {a : Mon} (ha : a.2.length = n ∧ ∀ x ∈ a.2, 0 ≤ x) : ∀ (q acc : List Mon), LOk n q → c.r (evM d U (prodRow a acc q)) (evM d U acc + ofI a.1 * mon U (ex a.2) d * evM d U q)
  | [], acc, _ => c.eq (by rw [evM_nil, mul0, add0]; rfl)
  | b :: q, acc, hq => by
    have hb := hq.hd
    rw [prodRow]
    refine c.trans (prodRow_ev c d U ha q _ hq.tl) ?_
    refine c.trans (c.add (putL_ev c d U acc _ _) (c.refl _)) ?_
    refine c.trans (c.add (c.add (c.refl _) (c.mul (c.of (a := a.1 * b.1 % 10007) (b := a.1 * b.1) (by omega)) (c.refl _))) (c.refl _)) (c.eq ?_)
    have : mon U (ex (addE a.2 b.2)) d = mon U (ex a.2) d * mon U (ex b.2) d := by
      rw [← mon_add]; exact mon_congr U (fun k _ => ex_add ha.1 hb.1 ha.2 hb.2 k)
    rw [this, evM_cons, mulD, ofMul]; ac_rfl
theorem prodGo_ev (c : Cg α) (d : Nat) (U : Nat → α) {n : Nat} {q : List Mon} (hq : LOk n q) : ∀ (p acc : List Mon), LOk n p → c.r (evM d U (prodGo acc q p)) (evM d U acc + evM d U p * evM d U q)
  | [], acc, _ => c.eq (by rw [evM_nil, zmul, add0]; rfl)
  | a :: p, acc, hp => by
    rw [prodGo]
    refine c.trans (prodGo_ev c d U hq p _ hp.tl) ?_
    refine c.trans (c.add (prodRow_ev c d U hp.hd q acc hq) (c.refl _)) (c.eq ?_)
    rw [evM_cons, Dmul]; ac_rfl
theorem prodL_ev (c : Cg α) (d : Nat) (U : Nat → α) {n : Nat} {p q : List Mon} (hp : LOk n p) (hq : LOk n q) : c.r (evM d U (prodL p q)) (evM d U p * evM d U q) :=
  c.trans (prodGo_ev c d U hq p [] hp) (c.eq (zadd _))
theorem ex_low {e : List Int} {i n : Nat} (hi : i < n) (hl : e.length = n) (k : Nat) : ex (e.set i (e[i]?.getD 0 - 1)) k = dx i (ex e) k := by
  unfold ex dx
  rw [List.getElem?_set]
  by_cases h : i = k
  · subst h
    rw [if_pos rfl, if_pos (by omega), if_pos rfl]
    simp
  · rw [if_neg h, if_neg (Ne.symm h)]
theorem derGo_ev (c : Cg α) (d : Nat) (U : Nat → α) {n i : Nat} (hi : i < n) : ∀ (p acc : List Mon), LOk n p → c.r (evM d U (derGo i acc p)) (evM d U acc + evM1 d i U p)
  | [], acc, _ => c.eq (add0 _).symm
  | m :: p, acc, h => by
    have hm := h.hd
    rw [derGo, evM1_cons]
    refine c.trans (derGo_ev c d U hi p _ h.tl) ?_
    have h0 : 0 ≤ m.2[i]?.getD 0 := by
      rw [List.getElem?_eq_getElem (by omega), Option.getD_some]; exact hm.2 _ (List.getElem_mem _)
    by_cases hpos : 0 < m.2[i]?.getD 0
    · rw [if_pos hpos]
      refine c.trans (c.add (putL_ev c d U acc _ _) (c.refl _)) ?_
      refine c.trans (c.add (c.add (c.refl _) (c.mul (c.of (a := m.1 * m.2[i]?.getD 0 % 10007) (b := m.1 * (ex m.2 i : Int)) ?_) (c.refl _))) (c.refl _)) (c.eq ?_)
      · unfold ex; rw [Int.toNat_of_nonneg h0, Int.emod_emod_of_dvd _ (Int.dvd_refl _)]
      · rw [mon_congr U (fun k _ => ex_low hi hm.1 k), addA]
    · rw [if_neg hpos]
      have : ex m.2 i = 0 := by unfold ex; omega
      rw [this]
      have z : ofI (m.1 * ((0 : Nat) : Int)) = (ofI 0 : α) := by simp
      rw [z, zmul, zadd]
      exact c.refl _
theorem derL_ev (c : Cg α) (d : Nat) (U : Nat → α) {n i : Nat} (hi : i < n) {p : List Mon} (hp : LOk n p) : c.r (evM d U (derL i p)) (evM1 d i U p) :=
  c.trans (derGo_ev c d U hi p [] hp) (c.eq (zadd _))
/-- The derivative along a field. -/
def alongGo (acc p : List Mon) (k : Nat) : List (List Mon) → List Mon
  | [] => acc
  | F :: f => alongGo (plusL acc 1 (prodL F (derL k p))) p (k + 1) f
def alongL (f : List (List Mon)) (p : List Mon) : List Mon := alongGo [] p 0 f
theorem alongGo_app (acc p : List Mon) (k : Nat) (f g : List (List Mon)) : alongGo acc p k (f ++ g) = alongGo (alongGo acc p k f) p (k + f.length) g := by
  induction f generalizing acc k with
  | nil => rfl
  | cons F f ih => simp only [List.cons_append, alongGo, ih, List.length_cons]; congr 1; omega
theorem putGo_lok {n : Nat} {k : Int} {e : List Int} (h : e.length = n ∧ ∀ x ∈ e, 0 ≤ x) : ∀ (l : List Mon) (done : Bool), LOk n l → LOk n (putGo k e l done)
  | [], true, _, m, hm => by simp [putGo] at hm
  | [], false, _, m, hm => by simp [putGo] at hm; rw [hm]; exact h
  | a :: l, done, hl, m, hm => by
    have ha := hl.hd
    have ih := fun d => putGo_lok (k := k) h l d hl.tl
    have one : ∀ b : Mon, (b.2.length = n ∧ ∀ x ∈ b.2, 0 ≤ x) → m ∈ (if b.1 = 0 then [] else [b]) → (m.2.length = n ∧ ∀ x ∈ m.2, 0 ≤ x) := fun b hb hmm => by
      split at hmm
      · simp at hmm
      · simp at hmm; rw [hmm]; exact hb
    rw [putGo] at hm
    split at hm
    · rcases List.mem_append.1 hm with hm | hm
      · exact one ((a.1 + k) % 10007, a.2) ha hm
      · exact ih _ m hm
    · split at hm
      · rcases List.mem_cons.1 hm with hm | hm
        · rw [hm]; exact h
        · rcases List.mem_append.1 hm with hm | hm
          · exact one a ha hm
          · exact ih _ m hm
      · rcases List.mem_append.1 hm with hm | hm
        · exact one a ha hm
        · exact ih _ m hm
theorem plusL_lok {n : Nat} {k : Int} : ∀ (q p : List Mon), LOk n q → LOk n p → LOk n (plusL p k q)
  | [], p, _, hp => hp
  | m :: q, p, hq, hp => plusL_lok q _ hq.tl (putGo_lok hq.hd p _ hp)
theorem addE_ok {n : Nat} {a b : List Int} (ha : a.length = n ∧ ∀ x ∈ a, 0 ≤ x) (hb : b.length = n ∧ ∀ x ∈ b, 0 ≤ x) : (addE a b).length = n ∧ ∀ x ∈ addE a b, 0 ≤ x := by
  refine ⟨by unfold addE; simp; omega, fun x hx => ?_⟩
  obtain ⟨i, hi, rfl⟩ := List.getElem_of_mem hx
  unfold addE at hi ⊢
  simp at hi ⊢
  have h1 := ha.2 _ (List.getElem_mem (show i < a.length by omega))
  have h2 := hb.2 _ (List.getElem_mem (show i < b.length by omega))
  omega
theorem prodRow_lok {n : Nat} {a : Mon} (ha : a.2.length = n ∧ ∀ x ∈ a.2, 0 ≤ x) : ∀ (q acc : List Mon), LOk n q → LOk n acc → LOk n (prodRow a acc q)
  | [], _, _, h => h
  | b :: q, acc, hq, h => prodRow_lok ha q _ hq.tl (putGo_lok (addE_ok ha hq.hd) acc _ h)
theorem prodGo_lok {n : Nat} {q : List Mon} (hq : LOk n q) : ∀ (p acc : List Mon), LOk n p → LOk n acc → LOk n (prodGo acc q p)
  | [], _, _, h => h
  | a :: p, acc, hp, h => prodGo_lok hq p _ hp.tl (prodRow_lok hp.hd q acc hq h)
theorem derGo_lok {n i : Nat} (hi : i < n) : ∀ (p acc : List Mon), LOk n p → LOk n acc → LOk n (derGo i acc p)
  | [], acc, _, ha => ha
  | a :: p, acc, hp, ha => by
    rw [derGo]
    have hav := hp.hd
    refine derGo_lok hi p _ hp.tl ?_
    split
    · rename_i hpos
      refine putGo_lok ⟨by simpa using hav.1, fun x hx => ?_⟩ acc _ ha
      rcases List.mem_or_eq_of_mem_set hx with hx | rfl
      · exact hav.2 x hx
      · omega
    · exact ha
theorem alongGo_lok {n : Nat} {p : List Mon} (hp : LOk n p) : ∀ (f : List (List Mon)) (k : Nat) (acc : List Mon), k + f.length ≤ n → (∀ F ∈ f, LOk n F) → LOk n acc → LOk n (alongGo acc p k f)
  | [], _, _, _, _, h => h
  | F :: f, k, acc, hk, hf, h => by
    rw [List.length_cons] at hk
    exact alongGo_lok hp f (k + 1) _ (by omega) (fun G hG => hf G (by simp [hG])) (plusL_lok _ _ (prodGo_lok (derGo_lok (by omega) p [] hp (by intro m hm; simp at hm)) F [] (hf F (by simp)) (by intro m hm; simp at hm)) h)
theorem alongL_lok {n : Nat} {f : List (List Mon)} {p : List Mon} (hp : LOk n p) (hf : ∀ F ∈ f, LOk n F) (hl : f.length ≤ n) : LOk n (alongL f p) := alongGo_lok hp f 0 [] (by omega) hf (by intro m hm; simp at hm)
theorem sT_shift (f : Nat → α) : ∀ n, sT f (n + 1) = f 0 + sT (fun k => f (k + 1)) n
  | 0 => by simp only [sT]; rw [addC]
  | n + 1 => by rw [sT, sT_shift f n, sT, addA]
theorem alongGo_ev (c : Cg α) (d : Nat) (U : Nat → α) {n : Nat} {p : List Mon} (hp : LOk n p) : ∀ (f : List (List Mon)) (k : Nat) (acc : List Mon), k + f.length ≤ n → (∀ F ∈ f, LOk n F) →
    c.r (evM d U (alongGo acc p k f)) (evM d U acc + sT (fun j => evM1 d (k + j) U p * evM d U (f[j]?.getD [])) f.length)
  | [], k, acc, _, _ => c.eq (add0 _).symm
  | F :: f, k, acc, hk, hf => by
    rw [List.length_cons] at hk
    rw [alongGo, List.length_cons, sT_shift]
    have hD : LOk n (derL k p) := derGo_lok (by omega) p [] hp (by intro m hm; simp at hm)
    refine c.trans (alongGo_ev c d U hp f (k + 1) _ (by omega) (fun G hG => hf G (by simp [hG]))) ?_
    refine c.trans (c.add (c.trans (plusL_ev c d U 1 _ acc) (c.add (c.refl _) (c.mul (c.refl _) (c.trans (prodL_ev c d U (hf F (by simp)) hD) (c.mul (c.refl _) (derL_ev c d U (by omega) hp)))))) (c.refl _)) (c.eq ?_)
    have e1 : sT (fun j => evM1 d (k + 1 + j) U p * evM d U (f[j]?.getD [])) f.length = sT (fun j => evM1 d (k + (j + 1)) U p * evM d U ((F :: f)[j + 1]?.getD [])) f.length :=
      sT_congr (fun j _ => by simp [Nat.add_assoc, Nat.add_comm 1 j])
    rw [e1, omul, addA]
    simp only [Nat.add_zero, List.getElem?_cons_zero, Option.getD_some]
    rw [mulC (evM d U F)]
theorem alongL_ev (c : Cg α) (d : Nat) (U : Nat → α) {n : Nat} {p : List Mon} (hp : LOk n p) {f : List (List Mon)} (hl : f.length ≤ n) (hf : ∀ F ∈ f, LOk n F) :
    c.r (evM d U (alongL f p)) (sT (fun j => evM1 d j U p * evM d U (f[j]?.getD [])) f.length) := by
  refine c.trans (alongGo_ev c d U hp f 0 [] (by omega) hf) (c.eq ?_)
  rw [evM_nil, zadd]
  exact sT_congr (fun j _ => by rw [Nat.zero_add])
/-- The flow that a field drives, by the derivatives along it. -/
theorem flow_is (c : Cg α) {d N : Nat} {U : Nat → Ser α} {f : List (List Mon)} (hl : f.length = d) (hf : ∀ F ∈ f, LOk d F)
    (hU : ∀ k, k < d → ∀ n, n < N → c.r (ofI ((n + 1 : Nat) : Int) * U k (n + 1)) (evM d U (f[k]?.getD []) n)) :
    ∀ (n : Nat) (L : List Mon), n ≤ N → LOk d L → c.r (ofI (fct n) * evM d U L n) (evM d (fun k => U k 0) (Nat.repeat (alongL f) n L)) := by
  refine flow_at c (π := List Mon) (fun L => L.map tr) (F := fun k => f[k]?.getD []) (A := alongL f) (Ok := LOk d) (fun L hL => ⟨alongL_lok hL hf (by omega), ?_⟩) hU
  have := alongL_ev (cgS c N) d U hL (f := f) (by omega) hf
  rw [hl] at this
  exact this
end
end Go.Proofs.Ytjpeakcapddimaa

/- Contracts: the reference's derivative of a list, values of such lists, the program's derivative of a map. -/
namespace Go.Proofs.Ytjpeakcapddimaa
open Go.Abs
set_option linter.unusedVariables false
set_option linter.unusedSimpArgs false
set_option maxHeartbeats 1000000
theorem putGo_len (c : Int) (e : List Int) : ∀ (l : List Mon) (done : Bool), (putGo c e l done).length ≤ l.length + 1
  | [], true => by simp [putGo]
  | [], false => by simp [putGo]
  | m :: l, done => by
    have one : ∀ b : Mon, (if b.1 = 0 then [] else [b]).length ≤ 1 := fun b => by split <;> simp
    have ht : ∀ l : List Mon, (putGo c e l true).length ≤ l.length := by
      intro l
      induction l with
      | nil => simp [putGo]
      | cons m l ih => rw [putGo_t]; have := one m; simp; omega
    have h1 := putGo_len c e l done
    have h2 := ht l
    have h3 := one m
    have h4 := one ((m.1 + c) % 10007, m.2)
    simp only at h4
    rw [putGo]
    split
    · simp only [List.length_append, List.length_cons]; omega
    · split
      · simp only [List.length_append, List.length_cons]; omega
      · simp only [List.length_append, List.length_cons]; omega
theorem putL_len (L : List Mon) (c : Int) (e : List Int) : (putL L c e).length ≤ L.length + 1 := putGo_len c e L _
theorem derGo_len (i : Nat) : ∀ (p acc : List Mon), (derGo i acc p).length ≤ acc.length + p.length
  | [], acc => by simp [derGo]
  | m :: p, acc => by
    rw [derGo]
    have := derGo_len i p (if 0 < m.2[i]?.getD 0 then putL acc (m.1 * m.2[i]?.getD 0 % 10007) (m.2.set i (m.2[i]?.getD 0 - 1)) else acc)
    have h : (if 0 < m.2[i]?.getD 0 then putL acc (m.1 * m.2[i]?.getD 0 % 10007) (m.2.set i (m.2[i]?.getD 0 - 1)) else acc).length ≤ acc.length + 1 := by
      split
      · exact putL_len _ _ _
      · omega
    simp; omega
/-- Monomials of n variables stay such. -/
theorem putGo_wok {n : Nat} {B c : Int} {e : List Int} (h : WOk n B (c, e)) : ∀ (l : List Mon) (done : Bool), (∀ m ∈ l, WOk n B m) → ∀ m ∈ putGo c e l done, WOk n B m
  | [], true, _, m, hm => by simp [putGo] at hm
  | [], false, _, m, hm => by simp [putGo] at hm; rw [hm]; exact h
  | a :: l, done, hl, m, hm => by
    have ha := hl a (by simp)
    have ih := fun d => putGo_wok h l d (fun b hb => hl b (by simp [hb]))
    have one : ∀ b : Mon, WOk n B b → m ∈ (if b.1 = 0 then [] else [b]) → WOk n B m := fun b hb hmm => by
      split at hmm
      · simp at hmm
      · simp at hmm; rw [hmm]; exact hb
    rw [putGo] at hm
    split at hm
    · rcases List.mem_append.1 hm with hm | hm
      · exact one ((a.1 + c) % 10007, a.2) ⟨isN_mod _, ha.len, ha.pw⟩ hm
      · exact ih _ m hm
    · split at hm
      · rcases List.mem_cons.1 hm with hm | hm
        · rw [hm]; exact h
        · rcases List.mem_append.1 hm with hm | hm
          · exact one a ha hm
          · exact ih _ m hm
      · rcases List.mem_append.1 hm with hm | hm
        · exact one a ha hm
        · exact ih _ m hm
theorem WOk.low {n i : Nat} {B : Int} {m : Mon} (h : WOk n B m) (hi : i < n) (hp : 0 < m.2[i]?.getD 0) : WOk n B (m.1 * m.2[i]?.getD 0 % 10007, m.2.set i (m.2[i]?.getD 0 - 1)) := by
  have hl := h.len
  refine ⟨isN_mod _, by simpa using hl, fun x hx => ?_⟩
  rcases List.mem_or_eq_of_mem_set hx with hx | rfl
  · exact h.pw x hx
  · have hm : m.2[i]?.getD 0 ∈ m.2 := by
      rw [List.getElem?_eq_getElem (by omega), Option.getD_some]; exact List.getElem_mem _
    have := h.pw _ hm
    omega
theorem derGo_wok {n i : Nat} {B : Int} (hi : i < n) : ∀ (p acc : List Mon), (∀ m ∈ p, WOk n B m) → (∀ m ∈ acc, WOk n B m) → ∀ m ∈ derGo i acc p, WOk n B m
  | [], acc, _, ha, m, hm => ha m hm
  | a :: p, acc, hp, ha, m, hm => by
    rw [derGo] at hm
    have hav := hp a (by simp)
    refine derGo_wok hi p _ (fun b hb => hp b (by simp [hb])) ?_ m hm
    split
    · rename_i hpos
      exact fun b hb => putGo_wok (hav.low hi hpos) acc _ ha b hb
    · exact ha
theorem small_mul {a b : Int} (ha : isN a) (h0 : 0 ≤ b) (h1 : b ≤ 1000000) : fits (a * b) := by
  obtain ⟨a0, a1⟩ := ha
  have := Int.mul_nonneg a0 h0
  have : a * b ≤ 10006 * 1000000 := Int.mul_le_mul (by omega) h1 h0 (by omega)
  exact ⟨by omega, by omega⟩
set_option maxRecDepth 100000 in
theorem l13Derive_c {n : Nat} {B : Int} (p : List Mon) (k : Nat) (hk : k < n) (hn : n ≤ 1000) (hB : 0 ≤ B) (hB2 : B ≤ 1000000) (hp : ∀ m ∈ p, WOk n B m) (hl : p.length ≤ 100000000000) :
    Con Try.prog 178 [.sl p.length (mons p), .int k] (.own 111 (derL k p).length (omons (derL k p))) := by
  refine con_of_vc Try.mixed ⟨9, [], [], []⟩ Try.func178 (by decide) rfl (by simp) (by decide) (by simp [freshOK, freshL, go_sem]) ?_
  rw [Try.ntmps178]
  simp [go_sem]
  refine loop_inv (List.range' 5 45) (fun i : Nat => [(5, .own 111 (derL k (p.take i)).length (omons (derL k (p.take i)))), (6, .int i)]) (fun i => i ≤ p.length) (fun i => p.length - i) 0 (by simp) (by simp [go_sem, derL, derGo]) (by simp [go_sem]) ?_
  intro i hi
  simp [go_sem]
  refine ⟨fun h => ?_, fun h => ?_⟩ <;> simp at h
  · have hif := h
    have hx : p[i]?.getD (0, []) ∈ p := by simp [h]
    have hm := hp _ hx
    have hd : derL k (p.take (i + 1)) = (if 0 < (p[i]?.getD (0, [])).2[k]?.getD 0 then putL (derL k (p.take i)) ((p[i]?.getD (0, [])).1 * (p[i]?.getD (0, [])).2[k]?.getD 0 % 10007) ((p[i]?.getD (0, [])).2.set k ((p[i]?.getD (0, [])).2[k]?.getD 0 - 1)) else derL k (p.take i)) := by
      unfold derL
      rw [List.take_add_one, derGo_app]; simp [hif, derGo]
    have hw : ∀ m ∈ derL k (p.take i), WOk n B m := derGo_wok hk _ [] (fun m hm => hp m (List.mem_of_mem_take hm)) (by simp)
    have hdl := derGo_len k (p.take i) []
    have hdl2 : (derL k (p.take i)).length ≤ i := by unfold derL; simp at hdl; omega
    simp [go_sem, mons_drop hif]
    generalize hM : p[i]?.getD (0, []) = m at *
    have hml := hm.len
    have g := hm.get hB k
    have hkl : k < m.2.length := by omega
    have cO := l01Own_c m.2 (by omega)
    refine ⟨⟨hif, by rintro rfl; simp at hif⟩, ?_⟩
    refine CallVC.of (cO) (by decide) ?_
    simp [go_sem]
    simp [go_sem, mons_drop hif, hM, avs_at hkl]
    refine ⟨by kernel_rfl, ⟨hif, by rintro rfl; simp at hif⟩, hkl, ?_⟩
    refine CallD.of (l01Mul_c _ _ (small_mul hm.num g.1 (by omega))) (by simp [roots, rootsL]) (by decide) ?_
    simp [go_sem]
    refine ⟨by kernel_rfl, ?_⟩
    simp [go_sem]
    simp [go_sem, avs_at hkl]
    refine ⟨hkl, ?_⟩
    by_cases hpos : 0 < m.2[k]?.getD 0
    · rw [if_pos hpos] at hd
      have hv := hm.low (by omega) hpos
      have cP := l13Put_c (derL k (p.take i)) (m.1 * m.2[k]?.getD 0 % 10007) (m.2.set k (m.2[k]?.getD 0 - 1)) (isN_mod _) (fun q hq => ⟨(hw q hq).num, by have := (hw q hq).len; omega⟩) (by omega) (by simp; omega)
      rw [List.length_set] at cP
      simp [go_sem, hpos, avs_at hkl]
      refine ⟨hkl, ⟨by omega, by omega⟩, hkl, ?_⟩
      rw [avs_set, avs_frz]
      refine CallVC.of (cP) (by decide) ?_
      simp [go_sem]
      exact ⟨by omega, i + 1, by omega, by omega, Off_reset _ _ _ (by simp), by rw [hd]; exact ⟨rfl, rfl⟩, by omega⟩
    · rw [if_neg hpos] at hd
      simp [go_sem, hpos]
      exact ⟨by omega, i + 1, by omega, by omega, Off_reset _ _ _ (by simp), by rw [hd]; exact ⟨rfl, rfl⟩, by omega⟩
  · simp [go_sem]
    rw [List.take_of_length_le h]
    simp
set_option maxRecDepth 100000 in
theorem l13ValueW_c {B : Int} (p : List Mon) (y : List Int) (hy : Ns y) (hl : y.length ≤ 1000) (hp : p.length ≤ 10000000) (hB : 0 ≤ B) (hB2 : B ≤ 1000000) (hm : ∀ m ∈ p, WOk y.length B m) :
    Con Try.prog 240 [.sl p.length (mons p), .sl y.length (avs y)] (.int (vsum y p % 10007)) := by
  refine con_of_vc Try.mixed ⟨9, [], [], []⟩ Try.func240 (by decide) rfl (by simp) (by decide) (by simp [freshOK, freshL, go_sem]) ?_
  rw [Try.ntmps240]
  simp [go_sem]
  refine loop_inv (5 :: 6 :: 7 :: 8 :: List.range' 9 35) (fun i : Nat => [(5, .int (vsum y (p.take i) % 10007)), (6, .int i)]) (fun i => i ≤ p.length) (fun i => p.length - i) 0 (by simp) (by simp [go_sem, vsum]) (by simp [go_sem]) ?_
  intro i hi
  simp [go_sem]
  refine ⟨fun h => ?_, fun h => ?_⟩ <;> simp at h
  · have hif := h
    have hx : p[i]?.getD (0, []) ∈ p := by simp [h]
    have ho := hm _ hx
    have hv := vsum_take (y := y) h
    simp [go_sem, mons_drop hif]
    refine ⟨⟨hif, by rintro rfl; simp at hif⟩, ?_⟩
    generalize hM : p[i]?.getD (0, []) = m at *
    have hml : m.2.length = y.length := ho.len
    have hx1 : isN m.1 := ho.num
    refine loop_inv (7 :: 8 :: List.range' 20 21) (fun k : Nat => [(7, .int (tmF y m.2 m.1 k)), (8, .int k)]) (fun k => k ≤ y.length) (fun k => y.length - k) 0 (by simp) (by simp [go_sem, tmF]) (by simp [go_sem]) ?_
    intro k hk
    simp [go_sem]
    refine ⟨fun h => ?_, fun h => ?_⟩ <;> simp at h
    · have hk2 : k < m.2.length := by omega
      have g := ho.get hB k
      simp [go_sem, mons_drop hif, hM, avs_drop h, avs_drop hk2]
      refine ⟨by kernel_rfl, ⟨h, by rintro rfl; simp at h⟩, ⟨hif, by rintro rfl; simp at hif⟩, ⟨hk2, fun e => by rw [e] at hk2; simp at hk2⟩, ?_⟩
      refine CallD.of (l01Pow_c _ _ (hy.get k) g.1 (by omega)) (by simp [roots, rootsL]) (by decide) ?_
      simp [go_sem]
      refine CallD.of (l01Mul_c _ _ (mul_fits (tmF_N hx1 k) (isN_mod _))) (by simp [roots, rootsL]) (by decide) ?_
      simp [go_sem]
      refine ⟨by kernel_rfl, ?_⟩
      simp [go_sem]
      refine ⟨by omega, k + 1, by omega, by omega, Off_reset _ _ _ (by simp), by simp [tmF], by omega⟩
    · have e : k = y.length := by omega
      subst e
      simp [go_sem]
      refine CallVC.of (l01Add_c _ _ (add_fits (isN_mod _) (tmF_N hx1 _))) (by decide) ?_
      simp [go_sem]
      refine ⟨by omega, i + 1, by omega, by omega, (Off.reset (by intro x hx; simp at hx ⊢; omega) (by simp) (by simp [go_sem, Off_reset])), ?_, by omega⟩
      rw [hv]
  · simp [go_sem]
    have e : i = p.length := by omega
    subst e; simp
set_option maxRecDepth 100000 in
theorem derivative_c {n : Nat} (c : Key → Option Int) (i : Nat) (hi : i < n) (hn : n ≤ 3) (hc : ∀ k x, c k = some x → isN x ∧ KOk n k) :
    Con Try.prog 91 [.fmp c, .int i] (.mp (derM i c)) := by
  refine con_of_vc Try.mixed ⟨9, [], [], []⟩ Try.func91 (by decide) rfl (by simp) (by decide) (by simp [freshOK, freshL, go_sem]) ?_
  rw [Try.ntmps91]
  simp [go_sem]
  intro es hes
  have hok : ∀ e ∈ es, c e.1 = some e.2 := fun e he => hes.val e he
  refine loop_inv (List.range' 5 34) (fun x : Option (Key × Int) × List (Key × Int) => [(5, .mp (remD i c x.2)), (11, .it x.1 x.2)]) (fun x => x.2.Pairwise (fun a b => a.1 ≠ b.1) ∧ ∀ e ∈ x.2, c e.1 = some e.2) (fun x => x.2.length) (none, es) ⟨hes.nd, hok⟩ (by simp [go_sem, remD_start hes]) (by simp [go_sem]) ?_
  rintro ⟨l, rem⟩ ⟨hnd, hrem⟩
  simp only at hnd hrem
  simp [go_sem, keyAV]
  refine ⟨fun hr => ?_, fun l1 k0 k1 k2 x l2 hr => ?_⟩
  · subst hr
    exact remD_end i c
  · subst hr
    have h3 : i = 0 ∨ i = 1 ∨ i = 2 := by omega
    have hcx := hrem ((k0, k1, k2), x) (by simp)
    have hx := hc _ _ hcx
    have hbx := mem_box.1 hx.2.1
    simp only at hcx hbx
    have hnum := hx.1
    have hnd2 : (l1 ++ l2).Pairwise (fun a b => a.1 ≠ b.1) := hnd.sublist (List.Sublist.append (List.Sublist.refl _) (List.sublist_cons_self _ _))
    have hrem2 : ∀ a b c' y, ((a, b, c'), y) ∈ l1 ++ l2 → c (a, b, c') = some y := fun a b c' y hm => hrem ((a, b, c'), y) (by
      rcases List.mem_append.1 hm with hm | hm <;> simp [hm])
    rcases h3 with rfl | rfl | rfl
    · have hz : remD 0 c (l1 ++ ((k0, k1, k2), x) :: l2) (k0 - 1, k1, k2) = none := remD_at (i := 0) (c := c) (l1 := l1) (l2 := l2) (k0 := (k0, k1, k2)) (x := x)
      simp [go_sem]
      by_cases hp : 0 < k0
      · have hs : mset (remD 0 c (l1 ++ ((k0, k1, k2), x) :: l2)) (k0 - 1, k1, k2) (k0 * x % 10007) = remD 0 c (l1 ++ l2) := remD_step (i := 0) hnd hcx hp
        have hf : fits (k0 * x) := by rw [Int.mul_comm]; exact small_mul hnum (by omega) (by omega)
        simp [go_sem, hp, hz]
        refine ⟨⟨by omega, by omega⟩, by kernel_rfl, hf, ?_⟩
        refine CallD.of (num_c _ hf.1 hf.2) (by simp [roots, rootsL]) (by decide) ?_
        simp [go_sem]
        refine ⟨by kernel_rfl, ?_⟩
        simp [go_sem]
        exact ⟨_, _, ⟨hnd2, hrem2⟩, by simp; try omega, Off_reset _ _ _ (by simp), hs, rfl, rfl⟩
      · have hs : remD 0 c (l1 ++ ((k0, k1, k2), x) :: l2) = remD 0 c (l1 ++ l2) := remD_skip (i := 0) hnd hcx hp
        simp [go_sem, hp]
        exact ⟨_, _, ⟨hnd2, hrem2⟩, by simp; try omega, Off_reset _ _ _ (by simp), hs, rfl, rfl⟩
    · have hz : remD 1 c (l1 ++ ((k0, k1, k2), x) :: l2) (k0, k1 - 1, k2) = none := remD_at (i := 1) (c := c) (l1 := l1) (l2 := l2) (k0 := (k0, k1, k2)) (x := x)
      simp [go_sem]
      by_cases hp : 0 < k1
      · have hs : mset (remD 1 c (l1 ++ ((k0, k1, k2), x) :: l2)) (k0, k1 - 1, k2) (k1 * x % 10007) = remD 1 c (l1 ++ l2) := remD_step (i := 1) hnd hcx hp
        have hf : fits (k1 * x) := by rw [Int.mul_comm]; exact small_mul hnum (by omega) (by omega)
        simp [go_sem, hp, hz]
        refine ⟨⟨by omega, by omega⟩, by kernel_rfl, hf, ?_⟩
        refine CallD.of (num_c _ hf.1 hf.2) (by simp [roots, rootsL]) (by decide) ?_
        simp [go_sem]
        refine ⟨by kernel_rfl, ?_⟩
        simp [go_sem]
        exact ⟨_, _, ⟨hnd2, hrem2⟩, by simp; try omega, Off_reset _ _ _ (by simp), hs, rfl, rfl⟩
      · have hs : remD 1 c (l1 ++ ((k0, k1, k2), x) :: l2) = remD 1 c (l1 ++ l2) := remD_skip (i := 1) hnd hcx hp
        simp [go_sem, hp]
        exact ⟨_, _, ⟨hnd2, hrem2⟩, by simp; try omega, Off_reset _ _ _ (by simp), hs, rfl, rfl⟩
    · have hz : remD 2 c (l1 ++ ((k0, k1, k2), x) :: l2) (k0, k1, k2 - 1) = none := remD_at (i := 2) (c := c) (l1 := l1) (l2 := l2) (k0 := (k0, k1, k2)) (x := x)
      simp [go_sem]
      by_cases hp : 0 < k2
      · have hs : mset (remD 2 c (l1 ++ ((k0, k1, k2), x) :: l2)) (k0, k1, k2 - 1) (k2 * x % 10007) = remD 2 c (l1 ++ l2) := remD_step (i := 2) hnd hcx hp
        have hf : fits (k2 * x) := by rw [Int.mul_comm]; exact small_mul hnum (by omega) (by omega)
        simp [go_sem, hp, hz]
        refine ⟨⟨by omega, by omega⟩, by kernel_rfl, hf, ?_⟩
        refine CallD.of (num_c _ hf.1 hf.2) (by simp [roots, rootsL]) (by decide) ?_
        simp [go_sem]
        refine ⟨by kernel_rfl, ?_⟩
        simp [go_sem]
        exact ⟨_, _, ⟨hnd2, hrem2⟩, by simp; try omega, Off_reset _ _ _ (by simp), hs, rfl, rfl⟩
      · have hs : remD 2 c (l1 ++ ((k0, k1, k2), x) :: l2) = remD 2 c (l1 ++ l2) := remD_skip (i := 2) hnd hcx hp
        simp [go_sem, hp]
        exact ⟨_, _, ⟨hnd2, hrem2⟩, by simp; try omega, Off_reset _ _ _ (by simp), hs, rfl, rfl⟩
end Go.Proofs.Ytjpeakcapddimaa

/- Contracts: Jacobians, the reference's and the program's; rows of marks. -/
namespace Go.Proofs.Ytjpeakcapddimaa
open Go.Abs
set_option linter.unusedVariables false
set_option linter.unusedSimpArgs false
set_option maxHeartbeats 1000000
/-- Rows of derivatives. -/
def jacR (n : Nat) (y : List Int) (p : List Mon) : List Int := (List.range n).map fun k => vsum y (derL k p) % 10007
def jacL (n : Nat) (y : List Int) (f : List (List Mon)) : List (List Int) := f.map (jacR n y)
@[simp] theorem jacR_len (n : Nat) (y : List Int) (p : List Mon) : (jacR n y p).length = n := by simp [jacR]
@[simp] theorem jacL_len (n : Nat) (y : List Int) (f : List (List Mon)) : (jacL n y f).length = f.length := by simp [jacL]
theorem jacR_succ (n : Nat) (y : List Int) (p : List Mon) : jacR (n + 1) y p = jacR n y p ++ [vsum y (derL n p) % 10007] := by simp [jacR, List.range_succ]
theorem jacL_take {n : Nat} {y : List Int} {f : List (List Mon)} {i : Nat} (h : i < f.length) : jacL n y (f.take (i + 1)) = jacL n y (f.take i) ++ [jacR n y (f[i]?.getD [])] := by
  rw [jacL, jacL, List.take_add_one, List.map_append, List.getElem?_eq_getElem h]; rfl
theorem omat_app (A C : List (List Int)) : omat (A ++ C) = omat A ++ omat C := by simp [omat]
theorem omat_one (r : List Int) : omat [r] = [.own 2 r.length (avs r)] := rfl
theorem omat_nil : omat [] = [] := rfl
def jcX (z : Int) (f : List (List Mon)) (y : List Int) : List (List Int) := if fieldB z f = true ∧ (decide ((y.length : Int) = z) && numsB y) = true then jacL y.length y f else []
def jcR (z : Int) (f : List (List Mon)) (y : List Int) : AV := .tup [.own 38 (jcX z f y).length (omat (jcX z f y)), .int (evE z f y)]
theorem polF_kok {n : Nat} {p : List Mon} (hn : n ≤ 3) (hp : partB (n : Int) p = true) {k : Key} {x : Int} (hk : polF p k = some x) : isN x ∧ KOk n k := by
  obtain ⟨m, hm, he⟩ := List.mem_map.1 ((polF_some (keys_nd (by omega) hp)).1 hk)
  simp only [keyM, Prod.mk.injEq] at he
  obtain ⟨rfl, rfl⟩ := he
  have := (partB_mem hp hm).vok
  exact ⟨this.num, this.kok hn⟩
set_option maxRecDepth 100000 in
theorem JacobianAt_c (z : Int) (f : List (List Mon)) (y : List Int) (hs : Small f) (hy : y.length ≤ 9223372036854775807) :
    Con Try.prog 53 [.agg [.int z, .sl f.length (prt f)], .sl y.length (avs y)] (jcR z f y) := by
  have cK := checkVectors_c z f [y] hs (by simp) (by simpa using hy)
  have e1 : mat [y] = [.sl y.length (avs y)] := rfl
  have e2 : ([y] : List (List Int)).length = 1 := rfl
  rw [e1, e2] at cK
  unfold jcR jcX evE
  have hv : ([y] : List (List Int)).any (fun y => !vecB z y) = !vecB z y := by simp
  unfold chk at cK
  rw [hv] at cK
  have hvb : (decide ((y.length : Int) = z) && numsB y) = vecB z y := rfl
  rw [hvb]
  cases hT : fieldB z f with
  | false =>
    rw [hT] at cK
    refine Con.n1 _ ?_
    refine con_of_vc Try.mixed ⟨12, [], [], []⟩ Try.func53 (by decide) rfl (by simp) (by decide) (by simp [freshOK, freshL, go_sem]) ?_
    rw [Try.ntmps53]
    simp [go_sem]
    refine CallVC.of (cK) (by decide) ?_
    simp [go_sem]
  | true =>
    rw [hT] at cK
    cases hn : vecB z y with
    | true =>
      rw [hn] at cK
      simp at cK
      have hn2 : (y.length : Int) = z ∧ numsB y = true := by simpa [vecB] using hn
      have hF := fieldB_iff.1 hT
      have hN := numsB_N.1 hn2.2
      have fl := hs.1
      have z3 := hF.hi
      simp only [and_self, if_true, jacL_len]
      refine con_of_vc Try.mixed ⟨12, [21], [], []⟩ Try.func53 (by decide) rfl (by simp) (by decide) (by simp [freshOK, freshL, go_sem]) ?_
      rw [Try.ntmps53]
      simp [go_sem]
      refine CallVC.of (cK) (by decide) ?_
      simp [go_sem]
      refine CallVC.of (polynomials_c z f hF hs) (by decide) ?_
      simp [go_sem]
      refine loop_inv (7 :: 9 :: 10 :: 11 :: List.range' 23 24) (fun i : Nat => [(7, .own 38 i (omat (jacL y.length y (f.take i)))), (23, .int i)]) (fun i => i ≤ f.length) (fun i => f.length - i) 0 (by simp) (by simp [go_sem, jacL, omat_nil]) (by simp [go_sem]) ?_
      intro i hi
      simp [go_sem]
      refine ⟨fun h => ?_, fun h => ?_⟩ <;> simp at h
      · have hif := h
        have hx : f[i]?.getD [] ∈ f := by simp [h]
        have hv := jacL_take (n := y.length) (y := y) h
        simp [go_sem, fpols_drop hif]
        refine ⟨⟨hif, by rintro rfl; simp at hif⟩, ?_⟩
        refine loop_inv (10 :: 11 :: List.range' 30 12) (fun k : Nat => [(10, .own 2 k (avs (jacR k y (f[i]?.getD [])))), (30, .int k)]) (fun k => k ≤ y.length) (fun k => y.length - k) 0 (by simp) (by simp [go_sem, jacR]) (by simp [go_sem]) ?_
        intro k hk
        simp [go_sem]
        refine ⟨fun h => ?_, fun h => ?_⟩ <;> simp at h
        · have hkl := h
          have hpp : partB (y.length : Int) (f[i]?.getD []) = true := by rw [hn2.1]; exact hF.part _ hx
          have hj := jacR_succ k y (f[i]?.getD [])
          have hq : ∀ kk x, polF (f[i]?.getD []) kk = some x → isN x ∧ KOk y.length kk := fun kk x hkx => polF_kok (by omega) hpp hkx
          have cD := derivative_c (n := y.length) (polF (f[i]?.getD [])) k hkl (by omega) hq
          have cV := value_c2 (derM k (polF (f[i]?.getD []))) y hN (by omega) (derM_ok hkl (by omega) hq)
          rw [← jac_eq (n := y.length) (by omega) hkl rfl hpp] at cV
          simp [go_sem]
          refine CallVC.of (cD) (by decide) ?_
          simp [go_sem]
          refine CallVC.of (cV) (by decide) ?_
          simp [go_sem]
          exact ⟨by omega, by omega, k + 1, by omega, by omega, Off_reset _ _ _ (by simp), by rw [hj]; simp [avs_snoc], by omega⟩
        · have e : k = y.length := by omega
          subst e
          simp [go_sem]
          exact ⟨by omega, by omega, i + 1, by omega, by omega, (Off.reset (by intro x hx; simp at hx ⊢; omega) (by simp) (by simp [go_sem, Off_reset])), by rw [hv, omat_app, omat_one]; simp, by omega⟩
      · simp [go_sem]
        have e : i = f.length := by omega
        subst e; simp
    | false =>
      rw [hn] at cK
      simp at cK
      refine Con.n1 _ ?_
      refine con_of_vc Try.mixed ⟨12, [], [], []⟩ Try.func53 (by decide) rfl (by simp) (by decide) (by simp [freshOK, freshL, go_sem]) ?_
      rw [Try.ntmps53]
      simp [go_sem]
      refine CallVC.of (cK) (by decide) ?_
      simp [go_sem]
end Go.Proofs.Ytjpeakcapddimaa

/- What the statements' walks share: sizes. -/
namespace Go.Proofs.Ytjpeakcapddimaa
open Go.Abs
set_option linter.unusedVariables false
theorem small_of {f : List (List Mon)} (h : (cF f : Int) ≤ 1048576) : Small f := by
  unfold cF at h
  refine ⟨by omega, fun p hp => ?_⟩
  have h1 : p.length + sumC cM p ≤ sumC cP f := sumC_mem cP hp
  refine ⟨by omega, fun q hq => ?_⟩
  have h2 : q.2.length ≤ sumC cM p := sumC_mem cM hq
  omega
theorem sumL_bound {A : List (List Int)} {n : Nat} (h : ∀ r ∈ A, r.length ≤ n) : sumL A ≤ A.length * n := by
  induction A with
  | nil => simp [sumL]
  | cons r A ih =>
    have h1 := h r (by simp)
    have h2 := ih (fun q hq => h q (by simp [hq]))
    simp only [sumL, List.length_cons, Nat.add_mul, Nat.one_mul]; omega
theorem szT_hi {A : List (List Int)} {B : List Int} {left : Int} (h0 : 0 ≤ left) : szT A B left ≤ left := by
  unfold szT
  split
  · omega
  · rename_i h
    have := (szM_ok h0 (by omega : 0 ≤ szM left A)).2.1
    have := szR_le (left := szM left A) (n := (B.length : Int)) (by omega) (by omega)
    omega
end Go.Proofs.Ytjpeakcapddimaa

/- Contracts: sums and multiples of rows, copies, explicit tableaus, the codes of steps. -/
namespace Go.Proofs.Ytjpeakcapddimaa
open Go.Abs
set_option linter.unusedVariables false
set_option linter.unusedSimpArgs false
set_option maxHeartbeats 4000000
def plusS (a b : List Int) (k : Int) : List Int := tb (fun i => (a[i]?.getD 0 + k % 10007 * b[i]?.getD 0) % 10007) a.length
@[simp] theorem plusS_len (a b : List Int) (k : Int) : (plusS a b k).length = a.length := by simp [plusS]
theorem plusS_N (a b : List Int) (k : Int) : Ns (plusS a b k) := tb_N fun i _ => isN_mod _
def scalS (a : List Int) (k : Int) : List Int := tb (fun i => a[i]?.getD 0 * (k % 10007) % 10007) a.length
@[simp] theorem scalS_len (a : List Int) (k : Int) : (scalS a k).length = a.length := by simp [scalS]
theorem scalS_N (a : List Int) (k : Int) : Ns (scalS a k) := tb_N fun i _ => isN_mod _
theorem plus_c (a b : List Int) (k : Int) (ha : Ns a) (hb : Ns b) (hk : fits k) (hl : a.length ≤ 1048576) (hab : a.length ≤ b.length) :
    Con Try.prog 163 [.sl a.length (avs a), .sl b.length (avs b), .int k] (.own 2 a.length (avs (plusS a b k))) := by
  refine con_of_vc Try.mixed ⟨10, [], [], []⟩ Try.func163 (by decide) rfl (by simp) (by decide) (by simp [freshOK, freshL, go_sem]) ?_
  rw [Try.ntmps163]
  simp [go_sem]
  refine loop_inv (7 :: 8 :: 9 :: List.range' 13 19) (fun i : Nat => [(7, .own 2 i (avs (tb (fun i => (a[i]?.getD 0 + k % 10007 * b[i]?.getD 0) % 10007) i))), (13, .int i)]) (fun i => i ≤ a.length) (fun i => a.length - i) 0 (by simp) (by simp [go_sem]) (by simp [go_sem]) ?_
  intro i hi
  simp [go_sem]
  refine ⟨fun h => ?_, fun h => ?_⟩ <;> simp at h
  · have h2 : i < b.length := by omega
    have m1 := mul_bound (isN_mod k) (hb.get i)
    have m2 := ha.get i
    have f1 : fits (k % 10007 * b[i]?.getD 0) := ⟨by omega, by omega⟩
    have f2 : fits (a[i]?.getD 0 + k % 10007 * b[i]?.getD 0) := by obtain ⟨x0, x1⟩ := m2; exact ⟨by omega, by omega⟩
    simp [go_sem, avs_drop h, avs_drop h2]
    refine ⟨⟨h, by rintro rfl; simp at h⟩, by kernel_rfl, ?_⟩
    refine CallD.of (num_c _ hk.1 hk.2) (by simp [roots, rootsL]) (by decide) ?_
    simp [go_sem]
    simp [go_sem, avs_drop h, avs_drop h2]
    refine ⟨⟨h2, by rintro rfl; simp at h2⟩, f1, f2, ?_⟩
    refine CallD.of (num_c _ f2.1 f2.2) (by simp [roots, rootsL]) (by decide) ?_
    simp [go_sem]
    refine ⟨by omega, ?_⟩
    refine ⟨by kernel_rfl, ?_⟩
    simp [go_sem]
    exact ⟨by omega, i + 1, by omega, by omega, Off_reset _ _ _ (by simp), by simp [tb_succ, avs_snoc], by omega⟩
  · have e : i = a.length := by omega
    subst e
    simp [go_sem]
    rfl
theorem scaled_c (a : List Int) (k : Int) (ha : Ns a) (hk : fits k) (hl : a.length ≤ 1048576) :
    Con Try.prog 112 [.sl a.length (avs a), .int k] (.own 2 a.length (avs (scalS a k))) := by
  refine con_of_vc Try.mixed ⟨8, [], [], []⟩ Try.func112 (by decide) rfl (by simp) (by decide) (by simp [freshOK, freshL, go_sem]) ?_
  rw [Try.ntmps112]
  simp [go_sem]
  refine loop_inv (5 :: 7 :: List.range' 11 13) (fun i : Nat => [(5, .own 2 i (avs (tb (fun i => a[i]?.getD 0 * (k % 10007) % 10007) i))), (11, .int i)]) (fun i => i ≤ a.length) (fun i => a.length - i) 0 (by simp) (by simp [go_sem]) (by simp [go_sem]) ?_
  intro i hi
  simp [go_sem]
  refine ⟨fun h => ?_, fun h => ?_⟩ <;> simp at h
  · have f1 := mul_fits (ha.get i) (isN_mod k)
    simp [go_sem, avs_drop h]
    refine ⟨⟨h, by rintro rfl; simp at h⟩, ?_⟩
    refine CallVC.of (num_c _ hk.1 hk.2) (by decide) ?_
    simp [go_sem]
    refine ⟨f1, ?_⟩
    refine CallVC.of (num_c _ f1.1 f1.2) (by decide) ?_
    simp [go_sem]
    exact ⟨by omega, by omega, i + 1, by omega, by omega, Off_reset _ _ _ (by simp), by simp [tb_succ, avs_snoc], by omega⟩
  · have e : i = a.length := by omega
    subst e
    simp [go_sem]
    rfl
theorem Clone_c (xs : List Int) (hl : xs.length ≤ 1048576) : Con Try.prog 199 [.sl xs.length (avs xs)] (.own 2 xs.length (avs xs)) := by
  refine con_of_vcN Try.mixed ⟨3, [], [], []⟩ Try.func199 (by decide) rfl (by simp) (by decide) (by simp [freshOK, freshL, go_sem]) ?_
  rw [Try.ntmps199]
  simp [go_sem]
  exact ⟨by omega, by omega⟩
/-- That rows have zeros alone from a distance on. -/
def lowB (A : List (List Int)) (d : Nat) : Bool := (List.range A.length).all fun i => (List.range (A[i]?.getD []).length).all fun k => decide (k < i + d) || decide ((A[i]?.getD [])[k]?.getD 0 = 0)
theorem lowB_no {A : List (List Int)} {d i k : Nat} (hi : i < A.length) (hk : k < (A[i]?.getD []).length) (h1 : i + d ≤ k) (h2 : (A[i]?.getD [])[k]?.getD 0 ≠ 0) : lowB A d = false := by
  unfold lowB
  rw [List.all_eq_false]
  refine ⟨i, by simpa using hi, ?_⟩
  rw [Bool.not_eq_true, List.all_eq_false]
  exact ⟨k, by simpa using hk, by simp [h2]; omega⟩
theorem lowB_yes {A : List (List Int)} {d : Nat} (h : ∀ i, i < A.length → ∀ k, k < (A[i]?.getD []).length → i + d ≤ k → (A[i]?.getD [])[k]?.getD 0 = 0) : lowB A d = true := by
  unfold lowB
  rw [List.all_eq_true]
  intro i hi
  rw [List.all_eq_true]
  intro k hk
  by_cases h1 : k < i + d
  · simp [h1]
  · simp [h i (by simpa using hi) k (by simpa using hk) (by omega)]
end Go.Proofs.Ytjpeakcapddimaa

/- Contracts: sums of maps, derivatives along vectors. -/
namespace Go.Proofs.Ytjpeakcapddimaa
open Go.Abs
set_option linter.unusedVariables false
set_option linter.unusedSimpArgs false
set_option maxHeartbeats 1000000
def MapN (c : Key → Option Int) : Prop := ∀ k x, c k = some x → isN x
set_option maxRecDepth 100000 in
theorem add_c (o q : Key → Option Int) (x : Int) (ho : MapN o) (hq : MapN q) (hx : fits x) :
    MCon Try.prog 80 [.mp o, .fmp q, .int x] (.tup []) [.mp (addM o q x), .any, .any] := by
  refine mcon_of_vc Try.mixed ⟨8, [], [], []⟩ [] [0] Try.func80 (by decide) rfl rfl (by simp) (by simp) (by simp) (by decide) ?_
  rw [Try.ntmps80]
  simp [go_sem]
  intro es hes
  have hval : ∀ e ∈ es, q e.1 = some e.2 := fun e he => hes.val e he
  refine loop_inv (0 :: 6 :: 7 :: List.range' 9 17) (fun y : Option (Key × Int) × List (Key × Int) => [(0, .mp (remA o q x y.2)), (9, .it y.1 y.2)]) (fun y => y.2.Pairwise (fun a b => a.1 ≠ b.1) ∧ ∀ e ∈ y.2, q e.1 = some e.2) (fun y => y.2.length) (none, es) ⟨hes.nd, hval⟩ (by simp [go_sem, remA_start hes]) (by simp [go_sem]) ?_
  rintro ⟨l, rem⟩ ⟨hnd, hrem⟩
  simp only at hnd hrem
  simp [go_sem, keyAV]
  refine ⟨fun hr => ?_, fun l1 k0 k1 k2 b l2 hr => ?_⟩
  · subst hr
    exact remA_end o q x
  · subst hr
    have hcx := hrem ((k0, k1, k2), b) (by simp)
    have hb : isN b := hq _ _ hcx
    have hnd2 : (l1 ++ l2).Pairwise (fun a b => a.1 ≠ b.1) := hnd.sublist (List.Sublist.append (List.Sublist.refl _) (List.sublist_cons_self _ _))
    have hrem2 : ∀ a b c' y, ((a, b, c'), y) ∈ l1 ++ l2 → q (a, b, c') = some y := fun a b c' y hm => hrem ((a, b, c'), y) (by
      rcases List.mem_append.1 hm with hm | hm <;> simp [hm])
    have hz : remA o q x (l1 ++ ((k0, k1, k2), b) :: l2) (k0, k1, k2) = o (k0, k1, k2) := remA_at
    have hs : mset (remA o q x (l1 ++ ((k0, k1, k2), b) :: l2)) (k0, k1, k2) (((o (k0, k1, k2)).getD 0 + x % 10007 * b) % 10007) = remA o q x (l1 ++ l2) := remA_step hnd hcx
    have ho0 : isN ((o (k0, k1, k2)).getD 0) := by
      cases hh : o (k0, k1, k2) with
      | none => simp [isN]
      | some v => exact ho _ _ hh
    simp [go_sem, hz]
    refine ⟨by kernel_rfl, ?_⟩
    refine CallD.of (num_c _ hx.1 hx.2) (by simp [roots, rootsL]) (by decide) ?_
    simp [go_sem]
    generalize (o (k0, k1, k2)).getD 0 = w at *
    have hm := mul_bound (isN_mod x) hb
    have hf1 : fits (x % 10007 * b) := ⟨by omega, by omega⟩
    have hf2 : fits (w + x % 10007 * b) := by obtain ⟨w0, w1⟩ := ho0; exact ⟨by omega, by omega⟩
    refine ⟨hf1, hf2, ?_⟩
    refine CallD.of (num_c _ hf2.1 hf2.2) (by simp [roots, rootsL]) (by decide) ?_
    simp [go_sem]
    refine ⟨by kernel_rfl, ?_⟩
    simp [go_sem]
    exact ⟨_, _, ⟨hnd2, hrem2⟩, by simp; try omega, Off_reset _ _ _ (by simp), hs, rfl, rfl⟩
theorem derM_N {i : Nat} {c : Key → Option Int} : MapN (derM i c) := by
  intro k x hx
  unfold derM at hx
  split at hx
  · split at hx
    · injection hx with hx; rw [← hx]; exact isN_mod _
    · simp at hx
  · simp at hx
theorem addM_N {o q : Key → Option Int} {x : Int} (ho : MapN o) : MapN (addM o q x) := by
  intro k a ha
  unfold addM at ha
  split at ha
  · injection ha with ha; rw [← ha]; exact isN_mod _
  · exact ho k a ha
theorem aloM_N (v : List Int) (c : Key → Option Int) : ∀ n, MapN (aloM v c n)
  | 0 => by intro k a ha; simp [aloM, mzero] at ha
  | n + 1 => addM_N (aloM_N v c n)
theorem addM_kok {n : Nat} {o q : Key → Option Int} {x : Int} (ho : ∀ k a, o k = some a → isN a ∧ KOk n k) (hq : ∀ k a, q k = some a → isN a ∧ KOk n k) : ∀ k a, addM o q x k = some a → isN a ∧ KOk n k := by
  intro k a ha
  unfold addM at ha
  split at ha
  · rename_i b hb
    injection ha with ha; rw [← ha]; exact ⟨isN_mod _, (hq k b hb).2⟩
  · exact ho k a ha
theorem aloM_kok {n : Nat} {v : List Int} {c : Key → Option Int} (hn : n ≤ 3) (hc : ∀ k x, c k = some x → isN x ∧ KOk n k) : ∀ m, m ≤ n → ∀ k x, aloM v c m k = some x → isN x ∧ KOk n k
  | 0, _ => by intro k x hx; simp [aloM, mzero] at hx
  | m + 1, hm => addM_kok (aloM_kok hn hc m (by omega)) (derM_ok (by omega) hn hc)
set_option maxRecDepth 100000 in
theorem along_c {n : Nat} (c : Key → Option Int) (v : List Int) (hv : Ns v) (hl : v.length = n) (hn : n ≤ 3) (hc : ∀ k x, c k = some x → isN x ∧ KOk n k) :
    Con Try.prog 211 [.fmp c, .sl v.length (avs v)] (.mp (aloM v c n)) := by
  refine con_of_vc Try.mixed ⟨8, [19], [80], []⟩ Try.func211 (by decide) rfl (by simp) (by decide) (by simp [freshOK, freshL, go_sem]) ?_
  rw [Try.ntmps211]
  simp [go_sem]
  refine loop_inv (5 :: 6 :: 7 :: List.range' 11 12) (fun i : Nat => [(5, .mp (aloM v c i)), (11, .int i)]) (fun i => i ≤ n) (fun i => n - i) 0 (by simp) (by simp [go_sem, aloM]) (by simp [go_sem]) ?_
  intro i hi
  simp [go_sem]
  refine ⟨fun h => ?_, fun h => ?_⟩ <;> simp at h
  · have hy : yat v i = v[i]?.getD 0 := rfl
    have cD := derivative_c (n := n) c i (by omega) hn hc
    have cA := add_c (aloM v c i) (derM i c) (v[i]?.getD 0) (aloM_N v c i) derM_N (by have := hv.get i; exact ⟨by obtain ⟨a, b⟩ := this; omega, by obtain ⟨a, b⟩ := this; omega⟩)
    simp [go_sem, avs_drop h]
    refine ⟨⟨h, by rintro rfl; simp at h⟩, ?_⟩
    refine CallVC.of (cD) (by decide) ?_
    simp [go_sem]
    refine ⟨_, _, cA, ?_⟩
    simp [go_sem]
    exact ⟨by omega, i + 1, by omega, by omega, Off_reset _ _ _ (by simp), rfl, by omega⟩
  · simp [go_sem]
    have e : i = n := by omega
    subst e; rfl
end Go.Proofs.Ytjpeakcapddimaa

/- Contracts: products and sums of polynomials, derivatives along fields, the reference's. -/
namespace Go.Proofs.Ytjpeakcapddimaa
open Go.Abs
set_option linter.unusedVariables false
set_option linter.unusedSimpArgs false
set_option maxHeartbeats 1000000
theorem memD {α : Type} {l : List α} {i : Nat} (d : α) (h : i < l.length) : l[i]?.getD d ∈ l := by simp [h]
theorem mons_drop1 {p : List Mon} {k : Nat} (h : k < p.length) : (mons p).drop (k * 2 + 1) = .sl (p[k]?.getD (0, [])).2.length (avs (p[k]?.getD (0, [])).2) :: mons (p.drop (k + 1)) := by
  rw [← List.drop_drop, mons_drop h]; rfl
/-- Two rows of exponents while they are added up. -/
def adE (a b : List Int) (j : Nat) : List Int := (List.range a.length).map fun t => if t < j then a[t]?.getD 0 + b[t]?.getD 0 else a[t]?.getD 0
@[simp] theorem adE_len (a b : List Int) (j : Nat) : (adE a b j).length = a.length := by simp [adE]
theorem adE_zero (a b : List Int) : adE a b 0 = a := by
  refine List.ext_getElem (by simp) fun i h1 h2 => ?_
  simp [adE, h2]
theorem adE_all {a b : List Int} (h : b.length = a.length) : adE a b a.length = addE a b := by
  refine List.ext_getElem (by simp [addE, h]) fun i h1 h2 => ?_
  simp at h1
  simp [adE, addE, h1, show i < b.length by omega]
theorem adE_get {a b : List Int} {j : Nat} (h : j < a.length) : (adE a b j)[j]?.getD 0 = a[j]?.getD 0 := by simp [adE, h]
theorem adE_set {a b : List Int} {j : Nat} (h : j < a.length) : (adE a b j).set j (a[j]?.getD 0 + b[j]?.getD 0) = adE a b (j + 1) := by
  refine List.ext_getElem (by simp) fun i h1 h2 => ?_
  simp at h1
  rw [List.getElem_set]
  by_cases e : j = i
  · subst e; simp [adE]
  · simp only [e, if_false, adE, List.getElem_map, List.getElem_range]
    by_cases h3 : i < j
    · simp [h3, show i < j + 1 by omega]
    · simp [h3, show ¬ i < j + 1 by omega]
theorem WOk.prod {n : Nat} {B C : Int} {a b : Mon} (ha : WOk n B a) (hb : WOk n C b) : WOk n (B + C) (a.1 * b.1 % 10007, addE a.2 b.2) := by
  have h1 := ha.len
  have h2 := hb.len
  refine ⟨isN_mod _, by simp [addE]; omega, fun x hx => ?_⟩
  obtain ⟨i, hi, rfl⟩ := List.getElem_of_mem hx
  unfold addE at hi ⊢
  simp at hi ⊢
  have p1 := ha.pw _ (List.getElem_mem (show i < a.2.length by omega))
  have p2 := hb.pw _ (List.getElem_mem (show i < b.2.length by omega))
  omega
theorem prodRow_wok {n : Nat} {B C : Int} {a : Mon} (ha : WOk n B a) : ∀ (q acc : List Mon), (∀ m ∈ q, WOk n C m) → (∀ m ∈ acc, WOk n (B + C) m) → ∀ m ∈ prodRow a acc q, WOk n (B + C) m
  | [], _, _, h => h
  | b :: q, acc, hq, h => prodRow_wok ha q _ (fun m hm => hq m (by simp [hm])) (putGo_wok (ha.prod (hq b (by simp))) acc _ h)
theorem prodGo_wok {n : Nat} {B C : Int} {q : List Mon} (hq : ∀ m ∈ q, WOk n C m) : ∀ (p acc : List Mon), (∀ m ∈ p, WOk n B m) → (∀ m ∈ acc, WOk n (B + C) m) → ∀ m ∈ prodGo acc q p, WOk n (B + C) m
  | [], _, _, h => h
  | a :: p, acc, hp, h => prodGo_wok hq p _ (fun m hm => hp m (by simp [hm])) (prodRow_wok (hp a (by simp)) q acc hq h)
theorem prodRow_len (a : Mon) : ∀ (q acc : List Mon), (prodRow a acc q).length ≤ acc.length + q.length
  | [], _ => by simp [prodRow]
  | b :: q, acc => by
    rw [prodRow]
    have h1 := prodRow_len a q (putL acc (a.1 * b.1 % 10007) (addE a.2 b.2))
    have h2 := putL_len acc (a.1 * b.1 % 10007) (addE a.2 b.2)
    simp only [List.length_cons]; omega
theorem prodGo_len (q : List Mon) : ∀ (p acc : List Mon), (prodGo acc q p).length ≤ acc.length + p.length * q.length
  | [], _ => by simp [prodGo]
  | a :: p, acc => by
    rw [prodGo]
    have h1 := prodGo_len q p (prodRow a acc q)
    have h2 := prodRow_len a q acc
    simp only [List.length_cons, Nat.add_mul, Nat.one_mul]; omega
set_option maxRecDepth 100000 in
theorem l13Product_c {n : Nat} {B C : Int} (p q : List Mon) (hn : n ≤ 1000) (hB : 0 ≤ B) (hB2 : B ≤ 1000000) (hC : 0 ≤ C) (hC2 : C ≤ 1000000) (hp : ∀ m ∈ p, WOk n B m) (hq : ∀ m ∈ q, WOk n C m) (hpl : p.length ≤ 1000000000000) (hql : q.length ≤ 1000000000000) (hl : p.length * q.length ≤ 1000000000000) :
    Con Try.prog 177 [.sl p.length (mons p), .sl q.length (mons q)] (.own 111 (prodL p q).length (omons (prodL p q))) := by
  refine con_of_vc Try.mixed ⟨10, [], [], []⟩ Try.func177 (by decide) rfl (by simp) (by decide) (by simp [freshOK, freshL, go_sem]) ?_
  rw [Try.ntmps177]
  simp [go_sem]
  refine loop_inv (List.range' 5 5 ++ List.range' 11 54) (fun i : Nat => [(5, .own 111 (prodGo [] q (p.take i)).length (omons (prodGo [] q (p.take i)))), (6, .int i)]) (fun i => i ≤ p.length) (fun i => p.length - i) 0 (by simp) (by simp [go_sem, prodGo]) (by simp [go_sem]) ?_
  intro i hi
  simp [go_sem]
  refine ⟨fun h => ?_, fun h => ?_⟩ <;> simp at h
  · have hif := h
    have ha := hp _ (memD (0, []) hif)
    have hd : prodGo [] q (p.take (i + 1)) = prodRow (p[i]?.getD (0, [])) (prodGo [] q (p.take i)) q := by
      rw [List.take_add_one, prodGo_app]; simp [hif, prodGo]
    have hw : ∀ m ∈ prodGo [] q (p.take i), WOk n (B + C) m := prodGo_wok hq _ [] (fun m hm => hp m (List.mem_of_mem_take hm)) (by simp)
    have hdl := prodGo_len q (p.take i) []
    have hil : (i + 1) * q.length ≤ p.length * q.length := Nat.mul_le_mul_right _ hif
    rw [Nat.add_mul, Nat.one_mul] at hil
    have hml : (p.take i).length * q.length ≤ i * q.length := Nat.mul_le_mul_right _ (by simp; omega)
    simp only [List.length_nil, Nat.zero_add] at hdl
    generalize prodGo [] q (p.take i) = acc at *
    simp [go_sem]
    generalize hM : p[i]?.getD (0, []) = a at *
    refine loop_inv (5 :: 7 :: 8 :: 9 :: List.range' 17 48) (fun k : Nat => [(5, .own 111 (prodRow a acc (q.take k)).length (omons (prodRow a acc (q.take k)))), (7, .int k)]) (fun k => k ≤ q.length) (fun k => q.length - k) 0 (by simp) (by simp [go_sem, prodRow]) (by simp [go_sem]) ?_
    intro k hk
    simp [go_sem]
    refine ⟨fun h => ?_, fun h => ?_⟩ <;> simp at h
    · have hkf := h
      have hb := hq _ (memD (0, []) hkf)
      have hd2 : prodRow a acc (q.take (k + 1)) = putL (prodRow a acc (q.take k)) (a.1 * (q[k]?.getD (0, [])).1 % 10007) (addE a.2 (q[k]?.getD (0, [])).2) := by
        rw [List.take_add_one, prodRow_app]; simp [hkf, prodRow]
      have hw2 : ∀ m ∈ prodRow a acc (q.take k), WOk n (B + C) m := prodRow_wok ha _ _ (fun m hm => hq m (List.mem_of_mem_take hm)) hw
      have hdl2 := prodRow_len a (q.take k) acc
      have hkl : (q.take k).length ≤ k := by simp; omega
      generalize prodRow a acc (q.take k) = acc2 at *
      have al := ha.len
      have bl := hb.len
      have cO := l01Own_c a.2 (by omega)
      have wp := ha.prod hb
      simp [go_sem, mons_drop hif, hM]
      generalize hM2 : q[k]?.getD (0, []) = b at *
      refine ⟨⟨hif, by rintro rfl; simp at hif⟩, ?_⟩
      refine CallVC.of (cO) (by decide) ?_
      simp [go_sem]
      refine loop_inv (8 :: 9 :: List.range' 29 22) (fun j : Nat => [(8, .own 2 a.2.length (avs (adE a.2 b.2 j))), (9, .int j)]) (fun j => j ≤ a.2.length) (fun j => a.2.length - j) 0 (by simp) (by simp [go_sem, adE_zero]) (by simp [go_sem]) ?_
      intro j hj
      simp [go_sem]
      refine ⟨fun h => ?_, fun h => ?_⟩ <;> simp at h
      · have hja := h
        have hjb : j < b.2.length := by omega
        have hjs : j < (adE a.2 b.2 j).length := by simpa using hja
        have g1 := ha.get hB j
        have g2 := hb.get hC j
        have hset := adE_set (b := b.2) hja
        have hget := adE_get (b := b.2) hja
        simp [go_sem, mons_drop hkf, hM2, avs_drop hjb, avs_at hjs, hget]
        refine ⟨by kernel_rfl, hja, ⟨hkf, by rintro rfl; simp at hkf⟩, ⟨hjb, by intro e; simp [e] at hjb⟩, ⟨by omega, by omega⟩, hja, ?_⟩
        refine ⟨by kernel_rfl, ?_⟩
        simp [go_sem]
        exact ⟨by omega, j + 1, by omega, by omega, Off_reset _ _ _ (by simp), by rw [avs_set, hset], by omega⟩
      · have e : j = a.2.length := by omega
        subst e
        have hall := adE_all (a := a.2) (b := b.2) (by omega)
        have m1 := mul_fits ha.num hb.num
        have cP := l13Put_c acc2 (a.1 * b.1 % 10007) (addE a.2 b.2) (isN_mod _) (fun q hq => ⟨(hw2 q hq).num, by have := (hw2 q hq).len; omega⟩) (by omega) (by have := wp.len; simp at this; omega)
        have el : (addE a.2 b.2).length = a.2.length := by have := wp.len; simp at this; omega
        rw [el, ← hd2] at cP
        rw [hall]
        simp [go_sem, mons_drop hif, hM, mons_drop hkf, hM2]
        refine ⟨by kernel_rfl, ⟨hif, by rintro rfl; simp at hif⟩, ⟨hkf, by rintro rfl; simp at hkf⟩, ?_⟩
        refine CallD.of (l01Mul_c _ _ m1) (by simp [roots, rootsL]) (by decide) ?_
        simp [go_sem]
        refine CallD.of (cP) (by simp [roots, rootsL]) (by decide) ?_
        simp [go_sem]
        refine ⟨by kernel_rfl, ?_⟩
        simp [go_sem]
        exact ⟨by omega, k + 1, by omega, by omega, (Off.reset (by intro x hx; simp at hx ⊢; omega) (by simp) (by simp [go_sem, Off_reset])), ⟨rfl, rfl⟩, by omega⟩
    · have e : k = q.length := by omega
      subst e
      rw [List.take_length, ← hd]
      simp [go_sem]
      exact ⟨by omega, i + 1, by omega, by omega, (Off.reset (by intro x hx; simp at hx ⊢; omega) (by simp) (by simp [go_sem, Off_reset])), ⟨rfl, rfl⟩, by omega⟩
  · simp [go_sem]
    rw [List.take_of_length_le h]
    simp [prodL]
set_option maxRecDepth 100000 in
theorem l13Copy_c (p : List Mon) (hp : ∀ m ∈ p, m.2.length ≤ 1048576) (hl : p.length ≤ 1000000000000) :
    Con Try.prog 167 [.sl p.length (mons p)] (.own 111 p.length (omons p)) := by
  refine con_of_vc Try.mixed ⟨5, [], [], []⟩ Try.func167 (by decide) rfl (by simp) (by decide) (by simp [freshOK, freshL, go_sem]) ?_
  rw [Try.ntmps167]
  simp [go_sem]
  refine loop_inv (3 :: 4 :: List.range' 6 21) (fun i : Nat => [(3, .own 111 i (omons (p.take i))), (4, .int i)]) (fun i => i ≤ p.length) (fun i => p.length - i) 0 (by simp) (by simp [go_sem, omons]) (by simp [go_sem]) ?_
  intro i hi
  simp [go_sem]
  refine ⟨fun h => ?_, fun h => ?_⟩ <;> simp at h
  · have hif := h
    have hx := hp _ (memD (0, []) hif)
    have ht : omons (p.take (i + 1)) = omons (p.take i) ++ [.int (p[i]?.getD (0, [])).1, .own 2 (p[i]?.getD (0, [])).2.length (avs (p[i]?.getD (0, [])).2)] := by
      rw [List.take_add_one, omons_app]; simp [hif, omons]
    simp [go_sem, mons_drop hif]
    generalize hM : p[i]?.getD (0, []) = a at *
    refine ⟨by kernel_rfl, ⟨hif, by rintro rfl; simp at hif⟩, ?_⟩
    refine CallD.of (l01Own_c a.2 (by omega)) (by simp [roots, rootsL]) (by decide) ?_
    simp [go_sem]
    refine ⟨⟨by omega, by omega⟩, ?_⟩
    refine ⟨by kernel_rfl, ?_⟩
    simp [go_sem]
    exact ⟨by omega, i + 1, by omega, by omega, Off_reset _ _ _ (by simp), by rw [ht]; exact ⟨rfl, rfl⟩, by omega⟩
  · have e : i = p.length := by omega
    subst e
    simp [go_sem]
theorem plusL_wok {n : Nat} {B k : Int} : ∀ (q p : List Mon), (∀ m ∈ q, WOk n B m) → (∀ m ∈ p, WOk n B m) → ∀ m ∈ plusL p k q, WOk n B m
  | [], p, _, hp => hp
  | m :: q, p, hq, hp => plusL_wok q _ (fun a ha => hq a (by simp [ha])) (putGo_wok ⟨isN_mod _, (hq m (by simp)).len, (hq m (by simp)).pw⟩ p _ hp)
theorem plusL_len (k : Int) : ∀ (q p : List Mon), (plusL p k q).length ≤ p.length + q.length
  | [], _ => by simp [plusL]
  | m :: q, p => by
    rw [plusL]
    have h1 := plusL_len k q (putL p (k * m.1 % 10007) m.2)
    have h2 := putL_len p (k * m.1 % 10007) m.2
    simp only [List.length_cons]; omega
set_option maxRecDepth 100000 in
theorem l13Plus_c {n : Nat} {B k : Int} (p q : List Mon) (hn : n ≤ 1000) (hk : isN k) (hp : ∀ m ∈ p, WOk n B m) (hq : ∀ m ∈ q, WOk n B m) (hl : p.length + q.length ≤ 1000000000000) :
    Con Try.prog 76 [.sl p.length (mons p), .sl q.length (mons q), .int k] (.own 111 (plusL p k q).length (omons (plusL p k q))) := by
  refine con_of_vc Try.mixed ⟨9, [29], [], []⟩ Try.func76 (by decide) rfl (by simp) (by decide) (by simp [freshOK, freshL, go_sem]) ?_
  rw [Try.ntmps76]
  simp [go_sem]
  refine loop_inv (7 :: 8 :: List.range' 10 20) (fun i : Nat => [(7, .sl (plusL p k (q.take i)).length (mons (plusL p k (q.take i)))), (8, .int i)]) (fun i => i ≤ q.length) (fun i => q.length - i) 0 (by simp) (by simp [go_sem, plusL]) (by simp [go_sem]) ?_
  intro i hi
  simp [go_sem]
  refine ⟨fun h => ?_, fun h => ?_⟩ <;> simp at h
  · have hif := h
    have hb := hq _ (memD (0, []) hif)
    have hd : plusL p k (q.take (i + 1)) = putL (plusL p k (q.take i)) (k * (q[i]?.getD (0, [])).1 % 10007) (q[i]?.getD (0, [])).2 := by
      rw [List.take_add_one, plusL_app]; simp [hif, plusL]
    have hw : ∀ m ∈ plusL p k (q.take i), WOk n B m := plusL_wok _ p (fun m hm => hq m (List.mem_of_mem_take hm)) hp
    have hll := plusL_len k (q.take i) p
    have hkl : (q.take i).length ≤ i := by simp; omega
    generalize plusL p k (q.take i) = acc at *
    have bl := hb.len
    have m1 := mul_fits hk hb.num
    have cP := l13Put_c acc (k * (q[i]?.getD (0, [])).1 % 10007) (q[i]?.getD (0, [])).2 (isN_mod _) (fun q hq => ⟨(hw q hq).num, by have := (hw q hq).len; omega⟩) (by omega) (by omega)
    rw [← hd] at cP
    generalize hN : plusL p k (q.take (i + 1)) = nxt at *
    simp [go_sem, mons_drop hif]
    generalize hM : q[i]?.getD (0, []) = a at *
    refine ⟨by kernel_rfl, ⟨hif, by rintro rfl; simp at hif⟩, ?_⟩
    refine CallD.of (l01Mul_c _ _ m1) (by simp [roots, rootsL]) (by decide) ?_
    simp [go_sem]
    simp [go_sem, mons_drop hif, mons_drop1 hif, hM]
    refine ⟨⟨hif, by rintro rfl; simp at hif⟩, ?_⟩
    refine CallD.of (cP) (by simp [go_sem, roots, rootsL]) (by decide) ?_
    simp [go_sem]
    refine ⟨by kernel_rfl, ?_⟩
    simp [go_sem]
    exact ⟨by omega, i + 1, by omega, by omega, Off_reset _ _ _ (by simp), by rw [hN]; exact ⟨rfl, rfl⟩, by omega⟩
  · have e : i = q.length := by omega
    subst e
    have hw : ∀ m ∈ plusL p k q, WOk n B m := plusL_wok _ p hq hp
    have hll := plusL_len k q p
    simp [go_sem]
    refine CallVC.of (l13Copy_c (plusL p k q) (fun m hm => by have := (hw m hm).len; omega) (by omega)) (by decide) ?_
    simp [go_sem]
/-- The exponents of a variable. -/
def oneE (n k : Nat) : List Int := (List.replicate n 0).set k 1
@[simp] theorem oneE_len (n k : Nat) : (oneE n k).length = n := by simp [oneE]
theorem oneE_wok {n k : Nat} : WOk n 1 (1, oneE n k) := by
  refine ⟨⟨by omega, by omega⟩, by simp, fun x hx => ?_⟩
  rcases List.mem_or_eq_of_mem_set hx with hx | rfl
  · obtain ⟨_, rfl⟩ := List.mem_replicate.1 hx
    omega
  · omega
theorem l13One_c (n k : Nat) (hn : n ≤ 1048576) (hk : k < n) : Con Try.prog 208 [.int n, .int k] (.own 2 n (avs (oneE n k))) := by
  refine con_of_vc Try.mixed ⟨6, [], [], []⟩ Try.func208 (by decide) rfl (by simp) (by decide) (by simp [freshOK, freshL, go_sem]) ?_
  rw [Try.ntmps208]
  simp [go_sem]
  refine ⟨⟨by omega, by omega⟩, hk, ?_⟩
  rw [avs_repl, avs_set]; rfl
theorem derL_wok {n i : Nat} {B : Int} (hi : i < n) {p : List Mon} (hp : ∀ m ∈ p, WOk n B m) : ∀ m ∈ derL i p, WOk n B m := derGo_wok hi p [] hp (by simp)
theorem derL_len (i : Nat) (p : List Mon) : (derL i p).length ≤ p.length := by have := derGo_len i p []; unfold derL; simpa using this
theorem prodL_wok {n : Nat} {B C : Int} {p q : List Mon} (hp : ∀ m ∈ p, WOk n B m) (hq : ∀ m ∈ q, WOk n C m) : ∀ m ∈ prodL p q, WOk n (B + C) m := prodGo_wok hq p [] hp (by simp)
theorem prodL_len (p q : List Mon) : (prodL p q).length ≤ p.length * q.length := by have := prodGo_len q p []; unfold prodL; simpa using this
theorem alongGo_wok {n : Nat} {B : Int} {p : List Mon} (hp : ∀ m ∈ p, WOk n B m) : ∀ (f : List (List Mon)) (k : Nat) (acc : List Mon), k + f.length ≤ n → (∀ F ∈ f, ∀ m ∈ F, WOk n 3 m) → (∀ m ∈ acc, WOk n (3 + B) m) → ∀ m ∈ alongGo acc p k f, WOk n (3 + B) m
  | [], _, _, _, _, h => h
  | F :: f, k, acc, hk, hf, h => by
    rw [List.length_cons] at hk
    exact alongGo_wok hp f (k + 1) _ (by omega) (fun G hG => hf G (by simp [hG])) (plusL_wok _ _ (prodL_wok (hf F (by simp)) (derL_wok (by omega) hp)) h)
theorem alongGo_len {N : Nat} {p : List Mon} : ∀ (f : List (List Mon)) (k : Nat) (acc : List Mon), (∀ F ∈ f, F.length ≤ N) → (alongGo acc p k f).length ≤ acc.length + f.length * (N * p.length)
  | [], _, acc, _ => by simp [alongGo]
  | F :: f, k, acc, hf => by
    have h1 := alongGo_len (p := p) f (k + 1) (plusL acc 1 (prodL F (derL k p))) (fun G hG => hf G (by simp [hG]))
    have h2 := plusL_len 1 (prodL F (derL k p)) acc
    have h3 := prodL_len F (derL k p)
    have h4 := Nat.mul_le_mul (hf F (by simp)) (derL_len k p)
    rw [alongGo]
    simp only [List.length_cons, Nat.add_mul, Nat.one_mul]; omega
set_option maxRecDepth 100000 in
theorem l13Along2_c {z B : Int} (f : List (List Mon)) (p : List Mon) (hf : FieldOk z f) (hs : Small f) (h20 : ∀ F ∈ f, F.length ≤ 20) (hB : 0 ≤ B) (hB2 : B ≤ 1000) (hp : ∀ m ∈ p, WOk f.length B m) (hpl : p.length ≤ 10000000000) :
    Con Try.prog 88 [.agg [.int z, .sl f.length (prt f)], .sl p.length (mons p)] (.own 111 (alongL f p).length (omons (alongL f p))) := by
  have z3 := hf.hi
  have zl := hf.len
  have fl : f.length ≤ 3 := by omega
  have hfw : ∀ F ∈ f, ∀ m ∈ F, WOk f.length 3 m := fun F hF m hm => by
    have h := partB_mem (hf.part F hF) hm
    have h1 := h.lo
    have h2 := h.hi
    have h3 := h.len
    exact ⟨⟨by omega, by omega⟩, by omega, h.pw⟩
  refine con_of_vc Try.mixed ⟨7, [], [], []⟩ Try.func88 (by decide) rfl (by simp) (by decide) (by simp [freshOK, freshL, go_sem]) ?_
  rw [Try.ntmps88]
  simp [go_sem]
  refine loop_inv (5 :: 6 :: List.range' 8 18) (fun i : Nat => [(5, .own 111 (alongGo [] p 0 (f.take i)).length (omons (alongGo [] p 0 (f.take i)))), (6, .int i)]) (fun i => i ≤ f.length) (fun i => f.length - i) 0 (by simp) (by simp [go_sem, alongGo, omons]) (by simp [go_sem]) ?_
  intro i hi
  simp [go_sem]
  refine ⟨fun h => ?_, fun h => ?_⟩ <;> simp at h
  · have hif := h
    have hx := memD [] hif
    have hF := hfw _ hx
    have hF2 := h20 _ hx
    have hd : alongGo [] p 0 (f.take (i + 1)) = plusL (alongGo [] p 0 (f.take i)) 1 (prodL (f[i]?.getD []) (derL i p)) := by
      rw [List.take_add_one, alongGo_app]; simp [hif, alongGo, Nat.min_eq_left hi]
    have hw : ∀ m ∈ alongGo [] p 0 (f.take i), WOk f.length (3 + B) m := alongGo_wok hp _ 0 [] (by simp; omega) (fun F hF => hfw F (List.mem_of_mem_take hF)) (by simp)
    have hll := alongGo_len (p := p) (N := 20) (f.take i) 0 [] (fun F hF => h20 F (List.mem_of_mem_take hF))
    have hkl : (f.take i).length ≤ 3 := by simp; omega
    have hk2 := Nat.mul_le_mul_right (20 * p.length) hkl
    simp only [List.length_nil, Nat.zero_add] at hll
    generalize alongGo [] p 0 (f.take i) = acc at *
    generalize hN : alongGo [] p 0 (f.take (i + 1)) = nxt at *
    have cD := l13Derive_c p i hif (by omega) hB (by omega) hp (by omega)
    have dw := derL_wok hif hp
    have dl := derL_len i p
    have pl := prodL_len (f[i]?.getD []) (derL i p)
    have pm := Nat.mul_le_mul hF2 dl
    have cP := l13Product_c (f[i]?.getD []) (derL i p) (by omega) (by omega) (by omega) hB (by omega) hF dw (by omega) (by omega) (by omega)
    have cA := l13Plus_c (k := 1) acc (prodL (f[i]?.getD []) (derL i p)) (by omega) ⟨by omega, by omega⟩ hw (prodL_wok hF dw) (by omega)
    rw [← hd] at cA
    generalize prodL (f[i]?.getD []) (derL i p) = Q at *
    generalize derL i p = D at *
    simp [go_sem, prt_drop hif]
    refine ⟨by kernel_rfl, ⟨hif, by rintro rfl; simp at hif⟩, ?_⟩
    refine CallD.of (cD) (by simp [roots, rootsL]) (by decide) ?_
    simp [go_sem]
    refine CallD.of (cP) (by simp [roots, rootsL]) (by decide) ?_
    simp [go_sem]
    refine CallD.of (cA) (by simp [roots, rootsL]) (by decide) ?_
    simp [go_sem]
    refine ⟨by kernel_rfl, ?_⟩
    simp [go_sem]
    exact ⟨by omega, i + 1, by omega, by omega, Off_reset _ _ _ (by simp), by rw [hN]; exact ⟨rfl, rfl⟩, by omega⟩
  · have e : i = f.length := by omega
    subst e
    simp [go_sem]
    simp [alongL]
/-- A part has at most 20 monomials: there are no more exponents of a sum up to 3. -/
def keys20 : List Key := [(0,0,0),(0,0,1),(0,0,2),(0,0,3),(0,1,0),(0,1,1),(0,1,2),(0,2,0),(0,2,1),(0,3,0),(1,0,0),(1,0,1),(1,0,2),(1,1,0),(1,1,1),(1,2,0),(2,0,0),(2,0,1),(2,1,0),(3,0,0)]
theorem pigeon {α : Type} [DecidableEq α] : ∀ (l E : List α), l.Pairwise (fun a b => a ≠ b) → (∀ x ∈ l, x ∈ E) → l.length ≤ E.length
  | [], _, _, _ => by simp
  | a :: l, E, hn, hs => by
    obtain ⟨h1, h2⟩ := List.pairwise_cons.1 hn
    have ha := hs a (by simp)
    have := pigeon l (E.erase a) h2 (fun x hx => (List.mem_erase_of_ne (Ne.symm (h1 x hx))).2 (hs x (by simp [hx])))
    rw [List.length_erase_of_mem ha] at this
    have hp := List.length_pos_of_mem ha
    simp only [List.length_cons]; omega
theorem in20 {a b c : Int} (ha : 0 ≤ a) (hb : 0 ≤ b) (hc : 0 ≤ c) (h : a + b + c ≤ 3) : ((a, b, c) : Key) ∈ keys20 := by
  have h1 : a = 0 ∨ a = 1 ∨ a = 2 ∨ a = 3 := by omega
  have h2 : b = 0 ∨ b = 1 ∨ b = 2 ∨ b = 3 := by omega
  have h3 : c = 0 ∨ c = 1 ∨ c = 2 ∨ c = 3 := by omega
  rcases h1 with rfl | rfl | rfl | rfl <;> rcases h2 with rfl | rfl | rfl | rfl <;> rcases h3 with rfl | rfl | rfl | rfl <;> first | (exfalso; omega) | decide
theorem part20 {z : Int} {p : List Mon} (hz : z ≤ 3) (h : partB z p = true) : p.length ≤ 20 := by
  have hn := keys_nd hz h
  have := pigeon (p.map fun m => keyOf m.2) keys20 (List.pairwise_map.2 hn) (fun k hk => by
    obtain ⟨m, hm, rfl⟩ := List.mem_map.1 hk
    have ho := partB_mem h hm
    have hl := ho.len
    have hp := ho.pw
    have hd := ho.deg
    obtain ⟨x, e⟩ := m
    simp only at hl hp hd ⊢
    match e, hl, hp, hd with
    | [], _, _, _ => exact in20 (by decide) (by decide) (by decide) (by decide)
    | [a], _, hp, hd => have := hp a (by simp); simp at hd; exact in20 (by simpa [keyOf] using this.1) (by simp) (by simp) (by simp [keyOf]; omega)
    | [a, b], _, hp, hd => have h1 := hp a (by simp); have h2 := hp b (by simp); simp at hd; exact in20 (by simpa [keyOf] using h1.1) (by simpa [keyOf] using h2.1) (by simp) (by simp [keyOf]; omega)
    | [a, b, c], _, hp, hd => have h1 := hp a (by simp); have h2 := hp b (by simp); have h3 := hp c (by simp); simp at hd; exact in20 (by simpa [keyOf] using h1.1) (by simpa [keyOf] using h2.1) (by simpa [keyOf] using h3.1) (by simp [keyOf]; omega)
    | _ :: _ :: _ :: _ :: _, hl, _, _ => simp at hl; omega)
  simpa [keys20] using this
end Go.Proofs.Ytjpeakcapddimaa

/- Contracts: products of polynomials held in maps, linear polynomials, the program's. -/
namespace Go.Proofs.Ytjpeakcapddimaa
open Go.Abs
set_option linter.unusedVariables false
set_option linter.unusedSimpArgs false
set_option maxHeartbeats 1000000
/-- Terms added up in a map. -/
def cfT (T : List (Key × Int)) (k : Key) : Int := coef Prod.fst Prod.snd T k
def mapT (T : List (Key × Int)) : Key → Option Int := fun k => if hasK T k = true then some (cfT T k % 10007) else none
theorem cfT_app (a b : List (Key × Int)) (k : Key) : cfT (a ++ b) k = cfT a k + cfT b k := sumI_app _ a b
theorem cfT_perm {a b : List (Key × Int)} (h : a.Perm b) (k : Key) : cfT a k = cfT b k := by
  induction h with
  | nil => rfl
  | cons x _ ih => simp only [cfT, coef, sumI] at ih ⊢; rw [ih]
  | swap x y l => simp only [cfT, coef, sumI]; omega
  | trans _ _ i1 i2 => rw [i1, i2]
theorem hasK_perm {a b : List (Key × Int)} (h : a.Perm b) (k : Key) : hasK a k = hasK b k := by
  cases hb : hasK b k with
  | true =>
    obtain ⟨e, he, hk⟩ := hasK_iff.1 hb
    exact hasK_iff.2 ⟨e, h.mem_iff.2 he, hk⟩
  | false =>
    cases ha : hasK a k with
    | false => rfl
    | true =>
      obtain ⟨e, he, hk⟩ := hasK_iff.1 ha
      rw [hasK_iff.2 ⟨e, h.mem_iff.1 he, hk⟩] at hb
      simp at hb
theorem mapT_perm {a b : List (Key × Int)} (h : a.Perm b) : mapT a = mapT b := by
  funext k
  unfold mapT
  rw [hasK_perm h, cfT_perm h]
theorem mapT_nil : mapT [] = mzero := by funext k; simp [mapT, hasK, mzero]
theorem cfT_none {T : List (Key × Int)} {k : Key} (h : hasK T k = false) : cfT T k = 0 := by
  unfold cfT coef
  refine sumI_zero (fun e he => if_neg (fun e1 => ?_))
  rw [hasK_iff.2 ⟨e, he, e1.symm⟩] at h
  simp at h
theorem mapT_get (T : List (Key × Int)) (k : Key) : (mapT T k).getD 0 = cfT T k % 10007 := by
  unfold mapT
  cases h : hasK T k with
  | true => simp
  | false => simp [cfT_none h]
theorem mapT_N {T : List (Key × Int)} {k : Key} : isN ((mapT T k).getD 0) := by rw [mapT_get]; exact isN_mod _
theorem mapT_snoc (T : List (Key × Int)) (k0 : Key) (v : Int) : mset (mapT T) k0 (((mapT T k0).getD 0 + v) % 10007) = mapT (T ++ [(k0, v)]) := by
  funext k
  unfold mset
  by_cases hk : k = k0
  · subst hk
    rw [if_pos rfl, mapT_get]
    have h1 : hasK (T ++ [(k, v)]) k = true := by simp [hasK]
    have h2 : cfT (T ++ [(k, v)]) k = cfT T k + v := by rw [cfT_app]; simp [cfT, coef, sumI]
    simp only [mapT, h1, h2, if_true]
    congr 1
    omega
  · rw [if_neg hk]
    have h1 : hasK (T ++ [(k0, v)]) k = hasK T k := by
      simp only [hasK, List.any_append, List.any_cons, List.any_nil, Bool.or_false]
      rw [decide_eq_false (fun e => hk e.symm)]; simp
    have h2 : cfT (T ++ [(k0, v)]) k = cfT T k := by rw [cfT_app]; simp [cfT, coef, sumI, hk]
    simp only [mapT, h1, h2]
def addK (a b : Key) : Key := (a.1 + b.1, a.2.1 + b.2.1, a.2.2 + b.2.2)
/-- The terms of a product. -/
def prE (e : Key × Int) (E : List (Key × Int)) : List (Key × Int) := E.map fun d => (addK e.1 d.1, e.2 * d.2)
def prT (D E : List (Key × Int)) : List (Key × Int) := D.flatMap fun e => prE e E
theorem prT_cons (e : Key × Int) (D E : List (Key × Int)) : prT (e :: D) E = prE e E ++ prT D E := rfl
theorem prT_app (A D E : List (Key × Int)) : prT (A ++ D) E = prT A E ++ prT D E := by simp [prT]
theorem prE_app (e : Key × Int) (A E : List (Key × Int)) : prE e (A ++ E) = prE e A ++ prE e E := by simp [prE]
theorem prE_perm (e : Key × Int) {A E : List (Key × Int)} (h : A.Perm E) : (prE e A).Perm (prE e E) := h.map _
theorem prT_perm {A D : List (Key × Int)} (E : List (Key × Int)) (h : A.Perm D) : (prT A E).Perm (prT D E) := by
  induction h with
  | nil => exact .refl _
  | cons x _ ih => rw [prT_cons, prT_cons]; exact ih.append_left _
  | swap x y l =>
    rw [prT_cons, prT_cons, prT_cons, prT_cons, ← List.append_assoc, ← List.append_assoc]
    exact List.perm_append_comm.append_right _
  | trans _ _ i1 i2 => exact i1.trans i2
theorem prT_mid (l1 l2 E : List (Key × Int)) (e : Key × Int) (T : List (Key × Int)) : ((T ++ prE e E) ++ prT (l1 ++ l2) E).Perm (T ++ prT (l1 ++ e :: l2) E) := by
  rw [List.append_assoc]
  refine List.Perm.append_left _ ?_
  rw [prT_app, prT_app, prT_cons, ← List.append_assoc, ← List.append_assoc]
  exact List.perm_append_comm.append_right _
theorem prE_mid (l1 l2 : List (Key × Int)) (e d : Key × Int) (T : List (Key × Int)) : ((T ++ [(addK e.1 d.1, e.2 * d.2)]) ++ prE e (l1 ++ l2)).Perm (T ++ prE e (l1 ++ d :: l2)) := by
  rw [List.append_assoc]
  refine List.Perm.append_left _ ?_
  rw [prE_app, prE_app]
  show ([(addK e.1 d.1, e.2 * d.2)] ++ (prE e l1 ++ prE e l2)).Perm (prE e l1 ++ ([(addK e.1 d.1, e.2 * d.2)] ++ prE e l2))
  rw [← List.append_assoc, ← List.append_assoc]
  exact List.perm_append_comm.append_right _
def zdE (a b : List Int) (j : Nat) : List Int := (List.range 3).map fun t => if t < j then a[t]?.getD 0 + b[t]?.getD 0 else 0
@[simp] theorem zdE_len (a b : List Int) (j : Nat) : (zdE a b j).length = 3 := by simp [zdE]
theorem zdE_set {a b : List Int} {j : Nat} (h : j < 3) : (zdE a b j).set j (a[j]?.getD 0 + b[j]?.getD 0) = zdE a b (j + 1) := by
  refine List.ext_getElem (by simp) fun i h1 h2 => ?_
  simp at h1
  rw [List.getElem_set]
  by_cases e : j = i
  · subst e; simp [zdE]
  · simp only [e, if_false, zdE, List.getElem_map, List.getElem_range]
    by_cases h3 : i < j
    · simp [h3, show i < j + 1 by omega]
    · simp [h3, show ¬ i < j + 1 by omega]
theorem zdE_all (a b c d e f : Int) : avs (zdE [a, b, c] [d, e, f] 3) = [.int (a + d), .int (b + e), .int (c + f)] := by
  simp [zdE, avs, List.range, List.range.loop]
theorem eok_at {k0 k1 k2 x : Int} (h : EOk ((k0, k1, k2), x)) : ∀ i : Nat, 0 ≤ ([k0, k1, k2] : List Int)[i]?.getD 0 ∧ ([k0, k1, k2] : List Int)[i]?.getD 0 ≤ 1000 := by
  obtain ⟨_, a1, a2, a3, a4, a5, a6⟩ := h
  intro i
  match i with
  | 0 => exact ⟨a1, a2⟩
  | 1 => exact ⟨a3, a4⟩
  | 2 => exact ⟨a5, a6⟩
  | i + 3 => simp
set_option maxRecDepth 100000 in
theorem product_c {c c' : Key → Option Int} {D E : List (Key × Int)} (hD : Enum c D) (hE : Enum c' E) (hc : ∀ k x, c k = some x → EOk (k, x)) (hc' : ∀ k x, c' k = some x → EOk (k, x)) :
    Con Try.prog 90 [.fmp c, .fmp c'] (.mp (mapT (prT D E))) := by
  refine con_of_vc Try.mixed ⟨12, [], [], []⟩ Try.func90 (by decide) rfl (by simp) (by decide) (by simp [freshOK, freshL, go_sem]) ?_
  rw [Try.ntmps90]
  simp [go_sem]
  intro es hes
  refine loop_inv (5 :: 6 :: 7 :: 8 :: 9 :: 10 :: 11 :: List.range' 14 38) (fun x : List (Key × Int) × Option (Key × Int) × List (Key × Int) => [(5, .mp (mapT x.1)), (14, .it x.2.1 x.2.2)]) (fun x => (x.1 ++ prT x.2.2 E).Perm (prT D E) ∧ ∀ e ∈ x.2.2, EOk e) (fun x => x.2.2.length) ([], none, es) ⟨prT_perm E (enum_unique hes hD), fun e he => hc e.1 e.2 (hes.val e he)⟩ (by simp [go_sem, mapT_nil]) (by simp [go_sem]) ?_
  rintro ⟨T, l, rem⟩ ⟨hT, hrem⟩
  simp only at hT hrem
  simp [go_sem, keyAV]
  refine ⟨fun hr => ?_, fun l1 k0 k1 k2 x l2 hr => ?_⟩
  · subst hr
    rw [prT, List.flatMap_nil, List.append_nil] at hT
    exact mapT_perm hT
  · subst hr
    have hek := hrem ((k0, k1, k2), x) (by simp)
    have hx : isN x := hek.1
    intro es' hes'
    refine loop_inv (5 :: 8 :: 9 :: 10 :: 11 :: List.range' 21 31) (fun y : List (Key × Int) × Option (Key × Int) × List (Key × Int) => [(5, .mp (mapT y.1)), (21, .it y.2.1 y.2.2)]) (fun y => (y.1 ++ prE ((k0, k1, k2), x) y.2.2).Perm (T ++ prE ((k0, k1, k2), x) E) ∧ ∀ e ∈ y.2.2, EOk e) (fun y => y.2.2.length) (T, none, es') ⟨(prE_perm _ (enum_unique hes' hE)).append_left _, fun e he => hc' e.1 e.2 (hes'.val e he)⟩ (by simp [go_sem]) (by simp [go_sem]) ?_
    rintro ⟨T', l', rem'⟩ ⟨hT', hrem'⟩
    simp only at hT' hrem'
    simp [go_sem, keyAV]
    refine ⟨fun hr => ?_, fun l1' d0 d1 d2 b l2' hr => ?_⟩
    · subst hr
      rw [prE, List.map_nil, List.append_nil] at hT'
      refine ⟨T', _, l1 ++ l2, ⟨((hT'.append_right _).trans (prT_mid l1 l2 E _ T)).trans hT, fun a b c d he => hrem _ ?_⟩, by simp, (Off.reset (by intro x hx; simp at hx ⊢; omega) (by simp) (by simp [go_sem, Off_reset])), rfl, rfl, rfl⟩
      rcases List.mem_append.1 he with he | he <;> simp [he]
    · subst hr
      have hek' := hrem' ((d0, d1, d2), b) (by simp)
      have hb : isN b := hek'.1
      refine loop_inv (10 :: 11 :: List.range' 28 13) (fun i : Nat => [(10, .box 174 (avs (zdE [k0, k1, k2] [d0, d1, d2] i))), (28, .int i)]) (fun i => i ≤ 3) (fun i => 3 - i) 0 (by simp) (by simp [go_sem, zdE, avs, List.range, List.range.loop]) (by simp [go_sem]) ?_
      intro i hi
      simp [go_sem]
      refine ⟨fun h => ?_, fun h => ?_⟩ <;> simp at h
      · have hi3 : i < 3 := by omega
        have e3 : ([.val (.int .i64 k0), .val (.int .i64 k1), .val (.int .i64 k2)] : List AV)[i]? = some (.val (.int .i64 (([k0, k1, k2] : List Int)[i]?.getD 0))) := avs_at' (xs := [k0, k1, k2]) hi3
        have e4 : ([.val (.int .i64 d0), .val (.int .i64 d1), .val (.int .i64 d2)] : List AV)[i]? = some (.val (.int .i64 (([d0, d1, d2] : List Int)[i]?.getD 0))) := avs_at' (xs := [d0, d1, d2]) hi3
        have g3 : 0 ≤ ([k0, k1, k2] : List Int)[i]?.getD 0 ∧ ([k0, k1, k2] : List Int)[i]?.getD 0 ≤ 1000 := eok_at hek i
        have g4 : 0 ≤ ([d0, d1, d2] : List Int)[i]?.getD 0 ∧ ([d0, d1, d2] : List Int)[i]?.getD 0 ≤ 1000 := eok_at hek' i
        have hset := zdE_set (a := [k0, k1, k2]) (b := [d0, d1, d2]) hi3
        have hZl : (zdE [k0, k1, k2] [d0, d1, d2] i).length = 3 := zdE_len _ _ _
        generalize eZ : zdE [k0, k1, k2] [d0, d1, d2] (i + 1) = Z2 at *
        generalize zdE [k0, k1, k2] [d0, d1, d2] i = Z at *
        generalize ([k0, k1, k2] : List Int)[i]?.getD 0 = ki at *
        generalize ([d0, d1, d2] : List Int)[i]?.getD 0 = di at *
        simp [go_sem, e3, e4]
        refine ⟨by kernel_rfl, by omega, ⟨by omega, by omega⟩, ⟨by omega, by rintro rfl; simp at hZl⟩, by omega, ?_⟩
        refine ⟨by kernel_rfl, ?_⟩
        simp [go_sem]
        refine ⟨by omega, i + 1, by omega, by omega, Off_reset _ _ _ (by simp), ?_, by omega⟩
        rw [eZ, ← hset, avs_set]
      · have e : i = 3 := by omega
        subst e
        rw [zdE_all]
        have m1 := mul_fits hx hb
        have m2 := mul_bound hx hb
        have sN := mapT_N (T := T') (k := (k0 + d0, k1 + d1, k2 + d2))
        have hs := mapT_snoc T' (k0 + d0, k1 + d1, k2 + d2) (x * b)
        obtain ⟨s0, s1⟩ := sN
        simp [go_sem]
        refine ⟨by kernel_rfl, m1, ⟨by omega, by omega⟩, ?_⟩
        refine CallD.of (num_c _ (by omega) (by omega)) (by simp [roots, rootsL]) (by decide) ?_
        simp [go_sem]
        refine ⟨by kernel_rfl, ?_⟩
        simp [go_sem]
        refine ⟨T' ++ [((k0 + d0, k1 + d1, k2 + d2), x * b)], _, l1' ++ l2', ⟨(prE_mid l1' l2' ((k0, k1, k2), x) ((d0, d1, d2), b) T').trans hT', fun a b c d he => hrem' _ ?_⟩, by simp, (Off.reset (by intro x hx; simp at hx ⊢; omega) (by simp) (by simp [go_sem, Off_reset])), ?_, rfl, rfl⟩
        · rcases List.mem_append.1 he with he | he <;> simp [he]
        · rw [hs]
end Go.Proofs.Ytjpeakcapddimaa

/- Plain: sorted lists of monomials, their coefficients; sums of products both ways. -/
namespace Go.Proofs.Ytjpeakcapddimaa
open Go.Abs
set_option linter.unusedVariables false
set_option linter.unusedSimpArgs false
set_option maxHeartbeats 1000000
theorem ltL_tri : ∀ {a b : List Int}, a.length = b.length → a ≠ b → ltL a b = false → ltL b a = true
  | [], [], _, h, _ => absurd rfl h
  | x :: a, y :: b, hl, h, h2 => by
    simp only [ltL] at h2 ⊢
    by_cases e : x = y
    · subst e
      simp only [if_true] at h2 ⊢
      exact ltL_tri (by simpa using hl) (fun e => h (by rw [e])) h2
    · rw [if_neg e] at h2
      rw [if_neg (fun x => e x.symm)]
      simp at h2 ⊢
      omega
/-- Sorted lists, without zero factors. -/
def Srt (L : List Mon) : Prop := L.Pairwise (fun a b => ltL a.2 b.2 = true)
def Nzl (L : List Mon) : Prop := ∀ m ∈ L, 1 ≤ m.1 ∧ m.1 ≤ 10006
theorem putGo_keys {c : Int} {e : List Int} : ∀ (l : List Mon) (done : Bool), ∀ x ∈ putGo c e l done, (∃ m ∈ l, x.2 = m.2) ∨ (done = false ∧ x.2 = e)
  | [], true, x, hx => by simp [putGo] at hx
  | [], false, x, hx => by simp [putGo] at hx; rw [hx]; exact .inr ⟨rfl, rfl⟩
  | a :: l, done, x, hx => by
    have one : ∀ b : Mon, b.2 = a.2 → x ∈ (if b.1 = 0 then [] else [b]) → (∃ m ∈ a :: l, x.2 = m.2) ∨ (done = false ∧ x.2 = e) := fun b hb hxx => by
      split at hxx
      · simp at hxx
      · simp at hxx; exact .inl ⟨a, by simp, by rw [hxx, hb]⟩
    have tl : ∀ d, (d = true ∨ d = done) → x ∈ putGo c e l d → (∃ m ∈ a :: l, x.2 = m.2) ∨ (done = false ∧ x.2 = e) := fun d hd hxx => by
      rcases putGo_keys l d x hxx with ⟨m, hm, hk⟩ | ⟨h1, h2⟩
      · exact .inl ⟨m, by simp [hm], hk⟩
      · rcases hd with rfl | rfl
        · simp at h1
        · exact .inr ⟨h1, h2⟩
    rw [putGo] at hx
    split at hx
    · rcases List.mem_append.1 hx with hx | hx
      · exact one ((a.1 + c) % 10007, a.2) rfl hx
      · exact tl true (.inl rfl) hx
    · split at hx
      · rename_i h
        rcases List.mem_cons.1 hx with hx | hx
        · exact .inr ⟨h.1, by rw [hx]⟩
        · rcases List.mem_append.1 hx with hx | hx
          · exact one a rfl hx
          · exact tl true (.inl rfl) hx
      · rcases List.mem_append.1 hx with hx | hx
        · exact one a rfl hx
        · exact tl done (.inr rfl) hx
theorem putGo_srt {n : Nat} {c : Int} {e : List Int} (he : e.length = n) : ∀ (l : List Mon) (done : Bool), (∀ m ∈ l, m.2.length = n) → Srt l → Srt (putGo c e l done)
  | [], true, _, _ => by simp [putGo, Srt]
  | [], false, _, _ => by simp [putGo, Srt]
  | a :: l, done, hl, hs => by
    obtain ⟨h1, h2⟩ := List.pairwise_cons.1 hs
    have ih := fun d => putGo_srt (c := c) he l d (fun m hm => hl m (by simp [hm])) h2
    have cons : ∀ (b : Mon) (d : Bool), b.2 = a.2 → (d = true ∨ ltL a.2 e = true) → Srt ((if b.1 = 0 then [] else [b]) ++ putGo c e l d) := fun b d hb hd => by
      split
      · exact ih d
      · refine List.pairwise_cons.2 ⟨fun x hx => ?_, ih d⟩
        rw [hb]
        rcases putGo_keys l d x hx with ⟨m, hm, hk⟩ | ⟨h3, h4⟩
        · rw [hk]; exact h1 m hm
        · rw [h4]
          rcases hd with rfl | hd
          · simp at h3
          · exact hd
    rw [putGo]
    split
    · exact cons ((a.1 + c) % 10007, a.2) true rfl (.inl rfl)
    · rename_i n1
      split
      · rename_i h
        refine List.pairwise_cons.2 ⟨fun x hx => ?_, cons a true rfl (.inl rfl)⟩
        have key : (∃ m ∈ a :: l, x.2 = m.2) := by
          rcases List.mem_append.1 hx with hx | hx
          · split at hx
            · simp at hx
            · simp at hx; exact ⟨a, by simp, by rw [hx]⟩
          · rcases putGo_keys l true x hx with ⟨m, hm, hk⟩ | ⟨h3, _⟩
            · exact ⟨m, by simp [hm], hk⟩
            · simp at h3
        obtain ⟨m, hm, hk⟩ := key
        show ltL e x.2 = true
        rw [hk]
        rcases List.mem_cons.1 hm with rfl | hm
        · exact h.2
        · exact ltL_trans h.2 (h1 m hm)
      · rename_i n2
        cases done with
        | true => exact cons a true rfl (.inl rfl)
        | false =>
          have ne : a.2 ≠ e := fun x => n1 ⟨rfl, x⟩
          have nl : ltL e a.2 = false := by
            cases hb : ltL e a.2 with
            | false => rfl
            | true => exact absurd ⟨rfl, hb⟩ n2
          exact cons a false rfl (.inr (ltL_tri (by rw [he, hl a (by simp)]) (fun x => ne x.symm) nl))
theorem putGo_nz {c : Int} {e : List Int} (hc : 1 ≤ c ∧ c ≤ 10006) : ∀ (l : List Mon) (done : Bool), Nzl l → Nzl (putGo c e l done)
  | [], true, _ => by simp [putGo, Nzl]
  | [], false, _ => by intro m hm; simp [putGo] at hm; rw [hm]; exact hc
  | a :: l, done, hl => by
    have ha := hl a (by simp)
    have ih := fun d => putGo_nz (e := e) hc l d (fun m hm => hl m (by simp [hm]))
    have one : ∀ b : Mon, (b.1 = 0 ∨ 1 ≤ b.1 ∧ b.1 ≤ 10006) → ∀ L, Nzl L → Nzl ((if b.1 = 0 then [] else [b]) ++ L) := fun b hb L hL m hm => by
      rcases List.mem_append.1 hm with hm | hm
      · split at hm
        · simp at hm
        · rename_i h; simp at hm; rw [hm]; rcases hb with hb | hb; exact absurd hb h; exact hb
      · exact hL m hm
    rw [putGo]
    split
    · exact one ((a.1 + c) % 10007, a.2) (by simp only; omega) _ (ih true)
    · split
      · intro m hm
        rcases List.mem_cons.1 hm with rfl | hm
        · exact hc
        · exact one a (.inr ha) _ (ih true) m hm
      · exact one a (.inr ha) _ (ih done)
theorem putGo_done {c c' : Int} {e : List Int} : ∀ l : List Mon, putGo c e l true = putGo c' e l true
  | [] => rfl
  | a :: l => by rw [putGo_t, putGo_t, putGo_done l]
theorem putL_nz {L : List Mon} {c : Int} {e : List Int} (hc : isN c) (hL : Nzl L) : Nzl (putL L c e) := by
  unfold putL
  by_cases h : c = 0
  · rw [decide_eq_true h, putGo_done (c' := 1)]
    exact putGo_nz ⟨by omega, by omega⟩ L true hL
  · exact putGo_nz ⟨by have := hc.1; omega, by have := hc.2; omega⟩ L _ hL
theorem plusL_srt {n : Nat} {B k : Int} : ∀ (q p : List Mon), (∀ m ∈ q, WOk n B m) → (∀ m ∈ p, WOk n B m) → Srt p ∧ Nzl p → Srt (plusL p k q) ∧ Nzl (plusL p k q)
  | [], _, _, _, h => h
  | m :: q, p, hq, hp, h => by
    have hm := hq m (by simp)
    exact plusL_srt q _ (fun a ha => hq a (by simp [ha])) (putGo_wok ⟨isN_mod _, hm.len, hm.pw⟩ p _ hp) ⟨putGo_srt hm.len p _ (fun a ha => (hp a ha).len) h.1, putL_nz (isN_mod _) h.2⟩
/-- A sorted list's coefficients. -/
theorem cfL_at {n : Nat} (hn : n ≤ 3) : ∀ {L : List Mon}, (∀ m ∈ L, m.2.length = n) → Srt L → ∀ m ∈ L, cfL L (keyOf m.2) = m.1
  | a :: L, hl, hs, m, hm => by
    obtain ⟨h1, h2⟩ := List.pairwise_cons.1 hs
    have ne : ∀ b ∈ L, keyOf a.2 ≠ keyOf b.2 := fun b hb e => by
      have := keyOf_inj (by rw [hl a (by simp), hl b (by simp [hb])]) (by rw [hl a (by simp)]; exact hn) e
      have h3 := h1 b hb
      rw [this, ltL_irr] at h3
      simp at h3
    rw [cfL_cons]
    rcases List.mem_cons.1 hm with rfl | hm
    · rw [if_pos rfl]
      have : cfL L (keyOf m.2) = 0 := by
        unfold cfL coef
        exact sumI_zero (fun b hb => if_neg (ne b hb))
      rw [this]; omega
    · rw [if_neg (fun e => ne m hm e.symm), cfL_at hn (fun b hb => hl b (by simp [hb])) h2 m hm]; omega
theorem plusL_cf (k : Int) (K : Key) : ∀ (q p : List Mon), cfL (plusL p k q) K % 10007 = (cfL p K + k * cfL q K) % 10007
  | [], p => by simp [plusL, cfL, coef, sumI]
  | m :: q, p => by
    rw [plusL, plusL_cf k K q, cfL_cons, Int.add_emod, putL_cf, Int.mul_add]
    by_cases h : K = keyOf m.2
    · simp only [h, if_true]; omega
    · simp only [h, if_false]; omega
/-- Products. -/
def pcf (p q : List Mon) (K : Key) : Int := sumI (fun a => sumI (fun b => if K = keyOf (addE a.2 b.2) then a.1 * b.1 else 0) q) p
theorem prodRow_cf (a : Mon) (K : Key) : ∀ (q acc : List Mon), cfL (prodRow a acc q) K % 10007 = (cfL acc K + sumI (fun b => if K = keyOf (addE a.2 b.2) then a.1 * b.1 else 0) q) % 10007
  | [], acc => by simp [prodRow, sumI]
  | b :: q, acc => by
    rw [prodRow, prodRow_cf a K q, Int.add_emod, putL_cf]
    simp only [sumI]
    by_cases h : K = keyOf (addE a.2 b.2)
    · simp only [h, if_true]; omega
    · simp only [h, if_false]; omega
theorem prodGo_cf (q : List Mon) (K : Key) : ∀ (p acc : List Mon), cfL (prodGo acc q p) K % 10007 = (cfL acc K + pcf p q K) % 10007
  | [], acc => by simp [prodGo, pcf, sumI]
  | a :: p, acc => by
    rw [prodGo, prodGo_cf q K p, Int.add_emod, prodRow_cf]
    simp only [pcf, sumI]
    omega
theorem prodL_cf (p q : List Mon) (K : Key) : cfL (prodL p q) K % 10007 = pcf p q K % 10007 := by
  unfold prodL
  rw [prodGo_cf]; simp [cfL, coef, sumI]
theorem keyOf_add {a b : List Int} (hl : a.length = b.length) (h3 : a.length ≤ 3) : keyOf (addE a b) = addK (keyOf a) (keyOf b) := by
  match a, b, hl, h3 with
  | [], [], _, _ => rfl
  | [x], [y], _, _ => simp [keyOf, addE, addK]
  | [x, x'], [y, y'], _, _ => simp [keyOf, addE, addK]
  | [x, x', x''], [y, y', y''], _, _ => simp [keyOf, addE, addK]
/-- The same of terms held in maps. -/
theorem cfT_prE (e : Key × Int) (K : Key) : ∀ E : List (Key × Int), cfT (prE e E) K = sumI (fun d => if K = addK e.1 d.1 then e.2 * d.2 else 0) E
  | [] => rfl
  | d :: E => by
    show cfT ((addK e.1 d.1, e.2 * d.2) :: prE e E) K = _
    simp only [sumI, ← cfT_prE e K E]; rfl
theorem cfT_prT (K : Key) (E : List (Key × Int)) : ∀ D : List (Key × Int), cfT (prT D E) K = sumI (fun e => sumI (fun d => if K = addK e.1 d.1 then e.2 * d.2 else 0) E) D
  | [] => rfl
  | e :: D => by
    rw [prT_cons, cfT_app, cfT_prE, cfT_prT K E D]; rfl
theorem cfT_lists {n : Nat} (hn : n ≤ 3) {p q : List Mon} (hp : ∀ m ∈ p, m.2.length = n) (hq : ∀ m ∈ q, m.2.length = n) (K : Key) : cfT (prT (p.map keyM) (q.map keyM)) K = pcf p q K := by
  rw [cfT_prT, sumI_map]
  unfold pcf
  refine sumI_congr (fun a ha => ?_)
  rw [sumI_map]
  refine sumI_congr (fun b hb => ?_)
  simp only [keyM]
  rw [keyOf_add (by rw [hp a ha, hq b hb]) (by rw [hp a ha]; exact hn)]
  rfl
end Go.Proofs.Ytjpeakcapddimaa

/- The program's parts out of polynomials: monomials sorted. -/
namespace Go.Proofs.Ytjpeakcapddimaa
open Go.Abs Go.Shelf Go.Sort
set_option linter.unusedVariables false
set_option linter.unusedSimpArgs false
set_option maxHeartbeats 1000000

theorem ltL_tot : ∀ {a b : List Int}, a ≠ b → ltL a b = false → ltL b a = true
  | [], [], h, _ => absurd rfl h
  | [], y :: b, _, h => by simp [ltL] at h
  | x :: a, [], _, _ => by simp [ltL]
  | x :: a, y :: b, h, h2 => by
    simp only [ltL] at h2 ⊢
    by_cases e : x = y
    · subst e
      simp only [if_true] at h2 ⊢
      exact ltL_tot (fun e => h (by rw [e])) h2
    · rw [if_neg e] at h2
      rw [if_neg (fun x => e x.symm)]
      simp at h2 ⊢
      omega
theorem cmpL_neg (a b : List Int) : decide (cmpL a b < 0) = ltL a b := by
  have h := cmpL_lt a b
  cases hl : ltL a b <;> rw [hl] at h <;> simp at h ⊢ <;> omega
theorem swo_mon : SWO (Go.Proofs.ltOf fun m n : Mon => cmpL m.2 n.2) := by
  have e : (Go.Proofs.ltOf fun m n : Mon => cmpL m.2 n.2) = fun m n => ltL m.2 n.2 := by
    funext m n; exact cmpL_neg _ _
  rw [e]
  refine ⟨fun m => ltL_irr _, fun _ _ _ => ltL_trans, fun x y z h1 h2 => ?_⟩
  cases h3 : ltL x.2 z.2 with
  | false => rfl
  | true =>
    by_cases e : x.2 = y.2
    · rw [← e, h3] at h2; exact h2
    · have := ltL_trans (ltL_tot e h1) h3
      rw [this] at h2; exact h2
theorem srt_two : ∀ {L : List Mon}, Srt L → ∀ a ∈ L, ∀ b ∈ L, a = b ∨ ltL a.2 b.2 = true ∨ ltL b.2 a.2 = true
  | [], _, a, ha, _, _ => by simp at ha
  | m :: L, h, a, ha, b, hb => by
    obtain ⟨h1, h2⟩ := List.pairwise_cons.1 h
    rcases List.mem_cons.1 ha with ha2 | ha2
    · rcases List.mem_cons.1 hb with hb2 | hb2
      · exact .inl (ha2.trans hb2.symm)
      · exact .inr (.inl (by rw [ha2]; exact h1 b hb2))
    · rcases List.mem_cons.1 hb with hb2 | hb2
      · exact .inr (.inr (by rw [hb2]; exact h1 a ha2))
      · exact srt_two h2 a ha2 b hb2
theorem part1_c (m n : Mon) (hm : m.2.length ≤ 1000) (hn : n.2.length ≤ 1000) :
    Con Try.prog 230 [.agg [.int m.1, .sl m.2.length (avs m.2)], .agg [.int n.1, .sl n.2.length (avs n.2)]] (.int (cmpL m.2 n.2)) := by
  refine con_of_vc Try.mixed ⟨5, [], [], []⟩ Try.func230 (by decide) rfl (by simp) (by decide) (by simp [freshOK, freshL, go_sem]) ?_
  rw [Try.ntmps230]
  simp [go_sem]
  refine CallVC.of (Compare_c m.2 n.2 (by omega) (by omega)) (by decide) ?_
  simp [go_sem]
theorem sort_unique {ys L : List Mon} (hp : ys.Perm L) (hS : Srt L) (hy : ys.Pairwise (fun x y => ¬ cmpL y.2 x.2 < 0)) : ys = L := by
  have hy' : ys.Pairwise (fun x y => ltL y.2 x.2 = false) := hy.imp (fun {a b} h => by
    have := cmpL_neg b.2 a.2
    rw [← this]; simpa using h)
  have hL' : L.Pairwise (fun x y => ltL y.2 x.2 = false) := hS.imp (fun {a b} h => by
    cases h2 : ltL b.2 a.2 with
    | false => rfl
    | true => have := ltL_trans h h2; rw [ltL_irr] at this; simp at this)
  refine hp.eq_of_pairwise (fun a b ha hb h1 h2 => ?_) hy' hL'
  rcases srt_two hS a (hp.mem_iff.1 ha) b hb with h | h | h
  · exact h
  · rw [h2] at h; simp at h
  · rw [h1] at h; simp at h
theorem sortMon_c (X L : List Mon) (hX : X.Perm L) (hS : Srt L) (hl : ∀ m ∈ L, m.2.length ≤ 1000) (hn : L.length ≤ 1048576) :
    MCon Try.prog 229 [.own 111 X.length (omons X), .val (.func (.func 230) #[] #[])] (.tup []) [.own 111 X.length (omons L), .any] := by
  have hxl := hX.length_eq
  have hm : ∀ m ∈ X, m.2.length ≤ 1000 := fun m hm => hl m (hX.mem_iff.1 hm)
  obtain ⟨ys, h1, h2, h3⟩ := sort_mcon Try.sortMon 2 Try.isAgg111 Try.sizeOf111 ⟨_, Try.func229, by decide, rfl⟩ (fun m : Mon => [.int m.1, .own 2 m.2.length (avs m.2)]) (fun m n => cmpL m.2 n.2) swo_mon 230 111 (by kernel_rfl) X (fun _ _ => rfl) (omons_fresh X)
    (fun x hx y hy => by simpa [frzL, frz] using part1_c x y (hm x hx) (hm y hy)) (by omega)
  have e : ys = L := sort_unique (h1.trans hX) hS h2
  subst e
  exact h3
/-- A slice that is read alone, seen with more cells than its contract knows. -/
theorem pref1 {P : Program} {f : FuncId} {n m : Nat} {cs : List AV} {r : AV} (h : Con P f [.sl n (cs.take m)] r) : Con P f [.sl n cs] r := by
  refine ⟨h.1, fun w vs hl hr => h.2 w vs (by simpa using hl) fun tm oss => ?_⟩
  have h1 := hr tm oss
  obtain ⟨v, rfl⟩ := List.length_eq_one_iff.1 hl.symm
  generalize ho : ([] : List Nat) = os at h1
  cases h1 with
  | cons _ _ o1 _ _ o2 h2 h3 =>
    cases h3
    have e : o1 = [] := by simpa using ho.symm
    subst e
    refine .cons _ _ [] _ _ [] ?_ (.nil _)
    cases h2 with
    | cell _ _ _ hc =>
      refine .cell _ _ _ ?_
      cases hc with
      | sl0 base cap => simpa using RepC.sl0 base cap
      | sl b off _ cap c e fr _ hF hb hL hn => exact .sl b off _ cap c e fr _ hF hb (hL.pref m) hn
theorem CloneN_c (k : List Int) (n : Nat) (hn : n ≤ k.length) (hl : k.length ≤ 1048576) : Con Try.prog 199 [.sl n (avs k)] (.own 2 n (avs (k.take n))) := by
  have h := Clone_c (k.take n) (by simp; omega)
  have e : (k.take n).length = n := by simp [hn]
  have e2 : avs (k.take n) = (avs k).take n := by simp [avs, List.map_take]
  rw [e, e2] at h
  rw [e2]
  exact pref1 h
/-- The monomials that are still to come. -/
def restM (n : Nat) (es : List (Key × Int)) : List Mon := (es.filter fun e => decide (e.2 ≠ 0)).map fun e => (e.2, [e.1.1, e.1.2.1, e.1.2.2].take n)
theorem restM_split (n : Nat) (l1 l2 : List (Key × Int)) (e : Key × Int) : (restM n (l1 ++ e :: l2)).Perm (if e.2 = 0 then restM n (l1 ++ l2) else (e.2, [e.1.1, e.1.2.1, e.1.2.2].take n) :: restM n (l1 ++ l2)) := by
  unfold restM
  by_cases h : e.2 = 0
  · simp [h]
  · rw [if_neg h]
    have e1 : decide (e.2 ≠ 0) = true := by simp [h]
    rw [List.filter_append, List.filter_cons, e1, if_pos rfl, List.filter_append, List.map_append, List.map_append, List.map_cons]
    exact List.perm_middle
theorem keyOf_take {m : Mon} {n : Nat} (hm : m.2.length = n) (hn : n ≤ 3) : [(keyOf m.2).1, (keyOf m.2).2.1, (keyOf m.2).2.2].take n = m.2 := by
  obtain ⟨a, e⟩ := m
  subst hm
  rcases e with _ | ⟨a, _ | ⟨b, _ | ⟨c, _ | ⟨d, e⟩⟩⟩⟩
  all_goals first | rfl | (simp at hn)
theorem restM_perm {c : Key → Option Int} {n : Nat} {L : List Mon} (hn : n ≤ 3) (hS : Srt L) (hL : ∀ k a, (c k = some a ∧ a ≠ 0) ↔ (k, a) ∈ L.map keyM) (hl : ∀ m ∈ L, m.2.length = n) {es : List (Key × Int)} (he : Enum c es) : (restM n es).Perm L := by
  have hmem : ∀ k a, (k, a) ∈ es ↔ c k = some a := fun k a => ⟨fun h => he.val _ h, fun h => by
    by_cases hx : ∃ p ∈ es, p.1 = k
    · obtain ⟨p, hp, rfl⟩ := hx
      have := he.val p hp
      rw [h] at this
      injection this with this
      subst this
      exact hp
    · have := he.out k (fun p hp e => hx ⟨p, hp, e⟩)
      rw [h] at this; simp at this⟩
  have hin : ∀ e ∈ es, e.2 ≠ 0 → ∃ m ∈ L, keyM m = e := fun e he h0 => by
    have := (hL e.1 e.2).1 ⟨(hmem _ _).1 he, h0⟩
    obtain ⟨m, hm, h⟩ := List.mem_map.1 this
    exact ⟨m, hm, h⟩
  have hmono : ∀ e ∈ es, e.2 ≠ 0 → ∃ m ∈ L, keyM m = e ∧ (e.2, [e.1.1, e.1.2.1, e.1.2.2].take n) = m := fun e he h0 => by
    obtain ⟨m, hm, rfl⟩ := hin e he h0
    refine ⟨m, hm, rfl, ?_⟩
    show (m.1, [(keyOf m.2).1, (keyOf m.2).2.1, (keyOf m.2).2.2].take n) = m
    rw [keyOf_take (hl m hm) hn]
  have hLn : L.Nodup := hS.imp (fun {a b} h e => by rw [e, ltL_irr] at h; simp at h)
  refine (List.perm_ext_iff_of_nodup ?_ hLn).2 fun m => ?_
  · unfold restM
    rw [List.nodup_iff_pairwise_ne, List.pairwise_map, List.pairwise_filter]
    refine List.Pairwise.imp_of_mem (fun {a b} ha hb h h1 h2 e => ?_) he.nd
    simp at h1 h2
    obtain ⟨m1, _, g1, g2⟩ := hmono a ha h1
    obtain ⟨m2, _, g3, g4⟩ := hmono b hb h2
    rw [g2, g4] at e
    rw [← g1, ← g3, e] at h
    exact h rfl
  · unfold restM
    rw [List.mem_map]
    constructor
    · rintro ⟨e, h1, rfl⟩
      obtain ⟨h1, h2⟩ := List.mem_filter.1 h1
      obtain ⟨m, hm, _, h⟩ := hmono e h1 (by simpa using h2)
      rw [h]; exact hm
    · intro hm
      have h1 := (hL (keyOf m.2) m.1).2 (List.mem_map.2 ⟨m, hm, rfl⟩)
      refine ⟨(keyOf m.2, m.1), List.mem_filter.2 ⟨(hmem _ _).2 h1.1, by simpa using h1.2⟩, ?_⟩
      show (m.1, [(keyOf m.2).1, (keyOf m.2).2.1, (keyOf m.2).2.2].take n) = m
      rw [keyOf_take (hl m hm) hn]
set_option maxRecDepth 100000 in
theorem part_c (c : Key → Option Int) (n : Nat) (L : List Mon) (h1n : 1 ≤ n) (hn : n ≤ 3) (hS : Srt L) (hL : ∀ k a, (c k = some a ∧ a ≠ 0) ↔ (k, a) ∈ L.map keyM) (hl : ∀ m ∈ L, m.2.length = n) (hLl : L.length ≤ 1048576) :
    Con Try.prog 170 [.fmp c, .int n] (.own 111 L.length (omons L)) := by
  refine con_of_vc Try.mixed ⟨8, [], [229], []⟩ Try.func170 (by decide) rfl (by simp) (by decide) (by simp [freshOK, freshL, go_sem]) ?_
  rw [Try.ntmps170]
  simp [go_sem]
  intro es hes
  have hp := restM_perm hn hS hL hl hes
  refine loop_inv (5 :: 6 :: 7 :: List.range' 10 16) (fun x : List Mon × Option (Key × Int) × List (Key × Int) => [(5, .own 111 x.1.length (omons x.1)), (10, .it x.2.1 x.2.2)]) (fun x => (x.1 ++ restM n x.2.2).Perm L) (fun x => x.2.2.length) ([], none, es) (by simpa using hp) (by simp [go_sem]) (by simp [go_sem]) ?_
  rintro ⟨X, l, rem⟩ hX
  simp only at hX
  have hXl : X.length ≤ L.length := by have := hX.length_eq; simp at this; omega
  simp [go_sem, keyAV]
  refine ⟨fun hr => ?_, fun l1 k0 k1 k2 x l2 hr => ?_⟩
  · subst hr
    have hX' : X.Perm L := by simpa [restM] using hX
    refine ⟨_, _, sortMon_c X L hX' hS (fun m hm => by have := hl m hm; omega) hLl, ?_⟩
    simp [go_sem]
    exact hX'.length_eq
  · subst hr
    refine ⟨fun h => ?_, fun h => ?_⟩ <;> simp at h
    · have cC := CloneN_c [k0, k1, k2] n (by simpa using hn) (by simp)
      simp [go_sem, avs]
      refine ⟨⟨by omega, by omega⟩, ?_⟩
      refine CallVC.of (cC) (by decide) ?_
      simp [go_sem]
      have hp2 : ((X ++ [(x, [k0, k1, k2].take n)]) ++ restM n (l1 ++ l2)).Perm L := by
        refine List.Perm.trans ?_ hX
        rw [List.append_assoc]
        have := (restM_split n l1 l2 ((k0, k1, k2), x)).symm
        rw [if_neg h] at this
        exact List.Perm.append_left X this
      have hl3 : ([k0, k1, k2].take n).length = n := by simp; omega
      have hxl := hp2.length_eq
      simp at hxl
      refine ⟨⟨by omega, by omega⟩, X ++ [(x, [k0, k1, k2].take n)], some ((k0, k1, k2), x), l1 ++ l2, hp2, by simp, Off_reset _ _ _ (by simp), ?_⟩
      simp [omons_app, omons_one, hl3]
    · have hp2 : (X ++ restM n (l1 ++ l2)).Perm L := by
        refine List.Perm.trans ?_ hX
        have := (restM_split n l1 l2 ((k0, k1, k2), x)).symm
        rw [if_pos h] at this
        exact List.Perm.append_left X this
      simp [go_sem]
      refine ⟨X, some ((k0, k1, k2), x), l1 ++ l2, hp2, by simp, Off_reset _ _ _ (by simp), ?_⟩
      simp
end Go.Proofs.Ytjpeakcapddimaa

/- The program's fields out of polynomials. -/
namespace Go.Proofs.Ytjpeakcapddimaa
open Go.Abs
set_option linter.unusedVariables false
set_option linter.unusedSimpArgs false
set_option maxHeartbeats 1000000
theorem cfL_key : ∀ {L : List Mon} {K : Key}, cfL L K ≠ 0 → ∃ m ∈ L, keyOf m.2 = K
  | [], K, h => absurd rfl h
  | m :: L, K, h => by
    by_cases e : K = keyOf m.2
    · exact ⟨m, by simp, e.symm⟩
    · rw [cfL_cons, if_neg e, Int.zero_add] at h
      obtain ⟨m', h1, h2⟩ := cfL_key h
      exact ⟨m', by simp [h1], h2⟩
theorem part_list {c : Key → Option Int} {n : Nat} {L : List Mon} (hn : n ≤ 3) (hc : MapN c) (hS : Srt L) (hZ : Nzl L) (hl : ∀ m ∈ L, m.2.length = n) (hv : ∀ K, gv c K % 10007 = cfL L K % 10007) (k : Key) (a : Int) :
    (c k = some a ∧ a ≠ 0) ↔ (k, a) ∈ L.map keyM := by
  have hv := hv k
  constructor
  · rintro ⟨h1, h2⟩
    have ha := hc k a h1
    have g : gv c k = a := by simp [gv, h1]
    rw [g] at hv
    have h3 : cfL L k ≠ 0 := fun e => by rw [e] at hv; have := ha.1; have := ha.2; omega
    obtain ⟨m, hm, rfl⟩ := cfL_key h3
    have e := cfL_at hn hl hS m hm
    have hz := hZ m hm
    rw [e] at hv
    have : m.1 = a := by have := ha.1; have := ha.2; omega
    exact List.mem_map.2 ⟨m, hm, by rw [← this]; rfl⟩
  · intro h
    obtain ⟨m, hm, e⟩ := List.mem_map.1 h
    have e1 : keyOf m.2 = k := congrArg Prod.fst e
    have e2 : m.1 = a := congrArg Prod.snd e
    subst e1 e2
    have hz := hZ m hm
    rw [cfL_at hn hl hS m hm] at hv
    cases hc' : c (keyOf m.2) with
    | none => simp [gv, hc'] at hv; omega
    | some b =>
      have hb := hc _ _ hc'
      have g : gv c (keyOf m.2) = b := by simp [gv, hc']
      rw [g] at hv
      have : b = m.1 := by have := hb.1; have := hb.2; omega
      exact ⟨by rw [this], by omega⟩
theorem part_c2 {c : Key → Option Int} {n : Nat} {L : List Mon} (h1n : 1 ≤ n) (hn : n ≤ 3) (hc : MapN c) (hS : Srt L) (hZ : Nzl L) (hl : ∀ m ∈ L, m.2.length = n) (hLl : L.length ≤ 1048576) (hv : ∀ K, gv c K % 10007 = cfL L K % 10007) :
    Con Try.prog 170 [.fmp c, .int n] (.own 111 L.length (omons L)) :=
  part_c c n L h1n hn hS (part_list hn hc hS hZ hl hv) hl hLl
/-- The parts that are there already: none is nil. -/
def ptA (Ls : List (List Mon)) : Nat → AV
  | 0 => .val (.slice none 0 0)
  | i + 1 => .own 95 (i + 1) (oprt (Ls.take (i + 1)))
theorem ptA_zero (Ls : List (List Mon)) : ptA Ls 0 = .val (.slice none 0 0) := rfl
theorem ptA_succ (Ls : List (List Mon)) (i : Nat) : ptA Ls (i + 1) = .own 95 (i + 1) (oprt (Ls.take (i + 1))) := rfl
theorem oprt_snoc (Ls : List (List Mon)) {i : Nat} (h : i < Ls.length) : oprt (Ls.take (i + 1)) = oprt (Ls.take i) ++ [.own 111 (Ls[i]?.getD []).length (omons (Ls[i]?.getD []))] := by
  rw [List.take_add_one, List.getElem?_eq_getElem h, Option.toList_some, oprt_app]; simp [oprt, h]
theorem fmps_drop {cs : List (Key → Option Int)} {k : Nat} (h : k < cs.length) : (cs.map AV.fmp).drop k = .fmp (cs[k]?.getD mzero) :: (cs.drop (k + 1)).map AV.fmp := by
  rw [← List.map_drop, List.drop_eq_getElem_cons h, List.map_cons]; simp [h]
set_option maxRecDepth 100000 in
theorem fieldOf_c (n : Nat) (cs : List (Key → Option Int)) (Ls : List (List Mon)) (hl : cs.length = Ls.length) (h0 : 0 < cs.length) (h3 : cs.length ≤ 3)
    (hp : ∀ i, i < cs.length → Con Try.prog 170 [.fmp (cs[i]?.getD mzero), .int n] (.own 111 (Ls[i]?.getD []).length (omons (Ls[i]?.getD [])))) :
    Con Try.prog 81 [.int n, .sl cs.length (cs.map AV.fmp)] (.agg [.int n, .own 95 Ls.length (oprt Ls)]) := by
  refine con_of_vc Try.mixed ⟨8, [], [], []⟩ Try.func81 (by decide) rfl (by simp) (by decide) (by simp [freshOK, freshL, go_sem]) ?_
  rw [Try.ntmps81]
  simp [go_sem]
  refine loop_inv (5 :: 7 :: List.range' 12 13) (fun i : Nat => [(5, .box 28 [.int n, ptA Ls i]), (12, .int i)]) (fun i => i ≤ cs.length) (fun i => cs.length - i) 0 (by simp) (by simp [go_sem, ptA]) (by simp [go_sem]) ?_
  intro i hi
  simp [go_sem]
  refine ⟨fun h => ?_, fun h => ?_⟩ <;> simp at h
  · have hif := h
    have cp := hp i hif
    rcases i with _ | j
    · simp [go_sem, ptA_zero, fmps_drop hif]
      refine ⟨⟨hif, fun e => by rw [e] at hif; simp at hif⟩, by kernel_rfl, ?_⟩
      refine CallD.of (cp) (by simp [roots, rootsL]) (by decide) ?_
      simp [go_sem]
      refine ⟨by kernel_rfl, ?_⟩
      simp [go_sem]
      have hs := oprt_snoc Ls (i := 0) (by omega)
      refine ⟨1, by omega, by omega, Off_reset _ _ _ (by simp), ?_, by simp⟩
      rw [ptA_succ, hs]
      simp [oprt]
    · simp [go_sem, ptA_succ, fmps_drop hif]
      refine ⟨⟨by omega, by omega, fun e => by rw [e] at hif; simp at hif⟩, by kernel_rfl, ?_⟩
      refine CallD.of (cp) (by simp [roots, rootsL]) (by decide) ?_
      simp [go_sem]
      have hs := oprt_snoc Ls (i := j + 1) (by omega)
      refine ⟨⟨by omega, by omega, by omega⟩, ?_⟩
      refine ⟨by kernel_rfl, ?_⟩
      simp [go_sem]
      refine ⟨by omega, j + 1 + 1, by omega, by omega, Off_reset _ _ _ (by simp), ?_, by omega⟩
      rw [ptA_succ, hs]
  · have e : i = cs.length := by omega
    subst e
    obtain ⟨j, hj⟩ : ∃ j, cs.length = j + 1 := ⟨cs.length - 1, by omega⟩
    have e2 : ptA Ls cs.length = .own 95 Ls.length (oprt Ls) := by
      rw [hj, ptA_succ, ← hj, hl, List.take_length]
    rw [e2]
    simp [go_sem]
end Go.Proofs.Ytjpeakcapddimaa

/- Contracts: held marks of fields. -/
namespace Go.Proofs.Ytjpeakcapddimaa
open Go.Abs
set_option linter.unusedVariables false
set_option linter.unusedSimpArgs false
set_option maxHeartbeats 1000000
/-- Fields that are small enough to be counted. -/
def Tiny (f : List (List Mon)) : Prop := f.length ≤ 3 ∧ ∀ p ∈ f, p.length ≤ 100000 ∧ ∀ m ∈ p, m.2.length ≤ 3
theorem sumC_bound {α : Type} (c : α → Nat) (B : Nat) : ∀ l : List α, (∀ a ∈ l, c a ≤ B) → sumC c l ≤ l.length * B + l.length
  | [], _ => by simp [sumC]
  | a :: l, h => by
    have h1 := h a (by simp)
    have h2 := sumC_bound c B l (fun b hb => h b (by simp [hb]))
    simp only [sumC, List.length_cons, Nat.add_mul, Nat.one_mul]
    omega
theorem Tiny.small {f : List (List Mon)} (h : Tiny f) : f.length ≤ 1048576 ∧ ∀ p ∈ f, p.length ≤ 1048576 ∧ ∀ m ∈ p, m.2.length ≤ 1048576 :=
  ⟨by have := h.1; omega, fun p hp => ⟨by have := (h.2 p hp).1; omega, fun m hm => by have := (h.2 p hp).2 m hm; omega⟩⟩
theorem Tiny.fit {f : List (List Mon)} (h : Tiny f) : Fit f :=
  ⟨by have := h.1; omega, fun p hp => ⟨by have := (h.2 p hp).1; omega, fun m hm => by have := (h.2 p hp).2 m hm; omega⟩⟩
theorem Tiny.count {f : List (List Mon)} (h : Tiny f) : sumC cP f ≤ 10000000 := by
  have h1 : ∀ p ∈ f, cP p ≤ 600000 := fun p hp => by
    have l := (h.2 p hp).1
    have := sumC_bound cM 3 p (fun m hm => (h.2 p hp).2 m hm)
    unfold cP
    omega
  have := sumC_bound cP 600000 f h1
  have := h.1
  omega
theorem marksS_app : ∀ (p q : List Mon) (k : Int), marksS (p ++ q) k = marksS p k ++ marksS q (k + cP p)
  | [], q, k => by simp [marksS, cP, sumC]
  | m :: p, q, k => by
    have e : k + 1 + (m.2.length : Int) + cP p = k + cP (m :: p) := by simp [cP, sumC, cM]; omega
    simp [marksS, marksS_app p q, e]
theorem marksS_at {p : List Mon} {i : Nat} (h : i < p.length) (k : Int) : (marksS p k)[i]?.getD (0, []) = (k + cP (p.take i), marks p[i].2.length (k + cP (p.take i) + 1)) := by
  have hs : marksS p k = marksS (p.take i) k ++ marksS (p.drop i) (k + cP (p.take i)) := by rw [← marksS_app, List.take_append_drop]
  rw [hs, List.getElem?_append_right (by simp; omega), List.drop_eq_getElem_cons h]
  simp [marksS, Nat.min_eq_left (Nat.le_of_lt h)]
theorem heldMonomialS_c (p : List Mon) (k : Int) (hl : p.length ≤ 1048576) (hr : ∀ m ∈ p, m.2.length ≤ 1048576) (h0 : 0 ≤ k) (h1 : k + cP p ≤ 9223372036854775807) :
    Con Try.prog 173 [.sl p.length (mons (marksS p k)), .int k] (.int (k + cP p)) := by
  refine con_of_vc Try.mixed ⟨6, [], [], []⟩ Try.func173 (by decide) rfl (by simp) (by decide) (by simp [freshOK, freshL, go_sem]) ?_
  rw [Try.ntmps173]
  simp [go_sem]
  refine loop_inv (1 :: 4 :: 5 :: List.range' 6 24) (fun i : Nat => [(1, .int (k + cP (p.take i))), (5, .int i)]) (fun i => i ≤ p.length) (fun i => p.length - i) 0 (by simp) (by simp [go_sem, cP, sumC]) (by simp [go_sem]) ?_
  intro i hi
  simp [go_sem]
  refine ⟨fun h => ?_, fun h => ?_⟩ <;> simp at h
  · have hi2 : i < (marksS p k).length := by simpa using h
    have t1 := cP_take h
    have t2 := cP_le p (i + 1)
    have hl2 := hr _ (List.getElem_mem h)
    have e1 := marksS_at h k
    have cH := heldInt64S_c (marks p[i].2.length (k + cP (p.take i) + 1)) (k + cP (p.take i) + 1) (by omega) (by simp [marks]; omega)
    have hml : (marks p[i].2.length (k + cP (p.take i) + 1)).length = p[i].2.length := by simp [marks]
    have hh : held (marks p[i].2.length (k + cP (p.take i) + 1)) (k + cP (p.take i) + 1) = k + cP (p.take i) + 1 + p[i].2.length := held_mark _ _
    rw [hh] at cH
    have hD := mons_drop hi2
    have hD1 := mons_drop1 hi2
    rw [e1] at hD hD1
    generalize (marks p[i].2.length (k + cP (p.take i) + 1)) = M at *
    generalize p[i].2.length = rl at *
    have hn : ¬ marksS p k = [] := fun e => by rw [e] at hi2; simp at hi2
    simp [go_sem, hD, hD1]
    refine ⟨⟨h, hn⟩, ?_⟩
    refine ⟨⟨by omega, by omega⟩, ⟨h, hn⟩, ?_⟩
    refine CallVC.of (cH) (by decide) ?_
    simp [go_sem]
    have p1 : ¬ (k + (cP (p.take i) : Int) + 1 + rl < 0) := by omega
    simp [go_sem, p1]
    exact ⟨by omega, i + 1, by omega, by omega, Off_reset _ _ _ (by simp), by omega, by omega⟩
  · simp [go_sem]
    rw [List.take_of_length_le h]
theorem marksP_app : ∀ (f g : List (List Mon)) (k : Int), marksP (f ++ g) k = marksP f k ++ marksP g (k + sumC cP f)
  | [], g, k => by simp [marksP, sumC]
  | q :: f, g, k => by
    have e : k + (cP q : Int) + sumC cP f = k + sumC cP (q :: f) := by simp [sumC]; omega
    simp [marksP, marksP_app f g, e]
theorem heldMonomialSS_c (f : List (List Mon)) (k : Int) (hl : f.length ≤ 1048576) (hr : ∀ p ∈ f, p.length ≤ 1048576 ∧ ∀ m ∈ p, m.2.length ≤ 1048576) (h0 : 0 ≤ k) (h1 : k + sumC cP f ≤ 9223372036854775807) :
    Con Try.prog 84 [.sl f.length (prt (marksP f k)), .int k] (.int (k + sumC cP f)) := by
  refine con_of_vc Try.mixed ⟨6, [], [], []⟩ Try.func84 (by decide) rfl (by simp) (by decide) (by simp [freshOK, freshL, go_sem]) ?_
  rw [Try.ntmps84]
  simp [go_sem]
  refine loop_inv (1 :: 4 :: 5 :: List.range' 6 14) (fun i : Nat => [(1, .int (k + sumC cP (f.take i))), (5, .int i)]) (fun i => i ≤ f.length) (fun i => f.length - i) 0 (by simp) (by simp [go_sem, sumC]) (by simp [go_sem]) ?_
  intro i hi
  simp [go_sem]
  refine ⟨fun h => ?_, fun h => ?_⟩ <;> simp at h
  · have hi2 : i < (marksP f k).length := by simpa using h
    have t1 := sumC_take cP h
    have t2 := sumC_le cP f (i + 1)
    have hm := hr _ (List.getElem_mem h)
    have e1 : (marksP f k)[i]?.getD [] = marksS f[i] (k + sumC cP (f.take i)) := by
      have hs : marksP f k = marksP (f.take i) k ++ marksP (f.drop i) (k + sumC cP (f.take i)) := by rw [← marksP_app, List.take_append_drop]
      rw [hs, List.getElem?_append_right (by simp; omega), List.drop_eq_getElem_cons h]
      simp [marksP, Nat.min_eq_left hi]
    have cH := heldMonomialS_c f[i] (k + sumC cP (f.take i)) hm.1 hm.2 (by omega) (by omega)
    have hml : (marksS f[i] (k + sumC cP (f.take i))).length = f[i].length := by simp
    generalize marksS f[i] (k + sumC cP (f.take i)) = M at *
    generalize cP f[i] = rl at *
    rw [← hml] at cH
    simp [go_sem, prt_drop hi2, e1]
    refine ⟨⟨h, fun e => by rw [e] at hi2; simp at hi2⟩, ?_⟩
    refine CallVC.of (cH) (by decide) ?_
    simp [go_sem]
    have p1 : ¬ (k + (sumC cP (f.take i) : Int) + rl < 0) := by omega
    simp [go_sem, p1]
    exact ⟨by omega, i + 1, by omega, by omega, Off_reset _ _ _ (by simp), by omega, by omega⟩
  · simp [go_sem]
    rw [List.take_of_length_le h]
theorem heldField_c (z : Int) (f : List (List Mon)) (k : Int) (hl : f.length ≤ 1048576) (hr : ∀ p ∈ f, p.length ≤ 1048576 ∧ ∀ m ∈ p, m.2.length ≤ 1048576) (h0 : 0 ≤ k) (h1 : k + sumC cP f ≤ 9223372036854775807) :
    Con Try.prog 18 [.agg [.int z, .sl f.length (prt (marksP f k))], .int k] (.int (k + sumC cP f)) := by
  refine con_of_vc Try.mixed ⟨5, [], [], []⟩ Try.func18 (by decide) rfl (by simp) (by decide) (by simp [freshOK, freshL, go_sem]) ?_
  rw [Try.ntmps18]
  simp [go_sem]
  refine CallVC.of (heldMonomialSS_c f k hl hr h0 h1) (by decide) ?_
  simp [go_sem]
  have p1 : ¬ (k + (sumC cP f : Int) < 0) := by omega
  simp [go_sem, p1]
end Go.Proofs.Ytjpeakcapddimaa

/- Contracts: sums of fields, the program's and the reference's. -/
namespace Go.Proofs.Ytjpeakcapddimaa
open Go.Abs
set_option linter.unusedVariables false
set_option linter.unusedSimpArgs false
set_option maxHeartbeats 1000000
/-- A field whose parts are nil, seen as one without parts. -/
theorem nF {P : Program} {f : FuncId} {args : List AV} {x z : AV} (e : TypeId) (h : Con P f args (.tup [.agg [z, .val (.slice none 0 0)], x])) : Con P f args (.tup [.agg [z, .own e 0 []], x]) := by
  refine ⟨h.1, fun w vs hl ha => (h.2 w vs hl ha).mono ?_⟩
  rintro e' w' ⟨v, os, he, hb, hr, hn, ho⟩
  refine ⟨v, os, he, hb, fun tm oss => ?_, hn, ho⟩
  have := hr tm oss
  generalize hc : AV.tup [.agg [z, .val (.slice none 0 0)], x] = c at this
  cases this with
  | cell c v os h => subst hc; cases h
  | tup cs' vs os hl h =>
    injection hc with hc; subst hc
    refine .tup _ _ _ hl ?_
    cases h with
    | cons _ v1 o1 _ vs1 o2 k1 k2 =>
      refine .cons _ _ _ _ _ _ ?_ k2
      generalize hc2 : AV.agg [z, .val (.slice none 0 0)] = c2 at k1
      cases k1 with
      | cell c v os h => subst hc2; cases h
      | agg cs2 vs2 os2 hl2 h2 =>
        injection hc2 with hc2; subst hc2
        exact .agg _ _ _ hl2 ((WkL.same _ _ _ (.own e _ _ .nil)).rep h2)
      | _ => simp at hc2
  | _ => simp at hc
def ckE (z : Int) (f : List (List Mon)) (w : Int) (g : List (List Mon)) : Int := if fieldB z f = true then if fieldB w g = true then if z = w then 0 else 1 else 1 else 1
theorem ckE_ok {z w : Int} {f g : List (List Mon)} (h : ckE z f w g = 0) : fieldB z f = true ∧ fieldB w g = true ∧ z = w := by
  unfold ckE at h
  split at h
  · split at h
    · split at h
      · exact ⟨by assumption, by assumption, by assumption⟩
      · simp at h
    · simp at h
  · simp at h
def afL (f g : List (List Mon)) : List (List Mon) := (List.range f.length).map fun i => plusL (f[i]?.getD []) 1 (g[i]?.getD [])
@[simp] theorem afL_len (f g : List (List Mon)) : (afL f g).length = f.length := by simp [afL]
theorem afL_at {f g : List (List Mon)} {i : Nat} (h : i < f.length) : (afL f g)[i]?.getD [] = plusL (f[i]?.getD []) 1 (g[i]?.getD []) := by simp [afL, h]
def afX (z : Int) (f : List (List Mon)) (w : Int) (g : List (List Mon)) : List (List Mon) := if ckE z f w g = 0 then afL f g else []
def afR (z : Int) (f : List (List Mon)) (w : Int) (g : List (List Mon)) : AV := .tup [.agg [.int (if ckE z f w g = 0 then z else 0), .own 95 (afX z f w g).length (oprt (afX z f w g))], .int (ckE z f w g)]
theorem partWok {z : Int} {f : List (List Mon)} (hF : FieldOk z f) {F : List Mon} (h : F ∈ f) : ∀ m ∈ F, WOk f.length 3 m := fun m hm => by
  have := partB_mem (hF.part F h) hm
  have h1 := this.lo
  have h2 := this.hi
  have h3 := this.len
  have zl := hF.len
  exact ⟨⟨by omega, by omega⟩, by omega, this.pw⟩
theorem partSrt {z : Int} {p : List Mon} (h : partB z p = true) : Srt p ∧ Nzl p := by
  refine ⟨?_, fun m hm => ?_⟩
  · unfold Srt
    rw [List.pairwise_iff_getElem]
    intro i j hi hj hij
    have := chain_lt h hij hj
    simpa [hi, hj] using this
  · have := partB_mem h hm
    exact ⟨this.lo, this.hi⟩
set_option maxRecDepth 100000 in
theorem specAddFields_c (z : Int) (f : List (List Mon)) (w : Int) (g : List (List Mon)) (hs : Small f) (hs2 : Small g) :
    Con Try.prog 13 [.agg [.int z, .sl f.length (prt f)], .agg [.int w, .sl g.length (prt g)]] (afR z f w g) := by
  have cT := l13Is_c z f hs
  have cU := l13Is_c w g hs2
  unfold afR afX
  cases hT : fieldB z f with
  | false =>
    rw [hT] at cT
    have e : ckE z f w g = 1 := by unfold ckE; rw [hT]; rfl
    rw [e]
    refine nF _ ?_
    refine con_of_vc Try.mixed ⟨8, [], [], []⟩ Try.func13 (by decide) rfl (by simp) (by decide) (by simp [freshOK, freshL, go_sem]) ?_
    rw [Try.ntmps13]
    simp [go_sem]
    refine CallVC.of (cT) (by decide) ?_
    simp [go_sem]
  | true =>
    rw [hT] at cT
    cases hU : fieldB w g with
    | false =>
      rw [hU] at cU
      have e : ckE z f w g = 1 := by unfold ckE; rw [hT, hU]; rfl
      rw [e]
      refine nF _ ?_
      refine con_of_vc Try.mixed ⟨8, [], [], []⟩ Try.func13 (by decide) rfl (by simp) (by decide) (by simp [freshOK, freshL, go_sem]) ?_
      rw [Try.ntmps13]
      simp [go_sem]
      refine CallVC.of (cT) (by decide) ?_
      simp [go_sem]
      refine CallVC.of (cU) (by decide) ?_
      simp [go_sem]
    | true =>
      rw [hU] at cU
      by_cases hzw : z = w
      · have e : ckE z f w g = 0 := by unfold ckE; rw [hT, hU, if_pos rfl, if_pos rfl, if_pos hzw]
        rw [e, if_pos rfl, if_pos rfl]
        have hF := fieldB_iff.1 hT
        have hG := fieldB_iff.1 hU
        have zl := hF.len
        have wl := hG.len
        have z3 := hF.hi
        have z1 := hF.lo
        have fg : f.length = g.length := by omega
        refine con_of_vc Try.mixed ⟨8, [], [], []⟩ Try.func13 (by decide) rfl (by simp) (by decide) (by simp [freshOK, freshL, go_sem]) ?_
        rw [Try.ntmps13]
        simp [go_sem]
        refine CallVC.of (cT) (by decide) ?_
        simp [go_sem]
        refine CallVC.of (cU) (by decide) ?_
        simp [go_sem]
        simp [go_sem, hzw]
        refine loop_inv (6 :: 7 :: List.range' 27 23) (fun i : Nat => [(6, .box 28 [.int w, ptA (afL f g) i]), (7, .int i)]) (fun i => i ≤ f.length) (fun i => f.length - i) 0 (by simp) (by simp [go_sem, ptA_zero]) (by simp [go_sem]) ?_
        intro i hi
        simp [go_sem]
        refine ⟨fun h => ?_, fun h => ?_⟩ <;> simp at h
        · have hif := h
          have hig : i < g.length := by omega
          have l1 := (hs.2 _ (memD [] hif)).1
          have l2 := (hs2.2 _ (memD [] hig)).1
          have cP := l13Plus_c (f[i]?.getD []) (g[i]?.getD []) (k := 1) (by omega) ⟨by omega, by omega⟩ (partWok hF (memD [] hif)) (fun m hm => by have := partWok hG (memD [] hig) m hm; rwa [← fg] at this) (by omega)
          rw [← afL_at hif] at cP
          have hsn := oprt_snoc (afL f g) (i := i) (by simpa using hif)
          rcases i with _ | j
          · simp [go_sem, ptA_zero, prt_drop hif, prt_drop hig]
            refine ⟨by kernel_rfl, ⟨hif, fun e => by rw [e] at hif; simp at hif⟩, ⟨hig, fun e => by rw [e] at hig; simp at hig⟩, ?_⟩
            refine CallD.of (cP) (by simp [roots, rootsL]) (by decide) ?_
            simp [go_sem]
            refine ⟨by kernel_rfl, ?_⟩
            simp [go_sem]
            refine ⟨1, by omega, by omega, Off_reset _ _ _ (by simp), ?_, by simp⟩
            rw [ptA_succ, hsn]
            simp [oprt]
          · simp [go_sem, ptA_succ, prt_drop hif, prt_drop hig]
            refine ⟨by kernel_rfl, ⟨by omega, by omega, fun e => by rw [e] at hif; simp at hif⟩, ⟨by omega, by omega, fun e => by rw [e] at hig; simp at hig⟩, ?_⟩
            refine CallD.of (cP) (by simp [roots, rootsL]) (by decide) ?_
            simp [go_sem]
            refine ⟨⟨by omega, by omega, by omega⟩, ?_⟩
            refine ⟨by kernel_rfl, ?_⟩
            simp [go_sem]
            refine ⟨by omega, j + 1 + 1, by omega, by omega, Off_reset _ _ _ (by simp), ?_, by omega⟩
            rw [ptA_succ, hsn]
        · have e : i = f.length := by omega
          subst e
          obtain ⟨j, hj⟩ : ∃ j, f.length = j + 1 := ⟨f.length - 1, by omega⟩
          have e2 : ptA (afL f g) f.length = .own 95 (afL f g).length (oprt (afL f g)) := by
            rw [hj, ptA_succ, ← hj, List.take_of_length_le (by simp), afL_len]
          rw [e2]
          simp [go_sem]
      · have e : ckE z f w g = 1 := by unfold ckE; rw [hT, hU, if_pos rfl, if_pos rfl, if_neg hzw]
        rw [e]
        refine nF _ ?_
        refine con_of_vc Try.mixed ⟨8, [], [], []⟩ Try.func13 (by decide) rfl (by simp) (by decide) (by simp [freshOK, freshL, go_sem]) ?_
        rw [Try.ntmps13]
        simp [go_sem]
        refine CallVC.of (cT) (by decide) ?_
        simp [go_sem]
        refine CallVC.of (cU) (by decide) ?_
        simp [go_sem]
        simp [go_sem, hzw]
end Go.Proofs.Ytjpeakcapddimaa

/- Contracts: the program's sums of fields. -/
namespace Go.Proofs.Ytjpeakcapddimaa
open Go.Abs
set_option linter.unusedVariables false
set_option linter.unusedSimpArgs false
set_option maxHeartbeats 1000000
set_option maxRecDepth 100000 in
theorem checkFields_c (z : Int) (f : List (List Mon)) (w : Int) (g : List (List Mon)) (hs : Small f) (hs2 : Small g) :
    Con Try.prog 78 [.agg [.int z, .sl f.length (prt f)], .agg [.int w, .sl g.length (prt g)]] (.int (ckE z f w g)) := by
  have cT := IsField_c z f hs
  have cU := IsField_c w g hs2
  cases hT : fieldB z f with
  | false =>
    rw [hT] at cT
    have e : ckE z f w g = 1 := by unfold ckE; rw [hT]; rfl
    rw [e]
    refine con_of_vc Try.mixed ⟨5, [], [], []⟩ Try.func78 (by decide) rfl (by simp) (by decide) (by simp [freshOK, freshL, go_sem]) ?_
    rw [Try.ntmps78]
    simp [go_sem]
    refine CallVC.of (cT) (by decide) ?_
    simp [go_sem]
  | true =>
    rw [hT] at cT
    cases hU : fieldB w g with
    | false =>
      rw [hU] at cU
      have e : ckE z f w g = 1 := by unfold ckE; rw [hT, hU]; rfl
      rw [e]
      refine con_of_vc Try.mixed ⟨5, [], [], []⟩ Try.func78 (by decide) rfl (by simp) (by decide) (by simp [freshOK, freshL, go_sem]) ?_
      rw [Try.ntmps78]
      simp [go_sem]
      refine CallVC.of (cT) (by decide) ?_
      simp [go_sem]
      refine CallVC.of (cU) (by decide) ?_
      simp [go_sem]
    | true =>
      rw [hU] at cU
      by_cases hzw : z = w
      · have e : ckE z f w g = 0 := by unfold ckE; rw [hT, hU, if_pos rfl, if_pos rfl, if_pos hzw]
        rw [e]
        refine con_of_vc Try.mixed ⟨5, [], [], []⟩ Try.func78 (by decide) rfl (by simp) (by decide) (by simp [freshOK, freshL, go_sem]) ?_
        rw [Try.ntmps78]
        simp [go_sem]
        refine CallVC.of (cT) (by decide) ?_
        simp [go_sem]
        refine CallVC.of (cU) (by decide) ?_
        simp [go_sem]
        simp [go_sem, hzw]
      · have e : ckE z f w g = 1 := by unfold ckE; rw [hT, hU, if_pos rfl, if_pos rfl, if_neg hzw]
        rw [e]
        refine con_of_vc Try.mixed ⟨5, [], [], []⟩ Try.func78 (by decide) rfl (by simp) (by decide) (by simp [freshOK, freshL, go_sem]) ?_
        rw [Try.ntmps78]
        simp [go_sem]
        refine CallVC.of (cT) (by decide) ?_
        simp [go_sem]
        refine CallVC.of (cU) (by decide) ?_
        simp [go_sem]
        simp [go_sem, hzw]
def adM (f g : List (List Mon)) (i : Nat) : List (Key → Option Int) := (List.range f.length).map fun j => if j < i then addM (polF (f[j]?.getD [])) (polF (g[j]?.getD [])) 1 else polF (f[j]?.getD [])
@[simp] theorem adM_len (f g : List (List Mon)) (i : Nat) : (adM f g i).length = f.length := by simp [adM]
theorem adM_zero (f g : List (List Mon)) : (adM f g 0).map AV.mp = pols f := by
  apply List.ext_getElem
  · simp
  · intro j h1 h2
    simp [adM, pols] at h1 ⊢
    simp [h1]
theorem adM_at {f g : List (List Mon)} {i : Nat} (h : i < f.length) : ((adM f g i).map AV.mp)[i]? = some (.mp (polF (f[i]?.getD []))) := by simp [adM, h]
theorem adM_set {f g : List (List Mon)} {i : Nat} (h : i < f.length) : ((adM f g i).map AV.mp).set i (.mp (addM (polF (f[i]?.getD [])) (polF (g[i]?.getD [])) 1)) = (adM f g (i + 1)).map AV.mp := by
  apply List.ext_getElem
  · simp
  · intro j h1 h2
    simp at h1
    by_cases e : i = j
    · subst e; simp [adM]
    · have : (j < i + 1) = (j < i) := by simp; omega
      simp [adM, List.getElem_set, e, this]
theorem adM_end {f g : List (List Mon)} {i : Nat} (h : i < f.length) : (adM f g f.length)[i]?.getD mzero = addM (polF (f[i]?.getD [])) (polF (g[i]?.getD [])) 1 := by simp [adM, h]
theorem mps_frz : ∀ cs : List (Key → Option Int), frzL (cs.map AV.mp) = cs.map AV.fmp
  | [] => rfl
  | c :: cs => by rw [List.map_cons, frzL, mps_frz cs]; rfl
theorem polF_MapN {z : Int} {p : List Mon} (hz : z ≤ 3) (h : partB z p = true) : MapN (polF p) := fun k x hk => (part_entries hz h hk).1
theorem afPart {z w : Int} {f g : List (List Mon)} (hF : FieldOk z f) (hG : FieldOk w g) (hzw : z = w) {i : Nat} (hi : i < f.length) :
    Con Try.prog 170 [.fmp ((adM f g f.length)[i]?.getD mzero), .int f.length] (.own 111 ((afL f g)[i]?.getD []).length (omons ((afL f g)[i]?.getD []))) := by
  have zl := hF.len
  have wl := hG.len
  have z3 := hF.hi
  have z1 := hF.lo
  have hig : i < g.length := by omega
  have fg : f.length = g.length := by omega
  have p1 := hF.part _ (memD [] hi)
  have p2 := hG.part _ (memD [] hig)
  have w1 := partWok hF (memD [] hi)
  have w2 : ∀ m ∈ g[i]?.getD [], WOk f.length 3 m := fun m hm => by have := partWok hG (memD [] hig) m hm; rwa [← fg] at this
  have hS := plusL_srt (k := 1) _ _ w2 w1 (partSrt p1)
  have hW := plusL_wok (k := 1) _ _ w2 w1
  have l1 := part20 z3 p1
  have l2 := part20 (by omega) p2
  have l3 := plusL_len 1 (g[i]?.getD []) (f[i]?.getD [])
  rw [adM_end hi, afL_at hi]
  refine part_c2 (by omega) (by omega) (addM_N (polF_MapN z3 p1)) hS.1 hS.2 (fun m hm => (hW m hm).len) (by omega) (fun K => ?_)
  rw [addM_gv, plusL_cf, polF_gv (keys_nd z3 p1), polF_gv (keys_nd (by omega) p2)]
theorem afX_tiny (z : Int) (f : List (List Mon)) (w : Int) (g : List (List Mon)) : Tiny (afX z f w g) := by
  unfold afX
  split
  · rename_i hE
    obtain ⟨hT, hU, hzw⟩ := ckE_ok hE
    have hF := fieldB_iff.1 hT
    have hG := fieldB_iff.1 hU
    have zl := hF.len
    have wl := hG.len
    have z3 := hF.hi
    have fg : f.length = g.length := by omega
    refine ⟨by simp; omega, fun p hp => ?_⟩
    obtain ⟨i, hi, rfl⟩ := List.mem_map.1 hp
    have hi : i < f.length := by simpa using hi
    have hig : i < g.length := by omega
    have l1 := part20 z3 (hF.part _ (memD [] hi))
    have l2 := part20 (by omega) (hG.part _ (memD [] hig))
    have l3 := plusL_len 1 (g[i]?.getD []) (f[i]?.getD [])
    have hW := plusL_wok (k := 1) (g[i]?.getD []) (f[i]?.getD []) (fun m hm => by have := partWok hG (memD [] hig) m hm; rwa [← fg] at this) (partWok hF (memD [] hi))
    exact ⟨by omega, fun m hm => by have := (hW m hm).len; omega⟩
  · exact ⟨by simp, by simp⟩
set_option maxRecDepth 100000 in
theorem AddFields_c (z : Int) (f : List (List Mon)) (w : Int) (g : List (List Mon)) (hs : Small f) (hs2 : Small g) :
    Con Try.prog 15 [.agg [.int z, .sl f.length (prt f)], .agg [.int w, .sl g.length (prt g)]] (afR z f w g) := by
  have cK := checkFields_c z f w g hs hs2
  unfold afR afX
  by_cases hE : ckE z f w g = 0
  · rw [hE] at cK
    rw [hE, if_pos rfl, if_pos rfl]
    obtain ⟨hT, hU, hzw⟩ := ckE_ok hE
    have hF := fieldB_iff.1 hT
    have hG := fieldB_iff.1 hU
    have zl := hF.len
    have wl := hG.len
    have z3 := hF.hi
    have z1 := hF.lo
    have fg : f.length = g.length := by omega
    have cP := polynomials_c z f hF hs
    have cQ := polynomials_c w g hG hs2
    refine con_of_vc Try.mixed ⟨11, [21], [80], []⟩ Try.func15 (by decide) rfl (by simp) (by decide) (by simp [freshOK, freshL, go_sem]) ?_
    rw [Try.ntmps15]
    simp [go_sem]
    refine CallVC.of (cK) (by decide) ?_
    simp [go_sem]
    refine ⟨by kernel_rfl, ?_⟩
    refine CallD.of (cP) (by simp [roots, rootsL]) (by decide) ?_
    simp [go_sem]
    refine CallD.of (cQ) (by simp [go_sem, roots, rootsL]) (by decide) ?_
    simp [go_sem]
    refine ⟨by kernel_rfl, ?_⟩
    simp [go_sem]
    refine loop_invA (7 :: 9 :: 10 :: 22 :: List.range' 24 12) (9 :: 10 :: List.range' 25 11) (fun i : Nat => [(7, .own 102 f.length ((adM f g i).map AV.mp)), (22, .bor 7 []), (24, .int i)]) (fun i => i ≤ f.length) (fun i => f.length - i) 0 (by intro x i h1 h2; have : i = 7 ∨ i = 22 ∨ i = 24 := (by simp at h1 h2; omega); rcases this with rfl | rfl | rfl <;> rfl) (by intro i h; simp at h ⊢; omega) (by simp) (by simp [go_sem, adM_zero]) (by simp [go_sem, kl]) ?_
    intro i hi
    simp [go_sem]
    refine ⟨fun h => ?_, fun h => ?_⟩ <;> simp at h
    · have hif := h
      have hig : i < g.length := by omega
      have hA := adM_at (g := g) hif
      have hS := adM_set (g := g) hif
      have cA := add_c (polF (f[i]?.getD [])) (polF (g[i]?.getD [])) 1 (polF_MapN z3 (hF.part _ (memD [] hif))) (polF_MapN (by omega) (hG.part _ (memD [] hig))) ⟨by omega, by omega⟩
      have hgl := fpols_drop hig
      generalize hM : (adM f g i).map AV.mp = M at hA hS
      have hML : M.length = f.length := by rw [← hM]; simp
      have hMn : ¬ M = [] := by rintro rfl; simp at hML; omega
      generalize f[i]?.getD [] = p at hA hS cA
      generalize g[i]?.getD [] = q at hgl hS cA
      simp [go_sem, hML, hA, hgl]
      refine ⟨hif, ⟨hig, by rintro rfl; simp at hig⟩, ?_⟩
      refine ⟨_, _, cA, ?_⟩
      simp [go_sem, hML, hif]
      rw [hS]
      refine ⟨by omega, i + 1, by omega, by omega, Off_reset _ _ _ (by simp), ⟨rfl, by omega⟩, by simp [kl]⟩
    · have e : i = f.length := by omega
      subst e
      have cF := fieldOf_c f.length (adM f g f.length) (afL f g) (by simp) (by simp; omega) (by simp; omega) (fun i hi => afPart hF hG hzw (by simpa using hi))
      rw [zl] at cF
      simp only [adM_len, afL_len] at cF
      simp [go_sem, mps_frz]
      refine CallVC.of (cF) (by decide) ?_
      simp [go_sem]
  · have e : ckE z f w g = 1 := by
      unfold ckE at hE ⊢
      split
      · split
        · split
          · simp_all
          · rfl
        · rfl
      · rfl
    rw [e] at cK
    rw [e]
    refine nF _ ?_
    refine con_of_vc Try.mixed ⟨11, [], [80], []⟩ Try.func15 (by decide) rfl (by simp) (by decide) (by simp [freshOK, freshL, go_sem]) ?_
    rw [Try.ntmps15]
    simp [go_sem]
    refine CallVC.of (cK) (by decide) ?_
    simp [go_sem]
end Go.Proofs.Ytjpeakcapddimaa

/- Contracts: multiples of fields, the program's and the reference's. -/
namespace Go.Proofs.Ytjpeakcapddimaa
open Go.Abs
set_option linter.unusedVariables false
set_option linter.unusedSimpArgs false
set_option maxHeartbeats 1000000
def fsE (z : Int) (f : List (List Mon)) (k : Int) : Int := if fieldB z f = true then if 0 ≤ k ∧ k ≤ 10006 then 0 else 2 else 1
def fsL (f : List (List Mon)) (k : Int) : List (List Mon) := f.map fun F => plusL [] k F
@[simp] theorem fsL_len (f : List (List Mon)) (k : Int) : (fsL f k).length = f.length := by simp [fsL]
theorem fsL_at {f : List (List Mon)} {k : Int} {i : Nat} (h : i < f.length) : (fsL f k)[i]?.getD [] = plusL [] k (f[i]?.getD []) := by simp [fsL, h]
def fsX (z : Int) (f : List (List Mon)) (k : Int) : List (List Mon) := if fsE z f k = 0 then fsL f k else []
def fsR (z : Int) (f : List (List Mon)) (k : Int) : AV := .tup [.agg [.int (if fsE z f k = 0 then z else 0), .own 95 (fsX z f k).length (oprt (fsX z f k))], .int (fsE z f k)]
def fsM (f : List (List Mon)) (k : Int) (i : Nat) : List (Key → Option Int) := (f.take i).map fun F => addM mzero (polF F) k
@[simp] theorem fsM_len (f : List (List Mon)) (k : Int) (i : Nat) : (fsM f k i).length = min i f.length := by simp [fsM]
theorem fsM_snoc {f : List (List Mon)} {k : Int} {i : Nat} (h : i < f.length) : (fsM f k (i + 1)).map AV.mp = (fsM f k i).map AV.mp ++ [.mp (addM mzero (polF (f[i]?.getD [])) k)] := by
  rw [fsM, fsM, List.take_add_one, List.getElem?_eq_getElem h, Option.toList_some, List.map_append, List.map_append, Option.getD_some]; rfl
theorem fsM_at {f : List (List Mon)} {k : Int} {i : Nat} (h : i < f.length) : (fsM f k f.length)[i]?.getD mzero = addM mzero (polF (f[i]?.getD [])) k := by simp [fsM, h]
theorem fsPart {z k : Int} {f : List (List Mon)} (hF : FieldOk z f) (hk : 0 ≤ k ∧ k ≤ 10006) {i : Nat} (hi : i < f.length) :
    Con Try.prog 170 [.fmp ((fsM f k f.length)[i]?.getD mzero), .int f.length] (.own 111 ((fsL f k)[i]?.getD []).length (omons ((fsL f k)[i]?.getD []))) := by
  have zl := hF.len
  have z3 := hF.hi
  have z1 := hF.lo
  have p1 := hF.part _ (memD [] hi)
  have w1 := partWok hF (memD [] hi)
  have hS := plusL_srt (k := k) _ [] w1 (by simp) ⟨List.Pairwise.nil, by simp [Nzl]⟩
  have hW := plusL_wok (k := k) _ [] w1 (by simp)
  have l1 := part20 z3 p1
  have l3 := plusL_len k (f[i]?.getD []) []
  rw [fsM_at hi, fsL_at hi]
  refine part_c2 (by omega) (by omega) (addM_N (fun k x h => by simp [mzero] at h)) hS.1 hS.2 (fun m hm => (hW m hm).len) (by simp at l3; omega) (fun K => ?_)
  rw [addM_gv, plusL_cf, polF_gv (keys_nd z3 p1)]
  rfl
theorem fsX_tiny (z : Int) (f : List (List Mon)) (k : Int) : Tiny (fsX z f k) := by
  unfold fsX
  split
  · rename_i hE
    have hT : fieldB z f = true := by
      unfold fsE at hE
      split at hE
      · assumption
      · simp at hE
    have hF := fieldB_iff.1 hT
    have zl := hF.len
    have z3 := hF.hi
    refine ⟨by simp; omega, fun p hp => ?_⟩
    obtain ⟨F, hm, rfl⟩ := List.mem_map.1 hp
    have l1 := part20 z3 (hF.part _ hm)
    have l3 := plusL_len k F []
    have hW := plusL_wok (k := k) F [] (partWok hF hm) (by simp)
    exact ⟨by simp at l3; omega, fun m hm => by have := (hW m hm).len; omega⟩
  · exact ⟨by simp, by simp⟩
set_option maxRecDepth 100000 in
theorem ScaleField_c (z : Int) (f : List (List Mon)) (k : Int) (hs : Small f) :
    Con Try.prog 20 [.agg [.int z, .sl f.length (prt f)], .int k] (fsR z f k) := by
  have cT := IsField_c z f hs
  unfold fsR fsX
  cases hT : fieldB z f with
  | false =>
    rw [hT] at cT
    have e : fsE z f k = 1 := by unfold fsE; rw [hT]; rfl
    rw [e]
    refine nF _ ?_
    refine con_of_vc Try.mixed ⟨10, [], [], []⟩ Try.func20 (by decide) rfl (by simp) (by decide) (by simp [freshOK, freshL, go_sem]) ?_
    rw [Try.ntmps20]
    simp [go_sem]
    refine CallVC.of (cT) (by decide) ?_
    simp [go_sem]
  | true =>
    rw [hT] at cT
    have cN := IsNumber_c k
    by_cases hk : 0 ≤ k ∧ k ≤ 10006
    · have e : fsE z f k = 0 := by unfold fsE; rw [hT, if_pos rfl, if_pos hk]
      rw [e, if_pos rfl, if_pos rfl]
      rw [decide_eq_true hk] at cN
      have hF := fieldB_iff.1 hT
      have zl := hF.len
      have z3 := hF.hi
      have z1 := hF.lo
      have cP := polynomials_c z f hF hs
      refine con_of_vc Try.mixed ⟨10, [22], [80], []⟩ Try.func20 (by decide) rfl (by simp) (by decide) (by simp [freshOK, freshL, go_sem]) ?_
      rw [Try.ntmps20]
      simp [go_sem]
      refine CallVC.of (cT) (by decide) ?_
      simp [go_sem]
      refine CallVC.of (cN) (by decide) ?_
      simp [go_sem]
      refine CallVC.of (cP) (by decide) ?_
      simp [go_sem]
      refine loop_inv (6 :: 8 :: 9 :: List.range' 24 14) (fun i : Nat => [(6, .own 102 i ((fsM f k i).map AV.mp)), (24, .int i)]) (fun i => i ≤ f.length) (fun i => f.length - i) 0 (by simp) (by simp [go_sem, fsM]) (by simp [go_sem]) ?_
      intro i hi
      simp [go_sem]
      refine ⟨fun h => ?_, fun h => ?_⟩ <;> simp at h
      · have hif := h
        have cA := add_c mzero (polF (f[i]?.getD [])) k (fun k x h => by simp [mzero] at h) (polF_MapN z3 (hF.part _ (memD [] hif))) ⟨by omega, by omega⟩
        have hsn := fsM_snoc (k := k) hif
        simp [go_sem, fpols_drop hif]
        refine ⟨⟨hif, by rintro rfl; simp at hif⟩, ?_⟩
        refine ⟨_, _, cA, ?_⟩
        simp [go_sem]
        refine ⟨⟨by omega, by omega, by omega⟩, ⟨by omega, by omega⟩, i + 1, by omega, by omega, Off_reset _ _ _ (by simp), ?_, by omega⟩
        exact ⟨rfl, hsn.symm⟩
      · have e : i = f.length := by omega
        subst e
        have cF := fieldOf_c f.length (fsM f k f.length) (fsL f k) (by simp) (by simp; omega) (by simp; omega) (fun i hi => fsPart hF hk (by simpa using hi))
        rw [zl] at cF
        simp [go_sem, mps_frz]
        simp only [fsM_len, Nat.min_self, fsL_len] at cF
        refine CallVC.of (cF) (by decide) ?_
        simp [go_sem]
    · have e : fsE z f k = 2 := by unfold fsE; rw [hT, if_pos rfl, if_neg hk]
      rw [e]
      rw [decide_eq_false hk] at cN
      refine nF _ ?_
      refine con_of_vc Try.mixed ⟨10, [], [], []⟩ Try.func20 (by decide) rfl (by simp) (by decide) (by simp [freshOK, freshL, go_sem]) ?_
      rw [Try.ntmps20]
      simp [go_sem]
      refine CallVC.of (cT) (by decide) ?_
      simp [go_sem]
      refine CallVC.of (cN) (by decide) ?_
      simp [go_sem]
set_option maxRecDepth 100000 in
theorem specScaleField_c (z : Int) (f : List (List Mon)) (k : Int) (hs : Small f) :
    Con Try.prog 19 [.agg [.int z, .sl f.length (prt f)], .int k] (fsR z f k) := by
  have cT := l13Is_c z f hs
  unfold fsR fsX
  cases hT : fieldB z f with
  | false =>
    rw [hT] at cT
    have e : fsE z f k = 1 := by unfold fsE; rw [hT]; rfl
    rw [e]
    refine nF _ ?_
    refine con_of_vc Try.mixed ⟨8, [], [], []⟩ Try.func19 (by decide) rfl (by simp) (by decide) (by simp [freshOK, freshL, go_sem]) ?_
    rw [Try.ntmps19]
    simp [go_sem]
    refine CallVC.of (cT) (by decide) ?_
    simp [go_sem]
  | true =>
    rw [hT] at cT
    have cN := specIsNumber_c k
    by_cases hk : 0 ≤ k ∧ k ≤ 10006
    · have e : fsE z f k = 0 := by unfold fsE; rw [hT, if_pos rfl, if_pos hk]
      rw [e, if_pos rfl, if_pos rfl]
      rw [decide_eq_true hk] at cN
      have hF := fieldB_iff.1 hT
      have zl := hF.len
      have z3 := hF.hi
      have z1 := hF.lo
      refine con_of_vc Try.mixed ⟨8, [], [], []⟩ Try.func19 (by decide) rfl (by simp) (by decide) (by simp [freshOK, freshL, go_sem]) ?_
      rw [Try.ntmps19]
      simp [go_sem]
      refine CallVC.of (cT) (by decide) ?_
      simp [go_sem]
      refine CallVC.of (cN) (by decide) ?_
      simp [go_sem]
      refine loop_inv (6 :: 7 :: List.range' 19 20) (fun i : Nat => [(6, .box 28 [.int z, ptA (fsL f k) i]), (7, .int i)]) (fun i => i ≤ f.length) (fun i => f.length - i) 0 (by simp) (by simp [go_sem, ptA_zero]) (by simp [go_sem]) ?_
      intro i hi
      simp [go_sem]
      refine ⟨fun h => ?_, fun h => ?_⟩ <;> simp at h
      · have hif := h
        have l1 := (hs.2 _ (memD [] hif)).1
        have cP := l13Plus_c [] (f[i]?.getD []) (k := k) (by omega) ⟨hk.1, by omega⟩ (by simp) (partWok hF (memD [] hif)) (by simp; omega)
        rw [← fsL_at hif] at cP
        simp only [List.length_nil] at cP
        have hsn := oprt_snoc (fsL f k) (i := i) (by simpa using hif)
        rcases i with _ | j
        · simp [go_sem, ptA_zero, prt_drop hif]
          refine ⟨by kernel_rfl, ⟨hif, fun e => by rw [e] at hif; simp at hif⟩, ?_⟩
          refine CallD.of (cP) (by simp [roots, rootsL]) (by decide) ?_
          simp [go_sem]
          refine ⟨by kernel_rfl, ?_⟩
          simp [go_sem]
          refine ⟨1, by omega, by omega, Off_reset _ _ _ (by simp), ?_, by simp⟩
          rw [ptA_succ, hsn]
          simp [oprt]
        · simp [go_sem, ptA_succ, prt_drop hif]
          refine ⟨by kernel_rfl, ⟨by omega, by omega, fun e => by rw [e] at hif; simp at hif⟩, ?_⟩
          refine CallD.of (cP) (by simp [roots, rootsL]) (by decide) ?_
          simp [go_sem]
          refine ⟨⟨by omega, by omega, by omega⟩, ?_⟩
          refine ⟨by kernel_rfl, ?_⟩
          simp [go_sem]
          refine ⟨by omega, j + 1 + 1, by omega, by omega, Off_reset _ _ _ (by simp), ?_, by omega⟩
          rw [ptA_succ, hsn]
      · have e : i = f.length := by omega
        subst e
        obtain ⟨j, hj⟩ : ∃ j, f.length = j + 1 := ⟨f.length - 1, by omega⟩
        have e2 : ptA (fsL f k) f.length = .own 95 (fsL f k).length (oprt (fsL f k)) := by
          rw [hj, ptA_succ, ← hj, List.take_of_length_le (by simp), fsL_len]
        rw [e2]
        simp [go_sem]
    · have e : fsE z f k = 2 := by unfold fsE; rw [hT, if_pos rfl, if_neg hk]
      rw [e]
      rw [decide_eq_false hk] at cN
      refine nF _ ?_
      refine con_of_vc Try.mixed ⟨8, [], [], []⟩ Try.func19 (by decide) rfl (by simp) (by decide) (by simp [freshOK, freshL, go_sem]) ?_
      rw [Try.ntmps19]
      simp [go_sem]
      refine CallVC.of (cT) (by decide) ?_
      simp [go_sem]
      refine CallVC.of (cN) (by decide) ?_
      simp [go_sem]
end Go.Proofs.Ytjpeakcapddimaa

/- Contracts: explicit steps, the program's and the reference's. -/
namespace Go.Proofs.Ytjpeakcapddimaa
open Go.Abs
set_option linter.unusedVariables false
set_option linter.unusedSimpArgs false
set_option maxHeartbeats 1000000
@[go_sem] theorem klW_bor (W : List Nat) (s : Nat) (p : List Nat) : kl W (.bor s p) = if W.contains s then .any else .bor s p := by rw [kl]
@[go_sem] theorem klW_ptr (W : List Nat) (s : Nat) (p : List Nat) (o : Nat) : kl W (.ptr s p o) = if W.contains s then .any else .ptr s p o := by rw [kl]
/-- The place of a stage; the values and the point after some stages. -/
def plF (h : Int) (row : List Int) (vs : List (List Int)) (y : List Int) : Nat → List Int
  | 0 => y
  | k + 1 => plusS (plF h row vs y k) (vs[k]?.getD []) (h * row[k]?.getD 0 % 10007)
def exF (A : List (List Int)) (B : List Int) (f : List (List Mon)) (y : List Int) (h : Int) : Nat → List (List Int) × List Int
  | 0 => ([], y)
  | i + 1 => ((exF A B f y h i).1 ++ [evL (plF h (A[i]?.getD []) (exF A B f y h i).1 y i) f], plusS (exF A B f y h i).2 (evL (plF h (A[i]?.getD []) (exF A B f y h i).1 y i) f) (h * B[i]?.getD 0 % 10007))
theorem plF_len (h : Int) (row : List Int) (vs : List (List Int)) (y : List Int) : ∀ k, (plF h row vs y k).length = y.length
  | 0 => rfl
  | k + 1 => by rw [plF, plusS_len, plF_len h row vs y k]
theorem plF_N {h : Int} {row : List Int} {vs : List (List Int)} {y : List Int} (hy : Ns y) : ∀ k, Ns (plF h row vs y k)
  | 0 => hy
  | k + 1 => plusS_N _ _ _
theorem evL_N (y : List Int) (f : List (List Mon)) : Ns (evL y f) := by
  intro x hx
  obtain ⟨p, _, rfl⟩ := List.mem_map.1 hx
  exact isN_mod _
theorem exF_len1 (A : List (List Int)) (B : List Int) (f : List (List Mon)) (y : List Int) (h : Int) : ∀ i, (exF A B f y h i).1.length = i
  | 0 => rfl
  | i + 1 => by simp [exF, exF_len1 A B f y h i]
theorem exF_mem {A : List (List Int)} {B : List Int} {f : List (List Mon)} {y : List Int} {h : Int} : ∀ i, ∀ v ∈ (exF A B f y h i).1, v.length = f.length ∧ Ns v
  | 0 => by simp [exF]
  | i + 1 => by
    intro v hv
    rw [exF] at hv
    rcases List.mem_append.1 hv with hv | hv
    · exact exF_mem i v hv
    · simp at hv; subst hv; exact ⟨by simp, evL_N _ _⟩
theorem exF_len2 (A : List (List Int)) (B : List Int) (f : List (List Mon)) (y : List Int) (h : Int) : ∀ i, (exF A B f y h i).2.length = y.length
  | 0 => rfl
  | i + 1 => by simp [exF, exF_len2 A B f y h i]
theorem exF_N2 {A : List (List Int)} {B : List Int} {f : List (List Mon)} {y : List Int} {h : Int} (hy : Ns y) : ∀ i, Ns (exF A B f y h i).2
  | 0 => hy
  | i + 1 => plusS_N _ _ _
theorem omat_get {A : List (List Int)} {k : Nat} (h : k < A.length) : (omat A)[k]? = some (.own 2 (A[k]?.getD []).length (avs (A[k]?.getD []))) := by simp [omat, h]
theorem omat_snoc_get {A : List (List Int)} {v : List Int} {n : Nat} {i : Nat} (h : A.length = i) (hn : v.length = n) : (omat A ++ [.own 2 n (avs v)])[i]? = some (.own 2 n (avs v)) := by
  rw [List.getElem?_append_right (by simp; omega)]
  simp [h]
theorem add_times {a b : List Int} {k : Int} (hk : isN k) (h : a.length ≤ b.length) :
    tb (fun i => (a[i]?.getD 0 + (tb (fun j => b[j]?.getD 0 * k % 10007) b.length)[i]?.getD 0) % 10007) a.length = plusS a b k := by
  unfold plusS
  unfold tb
  refine List.map_congr_left fun i hi => ?_
  have hi2 : i < b.length := by simp at hi; omega
  have e := tb_get (fun j => b[j]?.getD 0 * k % 10007) hi2
  unfold tb at e
  simp only [e]
  rw [Int.emod_eq_of_lt hk.1 (by have := hk.2; omega), Int.mul_comm k]
  omega
end Go.Proofs.Ytjpeakcapddimaa

/- Contracts: runs of explicit steps, the program's and the reference's. -/
namespace Go.Proofs.Ytjpeakcapddimaa
open Go.Abs
set_option linter.unusedVariables false
set_option linter.unusedSimpArgs false
set_option maxHeartbeats 1000000
def itF (A : List (List Int)) (B : List Int) (f : List (List Mon)) (y : List Int) (h : Int) : Nat → List Int
  | 0 => y
  | i + 1 => (exF A B f (itF A B f y h i) h A.length).2
theorem itF_len (A : List (List Int)) (B : List Int) (f : List (List Mon)) (y : List Int) (h : Int) : ∀ i, (itF A B f y h i).length = y.length
  | 0 => rfl
  | i + 1 => by rw [itF, exF_len2, itF_len A B f y h i]
theorem itF_N {A : List (List Int)} {B : List Int} {f : List (List Mon)} {y : List Int} {h : Int} (hy : Ns y) : ∀ i, Ns (itF A B f y h i)
  | 0 => hy
  | i + 1 => exF_N2 (itF_N hy i) _
def stE (A : List (List Int)) (B : List Int) (z : Int) (f : List (List Mon)) (y : List Int) : Int := if (tabB A B && fieldB z f) = false then 1 else if vecB z y = false then 2 else 0
def rsE (A : List (List Int)) (B : List Int) (z : Int) (f : List (List Mon)) (y : List Int) (h n : Int) : Int := if stE A B z f y = 0 then (if (0 ≤ h ∧ h ≤ 10006) ∧ 0 ≤ n ∧ n ≤ 1000 then (if lowB A 0 = true then 0 else 5) else 2) else stE A B z f y
def rsX (A : List (List Int)) (B : List Int) (z : Int) (f : List (List Mon)) (y : List Int) (h n : Int) : List Int := if rsE A B z f y h n = 0 then itF A B f y h n.toNat else []
def rsR (A : List (List Int)) (B : List Int) (z : Int) (f : List (List Mon)) (y : List Int) (h n : Int) : AV := .tup [.own 2 (rsX A B z f y h n).length (avs (rsX A B z f y h n)), .int (rsE A B z f y h n)]
theorem rsX_len (A : List (List Int)) (B : List Int) (z : Int) (f : List (List Mon)) (y : List Int) (h n : Int) : (rsX A B z f y h n).length ≤ y.length := by
  unfold rsX; split <;> simp [itF_len]
theorem stE_zero {A : List (List Int)} {B : List Int} {z : Int} {f : List (List Mon)} {y : List Int} (h : stE A B z f y = 0) : tabB A B = true ∧ fieldB z f = true ∧ vecB z y = true := by
  unfold stE at h
  generalize tabB A B = a at *
  generalize fieldB z f = b at *
  generalize vecB z y = c at *
  cases a <;> cases b <;> cases c <;> simp_all
end Go.Proofs.Ytjpeakcapddimaa

/- Contracts: the reference's run of explicit steps. -/
namespace Go.Proofs.Ytjpeakcapddimaa
open Go.Abs
set_option linter.unusedVariables false
set_option linter.unusedSimpArgs false
set_option maxHeartbeats 1000000
end Go.Proofs.Ytjpeakcapddimaa

/- Contracts: one explicit step, the program's and the reference's. -/
namespace Go.Proofs.Ytjpeakcapddimaa
open Go.Abs
set_option linter.unusedVariables false
set_option linter.unusedSimpArgs false
set_option maxHeartbeats 1000000
end Go.Proofs.Ytjpeakcapddimaa

/- Contracts: derivatives at points for vectors, the reference's and the program's. -/
namespace Go.Proofs.Ytjpeakcapddimaa
open Go.Abs
set_option linter.unusedVariables false
set_option linter.unusedSimpArgs false
set_option maxHeartbeats 1000000
def sum3 (k : Key) : Int := k.1 + k.2.1 + k.2.2
def DegLe (C : Key → Int) (D : Int) : Prop := ∀ k, NN k → D < sum3 k → C k = 0
theorem sum3_inc (i : Nat) (k : Key) : sum3 (inc i k) = sum3 k + 1 := by
  obtain ⟨a, b, c⟩ := k
  unfold inc sum3
  split
  · simp; omega
  · split <;> (simp; omega)
theorem DegLe.der {C : Key → Int} {D : Int} (h : DegLe C D) (i : Nat) : DegLe (der i C) (D - 1) := by
  intro k hk hd
  unfold Go.Proofs.Ytjpeakcapddimaa.der
  rw [h (inc i k) (hk.inc i) (by rw [sum3_inc]; omega), Int.mul_zero]
theorem DegLe.alo {C : Key → Int} {D : Int} (h : DegLe C D) (v : Nat → Int) : ∀ n, DegLe (alo v C n) (D - 1)
  | 0 => fun _ _ _ => rfl
  | n + 1 => fun k hk hd => by
    show Go.Proofs.Ytjpeakcapddimaa.alo v C n k + v n * Go.Proofs.Ytjpeakcapddimaa.der n C k = 0
    rw [DegLe.alo h v n k hk hd, h.der n k hk hd]; simp
theorem DegLe.dv {n : Nat} : ∀ (vs : List (List Int)) {C : Key → Int} {D : Int}, DegLe C D → DegLe (Dv n vs C) (D - vs.length)
  | [], C, D, h => by simpa [Dv] using h
  | v :: vs, C, D, h => by
    have := DegLe.dv (n := n) vs (h.alo (yat v) n)
    rw [Dv]
    intro k hk hd
    exact this k hk (by simp at hd; omega)
theorem sum3_key {e : List Int} (h : e.length ≤ 3) : sum3 (keyOf e) = e.sum := by
  match e, h with
  | [], _ => rfl
  | [a], _ => simp [sum3, keyOf]
  | [a, b], _ => simp [sum3, keyOf]
  | [a, b, c], _ => simp [sum3, keyOf]; omega
theorem part_deg {n : Nat} {p : List Mon} (hn : n ≤ 3) (hp : partB (n : Int) p = true) : DegLe (cfL p) 3 := by
  intro k hk hd
  unfold cfL coef
  refine sumI_zero (fun m hm => if_neg (fun e => ?_))
  have ho := partB_mem hp hm
  have := ho.deg
  rw [e, sum3_key (by have := ho.len; omega)] at hd
  omega
theorem along_zero {n : Nat} {p : List Mon} {y : List Int} (hn : n ≤ 3) (hp : partB (n : Int) p = true) (vs : List (List Int)) (hv : 3 < vs.length) :
    Val (yat y) (gv (DvM n vs (polF p))) % 10007 = 0 := by
  rw [Val_eqv _ (DvM_gv n vs (polF p))]
  have e : gv (polF p) = cfL p := funext (polF_gv (keys_nd (by omega) hp))
  rw [e]
  have hd := (part_deg hn hp).dv (n := n) vs
  have : Val (yat y) (Dv n vs (cfL p)) = 0 := by
    unfold Val
    refine sumI_zero (fun k hk => ?_)
    have hN := NN.box hk
    obtain ⟨a, b, c⟩ := hN
    rw [hd k (NN.box hk) (by unfold sum3; omega), Int.zero_mul]
  rw [this]; rfl
theorem DvM_snoc (n : Nat) (v : List Int) : ∀ (vs : List (List Int)) (c : Key → Option Int), DvM n (vs ++ [v]) c = aloM v (DvM n vs c) n
  | [], c => rfl
  | u :: vs, c => by rw [List.cons_append, DvM, DvM_snoc n v vs, DvM]
theorem DvM_take {n : Nat} {vs : List (List Int)} {i : Nat} (h : i < vs.length) (c : Key → Option Int) : DvM n (vs.take (i + 1)) c = aloM (vs[i]?.getD []) (DvM n (vs.take i) c) n := by
  rw [List.take_add_one, List.getElem?_eq_getElem h, Option.toList_some, DvM_snoc]; rfl
theorem DvM_kok {n : Nat} (hn : n ≤ 3) : ∀ (vs : List (List Int)) {c : Key → Option Int}, (∀ k x, c k = some x → isN x ∧ KOk n k) → ∀ k x, DvM n vs c k = some x → isN x ∧ KOk n k
  | [], c, h => h
  | v :: vs, c, h => DvM_kok hn vs (aloM_kok hn h n (Nat.le_refl n))
/-- The derivative of a part. -/
def drvP (y : List Int) (n : Nat) (vs : List (List Int)) (p : List Mon) : Int := if 3 < vs.length then 0 else alongS y n vs p % 10007
def drvL (y : List Int) (n : Nat) (vs : List (List Int)) (f : List (List Mon)) : List Int := f.map (drvP y n vs)
@[simp] theorem drvL_len (y : List Int) (n : Nat) (vs : List (List Int)) (f : List (List Mon)) : (drvL y n vs f).length = f.length := by simp [drvL]
theorem drvL_take {y : List Int} {n : Nat} {vs : List (List Int)} {f : List (List Mon)} {i : Nat} (h : i < f.length) : drvL y n vs (f.take (i + 1)) = drvL y n vs (f.take i) ++ [drvP y n vs (f[i]?.getD [])] := by
  rw [drvL, drvL, List.take_add_one, List.map_append, List.getElem?_eq_getElem h]; rfl
theorem drvP_eq {n : Nat} {p : List Mon} {y : List Int} (hn : n ≤ 3) (hl : y.length = n) (hp : partB (n : Int) p = true) (vs : List (List Int)) :
    Val (yat y) (gv (DvM n vs (polF p))) % 10007 = drvP y n vs p := by
  unfold drvP
  by_cases h : 3 < vs.length
  · rw [if_pos h, along_zero hn hp vs h]
  · rw [if_neg h, along_eq hn hl hp vs]
@[simp] theorem mat_frz (A : List (List Int)) : frzL (mat A) = mat A := by
  induction A with
  | nil => rfl
  | cons r A ih => simp only [mat, List.map_cons, frzL] at ih ⊢; rw [ih]; rfl
/-- Vectors of n numbers. -/
def Vecs (n : Nat) (vs : List (List Int)) : Prop := ∀ v ∈ vs, v.length = n ∧ Ns v
set_option maxRecDepth 100000 in
theorem derivativeAt_c (z : Int) (f : List (List Mon)) (y : List Int) (vs : List (List Int)) (hf : FieldOk z f) (hs : Small f) (hy : Ns y) (hl : (y.length : Int) = z) (hv : Vecs y.length vs) (hvl : vs.length ≤ 1048576) :
    Con Try.prog 140 [.sl f.length (fpols f), .sl y.length (avs y), .sl vs.length (mat vs)] (.own 2 f.length (avs (drvL y y.length vs f))) := by
  have fl := hs.1
  have z3 := hf.hi
  refine con_of_vc Try.mixed ⟨12, [27], [], []⟩ Try.func140 (by decide) rfl (by simp) (by decide) (by simp [freshOK, freshL, go_sem]) ?_
  rw [Try.ntmps140]
  simp [go_sem]
  refine loop_inv (7 :: 9 :: 11 :: List.range' 15 21) (fun i : Nat => [(7, .own 2 i (avs (drvL y y.length vs (f.take i)))), (15, .int i)]) (fun i => i ≤ f.length) (fun i => f.length - i) 0 (by simp) (by simp [go_sem, drvL]) (by simp [go_sem]) ?_
  intro i hi
  simp [go_sem]
  refine ⟨fun h => ?_, fun h => ?_⟩ <;> simp at h
  · have hif := h
    have hx : f[i]?.getD [] ∈ f := by simp [h]
    have hdl := drvL_take (y := y) (n := y.length) (vs := vs) h
    have hpp : partB (y.length : Int) (f[i]?.getD []) = true := by rw [hl]; exact hf.part _ hx
    have hq : ∀ kk x, polF (f[i]?.getD []) kk = some x → isN x ∧ KOk y.length kk := fun kk x hkx => polF_kok (by omega) hpp hkx
    simp [go_sem, fpols_drop hif]
    refine ⟨⟨hif, by rintro rfl; simp at hif⟩, ?_⟩
    refine loop_inv (9 :: 11 :: List.range' 21 8) (fun j : Nat => [(9, .fmp (DvM y.length (vs.take j) (polF (f[i]?.getD [])))), (21, .int j)]) (fun j => j ≤ vs.length) (fun j => vs.length - j) 0 (by simp) (by simp [go_sem, DvM]) (by simp [go_sem]) ?_
    intro j hj
    simp [go_sem]
    refine ⟨fun h => ?_, fun h => ?_⟩ <;> simp at h
    · have hvm : vs[j]?.getD [] ∈ vs := by simp [h]
      have hvj := hv _ hvm
      have cA := along_c (n := y.length) (DvM y.length (vs.take j) (polF (f[i]?.getD []))) (vs[j]?.getD []) hvj.2 hvj.1 (by omega) (DvM_kok (by omega) _ hq)
      have ht := DvM_take (n := y.length) h (polF (f[i]?.getD []))
      simp [go_sem, mat_drop h]
      refine ⟨⟨h, by rintro rfl; simp at h⟩, ?_⟩
      refine CallVC.of (cA) (by decide) ?_
      simp [go_sem]
      exact ⟨by omega, j + 1, by omega, by omega, Off_reset _ _ _ (by simp), ht.symm, by omega⟩
    · have e : j = vs.length := by omega
      subst e
      have cV := value_c2 (DvM y.length vs (polF (f[i]?.getD []))) y hy (by omega) (DvM_kok (by omega) _ hq)
      rw [drvP_eq (by omega) rfl hpp] at cV
      rw [List.take_length]
      simp [go_sem]
      refine CallVC.of (cV) (by decide) ?_
      simp [go_sem]
      exact ⟨by omega, by omega, i + 1, by omega, by omega, (Off.reset (by intro x hx; simp at hx ⊢; omega) (by simp) (by simp [go_sem, Off_reset])), by rw [hdl]; simp [avs_snoc], by omega⟩
  · simp [go_sem]
    have e : i = f.length := by omega
    subst e; simp
theorem add_mul_mod (s a b : Int) : (s % 10007 + a * (b % 10007) % 10007) % 10007 = (s + a * b) % 10007 := by
  rw [mod_mul_r, ← Int.add_emod]
set_option maxRecDepth 100000 in
theorem l13Along_c {n : Nat} (y : List Int) (hy : Ns y) (hl : y.length = n) (hn : n ≤ 3) : ∀ (vs : List (List Int)) (p : List Mon), Vecs n vs → vs.length ≤ 1048576 → (∀ m ∈ p, WOk n 3 m) → p.length ≤ 1048576 →
    Con Try.prog 212 [.sl p.length (mons p), .sl y.length (avs y), .sl vs.length (mat vs)] (.int (alongS y n vs p % 10007))
  | [], p, _, _, hp, hpl => by
    have cV := l13ValueW_c (B := 3) p y hy (by omega) (by omega) (by omega) (by omega) (by rw [hl]; exact hp)
    refine con_of_vc Try.mixed ⟨9, [], [], []⟩ Try.func212 (by decide) rfl (by simp) (by decide) (by simp [freshOK, freshL, go_sem]) ?_
    rw [Try.ntmps212]
    simp [go_sem]
    refine CallVC.of (cV) (by decide) ?_
    simp [go_sem]
    rfl
  | v :: vs, p, hv, hvl, hp, hpl => by
    have hv0 := hv v (by simp)
    have em : mat (v :: vs) = .sl v.length (avs v) :: mat vs := rfl
    have el : ((v :: vs).length : Int) = (vs.length : Int) + 1 := by simp
    have ih := fun q hq hql => l13Along_c (n := n) y hy hl hn vs q (fun u hu => hv u (by simp [hu])) (by simp at hvl; omega) hq hql
    simp at hvl
    rw [em]
    refine con_of_vc Try.mixed ⟨9, [], [], []⟩ Try.func212 (by decide) rfl (by simp) (by decide) (by simp [freshOK, freshL, go_sem]) ?_
    rw [Try.ntmps212]
    simp [go_sem]
    refine ⟨fun h => ?_, fun h => ?_⟩
    · simp at h; omega
    simp [go_sem]
    refine loop_inv (7 :: 8 :: List.range' 15 22) (fun k : Nat => [(7, .int (sumTo (fun k => yat v k * alongS y n vs (derL k p)) k % 10007)), (8, .int k)]) (fun k => k ≤ n) (fun k => n - k) 0 (by simp) (by simp [go_sem, sumTo]) (by simp [go_sem]) ?_
    intro k hk
    simp [go_sem]
    refine ⟨fun h => ?_, fun h => ?_⟩ <;> simp at h
    · have hkn : k < n := by omega
      have hkv : k < v.length := by omega
      have hdl := derGo_len k p []
      have cD := l13Derive_c (n := n) (B := 3) p k hkn (by omega) (by omega) (by omega) hp (by omega)
      have cA := ih (derL k p) (derGo_wok hkn _ [] hp (by simp)) (by unfold derL; simp at hdl; omega)
      have hm := mul_fits (hv0.2.get k) (isN_mod (alongS y n vs (derL k p)))
      have hst : sumTo (fun k => yat v k * alongS y n vs (derL k p)) (k + 1) = sumTo (fun k => yat v k * alongS y n vs (derL k p)) k + v[k]?.getD 0 * alongS y n vs (derL k p) := rfl
      generalize sumTo (fun k => yat v k * alongS y n vs (derL k p)) k = s at *
      have ha := add_fits (isN_mod s) (isN_mod (v[k]?.getD 0 * (alongS y n vs (derL k p) % 10007)))
      simp [go_sem, avs_drop hkv]
      refine ⟨by kernel_rfl, ⟨hkv, by rintro rfl; simp at hkv⟩, ?_⟩
      refine CallD.of (cD) (by simp [roots, rootsL]) (by decide) ?_
      simp [go_sem]
      refine ⟨by omega, ?_⟩
      rw [List.take_of_length_le (by simp)]
      refine CallD.of (cA) (by simp [roots, rootsL]) (by decide) ?_
      simp [go_sem]
      refine CallD.of (l01Mul_c _ _ hm) (by simp [roots, rootsL]) (by decide) ?_
      simp [go_sem]
      refine CallD.of (l01Add_c _ _ ha) (by simp [roots, rootsL]) (by decide) ?_
      simp [go_sem]
      refine ⟨by kernel_rfl, ?_⟩
      simp [go_sem]
      exact ⟨by omega, k + 1, by omega, by omega, Off_reset _ _ _ (by simp), by rw [hst, Int.add_emod, mod_mul_r, ← Int.add_emod], by omega⟩
    · simp [go_sem]
      have e : k = n := by omega
      subst e
      rfl
theorem l13Derivative_c (z : Int) (f : List (List Mon)) (y : List Int) (vs : List (List Int)) (hf : FieldOk z f) (hs : Small f) (hy : Ns y) (hl : (y.length : Int) = z) (hv : Vecs y.length vs) (hvl : vs.length ≤ 1048576) :
    Con Try.prog 142 [.agg [.int z, .sl f.length (prt f)], .sl y.length (avs y), .sl vs.length (mat vs)] (.own 2 f.length (avs (drvL y y.length vs f))) := by
  have fl := hs.1
  have z3 := hf.hi
  refine con_of_vc Try.mixed ⟨9, [], [], []⟩ Try.func142 (by decide) rfl (by simp) (by decide) (by simp [freshOK, freshL, go_sem]) ?_
  rw [Try.ntmps142]
  simp [go_sem]
  refine loop_inv (7 :: 8 :: List.range' 10 24) (fun i : Nat => [(7, .own 2 i (avs (drvL y y.length vs (f.take i)))), (8, .int i)]) (fun i => i ≤ f.length) (fun i => f.length - i) 0 (by simp) (by simp [go_sem, drvL]) (by simp [go_sem]) ?_
  intro i hi
  simp [go_sem]
  refine ⟨fun h => ?_, fun h => ?_⟩ <;> simp at h
  · have hif := h
    have hx : f[i]?.getD [] ∈ f := by simp [h]
    have hdl := drvL_take (y := y) (n := y.length) (vs := vs) h
    have hpp : partB (y.length : Int) (f[i]?.getD []) = true := by rw [hl]; exact hf.part _ hx
    by_cases h3 : 3 < vs.length
    · have h3' : (3 : Int) < vs.length := by omega
      have hd : drvP y y.length vs (f[i]?.getD []) = 0 := by unfold drvP; rw [if_pos h3]
      rw [hd] at hdl
      simp [go_sem, h3, h3']
      exact ⟨by omega, by omega, i + 1, by omega, by omega, Off_reset _ _ _ (by simp), by rw [hdl]; simp [avs_snoc], by omega⟩
    · have h3' : ¬ (3 : Int) < vs.length := by omega
      have hd : drvP y y.length vs (f[i]?.getD []) = alongS y y.length vs (f[i]?.getD []) % 10007 := by unfold drvP; rw [if_neg h3]
      rw [hd] at hdl
      have cA := l13Along_c (n := y.length) y hy rfl (by omega) vs (f[i]?.getD []) hv hvl (fun m hm => (partB_mem hpp hm).vok.wok) (hs.2 _ hx).1
      simp [go_sem, h3, h3', prt_drop hif]
      refine ⟨⟨hif, by rintro rfl; simp at hif⟩, ?_⟩
      refine CallVC.of (cA) (by decide) ?_
      simp [go_sem]
      exact ⟨by omega, by omega, i + 1, by omega, by omega, Off_reset _ _ _ (by simp), by rw [hdl]; simp [avs_snoc], by omega⟩
  · simp [go_sem]
    have e : i = f.length := by omega
    subst e; simp
/-- What derivatives at a point answer. -/
def daB (z : Int) (y : List Int) (vs : List (List Int)) : Bool := vecB z y && decide (vs.length ≤ 8) && vs.all (vecB z)
def daX (z : Int) (f : List (List Mon)) (y : List Int) (vs : List (List Int)) : List Int := if fieldB z f = true ∧ daB z y vs = true then drvL y y.length vs f else []
def daE (z : Int) (f : List (List Mon)) (y : List Int) (vs : List (List Int)) : Int := if fieldB z f = true then if daB z y vs = true then 0 else 2 else 1
def daR (z : Int) (f : List (List Mon)) (y : List Int) (vs : List (List Int)) : AV := .tup [.own 2 (daX z f y vs).length (avs (daX z f y vs)), .int (daE z f y vs)]
theorem vecB_iff {z : Int} {y : List Int} : vecB z y = true ↔ (y.length : Int) = z ∧ Ns y := by
  unfold vecB; simp [numsB_N]
theorem daB_ok {z : Int} {y : List Int} {vs : List (List Int)} (h : daB z y vs = true) : ((y.length : Int) = z ∧ Ns y) ∧ vs.length ≤ 8 ∧ Vecs y.length vs := by
  unfold daB at h
  simp only [Bool.and_eq_true, decide_eq_true_eq, List.all_eq_true] at h
  obtain ⟨⟨h1, h2⟩, h3⟩ := h
  have h1 := vecB_iff.1 h1
  exact ⟨h1, h2, fun v hv => by have := vecB_iff.1 (h3 v hv); exact ⟨by omega, this.2⟩⟩
set_option maxRecDepth 100000 in
theorem DerivativeAt_c (z : Int) (f : List (List Mon)) (y : List Int) (vs : List (List Int)) (hs : Small f) (hy : y.length ≤ 1048576) (hvl : vs.length ≤ 1048576) (hvr : ∀ v ∈ vs, v.length ≤ 1048576) :
    Con Try.prog 50 [.agg [.int z, .sl f.length (prt f)], .sl y.length (avs y), .sl vs.length (mat vs)] (daR z f y vs) := by
  have cK := checkVectors_c z f (y :: vs) hs (by simp; omega) (fun v hv => by rcases List.mem_cons.1 hv with rfl | hv; omega; have := hvr v hv; omega)
  have em : mat (y :: vs) = .sl y.length (avs y) :: mat vs := rfl
  have el : (y :: vs).length = 1 + vs.length := by simp; omega
  rw [em, el] at cK
  unfold daR daX daE
  unfold chk at cK
  have hany : (y :: vs).any (fun y => !vecB z y) = !(vecB z y && vs.all (vecB z)) := by
    rw [List.any_cons]
    cases vecB z y with
    | false => rfl
    | true => rw [← List.not_all_eq_any_not]; simp
  rw [hany] at cK
  have hda : daB z y vs = (decide (vs.length ≤ 8) && (vecB z y && vs.all (vecB z))) := by
    unfold daB
    cases vecB z y <;> cases decide (vs.length ≤ 8) <;> simp
  cases hT : fieldB z f with
  | false =>
    rw [hT] at cK
    refine Con.n1 _ ?_
    refine con_of_vc Try.mixed ⟨9, [], [], []⟩ Try.func50 (by decide) rfl (by simp) (by decide) (by simp [freshOK, freshL, go_sem]) ?_
    rw [Try.ntmps50]
    simp [go_sem]
    refine ⟨by kernel_rfl, ⟨by omega, by omega⟩, ?_⟩
    refine CallD.of (cK) (by simp [roots, rootsL]) (by decide) ?_
    simp [go_sem]
    refine ⟨by kernel_rfl, ?_⟩
    simp [go_sem]
  | true =>
    rw [hT] at cK
    rw [hda]
    cases hb : (vecB z y && vs.all (vecB z)) with
    | false =>
      rw [hb] at cK
      simp only [Bool.not_false, if_true] at cK
      simp only [Bool.and_false, Bool.false_eq_true, and_false, if_false, if_true]
      refine Con.n1 _ ?_
      refine con_of_vc Try.mixed ⟨9, [], [], []⟩ Try.func50 (by decide) rfl (by simp) (by decide) (by simp [freshOK, freshL, go_sem]) ?_
      rw [Try.ntmps50]
      simp [go_sem]
      refine ⟨by kernel_rfl, ⟨by omega, by omega⟩, ?_⟩
      refine CallD.of (cK) (by simp [roots, rootsL]) (by decide) ?_
      simp [go_sem]
      refine ⟨by kernel_rfl, ?_⟩
      simp [go_sem]
    | true =>
      rw [hb] at cK
      simp only [Bool.not_true, Bool.false_eq_true, if_false, if_true] at cK
      by_cases h8 : vs.length ≤ 8
      · have h8' : ¬ (8 : Int) < vs.length := by omega
        have h8n : ¬ 8 < vs.length := by omega
        have hF := fieldB_iff.1 hT
        have hd : daB z y vs = true := by rw [hda, hb, decide_eq_true h8]; rfl
        obtain ⟨hy2, _, hV⟩ := daB_ok hd
        simp only [h8, decide_true, Bool.and_self, and_self, if_true, drvL_len]
        refine con_of_vc Try.mixed ⟨9, [], [], []⟩ Try.func50 (by decide) rfl (by simp) (by decide) (by simp [freshOK, freshL, go_sem]) ?_
        rw [Try.ntmps50]
        simp [go_sem]
        refine ⟨by kernel_rfl, ⟨by omega, by omega⟩, ?_⟩
        refine CallD.of (cK) (by simp [roots, rootsL]) (by decide) ?_
        simp [go_sem]
        refine ⟨by kernel_rfl, ?_⟩
        simp [go_sem]
        simp [go_sem, h8', h8n]
        refine CallVC.of (polynomials_c z f hF hs) (by decide) ?_
        simp [go_sem]
        refine CallVC.of (derivativeAt_c z f y vs hF hs hy2.2 hy2.1 hV hvl) (by decide) ?_
        simp [go_sem]
      · have h8' : (8 : Int) < vs.length := by omega
        have h8n : 8 < vs.length := by omega
        simp only [h8, decide_false, Bool.false_and, Bool.false_eq_true, and_false, if_false, if_true]
        refine Con.n1 _ ?_
        refine con_of_vc Try.mixed ⟨9, [], [], []⟩ Try.func50 (by decide) rfl (by simp) (by decide) (by simp [freshOK, freshL, go_sem]) ?_
        rw [Try.ntmps50]
        simp [go_sem]
        refine ⟨by kernel_rfl, ⟨by omega, by omega⟩, ?_⟩
        refine CallD.of (cK) (by simp [roots, rootsL]) (by decide) ?_
        simp [go_sem]
        refine ⟨by kernel_rfl, ?_⟩
        simp [go_sem]
        simp [go_sem, h8', h8n]
end Go.Proofs.Ytjpeakcapddimaa

/- Contracts: the reference's derivatives at points; the marks of lists of rows handed in. -/
namespace Go.Proofs.Ytjpeakcapddimaa
open Go.Abs
set_option linter.unusedVariables false
set_option linter.unusedSimpArgs false
set_option maxHeartbeats 4000000
set_option maxRecDepth 100000 in
theorem specDerivativeAt_c (z : Int) (f : List (List Mon)) (y : List Int) (vs : List (List Int)) (hs : Small f) (hy : y.length ≤ 1048576) (hvl : vs.length ≤ 1048576) (hvr : ∀ v ∈ vs, v.length ≤ 1048576) :
    Con Try.prog 51 [.agg [.int z, .sl f.length (prt f)], .sl y.length (avs y), .sl vs.length (mat vs)] (daR z f y vs) := by
  have cT := l13Is_c z f hs
  have cR := l13Point_c z y (by omega)
  unfold daR daX daE
  cases hT : fieldB z f with
  | false =>
    rw [hT] at cT
    refine Con.n1 _ ?_
    refine con_of_vc Try.mixed ⟨9, [], [], []⟩ Try.func51 (by decide) rfl (by simp) (by decide) (by simp [freshOK, freshL, go_sem]) ?_
    rw [Try.ntmps51]
    simp [go_sem]
    refine CallVC.of (cT) (by decide) ?_
    simp [go_sem]
  | true =>
    rw [hT] at cT
    have hvb : (decide ((y.length : Int) = z) && numsB y) = vecB z y := rfl
    rw [hvb] at cR
    have hda : daB z y vs = (vecB z y && decide (vs.length ≤ 8) && vs.all (vecB z)) := rfl
    cases hn : vecB z y with
    | false =>
      rw [hn] at cR
      rw [hda, hn]
      simp only [Bool.false_and, Bool.false_eq_true, and_false, if_false, if_true]
      refine Con.n1 _ ?_
      refine con_of_vc Try.mixed ⟨9, [], [], []⟩ Try.func51 (by decide) rfl (by simp) (by decide) (by simp [freshOK, freshL, go_sem]) ?_
      rw [Try.ntmps51]
      simp [go_sem]
      refine CallVC.of (cT) (by decide) ?_
      simp [go_sem]
      refine CallVC.of (cR) (by decide) ?_
      simp [go_sem]
    | true =>
      rw [hn] at cR
      rw [hn] at hda
      by_cases h8 : vs.length ≤ 8
      · have h8' : ¬ (8 : Int) < vs.length := by omega
        have h8n : ¬ 8 < vs.length := by omega
        simp only [h8, decide_true, Bool.and_self, Bool.true_and] at hda
        rw [hda]
        cases ha : vs.all (vecB z) with
        | true =>
          rw [ha] at hda
          have hF := fieldB_iff.1 hT
          obtain ⟨hy2, _, hV⟩ := daB_ok hda
          have hall : ∀ v ∈ vs, vecB z v = true := List.all_eq_true.1 ha
          simp only [and_self, if_true, drvL_len]
          refine con_of_vc Try.mixed ⟨9, [], [], []⟩ Try.func51 (by decide) rfl (by simp) (by decide) (by simp [freshOK, freshL, go_sem]) ?_
          rw [Try.ntmps51]
          simp [go_sem]
          refine CallVC.of (cT) (by decide) ?_
          simp [go_sem]
          refine CallVC.of (cR) (by decide) ?_
          simp [go_sem]
          simp [go_sem, h8', h8n]
          refine loop_inv (6 :: 7 :: 8 :: List.range' 22 14) (fun i : Nat => [(8, .int i)]) (fun i => i ≤ vs.length) (fun i => vs.length - i) 0 (by simp) (by simp [go_sem]) (by simp [go_sem]) ?_
          intro i hi
          simp [go_sem]
          refine ⟨fun h => ?_, fun h => ?_⟩ <;> simp at h
          · have hx : vs[i]?.getD [] ∈ vs := by simp [h]
            have cV := l13Point_c z (vs[i]?.getD []) (by have := hvr _ hx; omega)
            have hv : (decide (((vs[i]?.getD []).length : Int) = z) && numsB (vs[i]?.getD [])) = true := hall _ hx
            rw [hv] at cV
            simp [go_sem, mat_drop h]
            refine ⟨by kernel_rfl, ⟨h, by rintro rfl; simp at h⟩, ?_⟩
            refine CallD.of (cV) (by simp [roots, rootsL]) (by decide) ?_
            simp [go_sem]
            refine ⟨by kernel_rfl, ?_⟩
            simp [go_sem]
            exact ⟨by omega, i + 1, by omega, by omega, Off_reset _ _ _ (by simp), by omega⟩
          · simp [go_sem]
            refine CallVC.of (l13Derivative_c z f y vs hF hs hy2.2 hy2.1 hV hvl) (by decide) ?_
            simp [go_sem]
        | false =>
          simp only [Bool.false_eq_true, and_false, if_false, if_true]
          refine Con.n1 _ ?_
          refine con_of_vc Try.mixed ⟨9, [], [], []⟩ Try.func51 (by decide) rfl (by simp) (by decide) (by simp [freshOK, freshL, go_sem]) ?_
          rw [Try.ntmps51]
          simp [go_sem]
          refine CallVC.of (cT) (by decide) ?_
          simp [go_sem]
          refine CallVC.of (cR) (by decide) ?_
          simp [go_sem]
          simp [go_sem, h8', h8n]
          refine loop_inv (6 :: 7 :: 8 :: List.range' 22 14) (fun i : Nat => [(8, .int i)]) (fun i => i ≤ vs.length ∧ ∀ v ∈ vs.take i, vecB z v = true) (fun i => vs.length - i) 0 (by simp) (by simp [go_sem]) (by simp [go_sem]) ?_
          rintro i ⟨hi, hp⟩
          simp [go_sem]
          refine ⟨fun h => ?_, fun h => ?_⟩ <;> simp at h
          · have hx : vs[i]?.getD [] ∈ vs := by simp [h]
            have cV := l13Point_c z (vs[i]?.getD []) (by have := hvr _ hx; omega)
            have hvb2 : (decide (((vs[i]?.getD []).length : Int) = z) && numsB (vs[i]?.getD [])) = vecB z (vs[i]?.getD []) := rfl
            rw [hvb2] at cV
            cases hv : vecB z (vs[i]?.getD []) with
            | false =>
              rw [hv] at cV
              simp [go_sem, mat_drop h]
              refine ⟨by kernel_rfl, ⟨h, by rintro rfl; simp at h⟩, ?_⟩
              refine CallD.of (cV) (by simp [roots, rootsL]) (by decide) ?_
              simp [go_sem]
              refine ⟨by kernel_rfl, ?_⟩
              simp [go_sem]
            | true =>
              rw [hv] at cV
              simp [go_sem, mat_drop h]
              refine ⟨by kernel_rfl, ⟨h, by rintro rfl; simp at h⟩, ?_⟩
              refine CallD.of (cV) (by simp [roots, rootsL]) (by decide) ?_
              simp [go_sem]
              refine ⟨by kernel_rfl, ?_⟩
              simp [go_sem]
              refine ⟨by omega, i + 1, ⟨by omega, fun v hv2 => ?_⟩, by omega, Off_reset _ _ _ (by simp), by omega⟩
              rw [List.take_add_one, List.getElem?_eq_getElem h, Option.toList_some, List.mem_append, List.mem_singleton] at hv2
              rcases hv2 with hv2 | hv2
              · exact hp v hv2
              · rw [hv2]; simpa [h] using hv
          · have hbad : False := by
              rw [List.take_of_length_le h] at hp
              rw [List.all_eq_true.2 hp] at ha
              exact Bool.noConfusion ha
            exact hbad.elim
      · have h8' : (8 : Int) < vs.length := by omega
        have h8n : 8 < vs.length := by omega
        rw [hda]
        simp only [h8, decide_false, Bool.and_false, Bool.false_and, Bool.false_eq_true, and_false, if_false, if_true]
        refine Con.n1 _ ?_
        refine con_of_vc Try.mixed ⟨9, [], [], []⟩ Try.func51 (by decide) rfl (by simp) (by decide) (by simp [freshOK, freshL, go_sem]) ?_
        rw [Try.ntmps51]
        simp [go_sem]
        refine CallVC.of (cT) (by decide) ?_
        simp [go_sem]
        refine CallVC.of (cR) (by decide) ?_
        simp [go_sem]
        simp [go_sem, h8', h8n]
theorem daX_len (z : Int) (f : List (List Mon)) (y : List Int) (vs : List (List Int)) : (daX z f y vs).length ≤ f.length := by
  unfold daX; split <;> simp
end Go.Proofs.Ytjpeakcapddimaa

/- Level lists: their test, their branches: plain laws. -/
namespace Go.Proofs.Ytjpeakcapddimaa
set_option linter.unusedVariables false
set_option linter.unusedSimpArgs false
def okB (t : List Int) (j : Nat) : Bool := decide (1 ≤ t[j]?.getD 0) && decide (t[j]?.getD 0 ≤ t[j - 1]?.getD 0 + 1)
def lv0 (t : List Int) : Bool := decide (0 < t.length) && decide (t[0]?.getD 0 = 0) && (List.range t.length).all (fun j => decide (j = 0) || okB t j)
def lvB (t : List Int) : Bool := lv0 t && decide (t.length ≤ 8)
theorem lv0_no {t : List Int} {j : Nat} (hj : j < t.length) (h0 : 0 < j) (h : okB t j = false) : lv0 t = false := by
  unfold lv0
  have : (List.range t.length).all (fun j => decide (j = 0) || okB t j) = false := by
    rw [List.all_eq_false]; exact ⟨j, by simpa using hj, by simp [h]; omega⟩
  rw [this]; simp
theorem lv0_t0 {t : List Int} (h : t[0]?.getD 0 ≠ 0) : lv0 t = false := by
  unfold lv0; rw [decide_eq_false h]; simp
theorem lv0_yes {t : List Int} (h1 : 0 < t.length) (h2 : t[0]?.getD 0 = 0) (h : ∀ j, 0 < j → j < t.length → okB t j = true) : lv0 t = true := by
  unfold lv0
  have : (List.range t.length).all (fun j => decide (j = 0) || okB t j) = true := by
    rw [List.all_eq_true]; intro j hj
    by_cases e : j = 0
    · simp [e]
    · simp [h j (by omega) (by simpa using hj)]
  rw [this, decide_eq_true h1, decide_eq_true h2]; rfl
theorem ok_le {t : List Int} {i : Nat} (h0 : t[0]?.getD 0 = 0) (h : ∀ j, 0 < j → j < i → okB t j = true) : ∀ j, j < i → 0 ≤ t[j]?.getD 0 ∧ t[j]?.getD 0 ≤ j
  | 0, _ => by omega
  | j + 1, hj => by
    have := ok_le h0 h j (by omega)
    have h2 := h (j + 1) (by omega) hj
    unfold okB at h2
    simp only [Nat.add_sub_cancel, Bool.and_eq_true, decide_eq_true_eq] at h2
    omega
/-- The branches so far; the next level. -/
def brStep (out : List (List Int)) (x : Int) : List (List Int) :=
  let o := if x = 1 then out ++ [[]] else out
  o.set (o.length - 1) (o[o.length - 1]?.getD [] ++ [x - 1])
def brGo (out : List (List Int)) : List Int → List (List Int)
  | [] => out
  | x :: l => brGo (brStep out x) l
def brs (t : List Int) : List (List Int) := brGo [] (t.drop 1)
theorem brGo_app (out : List (List Int)) (l r : List Int) : brGo out (l ++ r) = brGo (brGo out l) r := by
  induction l generalizing out with
  | nil => rfl
  | cons x l ih => exact ih _
theorem brs_take {t : List Int} {i : Nat} (h1 : 1 ≤ i) (h : i < t.length) : brs (t.take (i + 1)) = brStep (brs (t.take i)) (t[i]?.getD 0) := by
  unfold brs
  have e : (t.take (i + 1)).drop 1 = (t.take i).drop 1 ++ [t[i]?.getD 0] := by
    rw [List.take_add_one, List.getElem?_eq_getElem h, Option.toList_some, List.drop_append_of_le_length (by simp; omega)]; rfl
  rw [e, brGo_app]; rfl
/-- A level list of any length. -/
def Lv (t : List Int) : Prop := 0 < t.length ∧ t[0]?.getD 0 = 0 ∧ ∀ j, 0 < j → j < t.length → 1 ≤ t[j]?.getD 0 ∧ t[j]?.getD 0 ≤ t[j - 1]?.getD 0 + 1
theorem lv0_Lv {t : List Int} (h : lv0 t = true) : Lv t := by
  unfold lv0 at h
  simp only [Bool.and_eq_true, decide_eq_true_eq, List.all_eq_true] at h
  refine ⟨h.1.1, h.1.2, fun j h1 h2 => ?_⟩
  have := h.2 j (by simpa using h2)
  rw [decide_eq_false (by omega)] at this
  unfold okB at this
  simpa using this
theorem Lv.le {t : List Int} (h : Lv t) : ∀ j, j < t.length → 0 ≤ t[j]?.getD 0 ∧ t[j]?.getD 0 ≤ j
  | 0, _ => by rw [h.2.1]; omega
  | j + 1, hj => by
    have h1 := h.le j (by omega)
    have h2 := h.2.2 (j + 1) (by omega) hj
    rw [Nat.add_sub_cancel] at h2
    omega
theorem Lv.snoc {t : List Int} {x : Int} (h : Lv t) (h1 : 1 ≤ x) (h2 : x ≤ t[t.length - 1]?.getD 0 + 1) : Lv (t ++ [x]) := by
  obtain ⟨k1, k2, k3⟩ := h
  refine ⟨by simp, by rw [List.getElem?_append_left k1]; exact k2, fun j hj hl => ?_⟩
  simp at hl
  by_cases e : j = t.length
  · subst e
    rw [List.getElem?_append_right (by omega), List.getElem?_append_left (by omega)]
    simp; exact ⟨h1, h2⟩
  · rw [List.getElem?_append_left (by omega), List.getElem?_append_left (by omega)]
    exact k3 j hj (by omega)
theorem Lv_zero : Lv [0] := ⟨by simp, rfl, fun j h1 h2 => by simp at h2; omega⟩
def sumN : List (List Int) → Nat
  | [] => 0
  | b :: l => b.length + sumN l
theorem sumN_app (a b : List (List Int)) : sumN (a ++ b) = sumN a + sumN b := by
  induction a with
  | nil => simp [sumN]
  | cons x a ih => simp [sumN, ih]; omega
theorem sumN_mem {l : List (List Int)} {b : List Int} (h : b ∈ l) : b.length ≤ sumN l := by
  induction l with
  | nil => simp at h
  | cons x l ih =>
    rw [sumN]
    rcases List.mem_cons.1 h with rfl | h
    · omega
    · have := ih h; omega
theorem len_sumN {l : List (List Int)} (h : ∀ b ∈ l, 0 < b.length) : l.length ≤ sumN l := by
  induction l with
  | nil => simp
  | cons x l ih =>
    have h1 := h x (by simp)
    have h2 := ih (fun b hb => h b (by simp [hb]))
    rw [sumN]; simp; omega
/-- What holds of the branches so far, where the last level was p. -/
def BrI (out : List (List Int)) (p : Int) (n : Nat) : Prop :=
  (∀ b ∈ out, Lv b) ∧ sumN out = n ∧ ((out = [] ∧ p = 0) ∨ ∃ i l, out = i ++ [l] ∧ l[l.length - 1]?.getD 0 = p - 1)
theorem brStep_i {out : List (List Int)} {p x : Int} {n : Nat} (h : BrI out p n) (h1 : 1 ≤ x) (h2 : x ≤ p + 1) : BrI (brStep out x) x (n + 1) ∧ (x ≠ 1 → out ≠ []) := by
  obtain ⟨k1, k2, k3⟩ := h
  by_cases hx : x = 1
  · subst hx
    have e : brStep out 1 = out ++ [[0]] := by
      unfold brStep
      simp only [if_true]
      rw [List.set_append_right _ _ (by simp), List.getElem?_append_right (by simp)]
      simp
    rw [e]
    refine ⟨⟨fun b hb => ?_, by rw [sumN_app, k2]; rfl, .inr ⟨out, [0], rfl, rfl⟩⟩, by simp⟩
    rcases List.mem_append.1 hb with hb | hb
    · exact k1 b hb
    · simp at hb; subst hb; exact Lv_zero
  · rcases k3 with ⟨rfl, rfl⟩ | ⟨i, l, rfl, hl⟩
    · omega
    · have e : brStep (i ++ [l]) x = i ++ [l ++ [x - 1]] := by
        unfold brStep
        simp only [if_neg hx]
        rw [List.set_append_right _ _ (by simp), List.getElem?_append_right (by simp)]
        simp
      rw [e]
      have hLl := k1 l (by simp)
      refine ⟨⟨fun b hb => ?_, ?_, .inr ⟨i, _, rfl, by simp⟩⟩, by simp⟩
      · rcases List.mem_append.1 hb with hb | hb
        · exact k1 b (by simp [hb])
        · simp at hb; subst hb
          exact hLl.snoc (by omega) (by rw [hl]; omega)
      · rw [sumN_app] at k2 ⊢
        simp [sumN] at k2 ⊢; omega
theorem brs_i {t : List Int} (h : Lv t) : ∀ i, 1 ≤ i → i ≤ t.length → BrI (brs (t.take i)) (t[i - 1]?.getD 0) (i - 1)
  | 1, _, _ => by
    have e : brs (t.take 1) = [] := by
      unfold brs
      cases t with
      | nil => rfl
      | cons a t => rfl
    rw [e]
    refine ⟨by simp, rfl, .inl ⟨rfl, ?_⟩⟩
    simpa using h.2.1
  | i + 2, _, hl => by
    have ih := brs_i h (i + 1) (by omega) (by omega)
    have hb := h.2.2 (i + 1) (by omega) (by omega)
    rw [brs_take (by omega) (by omega)]
    exact (brStep_i ih hb.1 hb.2).1
theorem brs_ne {t : List Int} (h : Lv t) {i : Nat} (h1 : 1 ≤ i) (hl : i < t.length) (hx : t[i]?.getD 0 ≠ 1) : brs (t.take i) ≠ [] := by
  have ih := brs_i h i h1 (by omega)
  have hb := h.2.2 i (by omega) hl
  exact (brStep_i ih hb.1 hb.2).2 hx
theorem brs_ok {t : List Int} (h : Lv t) {b : List Int} (hb : b ∈ brs t) : Lv b ∧ b.length < t.length := by
  have hl := h.1
  have := brs_i h t.length (by omega) (by omega)
  rw [List.take_length] at this
  obtain ⟨k1, k2, _⟩ := this
  have := sumN_mem hb
  exact ⟨k1 b hb, by omega⟩
theorem brs_many {t : List Int} (h : Lv t) {i : Nat} (h1 : 1 ≤ i) (hl : i ≤ t.length) : (brs (t.take i)).length < i := by
  obtain ⟨k1, k2, _⟩ := brs_i h i h1 hl
  have := len_sumN (fun b hb => (k1 b hb).1)
  omega
end Go.Proofs.Ytjpeakcapddimaa

/- Contracts: level lists and their branches. -/
namespace Go.Proofs.Ytjpeakcapddimaa
open Go.Abs
set_option linter.unusedVariables false
set_option linter.unusedSimpArgs false
set_option maxHeartbeats 4000000
set_option maxRecDepth 100000 in
theorem isLevelList_c (t : List Int) (hl : t.length ≤ 1048576) : Con Try.prog 244 [.sl t.length (avs t)] (.bool (lv0 t)) := by
  refine con_of_vc Try.mixed ⟨5, [], [], []⟩ Try.func244 (by decide) rfl (by simp) (by decide) (by simp [freshOK, freshL, go_sem]) ?_
  rw [Try.ntmps244]
  simp [go_sem]
  refine loop_inv (2 :: 3 :: 4 :: List.range' 7 27) (fun i : Nat => [(7, .int i)]) (fun i => i ≤ t.length ∧ (0 < i → t[0]?.getD 0 = 0) ∧ ∀ j, 0 < j → j < i → okB t j = true) (fun i => t.length - i) 0 (by simp) (by simp [go_sem]) (by simp [go_sem]) ?_
  rintro i ⟨hi, h0, hp⟩
  simp [go_sem]
  refine ⟨fun h => ?_, fun h => ?_⟩ <;> simp at h
  · have hif := h
    by_cases hz : i = 0
    · have q1 : (i = 0) = True := eq_true hz
      have q2 : ((i : Int) = 0) = True := eq_true (by omega)
      have q3 : (0 < i) = False := eq_false (by omega)
      have q4 : ((0 : Int) < i) = False := eq_false (by omega)
      have h0t : t[0]?.getD 0 = t[i]?.getD 0 := by rw [hz]
      by_cases h00 : t[i]?.getD 0 = 0
      · simp -implicitDefEqProofs [go_sem, q1, q2, q3, q4, avs_drop hif, h00]
        refine ⟨⟨hif, by rintro rfl; simp at hif⟩, ?_⟩
        exact ⟨by omega, i + 1, ⟨by omega, fun _ => by rw [h0t]; exact h00, fun j h1 h2 => by omega⟩, by omega, Off_reset _ _ _ (by simp), by omega⟩
      · simp -implicitDefEqProofs [go_sem, q1, q2, q3, q4, avs_drop hif, h00]
        refine ⟨⟨hif, by rintro rfl; simp at hif⟩, ?_⟩
        rw [lv0_t0 (by rw [h0t]; exact h00)]
    · have hz' : (0 : Int) < i := by omega
      have hz2 : ¬ (i : Int) = 0 := by omega
      have hzp : 0 < i := by omega
      have ek : (i : Int) - 1 = ((i - 1 : Nat) : Int) := by omega
      have hk : i - 1 < t.length := by omega
      have hle := ok_le (h0 hzp) hp (i - 1) (by omega)
      have cI := inRange_c (t[i]?.getD 0) 1 (t[i - 1]?.getD 0 + 1)
      have hok : okB t i = (decide (1 ≤ t[i]?.getD 0) && decide (t[i]?.getD 0 ≤ t[i - 1]?.getD 0 + 1)) := rfl
      rw [← hok] at cI
      simp [go_sem, avs_drop hif, hz, hz2, hzp, hz', ek, avs_drop hk]
      refine ⟨⟨hif, by rintro rfl; simp at hif⟩, by omega, ⟨hk, by rintro rfl; simp at hif⟩, ⟨by omega, by omega⟩, ?_⟩
      cases hb : okB t i with
      | true =>
        rw [hb] at cI
        refine CallVC.of (cI) (by decide) ?_
        simp [go_sem]
        refine ⟨by omega, i + 1, ⟨by omega, fun _ => h0 hzp, fun j h1 h2 => ?_⟩, by omega, Off_reset _ _ _ (by simp), by omega⟩
        by_cases e : j = i
        · rw [e]; exact hb
        · exact hp j h1 (by omega)
      | false =>
        rw [hb] at cI
        refine CallVC.of (cI) (by decide) ?_
        simp [go_sem]
        rw [lv0_no hif hzp hb]
  · simp [go_sem]
    by_cases hz : 0 < t.length
    · rw [lv0_yes hz (h0 (by omega)) (fun j h1 h2 => hp j h1 (by omega)), decide_eq_true hz]
    · unfold lv0; rw [decide_eq_false hz]; rfl
theorem IsLevels_c (t : List Int) (hl : t.length ≤ 1048576) : Con Try.prog 219 [.sl t.length (avs t)] (.bool (lvB t)) := by
  unfold lvB
  have cI := isLevelList_c t hl
  refine con_of_vc Try.mixed ⟨3, [], [], []⟩ Try.func219 (by decide) rfl (by simp) (by decide) (by simp [freshOK, freshL, go_sem]) ?_
  rw [Try.ntmps219]
  simp [go_sem]
  by_cases h8 : t.length ≤ 8
  · have h8' : (t.length : Int) ≤ 8 := by omega
    simp [go_sem, h8, h8']
    refine CallVC.of (cI) (by decide) ?_
    simp [go_sem]
  · have h8' : ¬ (t.length : Int) ≤ 8 := by omega
    simp [go_sem, h8, h8']
end Go.Proofs.Ytjpeakcapddimaa

/- Contracts: the branches of level lists. -/
namespace Go.Proofs.Ytjpeakcapddimaa
open Go.Abs
set_option linter.unusedVariables false
set_option linter.unusedSimpArgs false
set_option maxHeartbeats 4000000
theorem omat_set (A : List (List Int)) (k : Nat) (l : List Int) : (omat A).set k (.own 2 l.length (avs l)) = omat (A.set k l) := by
  simp [omat, List.map_set]
theorem omat_last {A : List (List Int)} (h : A ≠ []) : (omat A)[A.length - 1]? = some (.own 2 (A[A.length - 1]?.getD []).length (avs (A[A.length - 1]?.getD []))) := by
  have hl : A.length - 1 < A.length := by have := List.length_pos_iff.2 h; omega
  simp [omat, hl]
theorem brStep_one (A : List (List Int)) : brStep A 1 = A ++ [[0]] := by
  unfold brStep
  simp only [if_true]
  rw [List.set_append_right _ _ (by simp), List.getElem?_append_right (by simp)]
  simp
theorem brStep_more {A : List (List Int)} {x : Int} (h : x ≠ 1) : brStep A x = A.set (A.length - 1) (A[A.length - 1]?.getD [] ++ [x - 1]) := by
  unfold brStep; simp only [if_neg h]
set_option maxRecDepth 100000 in
theorem branchesOf_c (t : List Int) (hl : t.length ≤ 1048576) (ht : Lv t) : Con Try.prog 245 [.sl t.length (avs t)] (.own 38 (brs t).length (omat (brs t))) := by
  have ht1 := ht.1
  have ed : List.take (t.length - 1) (List.drop 1 (avs t)) = avs (t.drop 1) := by
    rw [List.take_of_length_le (by simp)]; simp [avs]
  refine con_of_vc Try.mixed ⟨6, [], [], []⟩ Try.func245 (by decide) rfl (by simp) (by decide) (by simp [freshOK, freshL, go_sem]) ?_
  rw [Try.ntmps245]
  simp [go_sem]
  refine ⟨by omega, ?_⟩
  refine loop_inv (3 :: 5 :: List.range' 10 25) (fun i : Nat => [(3, .own 38 (brs (t.take (i + 1))).length (omat (brs (t.take (i + 1))))), (10, .int i)]) (fun i => i + 1 ≤ t.length) (fun i => t.length - i) 0 (by omega) (by simp [go_sem]; cases t <;> simp [brs, brGo, omat_nil]) (by simp [go_sem]) ?_
  rintro i hi
  simp [go_sem]
  refine ⟨fun h => ?_, fun h => ?_⟩ <;> simp at h
  · have hif : i + 1 < t.length := by omega
    have hda : List.drop i (List.take (t.length - 1) (avs t).tail) = .val (.int .i64 (t[i + 1]?.getD 0)) :: avs (t.drop (i + 2)) := by
      rw [List.take_of_length_le (by simp), ← List.drop_one, List.drop_drop, Nat.add_comm 1 i, avs_drop hif]; simp
    have hnn : ¬ (avs t).tail = [] := fun e => by have := congrArg List.length e; simp at this; omega
    have hn1 : ¬ t.length - 1 = 0 := by omega
    have hn2 : i < t.length - 1 := by omega
    have hb := brs_take (i := i + 1) (by omega) hif
    have hm := brs_many ht (i := i + 1) (by omega) (by omega)
    have hi2 := brs_i ht (i + 1) (by omega) (by omega)
    have hok := ht.2.2 (i + 1) (by omega) hif
    have hle := ht.le (i + 1) hif
    by_cases hx : t[i + 1]?.getD 0 = 1
    · rw [hx, brStep_one] at hb
      have e1 : (brs (t.take (i + 1))).length + 1 = (brs (t.take (i + 1 + 1))).length := by rw [hb]; simp
      have e2 : omat (brs (t.take (i + 1))) ++ [AV.own 2 1 [AV.val (Value.int IntKind.i64 0)]] = omat (brs (t.take (i + 1 + 1))) := by rw [hb, omat_app, omat_one]; rfl
      simp [go_sem, hda, hnn, hn1, hn2, hx]
      exact ⟨⟨by omega, by omega⟩, by omega, by omega, by omega, i + 1, by omega, by omega, Off_reset _ _ _ (by simp), ⟨e1, e2⟩, by omega⟩
    · have hne := brs_ne ht (i := i + 1) (by omega) hif hx
      have hla := omat_last hne
      rw [brStep_more hx] at hb
      generalize hO : brs (t.take (i + 1)) = O at *
      have hOl : 1 ≤ O.length := List.length_pos_iff.2 hne
      have hlen : (O[O.length - 1]?.getD []).length ≤ 1048576 := by
        have := sumN_mem (l := O) (b := O[O.length - 1]?.getD []) (by simp [show O.length - 1 < O.length by omega])
        have := hi2.2.1
        omega
      have hsn := omat_set O (O.length - 1) (O[O.length - 1]?.getD [] ++ [t[i + 1]?.getD 0 - 1])
      rw [← hb] at hsn
      generalize O[O.length - 1]?.getD [] = l at *
      have e1 : O.length = (brs (t.take (i + 1 + 1))).length := by rw [hb]; simp
      rw [avs_snoc, List.length_append, List.length_singleton] at hsn
      simp [go_sem, hda, hnn, hn1, hn2, hx, hla]
      repeat' apply And.intro
      all_goals first
        | omega
        | exact ⟨i + 1, by omega, by omega, Off_reset _ _ _ (by simp), ⟨e1, hsn⟩, by omega⟩
  · simp [go_sem]
    have e : t.take (i + 1) = t := List.take_of_length_le (by omega)
    rw [e]
    simp
end Go.Proofs.Ytjpeakcapddimaa

/- Contracts: elementary differentials, the reference's and the program's. -/
namespace Go.Proofs.Ytjpeakcapddimaa
open Go.Abs
set_option linter.unusedVariables false
set_option linter.unusedSimpArgs false
set_option maxHeartbeats 4000000
/-- The elementary differential of a level list, by the depth that is left. -/
def edF (f : List (List Mon)) (y : List Int) : Nat → List Int → List Int
  | 0, _ => []
  | n + 1, t => drvL y y.length ((brs t).map (edF f y n)) f
theorem edF_len {f : List (List Mon)} {y : List Int} {n : Nat} (h : 0 < n) (t : List Int) : (edF f y n t).length = f.length := by
  cases n with
  | zero => omega
  | succ n => simp [edF]
theorem drvL_N (y : List Int) (n : Nat) (vs : List (List Int)) (f : List (List Mon)) : Ns (drvL y n vs f) := by
  intro x hx
  obtain ⟨p, _, rfl⟩ := List.mem_map.1 hx
  unfold drvP
  split
  · exact ⟨by omega, by omega⟩
  · exact isN_mod _
theorem edF_N {f : List (List Mon)} {y : List Int} {n : Nat} (t : List Int) : Ns (edF f y n t) := by
  cases n with
  | zero => intro x hx; simp [edF] at hx
  | succ n => exact drvL_N _ _ _ _
theorem edF_vecs {f : List (List Mon)} {y : List Int} {m : Nat} {t : List Int} (ht : Lv t) (hm : t.length ≤ m + 1) (hl : f.length = y.length) : Vecs y.length ((brs t).map (edF f y m)) := by
  intro v hv
  obtain ⟨b, hb, rfl⟩ := List.mem_map.1 hv
  obtain ⟨h1, h2⟩ := brs_ok ht hb
  have h3 := h1.1
  exact ⟨by rw [edF_len (by omega), hl], edF_N b⟩
theorem brs_cnt {t : List Int} (h : Lv t) : (brs t).length < t.length := by
  have h1 := h.1
  have := brs_many h (i := t.length) (by omega) (by omega)
  rwa [List.take_length] at this
theorem omat_take (A : List (List Int)) (i : Nat) (h : i < A.length) : omat (A.take (i + 1)) = omat (A.take i) ++ [.own 2 (A[i]?.getD []).length (avs (A[i]?.getD []))] := by
  rw [List.take_add_one, omat_app]; simp [h, omat]
/-- What elementary differentials answer. -/
def elX (z : Int) (f : List (List Mon)) (t y : List Int) : List Int := if (fieldB z f && lvB t) = true ∧ vecB z y = true then edF f y t.length t else []
def elE (z : Int) (f : List (List Mon)) (t y : List Int) : Int := if (fieldB z f && lvB t) = true then if vecB z y = true then 0 else 2 else 1
def elR (z : Int) (f : List (List Mon)) (t y : List Int) : AV := .tup [.own 2 (elX z f t y).length (avs (elX z f t y)), .int (elE z f t y)]
theorem elX_len (z : Int) (f : List (List Mon)) (t y : List Int) : (elX z f t y).length ≤ f.length := by
  unfold elX
  split
  · rename_i h
    have : 0 < t.length := by
      have h1 := h.1
      unfold lvB lv0 at h1
      simp only [Bool.and_eq_true, decide_eq_true_eq] at h1
      exact h1.2.1.1.1
    rw [edF_len this]; omega
  · simp
end Go.Proofs.Ytjpeakcapddimaa

/- Contracts: columns, lists of series turned, rows cloned. -/
namespace Go.Proofs.Ytjpeakcapddimaa
open Go.Abs
set_option linter.unusedVariables false
set_option linter.unusedSimpArgs false
set_option maxHeartbeats 1000000
/-- A column; rows and columns turned. -/
def colS (a : List (List Int)) (k : Nat) : List Int := tb (fun i => (a[i]?.getD [])[k]?.getD 0) a.length
@[simp] theorem colS_len (a : List (List Int)) (k : Nat) : (colS a k).length = a.length := by simp [colS]
def turnS (a : List (List Int)) : List (List Int) := (List.range (a[0]?.getD []).length).map (colS a)
@[simp] theorem turnS_len (a : List (List Int)) : (turnS a).length = (a[0]?.getD []).length := by simp [turnS]
theorem l01Column_c (a : List (List Int)) (k : Nat) (hl : a.length ≤ 1048576) (hr : ∀ r ∈ a, k < r.length) (hk : k ≤ 1048576) :
    Con Try.prog 192 [.sl a.length (mat a), .int k] (.own 2 a.length (avs (colS a k))) := by
  refine con_of_vc Try.mixed ⟨7, [], [], []⟩ Try.func192 (by decide) rfl (by simp) (by decide) (by simp [freshOK, freshL, go_sem]) ?_
  rw [Try.ntmps192]
  simp [go_sem]
  refine loop_inv (5 :: 6 :: List.range' 8 16) (fun i : Nat => [(5, .own 2 i (avs (tb (fun i => (a[i]?.getD [])[k]?.getD 0) i))), (6, .int i)]) (fun i => i ≤ a.length) (fun i => a.length - i) 0 (by simp) (by simp [go_sem]) (by simp [go_sem]) ?_
  intro i hi
  simp [go_sem]
  refine ⟨fun h => ?_, fun h => ?_⟩ <;> simp at h
  · have hx : k < (a[i]?.getD []).length := hr _ (by simp [h])
    simp [go_sem, mat_drop h, avs_drop hx]
    refine ⟨⟨h, by rintro rfl; simp at h⟩, ⟨hx, by intro e; simp [e] at hx⟩, ?_⟩
    exact ⟨⟨by omega, by omega⟩, by omega, i + 1, by omega, by omega, Off_reset _ _ _ (by simp), by simp [tb_succ, avs_snoc], by omega⟩
  · have e : i = a.length := by omega
    subst e
    simp [go_sem]
    rfl
theorem column_c (a : List (List Int)) (k : Nat) (hl : a.length ≤ 1048576) (hr : ∀ r ∈ a, k < r.length) (hk : k ≤ 1048576) :
    Con Try.prog 202 [.sl a.length (mat a), .int k] (.own 2 a.length (avs (colS a k))) := by
  refine con_of_vc Try.mixed ⟨8, [], [], []⟩ Try.func202 (by decide) rfl (by simp) (by decide) (by simp [freshOK, freshL, go_sem]) ?_
  rw [Try.ntmps202]
  simp [go_sem]
  refine loop_inv (5 :: 7 :: List.range' 11 12) (fun i : Nat => [(5, .own 2 i (avs (tb (fun i => (a[i]?.getD [])[k]?.getD 0) i))), (11, .int i)]) (fun i => i ≤ a.length) (fun i => a.length - i) 0 (by simp) (by simp [go_sem]) (by simp [go_sem]) ?_
  intro i hi
  simp [go_sem]
  refine ⟨fun h => ?_, fun h => ?_⟩ <;> simp at h
  · have hx : k < (a[i]?.getD []).length := hr _ (by simp [h])
    simp [go_sem, mat_drop h, avs_drop hx]
    refine ⟨⟨h, by rintro rfl; simp at h⟩, ⟨hx, by intro e; simp [e] at hx⟩, ?_⟩
    exact ⟨⟨by omega, by omega⟩, by omega, i + 1, by omega, by omega, Off_reset _ _ _ (by simp), by simp [tb_succ, avs_snoc], by omega⟩
  · have e : i = a.length := by omega
    subst e
    simp [go_sem]
    rfl
theorem omat_range_succ (g : Nat → List Int) (i : Nat) : omat ((List.range (i + 1)).map g) = omat ((List.range i).map g) ++ [.own 2 (g i).length (avs (g i))] := by
  rw [List.range_succ, List.map_append, omat_app]; rfl
theorem l14Turn_c (a : List (List Int)) (hl : a.length ≤ 1048576) (h0 : 0 < a.length) (hr : ∀ r ∈ a, r.length = (a[0]?.getD []).length) (hn : (a[0]?.getD []).length ≤ 1048576) :
    Con Try.prog 109 [.sl a.length (mat a)] (.own 38 (turnS a).length (omat (turnS a))) := by
  rw [turnS_len]
  refine con_of_vc Try.mixed ⟨5, [], [], []⟩ Try.func109 (by decide) rfl (by simp) (by decide) (by simp [freshOK, freshL, go_sem]) ?_
  rw [Try.ntmps109]
  simp [go_sem]
  refine loop_inv (3 :: 4 :: List.range' 6 14) (fun i : Nat => [(3, .own 38 i (omat ((List.range i).map (colS a)))), (4, .int i)]) (fun i => i ≤ (a[0]?.getD []).length) (fun i => (a[0]?.getD []).length - i) 0 (by simp) (by simp [go_sem, omat_nil]) (by simp [go_sem]) ?_
  intro i hi
  have m0 := mat_drop h0
  simp only [List.drop_zero] at m0
  simp [go_sem, m0]
  have m1 : AV.sl (a[0]?.getD []).length (avs (a[0]?.getD [])) :: mat a.tail = mat a := by cases a with | nil => simp at h0 | cons x l => simp [mat]
  simp only [m1]
  refine ⟨h0, ?_⟩
  refine ⟨fun h => ?_, fun h => ?_⟩ <;> simp at h
  · simp [go_sem]
    refine CallVC.of (l01Column_c a i hl (fun r h2 => by rw [hr r h2]; exact h) (by omega)) (by decide) ?_
    simp [go_sem]
    have ho := omat_range_succ (colS a) i
    rw [colS_len] at ho
    exact ⟨⟨by omega, by omega⟩, by omega, i + 1, by omega, by omega, Off_reset _ _ _ (by simp), by rw [ho]; exact ⟨rfl, rfl⟩, by omega⟩
  · have e : i = (a[0]?.getD []).length := by omega
    subst e
    simp [go_sem]
    rfl
theorem turned_c (a : List (List Int)) (hl : a.length ≤ 1048576) (h0 : 0 < a.length) (hr : ∀ r ∈ a, r.length = (a[0]?.getD []).length) (hn : (a[0]?.getD []).length ≤ 1048576) :
    Con Try.prog 154 [.sl a.length (mat a)] (.own 38 (turnS a).length (omat (turnS a))) := by
  rw [turnS_len]
  have m0 := mat_drop h0
  simp only [List.drop_zero] at m0
  refine con_of_vc Try.mixed ⟨5, [], [], []⟩ Try.func154 (by decide) rfl (by simp) (by decide) (by simp [freshOK, freshL, go_sem]) ?_
  rw [Try.ntmps154]
  simp [go_sem]
  simp [go_sem, m0]
  have m1 : AV.sl (a[0]?.getD []).length (avs (a[0]?.getD [])) :: mat a.tail = mat a := by cases a with | nil => simp at h0 | cons x l => simp [mat]
  simp only [m1]
  refine ⟨⟨h0, by rintro rfl; simp at h0⟩, ?_⟩
  refine loop_inv (3 :: 4 :: List.range' 10 10) (fun i : Nat => [(3, .own 38 i (omat ((List.range i).map (colS a)))), (10, .int i)]) (fun i => i ≤ (a[0]?.getD []).length) (fun i => (a[0]?.getD []).length - i) 0 (by simp) (by simp [go_sem, omat_nil]) (by simp [go_sem]) ?_
  intro i hi
  simp [go_sem]
  refine ⟨fun h => ?_, fun h => ?_⟩ <;> simp at h
  · simp [go_sem]
    refine CallVC.of (column_c a i hl (fun r h2 => by rw [hr r h2]; exact h) (by omega)) (by decide) ?_
    simp [go_sem]
    have ho := omat_range_succ (colS a) i
    rw [colS_len] at ho
    exact ⟨⟨by omega, by omega⟩, by omega, i + 1, by omega, by omega, Off_reset _ _ _ (by simp), by rw [ho]; exact ⟨rfl, rfl⟩, by omega⟩
  · have e : i = (a[0]?.getD []).length := by omega
    subst e
    simp [go_sem]
    rfl
theorem cloneRows_c (a : List (List Int)) (hl : a.length ≤ 1048576) (hr : ∀ r ∈ a, r.length ≤ 1048576) :
    Con Try.prog 238 [.sl a.length (mat a)] (.own 38 a.length (omat a)) := by
  refine con_of_vc Try.mixed ⟨6, [], [], []⟩ Try.func238 (by decide) rfl (by simp) (by decide) (by simp [freshOK, freshL, go_sem]) ?_
  rw [Try.ntmps238]
  simp [go_sem]
  refine loop_inv (3 :: 5 :: List.range' 9 10) (fun i : Nat => [(3, .own 38 i (omat (a.take i))), (9, .int i)]) (fun i => i ≤ a.length) (fun i => a.length - i) 0 (by simp) (by simp [go_sem, omat_nil]) (by simp [go_sem]) ?_
  intro i hi
  simp [go_sem]
  refine ⟨fun h => ?_, fun h => ?_⟩ <;> simp at h
  · simp [go_sem, mat_drop h]
    refine ⟨⟨h, by rintro rfl; simp at h⟩, ?_⟩
    refine CallVC.of (Clone_c (a[i]?.getD []) (hr _ (by simp [h]))) (by decide) ?_
    simp [go_sem]
    have ht := omat_take a i h
    refine ⟨⟨by omega, by omega, by omega⟩, by omega, i + 1, by omega, by omega, Off_reset _ _ _ (by simp), by rw [ht]; exact ⟨rfl, rfl⟩, by omega⟩
  · have e : i = a.length := by omega
    subst e
    simp [go_sem]
theorem l01Own2_c (a : List (List Int)) (hl : a.length ≤ 1048576) (hr : ∀ r ∈ a, r.length ≤ 1048576) :
    Con Try.prog 191 [.sl a.length (mat a)] (.own 38 a.length (omat a)) := by
  refine con_of_vc Try.mixed ⟨5, [], [], []⟩ Try.func191 (by decide) rfl (by simp) (by decide) (by simp [freshOK, freshL, go_sem]) ?_
  rw [Try.ntmps191]
  simp [go_sem]
  refine loop_inv (3 :: 4 :: List.range' 6 14) (fun i : Nat => [(3, .own 38 i (omat (a.take i))), (4, .int i)]) (fun i => i ≤ a.length) (fun i => a.length - i) 0 (by simp) (by simp [go_sem, omat_nil]) (by simp [go_sem]) ?_
  intro i hi
  simp [go_sem]
  refine ⟨fun h => ?_, fun h => ?_⟩ <;> simp at h
  · simp [go_sem, mat_drop h]
    refine ⟨⟨h, by rintro rfl; simp at h⟩, ?_⟩
    refine CallVC.of (l01Own_c (a[i]?.getD []) (by have := hr _ (show a[i]?.getD [] ∈ a by simp [h]); omega)) (by decide) ?_
    simp [go_sem]
    have ht := omat_take a i h
    refine ⟨⟨by omega, by omega, by omega⟩, by omega, i + 1, by omega, by omega, Off_reset _ _ _ (by simp), by rw [ht]; exact ⟨rfl, rfl⟩, by omega⟩
  · have e : i = a.length := by omega
    subst e
    simp [go_sem]
end Go.Proofs.Ytjpeakcapddimaa

/- Contracts: series raised by one degree. -/
namespace Go.Proofs.Ytjpeakcapddimaa
open Go.Abs
set_option linter.unusedVariables false
set_option linter.unusedSimpArgs false
set_option maxHeartbeats 1000000
/-- A series raised by one degree, its last number dropped; the same by a factor. -/
def raiS (a : List Int) : List Int := tb (fun i => if i = 0 then 0 else a[i - 1]?.getD 0) a.length
@[simp] theorem raiS_len (a : List Int) : (raiS a).length = a.length := by simp [raiS]
theorem raiS_N {a : List Int} (h : Ns a) : Ns (raiS a) := tb_N fun i _ => by split; exact ⟨by omega, by omega⟩; exact h.get _
def rakS (a : List Int) (k : Int) : List Int := tb (fun i => if i = 0 then 0 else a[i - 1]?.getD 0 * k % 10007) a.length
@[simp] theorem rakS_len (a : List Int) (k : Int) : (rakS a k).length = a.length := by simp [rakS]
theorem rakS_N (a : List Int) (k : Int) : Ns (rakS a k) := tb_N fun i _ => by split; exact ⟨by omega, by omega⟩; exact isN_mod _
theorem raiS_eq {a : List Int} (h : 0 < a.length) : raiS a = 0 :: a.take (a.length - 1) := by
  refine List.ext_getElem (by simp; omega) fun i h1 h2 => ?_
  cases i with
  | zero => simp [raiS, tb]
  | succ j =>
    simp only [raiS, tb, List.getElem_map, List.getElem_range, List.getElem_cons_succ, List.getElem_take]
    simp at h2
    have : j < a.length := by omega
    simp [this]
theorem l14Raise_c (a : List Int) (k : Int) (ha : Ns a) (hk : isN k) (hl : a.length ≤ 1048576) (h0 : 0 < a.length) :
    Con Try.prog 223 [.sl a.length (avs a), .int k] (.own 2 a.length (avs (rakS a k))) := by
  refine con_of_vc Try.mixed ⟨7, [], [], []⟩ Try.func223 (by decide) rfl (by simp) (by decide) (by simp [freshOK, freshL, go_sem]) ?_
  rw [Try.ntmps223]
  simp [go_sem]
  refine loop_inv (5 :: 6 :: List.range' 8 16) (fun i : Nat => [(5, .own 2 (i + 1) (avs (tb (fun i => if i = 0 then 0 else a[i - 1]?.getD 0 * k % 10007) (i + 1)))), (6, .int i)]) (fun i => i + 1 ≤ a.length) (fun i => a.length - i) 0 (by simp; omega) (by simp [go_sem, tb, avs]) (by simp [go_sem]) ?_
  intro i hi
  simp [go_sem]
  refine ⟨by omega, ?_⟩
  refine ⟨fun h => ?_, fun h => ?_⟩ <;> simp at h
  · have hi2 : i < a.length := by omega
    simp [go_sem, avs_drop hi2]
    refine ⟨⟨hi2, by rintro rfl; simp at hi2⟩, ?_⟩
    refine CallVC.of (l01Mul_c _ _ (mul_fits (ha.get i) hk)) (by decide) ?_
    simp [go_sem]
    refine ⟨⟨by omega, by omega⟩, by omega, i + 1, by omega, by omega, Off_reset _ _ _ (by simp), ?_, by omega⟩
    simp [tb_succ, avs]
  · have e : i + 1 = a.length := by omega
    simp [go_sem]
    exact ⟨e, by rw [e]; rfl⟩
/-- Lists of lists of rows: owned and frozen. -/
def ocube (X : List (List (List Int))) : List AV := X.map fun m => .own 38 m.length (omat m)
def cube (X : List (List (List Int))) : List AV := X.map fun m => .sl m.length (mat m)
@[simp] theorem ocube_len (X : List (List (List Int))) : (ocube X).length = X.length := by simp [ocube]
@[simp] theorem cube_len (X : List (List (List Int))) : (cube X).length = X.length := by simp [cube]
@[simp] theorem cube_ne {X : List (List (List Int))} : (cube X = []) = (X = []) := by cases X <;> simp [cube]
@[simp] theorem ocube_frz : ∀ X : List (List (List Int)), frzL (ocube X) = cube X
  | [] => rfl
  | m :: X => by
    have := ocube_frz X
    simp only [ocube, cube, List.map_cons] at this ⊢
    rw [frzL, this]
    simp [frz]
@[simp] theorem ocube_fresh : ∀ X : List (List (List Int)), freshL (ocube X) = true
  | [] => rfl
  | m :: X => by
    have := ocube_fresh X
    simp only [ocube, List.map_cons] at this ⊢
    rw [freshL, this]
    simp [freshOK]
theorem cube_drop {X : List (List (List Int))} {k : Nat} (h : k < X.length) : (cube X).drop k = .sl (X[k]?.getD []).length (mat (X[k]?.getD [])) :: cube (X.drop (k + 1)) := by
  rw [cube, ← List.map_drop, List.drop_eq_getElem_cons h, List.map_cons]; simp [h, cube]
theorem ocube_app (A C : List (List (List Int))) : ocube (A ++ C) = ocube A ++ ocube C := by simp [ocube]
theorem ocube_one (r : List (List Int)) : ocube [r] = [.own 38 r.length (omat r)] := rfl
end Go.Proofs.Ytjpeakcapddimaa

/- Contracts: series moved by slopes, the program's and the reference's. -/
namespace Go.Proofs.Ytjpeakcapddimaa
open Go.Abs
set_option linter.unusedVariables false
set_option linter.unusedSimpArgs false
set_option maxHeartbeats 1000000
/-- Series after some slopes, each with its factor; and within a round. -/
def mvS (start : List (List Int)) (c : List Int) (L : List (List (List Int))) : Nat → List (List Int)
  | 0 => start
  | i + 1 => (List.range start.length).map fun k => plusS ((mvS start c L i)[k]?.getD []) (raiS ((L[i]?.getD [])[k]?.getD [])) (c[i]?.getD 0)
theorem mvS_len (start : List (List Int)) (c : List Int) (L : List (List (List Int))) : ∀ i, (mvS start c L i).length = start.length
  | 0 => rfl
  | i + 1 => by simp [mvS]
theorem mvS_row {start : List (List Int)} {c : List Int} {L : List (List (List Int))} {n : Nat} (h : ∀ r ∈ start, r.length = n ∧ Ns r) : ∀ i, ∀ r ∈ mvS start c L i, r.length = n ∧ Ns r
  | 0 => h
  | i + 1 => by
    intro r hr
    rw [mvS] at hr
    obtain ⟨k, hk, rfl⟩ := List.mem_map.1 hr
    have hk : k < start.length := by simpa using hk
    have hm : (mvS start c L i)[k]?.getD [] ∈ mvS start c L i := by simp [mvS_len, hk]
    exact ⟨by rw [plusS_len]; exact (mvS_row h i _ hm).1, plusS_N _ _ _⟩
def mxS (A C : List (List Int)) (j : Nat) : List (List Int) := (List.range A.length).map fun k => if k < j then C[k]?.getD [] else A[k]?.getD []
theorem mxS_zero (A C : List (List Int)) : mxS A C 0 = A := by
  refine List.ext_getElem (by simp [mxS]) fun i h1 h2 => ?_
  simp [mxS, h2]
theorem mxS_all {A C : List (List Int)} (h : C.length = A.length) : mxS A C A.length = C := by
  refine List.ext_getElem (by simp [mxS, h]) fun i h1 h2 => ?_
  simp [mxS, show i < A.length by omega, h2]
@[simp] theorem mxS_len (A C : List (List Int)) (j : Nat) : (mxS A C j).length = A.length := by simp [mxS]
theorem mxS_get {A C : List (List Int)} {j : Nat} (h : j < A.length) : (mxS A C j)[j]?.getD [] = A[j]?.getD [] := by simp [mxS, h]
theorem mxS_set {A C : List (List Int)} {j : Nat} (h : j < A.length) : (mxS A C j).set j (C[j]?.getD []) = mxS A C (j + 1) := by
  refine List.ext_getElem (by simp) fun i h1 h2 => ?_
  simp at h1
  rw [List.getElem_set]
  by_cases e : j = i
  · subst e; simp [mxS]
  · simp only [e, if_false, mxS, List.getElem_map, List.getElem_range]
    by_cases h3 : i < j
    · simp [h3, show i < j + 1 by omega]
    · simp [h3, show ¬ i < j + 1 by omega]
end Go.Proofs.Ytjpeakcapddimaa

/- Contracts: series moved by slopes, the reference's. -/
namespace Go.Proofs.Ytjpeakcapddimaa
open Go.Abs
set_option linter.unusedVariables false
set_option linter.unusedSimpArgs false
set_option maxHeartbeats 1000000
theorem add_rak {a b : List Int} {k : Int} (hk : isN k) (h : a.length ≤ b.length) :
    tb (fun i => (a[i]?.getD 0 + (rakS b k)[i]?.getD 0) % 10007) a.length = plusS a (raiS b) k := by
  unfold plusS tb
  refine List.map_congr_left fun i hi => ?_
  have hi2 : i < b.length := by simp at hi; omega
  have e := tb_get (fun i => if i = 0 then 0 else b[i - 1]?.getD 0 * k % 10007) hi2
  have e2 := tb_get (fun i => if i = 0 then 0 else b[i - 1]?.getD 0) hi2
  have e3 : (rakS b k)[i]?.getD 0 = if i = 0 then 0 else b[i - 1]?.getD 0 * k % 10007 := e
  have e4 : (raiS b)[i]?.getD 0 = if i = 0 then 0 else b[i - 1]?.getD 0 := e2
  rw [e3, e4, Int.emod_eq_of_lt hk.1 (by have := hk.2; omega), Int.mul_comm k]
  split
  · simp
  · omega
end Go.Proofs.Ytjpeakcapddimaa

/- Contracts: the program's product of series. -/
namespace Go.Proofs.Ytjpeakcapddimaa
open Go.Abs
set_option linter.unusedVariables false
set_option linter.unusedSimpArgs false
set_option maxHeartbeats 1000000
/-- The product while its terms are gathered: i factors of a done, j terms of the next. -/
def tmN (i j n : Nat) : Nat := if i ≤ n then (if n < i + j then i + 1 else i) else n + 1
def tmS (a b : List Int) (i j : Nat) : List Int := tb (fun n => cv a b n (tmN i j n) % 10007) a.length
@[simp] theorem tmS_len (a b : List Int) (i j : Nat) : (tmS a b i j).length = a.length := by simp [tmS]
theorem tmS_N (a b : List Int) (i j : Nat) : Ns (tmS a b i j) := tb_N fun i _ => isN_mod _
theorem tmS_zero (a b : List Int) : tmS a b 0 0 = List.replicate a.length 0 := by
  refine List.ext_getElem (by simp) fun n h1 h2 => ?_
  simp [tmS, tb, tmN, cv]
theorem tmS_next (a b : List Int) (i j : Nat) (h : a.length ≤ i + j) : tmS a b i j = tmS a b (i + 1) 0 := by
  unfold tmS tb
  refine List.map_congr_left fun n hn => ?_
  have hn : n < a.length := by simpa using hn
  have e : tmN i j n = tmN (i + 1) 0 n := by unfold tmN; (repeat' split) <;> omega
  rw [e]
theorem tmS_end (a b : List Int) : tmS a b a.length 0 = mulS a b := by
  unfold tmS mulS tb
  refine List.map_congr_left fun n hn => ?_
  have hn : n < a.length := by simpa using hn
  have e : tmN a.length 0 n = n + 1 := by unfold tmN; split <;> omega
  rw [e]
theorem tmS_set (a b : List Int) (i j : Nat) (h : i + j < a.length) : (tmS a b i j).set (i + j) (((tmS a b i j)[i + j]?.getD 0 + a[i]?.getD 0 * b[j]?.getD 0) % 10007) = tmS a b i (j + 1) := by
  refine List.ext_getElem (by simp) fun n h1 h2 => ?_
  simp at h1
  rw [List.getElem_set]
  by_cases e : i + j = n
  · subst e
    have e1 : tmN i j (i + j) = i := by unfold tmN; (repeat' split) <;> omega
    have e2 : tmN i (j + 1) (i + j) = i + 1 := by unfold tmN; (repeat' split) <;> omega
    have e3 : i + j - i = j := by omega
    have g := tb_get (fun n => cv a b n (tmN i j n) % 10007) h
    have g2 : (tmS a b i j)[i + j]?.getD 0 = cv a b (i + j) (tmN i j (i + j)) % 10007 := g
    simp only [if_true, g2, e1]
    simp only [tmS, tb, List.getElem_map, List.getElem_range, e2, cv, e3]
    omega
  · have e1 : tmN i j n = tmN i (j + 1) n := by unfold tmN; (repeat' split) <;> omega
    simp only [e, if_false, tmS, tb, List.getElem_map, List.getElem_range, e1]
set_option maxRecDepth 100000 in
theorem timesSeries_c (a b : List Int) (ha : Ns a) (hb : Ns b) (hl : a.length ≤ 1048576) (hab : a.length ≤ b.length) :
    Con Try.prog 247 [.sl a.length (avs a), .sl b.length (avs b)] (.own 2 a.length (avs (mulS a b))) := by
  refine con_of_vc Try.mixed ⟨9, [], [], []⟩ Try.func247 (by decide) rfl (by simp) (by decide) (by simp [freshOK, freshL, go_sem]) ?_
  rw [Try.ntmps247]
  simp [go_sem]
  refine ⟨by omega, ?_⟩
  refine loop_inv (5 :: 6 :: 7 :: 8 :: List.range' 14 33) (fun i : Nat => [(5, .own 2 a.length (avs (tmS a b i 0))), (14, .int i)]) (fun i => i ≤ a.length) (fun i => a.length - i) 0 (by simp) (by simp [go_sem, tmS_zero, avs_repl]) (by simp [go_sem]) ?_
  intro i hi
  simp [go_sem]
  refine ⟨fun h => ?_, fun h => ?_⟩ <;> simp at h
  · have hi2 := h
    simp [go_sem, avs_drop hi2]
    refine ⟨⟨hi2, by rintro rfl; simp at hi2⟩, ?_⟩
    refine loop_inv (5 :: 8 :: List.range' 19 27) (fun j : Nat => [(5, .own 2 a.length (avs (tmS a b i j))), (8, .int j)]) (fun j => i + j ≤ a.length) (fun j => a.length - j) 0 (by simp; omega) (by simp [go_sem]) (by simp [go_sem]) ?_
    intro j hj
    simp [go_sem]
    refine ⟨⟨by omega, by omega⟩, ?_⟩
    refine ⟨fun h => ?_, fun h => ?_⟩ <;> simp at h
    · have k0 : i + j < a.length := by omega
      have k1 : j < b.length := by omega
      have k2 : i + j < (tmS a b i j).length := by rw [tmS_len]; exact k0
      have hset := tmS_set a b i j k0
      have tN := (tmS_N a b i j).get (i + j)
      have m1 := mul_fits (ha.get i) (hb.get j)
      have m2 : fits ((tmS a b i j)[i + j]?.getD 0 + a[i]?.getD 0 * b[j]?.getD 0) := by
        have x0 := mul_bound (ha.get i) (hb.get j)
        obtain ⟨y0, y1⟩ := tN
        exact ⟨by omega, by omega⟩
      have ij : ((i : Int) + j).toNat = i + j := by omega
      simp [go_sem, ij, avs_drop k1, avs_at k2]
      refine ⟨by kernel_rfl, ⟨by omega, by omega⟩, ⟨by omega, by omega⟩, ⟨k1, by intro e; simp [e] at k1⟩, m1, m2, ?_⟩
      refine CallD.of (num_c _ m2.1 m2.2) (by simp [roots, rootsL]) (by decide) ?_
      simp [go_sem]
      refine ⟨⟨by omega, by omega⟩, by omega, ?_⟩
      refine ⟨by kernel_rfl, ?_⟩
      simp [go_sem]
      exact ⟨by omega, j + 1, by omega, by omega, Off_reset _ _ _ (by simp), by rw [ij, avs_set, hset], by omega⟩
    · have hx : a.length ≤ i + j := by omega
      have hn := tmS_next a b i j hx
      simp [go_sem]
      exact ⟨by omega, i + 1, by omega, by omega, (Off.reset (by intro x hx; simp at hx ⊢; omega) (by simp) (by simp [go_sem, Off_reset])), by rw [hn], by omega⟩
  · have e : i = a.length := by omega
    subst e
    simp [go_sem]
    exact tmS_end a b
end Go.Proofs.Ytjpeakcapddimaa
