/- Texts of the own layer and contracts, part 8: Q3 Q4 Q5 P7 Q6 Q7 Q8 Q14 R1 R2 R3 E3 R4 R5 R6 E4 L13. -/
import Derived.Test.YtoamidolomldnaaM7
/- Contracts: sums of maps, derivatives along vectors. -/
namespace Go.Proofs.Ytoamidolomldnaa
open Go.Abs
set_option linter.unusedVariables false
set_option linter.unusedSimpArgs false
set_option maxHeartbeats 1000000
def MapN (c : Key → Option Int) : Prop := ∀ k x, c k = some x → isN x
set_option maxRecDepth 100000 in
theorem add_c (o q : Key → Option Int) (x : Int) (ho : MapN o) (hq : MapN q) (hx : fits x) :
    MCon Try.prog 248 [.mp o, .fmp q, .int x] (.tup []) [.mp (addM o q x), .any, .any] := by
  refine mcon_of_vc Try.mixed ⟨8, [], [], []⟩ [] [0] Try.func248 (by decide) rfl rfl (by simp) (by simp) (by simp) (by decide) ?_
  rw [Try.ntmps248]
  simp [go_sem]
  intro es hes
  have hval : ∀ e ∈ es, q e.1 = some e.2 := fun e he => hes.val e he
  refine loop_inv (0 :: 6 :: 7 :: List.range' 9 17) (fun y : Option (Key × Int) × List (Key × Int) => [(0, .mp (remA o q x y.2)), (9, .it y.1 y.2)]) (fun y => y.2.Pairwise (fun a b => a.1 ≠ b.1) ∧ ∀ e ∈ y.2, q e.1 = some e.2) (fun y => y.2.length) (none, es) ⟨hes.nd, hval⟩ (by simp [go_sem, remA_start hes]) (by simp [go_sem]) ?_
  rintro ⟨l, rem⟩ ⟨hnd, hrem⟩
  simp only at hnd hrem
  simp [go_sem, keyAV]
  refine ⟨fun hr => ?_, fun l1 k0 k1 k2 b l2 hr => ?_⟩
  · subst hr
    exact remA_end o q x
  · subst hr
    have hcx := hrem ((k0, k1, k2), b) (by simp)
    have hb : isN b := hq _ _ hcx
    have hnd2 : (l1 ++ l2).Pairwise (fun a b => a.1 ≠ b.1) := hnd.sublist (List.Sublist.append (List.Sublist.refl _) (List.sublist_cons_self _ _))
    have hrem2 : ∀ a b c' y, ((a, b, c'), y) ∈ l1 ++ l2 → q (a, b, c') = some y := fun a b c' y hm => hrem ((a, b, c'), y) (by
      rcases List.mem_append.1 hm with hm | hm <;> simp [hm])
    have hz : remA o q x (l1 ++ ((k0, k1, k2), b) :: l2) (k0, k1, k2) = o (k0, k1, k2) := remA_at
    have hs : mset (remA o q x (l1 ++ ((k0, k1, k2), b) :: l2)) (k0, k1, k2) (((o (k0, k1, k2)).getD 0 + x % 10007 * b) % 10007) = remA o q x (l1 ++ l2) := remA_step hnd hcx
    have ho0 : isN ((o (k0, k1, k2)).getD 0) := by
      cases hh : o (k0, k1, k2) with
      | none => simp [isN]
      | some v => exact ho _ _ hh
    simp [go_sem, hz]
    refine ⟨by kernel_rfl, ?_⟩
    refine CallD.of (num_c _ hx.1 hx.2) (by simp [roots, rootsL]) (by decide) ?_
    simp [go_sem]
    generalize (o (k0, k1, k2)).getD 0 = w at *
    have hm := mul_bound (isN_mod x) hb
    have hf1 : fits (x % 10007 * b) := ⟨by omega, by omega⟩
    have hf2 : fits (w + x % 10007 * b) := by obtain ⟨w0, w1⟩ := ho0; exact ⟨by omega, by omega⟩
    refine ⟨hf1, hf2, ?_⟩
    refine CallD.of (num_c _ hf2.1 hf2.2) (by simp [roots, rootsL]) (by decide) ?_
    simp [go_sem]
    refine ⟨by kernel_rfl, ?_⟩
    simp [go_sem]
    exact ⟨_, _, ⟨hnd2, hrem2⟩, by simp; try omega, Off_reset _ _ _ (by simp), hs, rfl, rfl⟩
theorem derM_N {i : Nat} {c : Key → Option Int} : MapN (derM i c) := by
  intro k x hx
  unfold derM at hx
  split at hx
  · split at hx
    · injection hx with hx; rw [← hx]; exact isN_mod _
    · simp at hx
  · simp at hx
theorem addM_N {o q : Key → Option Int} {x : Int} (ho : MapN o) : MapN (addM o q x) := by
  intro k a ha
  unfold addM at ha
  split at ha
  · injection ha with ha; rw [← ha]; exact isN_mod _
  · exact ho k a ha
theorem aloM_N (v : List Int) (c : Key → Option Int) : ∀ n, MapN (aloM v c n)
  | 0 => by intro k a ha; simp [aloM, mzero] at ha
  | n + 1 => addM_N (aloM_N v c n)
theorem addM_kok {n : Nat} {o q : Key → Option Int} {x : Int} (ho : ∀ k a, o k = some a → isN a ∧ KOk n k) (hq : ∀ k a, q k = some a → isN a ∧ KOk n k) : ∀ k a, addM o q x k = some a → isN a ∧ KOk n k := by
  intro k a ha
  unfold addM at ha
  split at ha
  · rename_i b hb
    injection ha with ha; rw [← ha]; exact ⟨isN_mod _, (hq k b hb).2⟩
  · exact ho k a ha
theorem aloM_kok {n : Nat} {v : List Int} {c : Key → Option Int} (hn : n ≤ 3) (hc : ∀ k x, c k = some x → isN x ∧ KOk n k) : ∀ m, m ≤ n → ∀ k x, aloM v c m k = some x → isN x ∧ KOk n k
  | 0, _ => by intro k x hx; simp [aloM, mzero] at hx
  | m + 1, hm => addM_kok (aloM_kok hn hc m (by omega)) (derM_ok (by omega) hn hc)
set_option maxRecDepth 100000 in
theorem along_c {n : Nat} (c : Key → Option Int) (v : List Int) (hv : Ns v) (hl : v.length = n) (hn : n ≤ 3) (hc : ∀ k x, c k = some x → isN x ∧ KOk n k) :
    Con Try.prog 205 [.fmp c, .sl v.length (avs v)] (.mp (aloM v c n)) := by
  refine con_of_vc Try.mixed ⟨8, [19], [248], []⟩ Try.func205 (by decide) rfl (by simp) (by decide) (by simp [freshOK, freshL, go_sem]) ?_
  rw [Try.ntmps205]
  simp [go_sem]
  refine loop_inv (5 :: 6 :: 7 :: List.range' 11 12) (fun i : Nat => [(5, .mp (aloM v c i)), (11, .int i)]) (fun i => i ≤ n) (fun i => n - i) 0 (by simp) (by simp [go_sem, aloM]) (by simp [go_sem]) ?_
  intro i hi
  simp [go_sem]
  refine ⟨fun h => ?_, fun h => ?_⟩ <;> simp at h
  · have hy : yat v i = v[i]?.getD 0 := rfl
    have cD := derivative_c (n := n) c i (by omega) hn hc
    have cA := add_c (aloM v c i) (derM i c) (v[i]?.getD 0) (aloM_N v c i) derM_N (by have := hv.get i; exact ⟨by obtain ⟨a, b⟩ := this; omega, by obtain ⟨a, b⟩ := this; omega⟩)
    simp [go_sem, avs_drop h]
    refine ⟨⟨h, by rintro rfl; simp at h⟩, ?_⟩
    refine CallVC.of (cD) (by decide) ?_
    simp [go_sem]
    refine ⟨_, _, cA, ?_⟩
    simp [go_sem]
    exact ⟨by omega, i + 1, by omega, by omega, Off_reset _ _ _ (by simp), rfl, by omega⟩
  · simp [go_sem]
    have e : i = n := by omega
    subst e; rfl
end Go.Proofs.Ytoamidolomldnaa

/- Contracts: derivatives at points for vectors, the reference's and the program's. -/
namespace Go.Proofs.Ytoamidolomldnaa
open Go.Abs
set_option linter.unusedVariables false
set_option linter.unusedSimpArgs false
set_option maxHeartbeats 1000000
def sum3 (k : Key) : Int := k.1 + k.2.1 + k.2.2
def DegLe (C : Key → Int) (D : Int) : Prop := ∀ k, NN k → D < sum3 k → C k = 0
theorem sum3_inc (i : Nat) (k : Key) : sum3 (inc i k) = sum3 k + 1 := by
  obtain ⟨a, b, c⟩ := k
  unfold inc sum3
  split
  · simp; omega
  · split <;> (simp; omega)
theorem DegLe.der {C : Key → Int} {D : Int} (h : DegLe C D) (i : Nat) : DegLe (der i C) (D - 1) := by
  intro k hk hd
  unfold Go.Proofs.Ytoamidolomldnaa.der
  rw [h (inc i k) (hk.inc i) (by rw [sum3_inc]; omega), Int.mul_zero]
theorem DegLe.alo {C : Key → Int} {D : Int} (h : DegLe C D) (v : Nat → Int) : ∀ n, DegLe (alo v C n) (D - 1)
  | 0 => fun _ _ _ => rfl
  | n + 1 => fun k hk hd => by
    show Go.Proofs.Ytoamidolomldnaa.alo v C n k + v n * Go.Proofs.Ytoamidolomldnaa.der n C k = 0
    rw [DegLe.alo h v n k hk hd, h.der n k hk hd]; simp
theorem DegLe.dv {n : Nat} : ∀ (vs : List (List Int)) {C : Key → Int} {D : Int}, DegLe C D → DegLe (Dv n vs C) (D - vs.length)
  | [], C, D, h => by simpa [Dv] using h
  | v :: vs, C, D, h => by
    have := DegLe.dv (n := n) vs (h.alo (yat v) n)
    rw [Dv]
    intro k hk hd
    exact this k hk (by simp at hd; omega)
theorem sum3_key {e : List Int} (h : e.length ≤ 3) : sum3 (keyOf e) = e.sum := by
  match e, h with
  | [], _ => rfl
  | [a], _ => simp [sum3, keyOf]
  | [a, b], _ => simp [sum3, keyOf]
  | [a, b, c], _ => simp [sum3, keyOf]; omega
theorem part_deg {n : Nat} {p : List Mon} (hn : n ≤ 3) (hp : partB (n : Int) p = true) : DegLe (cfL p) 3 := by
  intro k hk hd
  unfold cfL coef
  refine sumI_zero (fun m hm => if_neg (fun e => ?_))
  have ho := partB_mem hp hm
  have := ho.deg
  rw [e, sum3_key (by have := ho.len; omega)] at hd
  omega
theorem along_zero {n : Nat} {p : List Mon} {y : List Int} (hn : n ≤ 3) (hp : partB (n : Int) p = true) (vs : List (List Int)) (hv : 3 < vs.length) :
    Val (yat y) (gv (DvM n vs (polF p))) % 10007 = 0 := by
  rw [Val_eqv _ (DvM_gv n vs (polF p))]
  have e : gv (polF p) = cfL p := funext (polF_gv (keys_nd (by omega) hp))
  rw [e]
  have hd := (part_deg hn hp).dv (n := n) vs
  have : Val (yat y) (Dv n vs (cfL p)) = 0 := by
    unfold Val
    refine sumI_zero (fun k hk => ?_)
    have hN := NN.box hk
    obtain ⟨a, b, c⟩ := hN
    rw [hd k (NN.box hk) (by unfold sum3; omega), Int.zero_mul]
  rw [this]; rfl
theorem DvM_snoc (n : Nat) (v : List Int) : ∀ (vs : List (List Int)) (c : Key → Option Int), DvM n (vs ++ [v]) c = aloM v (DvM n vs c) n
  | [], c => rfl
  | u :: vs, c => by rw [List.cons_append, DvM, DvM_snoc n v vs, DvM]
theorem DvM_take {n : Nat} {vs : List (List Int)} {i : Nat} (h : i < vs.length) (c : Key → Option Int) : DvM n (vs.take (i + 1)) c = aloM (vs[i]?.getD []) (DvM n (vs.take i) c) n := by
  rw [List.take_add_one, List.getElem?_eq_getElem h, Option.toList_some, DvM_snoc]; rfl
theorem DvM_kok {n : Nat} (hn : n ≤ 3) : ∀ (vs : List (List Int)) {c : Key → Option Int}, (∀ k x, c k = some x → isN x ∧ KOk n k) → ∀ k x, DvM n vs c k = some x → isN x ∧ KOk n k
  | [], c, h => h
  | v :: vs, c, h => DvM_kok hn vs (aloM_kok hn h n (Nat.le_refl n))
/-- The derivative of a part. -/
def drvP (y : List Int) (n : Nat) (vs : List (List Int)) (p : List Mon) : Int := if 3 < vs.length then 0 else alongS y n vs p % 10007
def drvL (y : List Int) (n : Nat) (vs : List (List Int)) (f : List (List Mon)) : List Int := f.map (drvP y n vs)
@[simp] theorem drvL_len (y : List Int) (n : Nat) (vs : List (List Int)) (f : List (List Mon)) : (drvL y n vs f).length = f.length := by simp [drvL]
theorem drvL_take {y : List Int} {n : Nat} {vs : List (List Int)} {f : List (List Mon)} {i : Nat} (h : i < f.length) : drvL y n vs (f.take (i + 1)) = drvL y n vs (f.take i) ++ [drvP y n vs (f[i]?.getD [])] := by
  rw [drvL, drvL, List.take_add_one, List.map_append, List.getElem?_eq_getElem h]; rfl
theorem drvP_eq {n : Nat} {p : List Mon} {y : List Int} (hn : n ≤ 3) (hl : y.length = n) (hp : partB (n : Int) p = true) (vs : List (List Int)) :
    Val (yat y) (gv (DvM n vs (polF p))) % 10007 = drvP y n vs p := by
  unfold drvP
  by_cases h : 3 < vs.length
  · rw [if_pos h, along_zero hn hp vs h]
  · rw [if_neg h, along_eq hn hl hp vs]
@[simp] theorem mat_frz (A : List (List Int)) : frzL (mat A) = mat A := by
  induction A with
  | nil => rfl
  | cons r A ih => simp only [mat, List.map_cons, frzL] at ih ⊢; rw [ih]; rfl
/-- Vectors of n numbers. -/
def Vecs (n : Nat) (vs : List (List Int)) : Prop := ∀ v ∈ vs, v.length = n ∧ Ns v
set_option maxRecDepth 100000 in
theorem derivativeAt_c (z : Int) (f : List (List Mon)) (y : List Int) (vs : List (List Int)) (hf : FieldOk z f) (hs : Small f) (hy : Ns y) (hl : (y.length : Int) = z) (hv : Vecs y.length vs) (hvl : vs.length ≤ 1048576) :
    Con Try.prog 132 [.sl f.length (fpols f), .sl y.length (avs y), .sl vs.length (mat vs)] (.own 2 f.length (avs (drvL y y.length vs f))) := by
  have fl := hs.1
  have z3 := hf.hi
  refine con_of_vc Try.mixed ⟨12, [27], [], []⟩ Try.func132 (by decide) rfl (by simp) (by decide) (by simp [freshOK, freshL, go_sem]) ?_
  rw [Try.ntmps132]
  simp [go_sem]
  refine loop_inv (7 :: 9 :: 11 :: List.range' 15 21) (fun i : Nat => [(7, .own 2 i (avs (drvL y y.length vs (f.take i)))), (15, .int i)]) (fun i => i ≤ f.length) (fun i => f.length - i) 0 (by simp) (by simp [go_sem, drvL]) (by simp [go_sem]) ?_
  intro i hi
  simp [go_sem]
  refine ⟨fun h => ?_, fun h => ?_⟩ <;> simp at h
  · have hif := h
    have hx : f[i]?.getD [] ∈ f := by simp [h]
    have hdl := drvL_take (y := y) (n := y.length) (vs := vs) h
    have hpp : partB (y.length : Int) (f[i]?.getD []) = true := by rw [hl]; exact hf.part _ hx
    have hq : ∀ kk x, polF (f[i]?.getD []) kk = some x → isN x ∧ KOk y.length kk := fun kk x hkx => polF_kok (by omega) hpp hkx
    simp [go_sem, fpols_drop hif]
    refine ⟨⟨hif, by rintro rfl; simp at hif⟩, ?_⟩
    refine loop_inv (9 :: 11 :: List.range' 21 8) (fun j : Nat => [(9, .fmp (DvM y.length (vs.take j) (polF (f[i]?.getD [])))), (21, .int j)]) (fun j => j ≤ vs.length) (fun j => vs.length - j) 0 (by simp) (by simp [go_sem, DvM]) (by simp [go_sem]) ?_
    intro j hj
    simp [go_sem]
    refine ⟨fun h => ?_, fun h => ?_⟩ <;> simp at h
    · have hvm : vs[j]?.getD [] ∈ vs := by simp [h]
      have hvj := hv _ hvm
      have cA := along_c (n := y.length) (DvM y.length (vs.take j) (polF (f[i]?.getD []))) (vs[j]?.getD []) hvj.2 hvj.1 (by omega) (DvM_kok (by omega) _ hq)
      have ht := DvM_take (n := y.length) h (polF (f[i]?.getD []))
      simp [go_sem, mat_drop h]
      refine ⟨⟨h, by rintro rfl; simp at h⟩, ?_⟩
      refine CallVC.of (cA) (by decide) ?_
      simp [go_sem]
      exact ⟨by omega, j + 1, by omega, by omega, Off_reset _ _ _ (by simp), ht.symm, by omega⟩
    · have e : j = vs.length := by omega
      subst e
      have cV := value_c2 (DvM y.length vs (polF (f[i]?.getD []))) y hy (by omega) (DvM_kok (by omega) _ hq)
      rw [drvP_eq (by omega) rfl hpp] at cV
      rw [List.take_length]
      simp [go_sem]
      refine CallVC.of (cV) (by decide) ?_
      simp [go_sem]
      exact ⟨by omega, by omega, i + 1, by omega, by omega, (Off.reset (by intro x hx; simp at hx ⊢; omega) (by simp) (by simp [go_sem, Off_reset])), by rw [hdl]; simp [avs_snoc], by omega⟩
  · simp [go_sem]
    have e : i = f.length := by omega
    subst e; simp
theorem add_mul_mod (s a b : Int) : (s % 10007 + a * (b % 10007) % 10007) % 10007 = (s + a * b) % 10007 := by
  rw [mod_mul_r, ← Int.add_emod]
set_option maxRecDepth 100000 in
theorem l13Along_c {n : Nat} (y : List Int) (hy : Ns y) (hl : y.length = n) (hn : n ≤ 3) : ∀ (vs : List (List Int)) (p : List Mon), Vecs n vs → vs.length ≤ 1048576 → (∀ m ∈ p, WOk n 3 m) → p.length ≤ 1048576 →
    Con Try.prog 207 [.sl p.length (mons p), .sl y.length (avs y), .sl vs.length (mat vs)] (.int (alongS y n vs p % 10007))
  | [], p, _, _, hp, hpl => by
    have cV := l13ValueW_c (B := 3) p y hy (by omega) (by omega) (by omega) (by omega) (by rw [hl]; exact hp)
    refine con_of_vc Try.mixed ⟨9, [], [], []⟩ Try.func207 (by decide) rfl (by simp) (by decide) (by simp [freshOK, freshL, go_sem]) ?_
    rw [Try.ntmps207]
    simp [go_sem]
    refine CallVC.of (cV) (by decide) ?_
    simp [go_sem]
    rfl
  | v :: vs, p, hv, hvl, hp, hpl => by
    have hv0 := hv v (by simp)
    have em : mat (v :: vs) = .sl v.length (avs v) :: mat vs := rfl
    have el : ((v :: vs).length : Int) = (vs.length : Int) + 1 := by simp
    have ih := fun q hq hql => l13Along_c (n := n) y hy hl hn vs q (fun u hu => hv u (by simp [hu])) (by simp at hvl; omega) hq hql
    simp at hvl
    rw [em]
    refine con_of_vc Try.mixed ⟨9, [], [], []⟩ Try.func207 (by decide) rfl (by simp) (by decide) (by simp [freshOK, freshL, go_sem]) ?_
    rw [Try.ntmps207]
    simp [go_sem]
    refine ⟨fun h => ?_, fun h => ?_⟩
    · simp at h; omega
    simp [go_sem]
    refine loop_inv (7 :: 8 :: List.range' 15 22) (fun k : Nat => [(7, .int (sumTo (fun k => yat v k * alongS y n vs (derL k p)) k % 10007)), (8, .int k)]) (fun k => k ≤ n) (fun k => n - k) 0 (by simp) (by simp [go_sem, sumTo]) (by simp [go_sem]) ?_
    intro k hk
    simp [go_sem]
    refine ⟨fun h => ?_, fun h => ?_⟩ <;> simp at h
    · have hkn : k < n := by omega
      have hkv : k < v.length := by omega
      have hdl := derGo_len k p []
      have cD := l13Derive_c (n := n) (B := 3) p k hkn (by omega) (by omega) (by omega) hp (by omega)
      have cA := ih (derL k p) (derGo_wok hkn _ [] hp (by simp)) (by unfold derL; simp at hdl; omega)
      have hm := mul_fits (hv0.2.get k) (isN_mod (alongS y n vs (derL k p)))
      have hst : sumTo (fun k => yat v k * alongS y n vs (derL k p)) (k + 1) = sumTo (fun k => yat v k * alongS y n vs (derL k p)) k + v[k]?.getD 0 * alongS y n vs (derL k p) := rfl
      generalize sumTo (fun k => yat v k * alongS y n vs (derL k p)) k = s at *
      have ha := add_fits (isN_mod s) (isN_mod (v[k]?.getD 0 * (alongS y n vs (derL k p) % 10007)))
      simp [go_sem, avs_drop hkv]
      refine ⟨by kernel_rfl, ⟨hkv, by rintro rfl; simp at hkv⟩, ?_⟩
      refine CallD.of (cD) (by simp [roots, rootsL]) (by decide) ?_
      simp [go_sem]
      refine ⟨by omega, ?_⟩
      rw [List.take_of_length_le (by simp)]
      refine CallD.of (cA) (by simp [roots, rootsL]) (by decide) ?_
      simp [go_sem]
      refine CallD.of (l01Mul_c _ _ hm) (by simp [roots, rootsL]) (by decide) ?_
      simp [go_sem]
      refine CallD.of (l01Add_c _ _ ha) (by simp [roots, rootsL]) (by decide) ?_
      simp [go_sem]
      refine ⟨by kernel_rfl, ?_⟩
      simp [go_sem]
      exact ⟨by omega, k + 1, by omega, by omega, Off_reset _ _ _ (by simp), by rw [hst, Int.add_emod, mod_mul_r, ← Int.add_emod], by omega⟩
    · simp [go_sem]
      have e : k = n := by omega
      subst e
      rfl
theorem l13Derivative_c (z : Int) (f : List (List Mon)) (y : List Int) (vs : List (List Int)) (hf : FieldOk z f) (hs : Small f) (hy : Ns y) (hl : (y.length : Int) = z) (hv : Vecs y.length vs) (hvl : vs.length ≤ 1048576) :
    Con Try.prog 134 [.agg [.int z, .sl f.length (prt f)], .sl y.length (avs y), .sl vs.length (mat vs)] (.own 2 f.length (avs (drvL y y.length vs f))) := by
  have fl := hs.1
  have z3 := hf.hi
  refine con_of_vc Try.mixed ⟨9, [], [], []⟩ Try.func134 (by decide) rfl (by simp) (by decide) (by simp [freshOK, freshL, go_sem]) ?_
  rw [Try.ntmps134]
  simp [go_sem]
  refine loop_inv (7 :: 8 :: List.range' 10 24) (fun i : Nat => [(7, .own 2 i (avs (drvL y y.length vs (f.take i)))), (8, .int i)]) (fun i => i ≤ f.length) (fun i => f.length - i) 0 (by simp) (by simp [go_sem, drvL]) (by simp [go_sem]) ?_
  intro i hi
  simp [go_sem]
  refine ⟨fun h => ?_, fun h => ?_⟩ <;> simp at h
  · have hif := h
    have hx : f[i]?.getD [] ∈ f := by simp [h]
    have hdl := drvL_take (y := y) (n := y.length) (vs := vs) h
    have hpp : partB (y.length : Int) (f[i]?.getD []) = true := by rw [hl]; exact hf.part _ hx
    by_cases h3 : 3 < vs.length
    · have h3' : (3 : Int) < vs.length := by omega
      have hd : drvP y y.length vs (f[i]?.getD []) = 0 := by unfold drvP; rw [if_pos h3]
      rw [hd] at hdl
      simp [go_sem, h3, h3']
      exact ⟨by omega, by omega, i + 1, by omega, by omega, Off_reset _ _ _ (by simp), by rw [hdl]; simp [avs_snoc], by omega⟩
    · have h3' : ¬ (3 : Int) < vs.length := by omega
      have hd : drvP y y.length vs (f[i]?.getD []) = alongS y y.length vs (f[i]?.getD []) % 10007 := by unfold drvP; rw [if_neg h3]
      rw [hd] at hdl
      have cA := l13Along_c (n := y.length) y hy rfl (by omega) vs (f[i]?.getD []) hv hvl (fun m hm => (partB_mem hpp hm).vok.wok) (hs.2 _ hx).1
      simp [go_sem, h3, h3', prt_drop hif]
      refine ⟨⟨hif, by rintro rfl; simp at hif⟩, ?_⟩
      refine CallVC.of (cA) (by decide) ?_
      simp [go_sem]
      exact ⟨by omega, by omega, i + 1, by omega, by omega, Off_reset _ _ _ (by simp), by rw [hdl]; simp [avs_snoc], by omega⟩
  · simp [go_sem]
    have e : i = f.length := by omega
    subst e; simp
/-- What derivatives at a point answer. -/
def daB (z : Int) (y : List Int) (vs : List (List Int)) : Bool := vecB z y && decide (vs.length ≤ 8) && vs.all (vecB z)
def daX (z : Int) (f : List (List Mon)) (y : List Int) (vs : List (List Int)) : List Int := if fieldB z f = true ∧ daB z y vs = true then drvL y y.length vs f else []
def daE (z : Int) (f : List (List Mon)) (y : List Int) (vs : List (List Int)) : Int := if fieldB z f = true then if daB z y vs = true then 0 else 2 else 1
def daR (z : Int) (f : List (List Mon)) (y : List Int) (vs : List (List Int)) : AV := .tup [.own 2 (daX z f y vs).length (avs (daX z f y vs)), .int (daE z f y vs)]
theorem vecB_iff {z : Int} {y : List Int} : vecB z y = true ↔ (y.length : Int) = z ∧ Ns y := by
  unfold vecB; simp [numsB_N]
theorem daB_ok {z : Int} {y : List Int} {vs : List (List Int)} (h : daB z y vs = true) : ((y.length : Int) = z ∧ Ns y) ∧ vs.length ≤ 8 ∧ Vecs y.length vs := by
  unfold daB at h
  simp only [Bool.and_eq_true, decide_eq_true_eq, List.all_eq_true] at h
  obtain ⟨⟨h1, h2⟩, h3⟩ := h
  have h1 := vecB_iff.1 h1
  exact ⟨h1, h2, fun v hv => by have := vecB_iff.1 (h3 v hv); exact ⟨by omega, this.2⟩⟩
set_option maxRecDepth 100000 in
theorem DerivativeAt_c (z : Int) (f : List (List Mon)) (y : List Int) (vs : List (List Int)) (hs : Small f) (hy : y.length ≤ 1048576) (hvl : vs.length ≤ 1048576) (hvr : ∀ v ∈ vs, v.length ≤ 1048576) :
    Con Try.prog 43 [.agg [.int z, .sl f.length (prt f)], .sl y.length (avs y), .sl vs.length (mat vs)] (daR z f y vs) := by
  have cK := checkVectors_c z f (y :: vs) hs (by simp; omega) (fun v hv => by rcases List.mem_cons.1 hv with rfl | hv; omega; have := hvr v hv; omega)
  have em : mat (y :: vs) = .sl y.length (avs y) :: mat vs := rfl
  have el : (y :: vs).length = 1 + vs.length := by simp; omega
  rw [em, el] at cK
  unfold daR daX daE
  unfold chk at cK
  have hany : (y :: vs).any (fun y => !vecB z y) = !(vecB z y && vs.all (vecB z)) := by
    rw [List.any_cons]
    cases vecB z y with
    | false => rfl
    | true => rw [← List.not_all_eq_any_not]; simp
  rw [hany] at cK
  have hda : daB z y vs = (decide (vs.length ≤ 8) && (vecB z y && vs.all (vecB z))) := by
    unfold daB
    cases vecB z y <;> cases decide (vs.length ≤ 8) <;> simp
  cases hT : fieldB z f with
  | false =>
    rw [hT] at cK
    refine Con.n1 _ ?_
    refine con_of_vc Try.mixed ⟨9, [], [], []⟩ Try.func43 (by decide) rfl (by simp) (by decide) (by simp [freshOK, freshL, go_sem]) ?_
    rw [Try.ntmps43]
    simp [go_sem]
    refine ⟨by kernel_rfl, ⟨by omega, by omega⟩, ?_⟩
    refine CallD.of (cK) (by simp [roots, rootsL]) (by decide) ?_
    simp [go_sem]
    refine ⟨by kernel_rfl, ?_⟩
    simp [go_sem]
  | true =>
    rw [hT] at cK
    rw [hda]
    cases hb : (vecB z y && vs.all (vecB z)) with
    | false =>
      rw [hb] at cK
      simp only [Bool.not_false, if_true] at cK
      simp only [Bool.and_false, Bool.false_eq_true, and_false, if_false, if_true]
      refine Con.n1 _ ?_
      refine con_of_vc Try.mixed ⟨9, [], [], []⟩ Try.func43 (by decide) rfl (by simp) (by decide) (by simp [freshOK, freshL, go_sem]) ?_
      rw [Try.ntmps43]
      simp [go_sem]
      refine ⟨by kernel_rfl, ⟨by omega, by omega⟩, ?_⟩
      refine CallD.of (cK) (by simp [roots, rootsL]) (by decide) ?_
      simp [go_sem]
      refine ⟨by kernel_rfl, ?_⟩
      simp [go_sem]
    | true =>
      rw [hb] at cK
      simp only [Bool.not_true, Bool.false_eq_true, if_false, if_true] at cK
      by_cases h8 : vs.length ≤ 8
      · have h8' : ¬ (8 : Int) < vs.length := by omega
        have h8n : ¬ 8 < vs.length := by omega
        have hF := fieldB_iff.1 hT
        have hd : daB z y vs = true := by rw [hda, hb, decide_eq_true h8]; rfl
        obtain ⟨hy2, _, hV⟩ := daB_ok hd
        simp only [h8, decide_true, Bool.and_self, and_self, if_true, drvL_len]
        refine con_of_vc Try.mixed ⟨9, [], [], []⟩ Try.func43 (by decide) rfl (by simp) (by decide) (by simp [freshOK, freshL, go_sem]) ?_
        rw [Try.ntmps43]
        simp [go_sem]
        refine ⟨by kernel_rfl, ⟨by omega, by omega⟩, ?_⟩
        refine CallD.of (cK) (by simp [roots, rootsL]) (by decide) ?_
        simp [go_sem]
        refine ⟨by kernel_rfl, ?_⟩
        simp [go_sem]
        simp [go_sem, h8', h8n]
        refine CallVC.of (polynomials_c z f hF hs) (by decide) ?_
        simp [go_sem]
        refine CallVC.of (derivativeAt_c z f y vs hF hs hy2.2 hy2.1 hV hvl) (by decide) ?_
        simp [go_sem]
      · have h8' : (8 : Int) < vs.length := by omega
        have h8n : 8 < vs.length := by omega
        simp only [h8, decide_false, Bool.false_and, Bool.false_eq_true, and_false, if_false, if_true]
        refine Con.n1 _ ?_
        refine con_of_vc Try.mixed ⟨9, [], [], []⟩ Try.func43 (by decide) rfl (by simp) (by decide) (by simp [freshOK, freshL, go_sem]) ?_
        rw [Try.ntmps43]
        simp [go_sem]
        refine ⟨by kernel_rfl, ⟨by omega, by omega⟩, ?_⟩
        refine CallD.of (cK) (by simp [roots, rootsL]) (by decide) ?_
        simp [go_sem]
        refine ⟨by kernel_rfl, ?_⟩
        simp [go_sem]
        simp [go_sem, h8', h8n]
end Go.Proofs.Ytoamidolomldnaa

/- Contracts: the reference's derivatives at points; the marks of lists of rows handed in. -/
namespace Go.Proofs.Ytoamidolomldnaa
open Go.Abs
set_option linter.unusedVariables false
set_option linter.unusedSimpArgs false
set_option maxHeartbeats 4000000
set_option maxRecDepth 100000 in
theorem specDerivativeAt_c (z : Int) (f : List (List Mon)) (y : List Int) (vs : List (List Int)) (hs : Small f) (hy : y.length ≤ 1048576) (hvl : vs.length ≤ 1048576) (hvr : ∀ v ∈ vs, v.length ≤ 1048576) :
    Con Try.prog 44 [.agg [.int z, .sl f.length (prt f)], .sl y.length (avs y), .sl vs.length (mat vs)] (daR z f y vs) := by
  have cT := l13Is_c z f hs
  have cR := l13Point_c z y (by omega)
  unfold daR daX daE
  cases hT : fieldB z f with
  | false =>
    rw [hT] at cT
    refine Con.n1 _ ?_
    refine con_of_vc Try.mixed ⟨9, [], [], []⟩ Try.func44 (by decide) rfl (by simp) (by decide) (by simp [freshOK, freshL, go_sem]) ?_
    rw [Try.ntmps44]
    simp [go_sem]
    refine CallVC.of (cT) (by decide) ?_
    simp [go_sem]
  | true =>
    rw [hT] at cT
    have hvb : (decide ((y.length : Int) = z) && numsB y) = vecB z y := rfl
    rw [hvb] at cR
    have hda : daB z y vs = (vecB z y && decide (vs.length ≤ 8) && vs.all (vecB z)) := rfl
    cases hn : vecB z y with
    | false =>
      rw [hn] at cR
      rw [hda, hn]
      simp only [Bool.false_and, Bool.false_eq_true, and_false, if_false, if_true]
      refine Con.n1 _ ?_
      refine con_of_vc Try.mixed ⟨9, [], [], []⟩ Try.func44 (by decide) rfl (by simp) (by decide) (by simp [freshOK, freshL, go_sem]) ?_
      rw [Try.ntmps44]
      simp [go_sem]
      refine CallVC.of (cT) (by decide) ?_
      simp [go_sem]
      refine CallVC.of (cR) (by decide) ?_
      simp [go_sem]
    | true =>
      rw [hn] at cR
      rw [hn] at hda
      by_cases h8 : vs.length ≤ 8
      · have h8' : ¬ (8 : Int) < vs.length := by omega
        have h8n : ¬ 8 < vs.length := by omega
        simp only [h8, decide_true, Bool.and_self, Bool.true_and] at hda
        rw [hda]
        cases ha : vs.all (vecB z) with
        | true =>
          rw [ha] at hda
          have hF := fieldB_iff.1 hT
          obtain ⟨hy2, _, hV⟩ := daB_ok hda
          have hall : ∀ v ∈ vs, vecB z v = true := List.all_eq_true.1 ha
          simp only [and_self, if_true, drvL_len]
          refine con_of_vc Try.mixed ⟨9, [], [], []⟩ Try.func44 (by decide) rfl (by simp) (by decide) (by simp [freshOK, freshL, go_sem]) ?_
          rw [Try.ntmps44]
          simp [go_sem]
          refine CallVC.of (cT) (by decide) ?_
          simp [go_sem]
          refine CallVC.of (cR) (by decide) ?_
          simp [go_sem]
          simp [go_sem, h8', h8n]
          refine loop_inv (6 :: 7 :: 8 :: List.range' 22 14) (fun i : Nat => [(8, .int i)]) (fun i => i ≤ vs.length) (fun i => vs.length - i) 0 (by simp) (by simp [go_sem]) (by simp [go_sem]) ?_
          intro i hi
          simp [go_sem]
          refine ⟨fun h => ?_, fun h => ?_⟩ <;> simp at h
          · have hx : vs[i]?.getD [] ∈ vs := by simp [h]
            have cV := l13Point_c z (vs[i]?.getD []) (by have := hvr _ hx; omega)
            have hv : (decide (((vs[i]?.getD []).length : Int) = z) && numsB (vs[i]?.getD [])) = true := hall _ hx
            rw [hv] at cV
            simp [go_sem, mat_drop h]
            refine ⟨by kernel_rfl, ⟨h, by rintro rfl; simp at h⟩, ?_⟩
            refine CallD.of (cV) (by simp [roots, rootsL]) (by decide) ?_
            simp [go_sem]
            refine ⟨by kernel_rfl, ?_⟩
            simp [go_sem]
            exact ⟨by omega, i + 1, by omega, by omega, Off_reset _ _ _ (by simp), by omega⟩
          · simp [go_sem]
            refine CallVC.of (l13Derivative_c z f y vs hF hs hy2.2 hy2.1 hV hvl) (by decide) ?_
            simp [go_sem]
        | false =>
          simp only [Bool.false_eq_true, and_false, if_false, if_true]
          refine Con.n1 _ ?_
          refine con_of_vc Try.mixed ⟨9, [], [], []⟩ Try.func44 (by decide) rfl (by simp) (by decide) (by simp [freshOK, freshL, go_sem]) ?_
          rw [Try.ntmps44]
          simp [go_sem]
          refine CallVC.of (cT) (by decide) ?_
          simp [go_sem]
          refine CallVC.of (cR) (by decide) ?_
          simp [go_sem]
          simp [go_sem, h8', h8n]
          refine loop_inv (6 :: 7 :: 8 :: List.range' 22 14) (fun i : Nat => [(8, .int i)]) (fun i => i ≤ vs.length ∧ ∀ v ∈ vs.take i, vecB z v = true) (fun i => vs.length - i) 0 (by simp) (by simp [go_sem]) (by simp [go_sem]) ?_
          rintro i ⟨hi, hp⟩
          simp [go_sem]
          refine ⟨fun h => ?_, fun h => ?_⟩ <;> simp at h
          · have hx : vs[i]?.getD [] ∈ vs := by simp [h]
            have cV := l13Point_c z (vs[i]?.getD []) (by have := hvr _ hx; omega)
            have hvb2 : (decide (((vs[i]?.getD []).length : Int) = z) && numsB (vs[i]?.getD [])) = vecB z (vs[i]?.getD []) := rfl
            rw [hvb2] at cV
            cases hv : vecB z (vs[i]?.getD []) with
            | false =>
              rw [hv] at cV
              simp [go_sem, mat_drop h]
              refine ⟨by kernel_rfl, ⟨h, by rintro rfl; simp at h⟩, ?_⟩
              refine CallD.of (cV) (by simp [roots, rootsL]) (by decide) ?_
              simp [go_sem]
              refine ⟨by kernel_rfl, ?_⟩
              simp [go_sem]
            | true =>
              rw [hv] at cV
              simp [go_sem, mat_drop h]
              refine ⟨by kernel_rfl, ⟨h, by rintro rfl; simp at h⟩, ?_⟩
              refine CallD.of (cV) (by simp [roots, rootsL]) (by decide) ?_
              simp [go_sem]
              refine ⟨by kernel_rfl, ?_⟩
              simp [go_sem]
              refine ⟨by omega, i + 1, ⟨by omega, fun v hv2 => ?_⟩, by omega, Off_reset _ _ _ (by simp), by omega⟩
              rw [List.take_add_one, List.getElem?_eq_getElem h, Option.toList_some, List.mem_append, List.mem_singleton] at hv2
              rcases hv2 with hv2 | hv2
              · exact hp v hv2
              · rw [hv2]; simpa [h] using hv
          · have hbad : False := by
              rw [List.take_of_length_le h] at hp
              rw [List.all_eq_true.2 hp] at ha
              exact Bool.noConfusion ha
            exact hbad.elim
      · have h8' : (8 : Int) < vs.length := by omega
        have h8n : 8 < vs.length := by omega
        rw [hda]
        simp only [h8, decide_false, Bool.and_false, Bool.false_and, Bool.false_eq_true, and_false, if_false, if_true]
        refine Con.n1 _ ?_
        refine con_of_vc Try.mixed ⟨9, [], [], []⟩ Try.func44 (by decide) rfl (by simp) (by decide) (by simp [freshOK, freshL, go_sem]) ?_
        rw [Try.ntmps44]
        simp [go_sem]
        refine CallVC.of (cT) (by decide) ?_
        simp [go_sem]
        refine CallVC.of (cR) (by decide) ?_
        simp [go_sem]
        simp [go_sem, h8', h8n]
theorem daX_len (z : Int) (f : List (List Mon)) (y : List Int) (vs : List (List Int)) : (daX z f y vs).length ≤ f.length := by
  unfold daX; split <;> simp
end Go.Proofs.Ytoamidolomldnaa

/- Level lists: their test, their branches: plain laws. -/
namespace Go.Proofs.Ytoamidolomldnaa
set_option linter.unusedVariables false
set_option linter.unusedSimpArgs false
def okB (t : List Int) (j : Nat) : Bool := decide (1 ≤ t[j]?.getD 0) && decide (t[j]?.getD 0 ≤ t[j - 1]?.getD 0 + 1)
def lv0 (t : List Int) : Bool := decide (0 < t.length) && decide (t[0]?.getD 0 = 0) && (List.range t.length).all (fun j => decide (j = 0) || okB t j)
def lvB (t : List Int) : Bool := lv0 t && decide (t.length ≤ 8)
theorem lv0_no {t : List Int} {j : Nat} (hj : j < t.length) (h0 : 0 < j) (h : okB t j = false) : lv0 t = false := by
  unfold lv0
  have : (List.range t.length).all (fun j => decide (j = 0) || okB t j) = false := by
    rw [List.all_eq_false]; exact ⟨j, by simpa using hj, by simp [h]; omega⟩
  rw [this]; simp
theorem lv0_t0 {t : List Int} (h : t[0]?.getD 0 ≠ 0) : lv0 t = false := by
  unfold lv0; rw [decide_eq_false h]; simp
theorem lv0_yes {t : List Int} (h1 : 0 < t.length) (h2 : t[0]?.getD 0 = 0) (h : ∀ j, 0 < j → j < t.length → okB t j = true) : lv0 t = true := by
  unfold lv0
  have : (List.range t.length).all (fun j => decide (j = 0) || okB t j) = true := by
    rw [List.all_eq_true]; intro j hj
    by_cases e : j = 0
    · simp [e]
    · simp [h j (by omega) (by simpa using hj)]
  rw [this, decide_eq_true h1, decide_eq_true h2]; rfl
theorem ok_le {t : List Int} {i : Nat} (h0 : t[0]?.getD 0 = 0) (h : ∀ j, 0 < j → j < i → okB t j = true) : ∀ j, j < i → 0 ≤ t[j]?.getD 0 ∧ t[j]?.getD 0 ≤ j
  | 0, _ => by omega
  | j + 1, hj => by
    have := ok_le h0 h j (by omega)
    have h2 := h (j + 1) (by omega) hj
    unfold okB at h2
    simp only [Nat.add_sub_cancel, Bool.and_eq_true, decide_eq_true_eq] at h2
    omega
/-- The branches so far; the next level. -/
def brStep (out : List (List Int)) (x : Int) : List (List Int) :=
  let o := if x = 1 then out ++ [[]] else out
  o.set (o.length - 1) (o[o.length - 1]?.getD [] ++ [x - 1])
def brGo (out : List (List Int)) : List Int → List (List Int)
  | [] => out
  | x :: l => brGo (brStep out x) l
def brs (t : List Int) : List (List Int) := brGo [] (t.drop 1)
theorem brGo_app (out : List (List Int)) (l r : List Int) : brGo out (l ++ r) = brGo (brGo out l) r := by
  induction l generalizing out with
  | nil => rfl
  | cons x l ih => exact ih _
theorem brs_take {t : List Int} {i : Nat} (h1 : 1 ≤ i) (h : i < t.length) : brs (t.take (i + 1)) = brStep (brs (t.take i)) (t[i]?.getD 0) := by
  unfold brs
  have e : (t.take (i + 1)).drop 1 = (t.take i).drop 1 ++ [t[i]?.getD 0] := by
    rw [List.take_add_one, List.getElem?_eq_getElem h, Option.toList_some, List.drop_append_of_le_length (by simp; omega)]; rfl
  rw [e, brGo_app]; rfl
/-- A level list of any length. -/
def Lv (t : List Int) : Prop := 0 < t.length ∧ t[0]?.getD 0 = 0 ∧ ∀ j, 0 < j → j < t.length → 1 ≤ t[j]?.getD 0 ∧ t[j]?.getD 0 ≤ t[j - 1]?.getD 0 + 1
theorem lv0_Lv {t : List Int} (h : lv0 t = true) : Lv t := by
  unfold lv0 at h
  simp only [Bool.and_eq_true, decide_eq_true_eq, List.all_eq_true] at h
  refine ⟨h.1.1, h.1.2, fun j h1 h2 => ?_⟩
  have := h.2 j (by simpa using h2)
  rw [decide_eq_false (by omega)] at this
  unfold okB at this
  simpa using this
theorem Lv.le {t : List Int} (h : Lv t) : ∀ j, j < t.length → 0 ≤ t[j]?.getD 0 ∧ t[j]?.getD 0 ≤ j
  | 0, _ => by rw [h.2.1]; omega
  | j + 1, hj => by
    have h1 := h.le j (by omega)
    have h2 := h.2.2 (j + 1) (by omega) hj
    rw [Nat.add_sub_cancel] at h2
    omega
theorem Lv.snoc {t : List Int} {x : Int} (h : Lv t) (h1 : 1 ≤ x) (h2 : x ≤ t[t.length - 1]?.getD 0 + 1) : Lv (t ++ [x]) := by
  obtain ⟨k1, k2, k3⟩ := h
  refine ⟨by simp, by rw [List.getElem?_append_left k1]; exact k2, fun j hj hl => ?_⟩
  simp at hl
  by_cases e : j = t.length
  · subst e
    rw [List.getElem?_append_right (by omega), List.getElem?_append_left (by omega)]
    simp; exact ⟨h1, h2⟩
  · rw [List.getElem?_append_left (by omega), List.getElem?_append_left (by omega)]
    exact k3 j hj (by omega)
theorem Lv_zero : Lv [0] := ⟨by simp, rfl, fun j h1 h2 => by simp at h2; omega⟩
def sumN : List (List Int) → Nat
  | [] => 0
  | b :: l => b.length + sumN l
theorem sumN_app (a b : List (List Int)) : sumN (a ++ b) = sumN a + sumN b := by
  induction a with
  | nil => simp [sumN]
  | cons x a ih => simp [sumN, ih]; omega
theorem sumN_mem {l : List (List Int)} {b : List Int} (h : b ∈ l) : b.length ≤ sumN l := by
  induction l with
  | nil => simp at h
  | cons x l ih =>
    rw [sumN]
    rcases List.mem_cons.1 h with rfl | h
    · omega
    · have := ih h; omega
theorem len_sumN {l : List (List Int)} (h : ∀ b ∈ l, 0 < b.length) : l.length ≤ sumN l := by
  induction l with
  | nil => simp
  | cons x l ih =>
    have h1 := h x (by simp)
    have h2 := ih (fun b hb => h b (by simp [hb]))
    rw [sumN]; simp; omega
/-- What holds of the branches so far, where the last level was p. -/
def BrI (out : List (List Int)) (p : Int) (n : Nat) : Prop :=
  (∀ b ∈ out, Lv b) ∧ sumN out = n ∧ ((out = [] ∧ p = 0) ∨ ∃ i l, out = i ++ [l] ∧ l[l.length - 1]?.getD 0 = p - 1)
theorem brStep_i {out : List (List Int)} {p x : Int} {n : Nat} (h : BrI out p n) (h1 : 1 ≤ x) (h2 : x ≤ p + 1) : BrI (brStep out x) x (n + 1) ∧ (x ≠ 1 → out ≠ []) := by
  obtain ⟨k1, k2, k3⟩ := h
  by_cases hx : x = 1
  · subst hx
    have e : brStep out 1 = out ++ [[0]] := by
      unfold brStep
      simp only [if_true]
      rw [List.set_append_right _ _ (by simp), List.getElem?_append_right (by simp)]
      simp
    rw [e]
    refine ⟨⟨fun b hb => ?_, by rw [sumN_app, k2]; rfl, .inr ⟨out, [0], rfl, rfl⟩⟩, by simp⟩
    rcases List.mem_append.1 hb with hb | hb
    · exact k1 b hb
    · simp at hb; subst hb; exact Lv_zero
  · rcases k3 with ⟨rfl, rfl⟩ | ⟨i, l, rfl, hl⟩
    · omega
    · have e : brStep (i ++ [l]) x = i ++ [l ++ [x - 1]] := by
        unfold brStep
        simp only [if_neg hx]
        rw [List.set_append_right _ _ (by simp), List.getElem?_append_right (by simp)]
        simp
      rw [e]
      have hLl := k1 l (by simp)
      refine ⟨⟨fun b hb => ?_, ?_, .inr ⟨i, _, rfl, by simp⟩⟩, by simp⟩
      · rcases List.mem_append.1 hb with hb | hb
        · exact k1 b (by simp [hb])
        · simp at hb; subst hb
          exact hLl.snoc (by omega) (by rw [hl]; omega)
      · rw [sumN_app] at k2 ⊢
        simp [sumN] at k2 ⊢; omega
theorem brs_i {t : List Int} (h : Lv t) : ∀ i, 1 ≤ i → i ≤ t.length → BrI (brs (t.take i)) (t[i - 1]?.getD 0) (i - 1)
  | 1, _, _ => by
    have e : brs (t.take 1) = [] := by
      unfold brs
      cases t with
      | nil => rfl
      | cons a t => rfl
    rw [e]
    refine ⟨by simp, rfl, .inl ⟨rfl, ?_⟩⟩
    simpa using h.2.1
  | i + 2, _, hl => by
    have ih := brs_i h (i + 1) (by omega) (by omega)
    have hb := h.2.2 (i + 1) (by omega) (by omega)
    rw [brs_take (by omega) (by omega)]
    exact (brStep_i ih hb.1 hb.2).1
theorem brs_ne {t : List Int} (h : Lv t) {i : Nat} (h1 : 1 ≤ i) (hl : i < t.length) (hx : t[i]?.getD 0 ≠ 1) : brs (t.take i) ≠ [] := by
  have ih := brs_i h i h1 (by omega)
  have hb := h.2.2 i (by omega) hl
  exact (brStep_i ih hb.1 hb.2).2 hx
theorem brs_ok {t : List Int} (h : Lv t) {b : List Int} (hb : b ∈ brs t) : Lv b ∧ b.length < t.length := by
  have hl := h.1
  have := brs_i h t.length (by omega) (by omega)
  rw [List.take_length] at this
  obtain ⟨k1, k2, _⟩ := this
  have := sumN_mem hb
  exact ⟨k1 b hb, by omega⟩
theorem brs_many {t : List Int} (h : Lv t) {i : Nat} (h1 : 1 ≤ i) (hl : i ≤ t.length) : (brs (t.take i)).length < i := by
  obtain ⟨k1, k2, _⟩ := brs_i h i h1 hl
  have := len_sumN (fun b hb => (k1 b hb).1)
  omega
end Go.Proofs.Ytoamidolomldnaa

/- Contracts: level lists and their branches. -/
namespace Go.Proofs.Ytoamidolomldnaa
open Go.Abs
set_option linter.unusedVariables false
set_option linter.unusedSimpArgs false
set_option maxHeartbeats 4000000
set_option maxRecDepth 100000 in
theorem l03Is_c (t : List Int) (hl : t.length ≤ 1048576) : Con Try.prog 185 [.sl t.length (avs t)] (.bool (lvB t)) := by
  by_cases h0 : t[0]?.getD 0 = 0
  · refine con_of_vc Try.mixed ⟨4, [], [], []⟩ Try.func185 (by decide) rfl (by simp) (by decide) (by simp [freshOK, freshL, go_sem]) ?_
    rw [Try.ntmps185]
    simp [go_sem]
    refine loop_inv (List.range' 2 20) (fun i : Nat => [(3, .int i)]) (fun i => 1 ≤ i ∧ (i ≤ t.length ∨ i = 1) ∧ ∀ j, 0 < j → j < i → okB t j = true) (fun i => t.length - i) 1 (by simp; omega) (by simp [go_sem]) (by simp [go_sem]) ?_
    rintro i ⟨hi1, hi, hp⟩
    simp [go_sem]
    refine ⟨fun h => ?_, fun h => ?_⟩ <;> simp at h
    · have hif := h
      have ek : (i : Int) - 1 = ((i - 1 : Nat) : Int) := by omega
      have hk : i - 1 < t.length := by omega
      have hle := ok_le h0 hp (i - 1) (by omega)
      have hok : okB t i = (decide (1 ≤ t[i]?.getD 0) && decide (t[i]?.getD 0 ≤ t[i - 1]?.getD 0 + 1)) := rfl
      simp [go_sem, avs_drop hif, ek, avs_drop hk]
      refine ⟨by kernel_rfl, ⟨hif, by rintro rfl; simp at hif⟩, by omega, ⟨hk, by rintro rfl; simp at hif⟩, by omega, ?_⟩
      have cI := l01In_c (t[i]?.getD 0) 1 (t[i - 1]?.getD 0 + 1)
      rw [← hok] at cI
      cases hb : okB t i with
      | true =>
        rw [hb] at cI
        refine CallD.of (cI) (by simp [roots, rootsL]) (by decide) ?_
        simp [go_sem]
        refine ⟨by kernel_rfl, ?_⟩
        simp [go_sem]
        refine ⟨by omega, i + 1, ⟨by omega, by omega, fun j h1 h2 => ?_⟩, by omega, Off_reset _ _ _ (by simp), by omega⟩
        by_cases e : j = i
        · rw [e]; exact hb
        · exact hp j h1 (by omega)
      | false =>
        rw [hb] at cI
        refine CallD.of (cI) (by simp [roots, rootsL]) (by decide) ?_
        simp [go_sem]
        refine ⟨by kernel_rfl, ?_⟩
        simp [go_sem]
        unfold lvB; rw [lv0_no hif (by omega) hb]; rfl
    · simp [go_sem]
      by_cases hz : 0 < t.length
      · have hy : lv0 t = true := lv0_yes hz h0 (fun j h1 h2 => hp j h1 (by omega))
        by_cases h8 : t.length ≤ 8
        · have h8' : (t.length : Int) ≤ 8 := by omega
          simp [go_sem, hz, h8, h8', avs_drop hz, h0]
          refine ⟨fun e => by rw [e] at hz; simp at hz, ?_⟩
          have h00 : t[0] = 0 := by simpa [hz] using h0
          unfold lvB; rw [hy, decide_eq_true h8, h00]; rfl
        · have h8' : ¬ (t.length : Int) ≤ 8 := by omega
          simp [go_sem, hz, h8, h8']
          unfold lvB; rw [decide_eq_false h8]; simp
      · simp [go_sem, hz]
        unfold lvB lv0; rw [decide_eq_false hz]; rfl
  · have hno : lvB t = false := by unfold lvB; rw [lv0_t0 h0]; rfl
    rw [hno]
    refine con_of_vc Try.mixed ⟨4, [], [], [999999]⟩ Try.func185 (by decide) rfl (by simp) (by decide) (by simp [freshOK, freshL, go_sem]) ?_
    rw [Try.ntmps185]
    simp [go_sem]
    refine loop_inv (List.range' 2 20) (fun i : Nat => [(3, .int i)]) (fun i => 1 ≤ i ∧ (i ≤ t.length ∨ i = 1)) (fun i => t.length - i) 1 (by simp) (by simp [go_sem]) (by simp [go_sem]) ?_
    rintro i ⟨hi1, hi⟩
    simp [go_sem]
    refine ⟨fun h => ?_, fun h => ?_⟩ <;> simp at h
    · have hif := h
      have hk : i - 1 < t.length := by omega
      have ek : IntKind.i64.wrap ((i : Int) - 1) = ((i - 1 : Nat) : Int) := by rw [wrap_in ((inK_i64 _).2 ⟨by omega, by omega⟩)]; omega
      have ek2 : IntKind.i64.wrap ((i : Int) + 1) = ((i + 1 : Nat) : Int) := by rw [wrap_in ((inK_i64 _).2 ⟨by omega, by omega⟩)]; omega
      have cI := l01In_c (t[i]?.getD 0) 1 (IntKind.i64.wrap (t[i - 1]?.getD 0 + 1))
      generalize (decide (1 ≤ t[i]?.getD 0) && decide (t[i]?.getD 0 ≤ IntKind.i64.wrap (t[i - 1]?.getD 0 + 1))) = b at cI
      simp [go_sem, avs_drop hif, ek, avs_drop hk]
      refine ⟨by kernel_rfl, ⟨hif, by rintro rfl; simp at hif⟩, ⟨hk, by rintro rfl; simp at hif⟩, ?_⟩
      cases b with
      | true =>
        refine CallD.of (cI) (by simp [roots, rootsL]) (by decide) ?_
        simp [go_sem]
        refine ⟨by kernel_rfl, ?_⟩
        simp [go_sem]
        simp [go_sem, ek2]
        exact ⟨i + 1, ⟨by omega, by omega⟩, by omega, Off_reset _ _ _ (by simp), by omega⟩
      | false =>
        refine CallD.of (cI) (by simp [roots, rootsL]) (by decide) ?_
        simp [go_sem]
        refine ⟨by kernel_rfl, ?_⟩
        simp [go_sem]
    · simp [go_sem]
      by_cases hz : 0 < t.length
      · have h00 : ¬ t[0] = 0 := by simpa [hz] using h0
        by_cases h8 : t.length ≤ 8
        · have h8' : (t.length : Int) ≤ 8 := by omega
          simp [go_sem, hz, h8, h8', avs_drop hz, h00]
          intro e; rw [e] at hz; simp at hz
        · have h8' : ¬ (t.length : Int) ≤ 8 := by omega
          simp [go_sem, hz, h8, h8']
      · simp [go_sem, hz]
set_option maxRecDepth 100000 in
theorem isLevelList_c (t : List Int) (hl : t.length ≤ 1048576) : Con Try.prog 240 [.sl t.length (avs t)] (.bool (lv0 t)) := by
  refine con_of_vc Try.mixed ⟨5, [], [], []⟩ Try.func240 (by decide) rfl (by simp) (by decide) (by simp [freshOK, freshL, go_sem]) ?_
  rw [Try.ntmps240]
  simp [go_sem]
  refine loop_inv (2 :: 3 :: 4 :: List.range' 7 27) (fun i : Nat => [(7, .int i)]) (fun i => i ≤ t.length ∧ (0 < i → t[0]?.getD 0 = 0) ∧ ∀ j, 0 < j → j < i → okB t j = true) (fun i => t.length - i) 0 (by simp) (by simp [go_sem]) (by simp [go_sem]) ?_
  rintro i ⟨hi, h0, hp⟩
  simp [go_sem]
  refine ⟨fun h => ?_, fun h => ?_⟩ <;> simp at h
  · have hif := h
    by_cases hz : i = 0
    · have q1 : (i = 0) = True := eq_true hz
      have q2 : ((i : Int) = 0) = True := eq_true (by omega)
      have q3 : (0 < i) = False := eq_false (by omega)
      have q4 : ((0 : Int) < i) = False := eq_false (by omega)
      have h0t : t[0]?.getD 0 = t[i]?.getD 0 := by rw [hz]
      by_cases h00 : t[i]?.getD 0 = 0
      · simp -implicitDefEqProofs [go_sem, q1, q2, q3, q4, avs_drop hif, h00]
        refine ⟨⟨hif, by rintro rfl; simp at hif⟩, ?_⟩
        exact ⟨by omega, i + 1, ⟨by omega, fun _ => by rw [h0t]; exact h00, fun j h1 h2 => by omega⟩, by omega, Off_reset _ _ _ (by simp), by omega⟩
      · simp -implicitDefEqProofs [go_sem, q1, q2, q3, q4, avs_drop hif, h00]
        refine ⟨⟨hif, by rintro rfl; simp at hif⟩, ?_⟩
        rw [lv0_t0 (by rw [h0t]; exact h00)]
    · have hz' : (0 : Int) < i := by omega
      have hz2 : ¬ (i : Int) = 0 := by omega
      have hzp : 0 < i := by omega
      have ek : (i : Int) - 1 = ((i - 1 : Nat) : Int) := by omega
      have hk : i - 1 < t.length := by omega
      have hle := ok_le (h0 hzp) hp (i - 1) (by omega)
      have cI := inRange_c (t[i]?.getD 0) 1 (t[i - 1]?.getD 0 + 1)
      have hok : okB t i = (decide (1 ≤ t[i]?.getD 0) && decide (t[i]?.getD 0 ≤ t[i - 1]?.getD 0 + 1)) := rfl
      rw [← hok] at cI
      simp [go_sem, avs_drop hif, hz, hz2, hzp, hz', ek, avs_drop hk]
      refine ⟨⟨hif, by rintro rfl; simp at hif⟩, by omega, ⟨hk, by rintro rfl; simp at hif⟩, ⟨by omega, by omega⟩, ?_⟩
      cases hb : okB t i with
      | true =>
        rw [hb] at cI
        refine CallVC.of (cI) (by decide) ?_
        simp [go_sem]
        refine ⟨by omega, i + 1, ⟨by omega, fun _ => h0 hzp, fun j h1 h2 => ?_⟩, by omega, Off_reset _ _ _ (by simp), by omega⟩
        by_cases e : j = i
        · rw [e]; exact hb
        · exact hp j h1 (by omega)
      | false =>
        rw [hb] at cI
        refine CallVC.of (cI) (by decide) ?_
        simp [go_sem]
        rw [lv0_no hif hzp hb]
  · simp [go_sem]
    by_cases hz : 0 < t.length
    · rw [lv0_yes hz (h0 (by omega)) (fun j h1 h2 => hp j h1 (by omega)), decide_eq_true hz]
    · unfold lv0; rw [decide_eq_false hz]; rfl
theorem IsLevels_c (t : List Int) (hl : t.length ≤ 1048576) : Con Try.prog 192 [.sl t.length (avs t)] (.bool (lvB t)) := by
  unfold lvB
  have cI := isLevelList_c t hl
  refine con_of_vc Try.mixed ⟨3, [], [], []⟩ Try.func192 (by decide) rfl (by simp) (by decide) (by simp [freshOK, freshL, go_sem]) ?_
  rw [Try.ntmps192]
  simp [go_sem]
  by_cases h8 : t.length ≤ 8
  · have h8' : (t.length : Int) ≤ 8 := by omega
    simp [go_sem, h8, h8']
    refine CallVC.of (cI) (by decide) ?_
    simp [go_sem]
  · have h8' : ¬ (t.length : Int) ≤ 8 := by omega
    simp [go_sem, h8, h8']
end Go.Proofs.Ytoamidolomldnaa

/- Contracts: the branches of level lists. -/
namespace Go.Proofs.Ytoamidolomldnaa
open Go.Abs
set_option linter.unusedVariables false
set_option linter.unusedSimpArgs false
set_option maxHeartbeats 4000000
theorem omat_set (A : List (List Int)) (k : Nat) (l : List Int) : (omat A).set k (.own 2 l.length (avs l)) = omat (A.set k l) := by
  simp [omat, List.map_set]
theorem omat_last {A : List (List Int)} (h : A ≠ []) : (omat A)[A.length - 1]? = some (.own 2 (A[A.length - 1]?.getD []).length (avs (A[A.length - 1]?.getD []))) := by
  have hl : A.length - 1 < A.length := by have := List.length_pos_iff.2 h; omega
  simp [omat, hl]
theorem brStep_one (A : List (List Int)) : brStep A 1 = A ++ [[0]] := by
  unfold brStep
  simp only [if_true]
  rw [List.set_append_right _ _ (by simp), List.getElem?_append_right (by simp)]
  simp
theorem brStep_more {A : List (List Int)} {x : Int} (h : x ≠ 1) : brStep A x = A.set (A.length - 1) (A[A.length - 1]?.getD [] ++ [x - 1]) := by
  unfold brStep; simp only [if_neg h]
set_option maxRecDepth 100000 in
theorem l03Parts_c (t : List Int) (hl : t.length ≤ 1048576) (ht : Lv t) : Con Try.prog 238 [.sl t.length (avs t)] (.own 23 (brs t).length (omat (brs t))) := by
  refine con_of_vc Try.mixed ⟨6, [], [], [1000812990015]⟩ Try.func238 (by decide) rfl (by simp) (by decide) (by simp [freshOK, freshL, go_sem]) ?_
  rw [Try.ntmps238]
  simp [go_sem]
  refine loop_inv (List.range' 3 36) (fun i : Nat => [(3, .own 23 (brs (t.take i)).length (omat (brs (t.take i)))), (4, .int i)]) (fun i => 1 ≤ i ∧ i ≤ t.length) (fun i => t.length - i) 1 (by have := ht.1; omega) (by simp [go_sem]; cases t <;> simp [brs, brGo, omat_nil]) (by simp [go_sem]) ?_
  rintro i ⟨h1, hi⟩
  simp [go_sem]
  refine ⟨fun h => ?_, fun h => ?_⟩ <;> simp at h
  · have hif := h
    have hb := brs_take h1 hif
    have hm := brs_many ht h1 hi
    have hi2 := brs_i ht i h1 hi
    have hok := ht.2.2 i h1 hif
    have hle := ht.le i (by omega)
    by_cases hx : t[i]?.getD 0 = 1
    · rw [hx, brStep_one] at hb
      simp [go_sem, avs_drop hif, hx]
      have e1 : (brs (t.take i)).length + 1 = (brs (t.take (i + 1))).length := by rw [hb]; simp
      have e2 : omat (brs (t.take i)) ++ [AV.own 2 1 [AV.val (Value.int IntKind.i64 0)]] = omat (brs (t.take (i + 1))) := by rw [hb, omat_app, omat_one]; rfl
      repeat' apply And.intro
      all_goals first
        | omega
        | exact ⟨i + 1, ⟨by omega, by omega⟩, by omega, Off_reset _ _ _ (by simp), ⟨e1, e2⟩, by omega⟩
        | (intro e; rw [e] at hif; simp at hif; done)
        | kernel_rfl
    · have hne := brs_ne ht h1 hif hx
      have hla := omat_last hne
      rw [brStep_more hx] at hb
      generalize brs (t.take i) = O at *
      have hOl : 1 ≤ O.length := List.length_pos_iff.2 hne
      have hlen : (O[O.length - 1]?.getD []).length ≤ 1048576 := by
        have := sumN_mem (l := O) (b := O[O.length - 1]?.getD []) (by simp [show O.length - 1 < O.length by omega])
        have := hi2.2.1
        omega
      have hsn := omat_set O (O.length - 1) (O[O.length - 1]?.getD [] ++ [t[i]?.getD 0 - 1])
      rw [← hb] at hsn
      generalize O[O.length - 1]?.getD [] = l at *
      simp [go_sem, avs_drop hif, hx, hla]
      have e1 : O.length = (brs (t.take (i + 1))).length := by rw [hb]; simp
      rw [avs_snoc, List.length_append, List.length_singleton] at hsn
      repeat' apply And.intro
      all_goals first
        | omega
        | exact ⟨i + 1, ⟨by omega, by omega⟩, by omega, Off_reset _ _ _ (by simp), ⟨e1, hsn⟩, by omega⟩
        | (intro e; rw [e] at hif; simp at hif; done)
        | kernel_rfl
  · simp [go_sem]
    rw [List.take_of_length_le h]
    simp
set_option maxRecDepth 100000 in
theorem branchesOf_c (t : List Int) (hl : t.length ≤ 1048576) (ht : Lv t) : Con Try.prog 241 [.sl t.length (avs t)] (.own 23 (brs t).length (omat (brs t))) := by
  have ht1 := ht.1
  have ed : List.take (t.length - 1) (List.drop 1 (avs t)) = avs (t.drop 1) := by
    rw [List.take_of_length_le (by simp)]; simp [avs]
  refine con_of_vc Try.mixed ⟨6, [], [], []⟩ Try.func241 (by decide) rfl (by simp) (by decide) (by simp [freshOK, freshL, go_sem]) ?_
  rw [Try.ntmps241]
  simp [go_sem]
  refine ⟨by omega, ?_⟩
  refine loop_inv (3 :: 5 :: List.range' 10 25) (fun i : Nat => [(3, .own 23 (brs (t.take (i + 1))).length (omat (brs (t.take (i + 1))))), (10, .int i)]) (fun i => i + 1 ≤ t.length) (fun i => t.length - i) 0 (by omega) (by simp [go_sem]; cases t <;> simp [brs, brGo, omat_nil]) (by simp [go_sem]) ?_
  rintro i hi
  simp [go_sem]
  refine ⟨fun h => ?_, fun h => ?_⟩ <;> simp at h
  · have hif : i + 1 < t.length := by omega
    have hda : List.drop i (List.take (t.length - 1) (avs t).tail) = .val (.int .i64 (t[i + 1]?.getD 0)) :: avs (t.drop (i + 2)) := by
      rw [List.take_of_length_le (by simp), ← List.drop_one, List.drop_drop, Nat.add_comm 1 i, avs_drop hif]; simp
    have hnn : ¬ (avs t).tail = [] := fun e => by have := congrArg List.length e; simp at this; omega
    have hn1 : ¬ t.length - 1 = 0 := by omega
    have hn2 : i < t.length - 1 := by omega
    have hb := brs_take (i := i + 1) (by omega) hif
    have hm := brs_many ht (i := i + 1) (by omega) (by omega)
    have hi2 := brs_i ht (i + 1) (by omega) (by omega)
    have hok := ht.2.2 (i + 1) (by omega) hif
    have hle := ht.le (i + 1) hif
    by_cases hx : t[i + 1]?.getD 0 = 1
    · rw [hx, brStep_one] at hb
      have e1 : (brs (t.take (i + 1))).length + 1 = (brs (t.take (i + 1 + 1))).length := by rw [hb]; simp
      have e2 : omat (brs (t.take (i + 1))) ++ [AV.own 2 1 [AV.val (Value.int IntKind.i64 0)]] = omat (brs (t.take (i + 1 + 1))) := by rw [hb, omat_app, omat_one]; rfl
      simp [go_sem, hda, hnn, hn1, hn2, hx]
      exact ⟨⟨by omega, by omega⟩, by omega, by omega, by omega, i + 1, by omega, by omega, Off_reset _ _ _ (by simp), ⟨e1, e2⟩, by omega⟩
    · have hne := brs_ne ht (i := i + 1) (by omega) hif hx
      have hla := omat_last hne
      rw [brStep_more hx] at hb
      generalize hO : brs (t.take (i + 1)) = O at *
      have hOl : 1 ≤ O.length := List.length_pos_iff.2 hne
      have hlen : (O[O.length - 1]?.getD []).length ≤ 1048576 := by
        have := sumN_mem (l := O) (b := O[O.length - 1]?.getD []) (by simp [show O.length - 1 < O.length by omega])
        have := hi2.2.1
        omega
      have hsn := omat_set O (O.length - 1) (O[O.length - 1]?.getD [] ++ [t[i + 1]?.getD 0 - 1])
      rw [← hb] at hsn
      generalize O[O.length - 1]?.getD [] = l at *
      have e1 : O.length = (brs (t.take (i + 1 + 1))).length := by rw [hb]; simp
      rw [avs_snoc, List.length_append, List.length_singleton] at hsn
      simp [go_sem, hda, hnn, hn1, hn2, hx, hla]
      repeat' apply And.intro
      all_goals first
        | omega
        | exact ⟨i + 1, by omega, by omega, Off_reset _ _ _ (by simp), ⟨e1, hsn⟩, by omega⟩
  · simp [go_sem]
    have e : t.take (i + 1) = t := List.take_of_length_le (by omega)
    rw [e]
    simp
end Go.Proofs.Ytoamidolomldnaa

/- Contracts: elementary differentials, the reference's and the program's. -/
namespace Go.Proofs.Ytoamidolomldnaa
open Go.Abs
set_option linter.unusedVariables false
set_option linter.unusedSimpArgs false
set_option maxHeartbeats 4000000
/-- The elementary differential of a level list, by the depth that is left. -/
def edF (f : List (List Mon)) (y : List Int) : Nat → List Int → List Int
  | 0, _ => []
  | n + 1, t => drvL y y.length ((brs t).map (edF f y n)) f
theorem edF_len {f : List (List Mon)} {y : List Int} {n : Nat} (h : 0 < n) (t : List Int) : (edF f y n t).length = f.length := by
  cases n with
  | zero => omega
  | succ n => simp [edF]
theorem drvL_N (y : List Int) (n : Nat) (vs : List (List Int)) (f : List (List Mon)) : Ns (drvL y n vs f) := by
  intro x hx
  obtain ⟨p, _, rfl⟩ := List.mem_map.1 hx
  unfold drvP
  split
  · exact ⟨by omega, by omega⟩
  · exact isN_mod _
theorem edF_N {f : List (List Mon)} {y : List Int} {n : Nat} (t : List Int) : Ns (edF f y n t) := by
  cases n with
  | zero => intro x hx; simp [edF] at hx
  | succ n => exact drvL_N _ _ _ _
theorem edF_vecs {f : List (List Mon)} {y : List Int} {m : Nat} {t : List Int} (ht : Lv t) (hm : t.length ≤ m + 1) (hl : f.length = y.length) : Vecs y.length ((brs t).map (edF f y m)) := by
  intro v hv
  obtain ⟨b, hb, rfl⟩ := List.mem_map.1 hv
  obtain ⟨h1, h2⟩ := brs_ok ht hb
  have h3 := h1.1
  exact ⟨by rw [edF_len (by omega), hl], edF_N b⟩
theorem brs_cnt {t : List Int} (h : Lv t) : (brs t).length < t.length := by
  have h1 := h.1
  have := brs_many h (i := t.length) (by omega) (by omega)
  rwa [List.take_length] at this
theorem omat_take (A : List (List Int)) (i : Nat) (h : i < A.length) : omat (A.take (i + 1)) = omat (A.take i) ++ [.own 2 (A[i]?.getD []).length (avs (A[i]?.getD []))] := by
  rw [List.take_add_one, omat_app]; simp [h, omat]
/-- What elementary differentials answer. -/
def elX (z : Int) (f : List (List Mon)) (t y : List Int) : List Int := if (fieldB z f && lvB t) = true ∧ vecB z y = true then edF f y t.length t else []
def elE (z : Int) (f : List (List Mon)) (t y : List Int) : Int := if (fieldB z f && lvB t) = true then if vecB z y = true then 0 else 2 else 1
def elR (z : Int) (f : List (List Mon)) (t y : List Int) : AV := .tup [.own 2 (elX z f t y).length (avs (elX z f t y)), .int (elE z f t y)]
theorem elX_len (z : Int) (f : List (List Mon)) (t y : List Int) : (elX z f t y).length ≤ f.length := by
  unfold elX
  split
  · rename_i h
    have : 0 < t.length := by
      have h1 := h.1
      unfold lvB lv0 at h1
      simp only [Bool.and_eq_true, decide_eq_true_eq] at h1
      exact h1.2.1.1.1
    rw [edF_len this]; omega
  · simp
end Go.Proofs.Ytoamidolomldnaa

/- Contracts: columns, lists of series turned, rows cloned. -/
namespace Go.Proofs.Ytoamidolomldnaa
open Go.Abs
set_option linter.unusedVariables false
set_option linter.unusedSimpArgs false
set_option maxHeartbeats 1000000
/-- A column; rows and columns turned. -/
def colS (a : List (List Int)) (k : Nat) : List Int := tb (fun i => (a[i]?.getD [])[k]?.getD 0) a.length
@[simp] theorem colS_len (a : List (List Int)) (k : Nat) : (colS a k).length = a.length := by simp [colS]
def turnS (a : List (List Int)) : List (List Int) := (List.range (a[0]?.getD []).length).map (colS a)
@[simp] theorem turnS_len (a : List (List Int)) : (turnS a).length = (a[0]?.getD []).length := by simp [turnS]
theorem l01Column_c (a : List (List Int)) (k : Nat) (hl : a.length ≤ 1048576) (hr : ∀ r ∈ a, k < r.length) (hk : k ≤ 1048576) :
    Con Try.prog 173 [.sl a.length (mat a), .int k] (.own 2 a.length (avs (colS a k))) := by
  refine con_of_vc Try.mixed ⟨7, [], [], []⟩ Try.func173 (by decide) rfl (by simp) (by decide) (by simp [freshOK, freshL, go_sem]) ?_
  rw [Try.ntmps173]
  simp [go_sem]
  refine loop_inv (5 :: 6 :: List.range' 8 16) (fun i : Nat => [(5, .own 2 i (avs (tb (fun i => (a[i]?.getD [])[k]?.getD 0) i))), (6, .int i)]) (fun i => i ≤ a.length) (fun i => a.length - i) 0 (by simp) (by simp [go_sem]) (by simp [go_sem]) ?_
  intro i hi
  simp [go_sem]
  refine ⟨fun h => ?_, fun h => ?_⟩ <;> simp at h
  · have hx : k < (a[i]?.getD []).length := hr _ (by simp [h])
    simp [go_sem, mat_drop h, avs_drop hx]
    refine ⟨⟨h, by rintro rfl; simp at h⟩, ⟨hx, by intro e; simp [e] at hx⟩, ?_⟩
    exact ⟨⟨by omega, by omega⟩, by omega, i + 1, by omega, by omega, Off_reset _ _ _ (by simp), by simp [tb_succ, avs_snoc], by omega⟩
  · have e : i = a.length := by omega
    subst e
    simp [go_sem]
    rfl
theorem column_c (a : List (List Int)) (k : Nat) (hl : a.length ≤ 1048576) (hr : ∀ r ∈ a, k < r.length) (hk : k ≤ 1048576) :
    Con Try.prog 183 [.sl a.length (mat a), .int k] (.own 2 a.length (avs (colS a k))) := by
  refine con_of_vc Try.mixed ⟨8, [], [], []⟩ Try.func183 (by decide) rfl (by simp) (by decide) (by simp [freshOK, freshL, go_sem]) ?_
  rw [Try.ntmps183]
  simp [go_sem]
  refine loop_inv (5 :: 7 :: List.range' 11 12) (fun i : Nat => [(5, .own 2 i (avs (tb (fun i => (a[i]?.getD [])[k]?.getD 0) i))), (11, .int i)]) (fun i => i ≤ a.length) (fun i => a.length - i) 0 (by simp) (by simp [go_sem]) (by simp [go_sem]) ?_
  intro i hi
  simp [go_sem]
  refine ⟨fun h => ?_, fun h => ?_⟩ <;> simp at h
  · have hx : k < (a[i]?.getD []).length := hr _ (by simp [h])
    simp [go_sem, mat_drop h, avs_drop hx]
    refine ⟨⟨h, by rintro rfl; simp at h⟩, ⟨hx, by intro e; simp [e] at hx⟩, ?_⟩
    exact ⟨⟨by omega, by omega⟩, by omega, i + 1, by omega, by omega, Off_reset _ _ _ (by simp), by simp [tb_succ, avs_snoc], by omega⟩
  · have e : i = a.length := by omega
    subst e
    simp [go_sem]
    rfl
theorem omat_range_succ (g : Nat → List Int) (i : Nat) : omat ((List.range (i + 1)).map g) = omat ((List.range i).map g) ++ [.own 2 (g i).length (avs (g i))] := by
  rw [List.range_succ, List.map_append, omat_app]; rfl
theorem l14Turn_c (a : List (List Int)) (hl : a.length ≤ 1048576) (h0 : 0 < a.length) (hr : ∀ r ∈ a, r.length = (a[0]?.getD []).length) (hn : (a[0]?.getD []).length ≤ 1048576) :
    Con Try.prog 91 [.sl a.length (mat a)] (.own 23 (turnS a).length (omat (turnS a))) := by
  rw [turnS_len]
  refine con_of_vc Try.mixed ⟨5, [], [], []⟩ Try.func91 (by decide) rfl (by simp) (by decide) (by simp [freshOK, freshL, go_sem]) ?_
  rw [Try.ntmps91]
  simp [go_sem]
  refine loop_inv (3 :: 4 :: List.range' 6 14) (fun i : Nat => [(3, .own 23 i (omat ((List.range i).map (colS a)))), (4, .int i)]) (fun i => i ≤ (a[0]?.getD []).length) (fun i => (a[0]?.getD []).length - i) 0 (by simp) (by simp [go_sem, omat_nil]) (by simp [go_sem]) ?_
  intro i hi
  have m0 := mat_drop h0
  simp only [List.drop_zero] at m0
  simp [go_sem, m0]
  have m1 : AV.sl (a[0]?.getD []).length (avs (a[0]?.getD [])) :: mat a.tail = mat a := by cases a with | nil => simp at h0 | cons x l => simp [mat]
  simp only [m1]
  refine ⟨h0, ?_⟩
  refine ⟨fun h => ?_, fun h => ?_⟩ <;> simp at h
  · simp [go_sem]
    refine CallVC.of (l01Column_c a i hl (fun r h2 => by rw [hr r h2]; exact h) (by omega)) (by decide) ?_
    simp [go_sem]
    have ho := omat_range_succ (colS a) i
    rw [colS_len] at ho
    exact ⟨⟨by omega, by omega⟩, by omega, i + 1, by omega, by omega, Off_reset _ _ _ (by simp), by rw [ho]; exact ⟨rfl, rfl⟩, by omega⟩
  · have e : i = (a[0]?.getD []).length := by omega
    subst e
    simp [go_sem]
    rfl
theorem turned_c (a : List (List Int)) (hl : a.length ≤ 1048576) (h0 : 0 < a.length) (hr : ∀ r ∈ a, r.length = (a[0]?.getD []).length) (hn : (a[0]?.getD []).length ≤ 1048576) :
    Con Try.prog 149 [.sl a.length (mat a)] (.own 23 (turnS a).length (omat (turnS a))) := by
  rw [turnS_len]
  have m0 := mat_drop h0
  simp only [List.drop_zero] at m0
  refine con_of_vc Try.mixed ⟨5, [], [], []⟩ Try.func149 (by decide) rfl (by simp) (by decide) (by simp [freshOK, freshL, go_sem]) ?_
  rw [Try.ntmps149]
  simp [go_sem]
  simp [go_sem, m0]
  have m1 : AV.sl (a[0]?.getD []).length (avs (a[0]?.getD [])) :: mat a.tail = mat a := by cases a with | nil => simp at h0 | cons x l => simp [mat]
  simp only [m1]
  refine ⟨⟨h0, by rintro rfl; simp at h0⟩, ?_⟩
  refine loop_inv (3 :: 4 :: List.range' 10 10) (fun i : Nat => [(3, .own 23 i (omat ((List.range i).map (colS a)))), (10, .int i)]) (fun i => i ≤ (a[0]?.getD []).length) (fun i => (a[0]?.getD []).length - i) 0 (by simp) (by simp [go_sem, omat_nil]) (by simp [go_sem]) ?_
  intro i hi
  simp [go_sem]
  refine ⟨fun h => ?_, fun h => ?_⟩ <;> simp at h
  · simp [go_sem]
    refine CallVC.of (column_c a i hl (fun r h2 => by rw [hr r h2]; exact h) (by omega)) (by decide) ?_
    simp [go_sem]
    have ho := omat_range_succ (colS a) i
    rw [colS_len] at ho
    exact ⟨⟨by omega, by omega⟩, by omega, i + 1, by omega, by omega, Off_reset _ _ _ (by simp), by rw [ho]; exact ⟨rfl, rfl⟩, by omega⟩
  · have e : i = (a[0]?.getD []).length := by omega
    subst e
    simp [go_sem]
    rfl
theorem cloneRows_c (a : List (List Int)) (hl : a.length ≤ 1048576) (hr : ∀ r ∈ a, r.length ≤ 1048576) :
    Con Try.prog 236 [.sl a.length (mat a)] (.own 23 a.length (omat a)) := by
  refine con_of_vc Try.mixed ⟨6, [], [], []⟩ Try.func236 (by decide) rfl (by simp) (by decide) (by simp [freshOK, freshL, go_sem]) ?_
  rw [Try.ntmps236]
  simp [go_sem]
  refine loop_inv (3 :: 5 :: List.range' 9 10) (fun i : Nat => [(3, .own 23 i (omat (a.take i))), (9, .int i)]) (fun i => i ≤ a.length) (fun i => a.length - i) 0 (by simp) (by simp [go_sem, omat_nil]) (by simp [go_sem]) ?_
  intro i hi
  simp [go_sem]
  refine ⟨fun h => ?_, fun h => ?_⟩ <;> simp at h
  · simp [go_sem, mat_drop h]
    refine ⟨⟨h, by rintro rfl; simp at h⟩, ?_⟩
    refine CallVC.of (Clone_c (a[i]?.getD []) (hr _ (by simp [h]))) (by decide) ?_
    simp [go_sem]
    have ht := omat_take a i h
    refine ⟨⟨by omega, by omega, by omega⟩, by omega, i + 1, by omega, by omega, Off_reset _ _ _ (by simp), by rw [ht]; exact ⟨rfl, rfl⟩, by omega⟩
  · have e : i = a.length := by omega
    subst e
    simp [go_sem]
theorem l01Own2_c (a : List (List Int)) (hl : a.length ≤ 1048576) (hr : ∀ r ∈ a, r.length ≤ 1048576) :
    Con Try.prog 172 [.sl a.length (mat a)] (.own 23 a.length (omat a)) := by
  refine con_of_vc Try.mixed ⟨5, [], [], []⟩ Try.func172 (by decide) rfl (by simp) (by decide) (by simp [freshOK, freshL, go_sem]) ?_
  rw [Try.ntmps172]
  simp [go_sem]
  refine loop_inv (3 :: 4 :: List.range' 6 14) (fun i : Nat => [(3, .own 23 i (omat (a.take i))), (4, .int i)]) (fun i => i ≤ a.length) (fun i => a.length - i) 0 (by simp) (by simp [go_sem, omat_nil]) (by simp [go_sem]) ?_
  intro i hi
  simp [go_sem]
  refine ⟨fun h => ?_, fun h => ?_⟩ <;> simp at h
  · simp [go_sem, mat_drop h]
    refine ⟨⟨h, by rintro rfl; simp at h⟩, ?_⟩
    refine CallVC.of (l01Own_c (a[i]?.getD []) (by have := hr _ (show a[i]?.getD [] ∈ a by simp [h]); omega)) (by decide) ?_
    simp [go_sem]
    have ht := omat_take a i h
    refine ⟨⟨by omega, by omega, by omega⟩, by omega, i + 1, by omega, by omega, Off_reset _ _ _ (by simp), by rw [ht]; exact ⟨rfl, rfl⟩, by omega⟩
  · have e : i = a.length := by omega
    subst e
    simp [go_sem]
end Go.Proofs.Ytoamidolomldnaa

/- Contracts: Gauss's elimination, the program's. -/
namespace Go.Proofs.Ytoamidolomldnaa
open Go.Abs
set_option linter.unusedVariables false
set_option linter.unusedSimpArgs false
set_option maxHeartbeats 4000000
theorem rmat_len (A : List (List Int)) : (mat A).length = A.length := by simp [mat]
theorem rmat_get {A : List (List Int)} {k : Nat} (h : k < A.length) : (mat A)[k]? = some (.sl (A[k]?.getD []).length (avs (A[k]?.getD []))) := by simp [mat, h]
theorem rmat_set (A : List (List Int)) (k : Nat) (l : List Int) : (mat A).set k (.sl l.length (avs l)) = mat (A.set k l) := by simp [mat, List.map_set]
theorem rmat_take (A : List (List Int)) (k : Nat) : (mat A).take k = mat (A.take k) := by simp [mat, List.map_take]
theorem rmat_no : ∀ A : List (List Int), hasOwnL (mat A) = false
  | [] => rfl
  | r :: A => by
    have := rmat_no A
    simp only [mat, List.map_cons] at this ⊢
    rw [hasOwnL, this]; rfl
theorem rmat_kl (W : List Nat) (A : List (List Int)) : klL W (mat A) = mat A := by
  induction A with
  | nil => rfl
  | cons r A ih => simp only [mat, List.map_cons] at ih ⊢; rw [klL, ih]; rfl
theorem redR_len {w : Nat} : ∀ (f k : Nat) (st : List (List Int) × Int × Nat), (redR f k st).1.length = st.1.length
  | 0, _, _ => rfl
  | f + 1, k, st => by
    rw [redR]
    split
    · rw [redR_len (w := w) f]
      unfold stepR
      split
      · rfl
      · simp
    · rfl
/-- The first i of one list, the rest of another. -/
def mxR {α : Type} (A C : List α) (i : Nat) : List α := C.take i ++ A.drop i
theorem mxR_zero {α : Type} (A C : List α) : mxR A C 0 = A := by simp [mxR]
theorem mxR_all {α : Type} {A C : List α} (h : C.length = A.length) : mxR A C A.length = C := by simp [mxR, ← h]
theorem mxR_len {α : Type} {A C : List α} (h : C.length = A.length) {i : Nat} (hi : i ≤ A.length) : (mxR A C i).length = A.length := by simp [mxR]; omega
theorem mxR_get {α : Type} {A C : List α} (h : C.length = A.length) {i j : Nat} (hi : i ≤ A.length) (d : α) : (mxR A C i)[j]?.getD d = if j < i then C[j]?.getD d else A[j]?.getD d := by
  unfold mxR
  split
  · rename_i hj
    rw [List.getElem?_append_left (by simp; omega), List.getElem?_take_of_lt hj]
  · rename_i hj
    rw [List.getElem?_append_right (by simp; omega), List.getElem?_drop]
    congr 2
    simp; omega
theorem mxR_set {α : Type} {A C : List α} (h : C.length = A.length) {i : Nat} (hi : i < A.length) (d : α) : (mxR A C i).set i (C[i]?.getD d) = mxR A C (i + 1) := by
  unfold mxR
  have hc : i < C.length := by omega
  rw [List.set_append_right _ _ (by simp; omega)]
  have e1 : (C.take i).length = i := by simp; omega
  have e2 : C.take (i + 1) = C.take i ++ [C[i]] := by rw [List.take_add_one, List.getElem?_eq_getElem hc]; rfl
  rw [e1, Nat.sub_self, List.drop_eq_getElem_cons hi, List.set_cons_zero, e2, List.getElem?_eq_getElem hc, List.append_assoc]
  rfl
theorem mxR_mem {α : Type} {A C : List α} {i : Nat} {p : α → Prop} (h1 : ∀ x ∈ A, p x) (h2 : ∀ x ∈ C, p x) : ∀ x ∈ mxR A C i, p x := fun x hx => by
  rcases List.mem_append.1 hx with hx | hx
  · exact h2 x (List.mem_of_mem_take hx)
  · exact h1 x (List.mem_of_mem_drop hx)
theorem elD_row {m : List (List Int)} {d k r : Nat} (hr : r < m.length) : (elD m d k)[r]?.getD [] = if r = d then m[d]?.getD [] else plusS (m[r]?.getD []) (m[d]?.getD []) (- mx m r k) := by
  simp [elD, hr]
set_option maxRecDepth 100000 in
theorem reduce_c {w : Nat} (a : List (List Int)) (h0 : 0 < a.length) (hl : a.length ≤ 1000) (hw : w ≤ 1000) (hr : Rws w a) :
    GCon Try.prog 178 [.sl a.length (mat a)] (.tup [.own 23 (redR w 0 (a, 1, 0)).2.2 (mat ((redR w 0 (a, 1, 0)).1.take (redR w 0 (a, 1, 0)).2.2)), .int (redR w 0 (a, 1, 0)).2.1]) [.any] := by
  have cC := Con.gfz (cloneRows_c a (by omega) (fun r h => by have := (hr r h).1; omega)) (by simp [hasOwnL, hasOwn]) (omat_frz a)
  refine gcon_of_vc Try.mixed ⟨10, [96, 124], [1000000 + 236], [131, 1001113990216]⟩ [2, 3] [] Try.func178 (by decide) rfl rfl (by simp) (by simp) (by decide) ?_
  rw [Try.ntmps178]
  simp [go_sem]
  refine ⟨_, _, cC, ?_⟩
  simp [go_sem]
  refine loop_inv ([5, 6, 7, 8, 9] ++ List.range' 12 117 ++ [4]) (fun x : Nat × List (List Int) × Int × Nat => [(4, .own 23 x.2.1.length (mat x.2.1)), (5, .int x.2.2.1), (6, .int x.2.2.2), (7, .int x.1)])
    (fun x => x.1 ≤ w ∧ x.2.1.length = a.length ∧ Rws w x.2.1 ∧ isN x.2.2.1 ∧ x.2.2.2 ≤ a.length ∧ redR (w - x.1) x.1 x.2 = redR w 0 (a, 1, 0)) (fun x => w - x.1) (0, a, 1, 0) ⟨by simp, rfl, hr, ⟨by simp, by simp⟩, by simp, rfl⟩ (by simp [go_sem]) (by simp [go_sem, rmat_kl]) ?_
  rintro ⟨k, m, det, done⟩ ⟨hk, hm, hmr, hd, hdn, he⟩
  simp only at hk hm hmr hd hdn he
  have m0 : 0 < m.length := by omega
  have g0 := rmat_get m0
  have r0 := (hmr.at m0).1
  have fin : ¬ (k < w ∧ done < m.length) → redR w 0 (a, 1, 0) = (m, det, done) := fun h => by
    rw [← he]
    rcases Nat.lt_or_ge k w with h1 | h1
    · obtain ⟨f, hf⟩ : ∃ f, w - k = f + 1 := ⟨w - k - 1, by omega⟩
      rw [hf, redR, if_neg (by simp only; omega)]
    · rw [show w - k = 0 by omega, redR]
  by_cases hkw : k < w
  · by_cases hdl : done < m.length
    · clear fin
      have hst : redR (w - (k + 1)) (k + 1) (stepR m det done k) = redR w 0 (a, 1, 0) := by
        rw [← he, show w - k = (w - (k + 1)) + 1 by omega, redR, if_pos hdl]
      clear he
      simp [go_sem, g0, m0, r0, hkw, hdl, -getElem?_pos]
      have fl := fndR_le m k (m.length - done) done
      refine loop_inv ([8] ++ List.range' 32 16) (fun i : Nat => [(8, .int i)]) (fun i => done ≤ i ∧ i ≤ m.length ∧ fndR m k (m.length - i) i = fndR m k (m.length - done) done) (fun i => m.length - i) done ⟨Nat.le_refl _, by omega, rfl⟩ (by simp [go_sem]) (by simp [go_sem]) ?_
      rintro i ⟨hi1, hi2, hi3⟩
      by_cases hil : i < m.length
      · have gi := rmat_get hil
        have ri := (hmr.at hil).1
        have hin : ((i : Nat) : Int).toNat = i := by omega
        have hfi : fndR m k (m.length - i) i = if mx m i k = 0 then fndR m k (m.length - (i + 1)) (i + 1) else i := by
          rw [show m.length - i = (m.length - (i + 1)) + 1 by omega, fndR]
        have mxi : (m[i]?.getD [])[k]?.getD 0 = mx m i k := rfl
        have kr : k < (m[i]?.getD []).length := by omega
        simp [go_sem, hil, gi, avs_drop kr, mxi, -getElem?_pos]
        by_cases hz : mx m i k = 0
        · rw [if_pos hz] at hfi
          simp [go_sem, hz]
          refine ⟨⟨by omega, fun e => by rw [e] at kr; simp at kr⟩, ⟨by omega, by omega⟩, i + 1, ⟨by omega, by omega, by rw [← hi3, hfi]⟩, by omega, Off_reset _ _ _ (by simp), by omega⟩
        · rw [if_neg hz, hi3] at hfi
          subst hfi
          clear hi3
          generalize hI : fndR m k (m.length - done) done = I at *
          have hsr : stepR m det done k = (elD (scl (swp m I done) done k) done k, (if I = done then det else (- det) % 10007) * mx (swp m I done) done k % 10007, done + 1) := by
            unfold stepR
            rw [hI, if_neg (by omega)]
          rw [hsr] at hst
          clear hsr hI
          have hIl : ¬ ((I : Nat) : Int) = m.length := by omega
          simp [go_sem, hz, hil, hIl, -getElem?_pos]
          refine ⟨⟨kr, fun e => by rw [e] at kr; simp at kr⟩, ?_⟩
          by_cases hID : I = done
          · have hsw : swp m I done = m := by unfold swp; rw [if_pos hID]
            rw [hsw, if_pos hID] at hst
            have hMl := hm
            have hMr := hmr
            have hDN := hd
            simp [go_sem, hID]
            generalize m = M at *
            generalize det = D at *
            have nd := mx_N hMr (show done < M.length by omega) k
            have gd := rmat_get (show done < M.length by omega)
            have rd := hMr.at (show done < M.length by omega)
            have kd : k < (M[done]?.getD []).length := by omega
            have mxd : (M[done]?.getD [])[k]?.getD 0 = mx M done k := rfl
            have f1 := mul_fits hDN nd
            have set1 := rmat_set M done (scalS (M[done]?.getD []) (pw (mx M done k) 10005))
            rw [scalS_len] at set1
            have hsc : M.set done (scalS (M[done]?.getD []) (pw (mx M done k) 10005)) = scl M done k := rfl
            rw [hsc] at set1
            have bl := scl_len M done k
            have br := scl_ok hMr (k := k) (show done < M.length by omega)
            have cI := inv_c (mx M done k) nd
            have pb : fits (pw (mx M done k) 10005) := by have := isN_mod ((mx M done k) ^ (10005 : Int).toNat); exact ⟨by have := this.1; show _ ≤ _ % _; omega, by have := this.2; show _ % _ ≤ _; omega⟩
            have cS := scaled_c (M[done]?.getD []) (pw (mx M done k) 10005) rd.2 pb (by omega)
            clear hsc
            generalize hb : scl M done k = b at *
            simp [go_sem, gd, avs_drop kd, mxd]
            have kne : ¬ M[done]?.getD [] = [] := fun e => by rw [e] at kd; simp at kd
            refine ⟨by omega, ⟨kd, kne⟩, f1, ?_⟩
            refine CallVC.of (num_c _ f1.1 f1.2) (by decide) ?_
            simp [go_sem]
            simp [go_sem, gd, avs_drop kd, mxd]
            refine ⟨by kernel_rfl, by omega, ⟨kd, kne⟩, ?_⟩
            refine CallD.of (cI) (by simp [roots, rootsL]) (by decide) ?_
            simp [go_sem]
            refine CallD.of cS (by simp [go_sem, roots, rootsL]) (by decide) ?_
            simp [go_sem, gd, set1]
            refine ⟨by omega, ?_⟩
            refine ⟨by kernel_rfl, ?_⟩
            simp [go_sem]
            have ce : ∀ r, r < b.length → (elD b done k)[r]?.getD [] = if r = done then b[done]?.getD [] else plusS (b[r]?.getD []) (b[done]?.getD []) (- mx b r k) := fun r hr => elD_row hr
            have cl := elD_len b done k
            have cr := elD_ok br (k := k) (show done < b.length by omega)
            generalize elD b done k = C at *
            refine loop_inv ([9] ++ List.range' 100 27 ++ [4]) (fun r : Nat => [(4, .own 23 M.length (mat (mxR b C r))), (100, .int r)]) (fun r => r ≤ M.length) (fun r => M.length - r) 0 (by simp) (by simp [go_sem, mxR_zero]) (by simp [go_sem, rmat_kl]) ?_
            intro r hr1
            by_cases hrl : r < M.length
            · have Zl := mxR_len (A := b) (C := C) (by omega) (show r ≤ b.length by omega)
              have gd2 : done < (mxR b C r).length := by omega
              have gr2 : r < (mxR b C r).length := by omega
              have gd3 := rmat_get gd2
              have gr3 := rmat_get gr2
              have zr : (mxR b C r)[r]?.getD [] = b[r]?.getD [] := by rw [mxR_get (by omega) (by omega), if_neg (by omega)]
              have zd : (mxR b C r)[done]?.getD [] = b[done]?.getD [] := by
                rw [mxR_get (by omega) (by omega)]
                split
                · rw [ce done (by omega), if_pos rfl]
                · rfl
              have sr := mxR_set (A := b) (C := C) (by omega) (show r < b.length by omega) []
              have sr0 : r = done → mxR b C (r + 1) = mxR b C r := fun e => by
                rw [← sr, ce r (by omega), if_pos e, ← zd, ← e]
                refine List.ext_getElem? fun j => ?_
                rw [List.getElem?_set]
                split
                · rename_i ej; subst ej; simp [gr2]
                · rfl
              rw [zr] at gr3
              rw [zd] at gd3
              have br1 := br.at (show r < b.length by omega)
              have bd1 := br.at (show done < b.length by omega)
              have nr := mx_N br (show r < b.length by omega) k
              have mr : (b[r]?.getD [])[k]?.getD 0 = mx b r k := rfl
              have kr1 : k < (b[r]?.getD []).length := by omega
              have fr : fits (- mx b r k) := ⟨by have := nr.2; omega, by have := nr.1; omega⟩
              have cP := plus_c (b[r]?.getD []) (b[done]?.getD []) (- mx b r k) br1.2 bd1.2 fr (by omega) (by omega)
              have setr := rmat_set (mxR b C r) r (plusS (b[r]?.getD []) (b[done]?.getD []) (- mx b r k))
              rw [plusS_len] at setr
              generalize hZ : mxR b C r = Z at *
              generalize hZ2 : mxR b C (r + 1) = Z2 at *
              have kne1 : ¬ b[r]?.getD [] = [] := fun e => by rw [e] at kr1; simp at kr1
              by_cases hrd : r = done
              · have h2 := sr0 hrd
                have hdM : done < M.length := by omega
                simp [go_sem, hrd, hdM]
                exact ⟨by omega, r + 1, by omega, by omega, Off_reset _ _ _ (by simp), by rw [hZ2, h2], by omega⟩
              · have hcr := ce r (by omega)
                rw [if_neg hrd] at hcr
                rw [hcr] at sr
                rw [sr] at setr
                have hri : ¬ ((r : Nat) : Int) = done := by omega
                simp [go_sem, hrl, hrd, hri, gd3, gr3, avs_drop kr1, mr, -getElem?_pos]
                refine ⟨by kernel_rfl, by omega, ⟨kr1, kne1⟩, ⟨by have := nr.2; omega, by have := nr.1; omega⟩, ?_⟩
                refine CallD.of cP (by simp [go_sem, roots, rootsL]) (by decide) ?_
                simp [go_sem, setr]
                refine ⟨by omega, by omega, ?_⟩
                refine ⟨by kernel_rfl, ?_⟩
                simp [go_sem]
                exact ⟨by omega, r + 1, by omega, by omega, Off_reset _ _ _ (by simp), by rw [hZ2], by omega⟩
            · have e2 : r = M.length := by omega
              subst e2
              have eC : mxR b C M.length = C := by rw [← bl]; exact mxR_all (by omega)
              rw [eC]
              simp [go_sem]
              refine ⟨⟨by omega, by omega⟩, ⟨by omega, by omega⟩, k + 1, C, D * mx M done k % 10007, done + 1, ⟨by omega, by omega, cr, isN_mod _, by omega, hst⟩, by omega, (by repeat (first | exact Off_reset _ _ _ (by simp) | (refine Off.reset (by intro x hx; simp at hx ⊢; omega) (by simp) ?_; simp -failIfUnchanged [go_sem, Off_reset]))), ⟨by omega, rfl⟩, rfl, by omega, by omega⟩
          · have hsw : swp m I done = (m.set I (m[done]?.getD [])).set done (m[I]?.getD []) := by unfold swp; rw [if_neg hID]
            have hIDi : ¬ ((I : Nat) : Int) = done := by omega
            rw [if_neg hID] at hst
            have gdd := rmat_get hdl
            have hMl : (swp m I done).length = a.length := by rw [swp_len]; exact hm
            have hMr := swp_ok hmr hil hdl
            have hDN := isN_mod (- det)
            have s1 := rmat_set m I (m[done]?.getD [])
            have s2 := rmat_set (m.set I (m[done]?.getD [])) done (m[I]?.getD [])
            rw [← hsw] at s2
            have ml : m.length = (swp m I done).length := by rw [swp_len]
            generalize swp m I done = M at *
            simp [go_sem, hIDi, gi, gdd, s1, s2, hil, hdl, -getElem?_pos]
            refine ⟨by kernel_rfl, ?_, ?_⟩
            · refine ⟨by kernel_rfl, ⟨by have := hd.2; omega, by have := hd.1; omega⟩, ?_⟩
              refine CallVC.of (num_c _ (by have := hd.2; omega) (by have := hd.1; omega)) (by decide) ?_
              simp [go_sem]
              generalize (- det) % 10007 = D at *
              rw [ml]
              have nd := mx_N hMr (show done < M.length by omega) k
              have gd := rmat_get (show done < M.length by omega)
              have rd := hMr.at (show done < M.length by omega)
              have kd : k < (M[done]?.getD []).length := by omega
              have mxd : (M[done]?.getD [])[k]?.getD 0 = mx M done k := rfl
              have f1 := mul_fits hDN nd
              have set1 := rmat_set M done (scalS (M[done]?.getD []) (pw (mx M done k) 10005))
              rw [scalS_len] at set1
              have hsc : M.set done (scalS (M[done]?.getD []) (pw (mx M done k) 10005)) = scl M done k := rfl
              rw [hsc] at set1
              have bl := scl_len M done k
              have br := scl_ok hMr (k := k) (show done < M.length by omega)
              have cI := inv_c (mx M done k) nd
              have pb : fits (pw (mx M done k) 10005) := by have := isN_mod ((mx M done k) ^ (10005 : Int).toNat); exact ⟨by have := this.1; show _ ≤ _ % _; omega, by have := this.2; show _ % _ ≤ _; omega⟩
              have cS := scaled_c (M[done]?.getD []) (pw (mx M done k) 10005) rd.2 pb (by omega)
              clear hsc
              generalize hb : scl M done k = b at *
              simp [go_sem, gd, avs_drop kd, mxd]
              have kne : ¬ M[done]?.getD [] = [] := fun e => by rw [e] at kd; simp at kd
              refine ⟨by omega, ⟨kd, kne⟩, f1, ?_⟩
              refine CallVC.of (num_c _ f1.1 f1.2) (by decide) ?_
              simp [go_sem]
              simp [go_sem, gd, avs_drop kd, mxd]
              refine ⟨by kernel_rfl, by omega, ⟨kd, kne⟩, ?_⟩
              refine CallD.of (cI) (by simp [roots, rootsL]) (by decide) ?_
              simp [go_sem]
              refine CallD.of cS (by simp [go_sem, roots, rootsL]) (by decide) ?_
              simp [go_sem, gd, set1]
              refine ⟨by omega, ?_⟩
              refine ⟨by kernel_rfl, ?_⟩
              simp [go_sem]
              have ce : ∀ r, r < b.length → (elD b done k)[r]?.getD [] = if r = done then b[done]?.getD [] else plusS (b[r]?.getD []) (b[done]?.getD []) (- mx b r k) := fun r hr => elD_row hr
              have cl := elD_len b done k
              have cr := elD_ok br (k := k) (show done < b.length by omega)
              generalize elD b done k = C at *
              refine loop_inv ([9] ++ List.range' 100 27 ++ [4]) (fun r : Nat => [(4, .own 23 M.length (mat (mxR b C r))), (100, .int r)]) (fun r => r ≤ M.length) (fun r => M.length - r) 0 (by simp) (by simp [go_sem, mxR_zero]) (by simp [go_sem, rmat_kl]) ?_
              intro r hr1
              by_cases hrl : r < M.length
              · have Zl := mxR_len (A := b) (C := C) (by omega) (show r ≤ b.length by omega)
                have gd2 : done < (mxR b C r).length := by omega
                have gr2 : r < (mxR b C r).length := by omega
                have gd3 := rmat_get gd2
                have gr3 := rmat_get gr2
                have zr : (mxR b C r)[r]?.getD [] = b[r]?.getD [] := by rw [mxR_get (by omega) (by omega), if_neg (by omega)]
                have zd : (mxR b C r)[done]?.getD [] = b[done]?.getD [] := by
                  rw [mxR_get (by omega) (by omega)]
                  split
                  · rw [ce done (by omega), if_pos rfl]
                  · rfl
                have sr := mxR_set (A := b) (C := C) (by omega) (show r < b.length by omega) []
                have sr0 : r = done → mxR b C (r + 1) = mxR b C r := fun e => by
                  rw [← sr, ce r (by omega), if_pos e, ← zd, ← e]
                  refine List.ext_getElem? fun j => ?_
                  rw [List.getElem?_set]
                  split
                  · rename_i ej; subst ej; simp [gr2]
                  · rfl
                rw [zr] at gr3
                rw [zd] at gd3
                have br1 := br.at (show r < b.length by omega)
                have bd1 := br.at (show done < b.length by omega)
                have nr := mx_N br (show r < b.length by omega) k
                have mr : (b[r]?.getD [])[k]?.getD 0 = mx b r k := rfl
                have kr1 : k < (b[r]?.getD []).length := by omega
                have fr : fits (- mx b r k) := ⟨by have := nr.2; omega, by have := nr.1; omega⟩
                have cP := plus_c (b[r]?.getD []) (b[done]?.getD []) (- mx b r k) br1.2 bd1.2 fr (by omega) (by omega)
                have setr := rmat_set (mxR b C r) r (plusS (b[r]?.getD []) (b[done]?.getD []) (- mx b r k))
                rw [plusS_len] at setr
                generalize hZ : mxR b C r = Z at *
                generalize hZ2 : mxR b C (r + 1) = Z2 at *
                have kne1 : ¬ b[r]?.getD [] = [] := fun e => by rw [e] at kr1; simp at kr1
                by_cases hrd : r = done
                · have h2 := sr0 hrd
                  have hdM : done < M.length := by omega
                  simp [go_sem, hrd, hdM]
                  exact ⟨by omega, r + 1, by omega, by omega, Off_reset _ _ _ (by simp), by rw [hZ2, h2], by omega⟩
                · have hcr := ce r (by omega)
                  rw [if_neg hrd] at hcr
                  rw [hcr] at sr
                  rw [sr] at setr
                  have hri : ¬ ((r : Nat) : Int) = done := by omega
                  simp [go_sem, hrl, hrd, hri, gd3, gr3, avs_drop kr1, mr, -getElem?_pos]
                  refine ⟨by kernel_rfl, by omega, ⟨kr1, kne1⟩, ⟨by have := nr.2; omega, by have := nr.1; omega⟩, ?_⟩
                  refine CallD.of cP (by simp [go_sem, roots, rootsL]) (by decide) ?_
                  simp [go_sem, setr]
                  refine ⟨by omega, by omega, ?_⟩
                  refine ⟨by kernel_rfl, ?_⟩
                  simp [go_sem]
                  exact ⟨by omega, r + 1, by omega, by omega, Off_reset _ _ _ (by simp), by rw [hZ2], by omega⟩
              · have e2 : r = M.length := by omega
                subst e2
                have eC : mxR b C M.length = C := by rw [← bl]; exact mxR_all (by omega)
                rw [eC]
                simp [go_sem]
                refine ⟨⟨by omega, by omega⟩, ⟨by omega, by omega⟩, k + 1, C, D * mx M done k % 10007, done + 1, ⟨by omega, by omega, cr, isN_mod _, by omega, hst⟩, by omega, (by repeat (first | exact Off_reset _ _ _ (by simp) | (refine Off.reset (by intro x hx; simp at hx ⊢; omega) (by simp) ?_; simp -failIfUnchanged [go_sem, Off_reset]))), ⟨by omega, rfl⟩, rfl, by omega, by omega⟩
            · refine ⟨by kernel_rfl, ⟨by have := hd.2; omega, by have := hd.1; omega⟩, ?_⟩
              refine CallVC.of (num_c _ (by have := hd.2; omega) (by have := hd.1; omega)) (by decide) ?_
              simp [go_sem]
              generalize (- det) % 10007 = D at *
              rw [ml]
              have nd := mx_N hMr (show done < M.length by omega) k
              have gd := rmat_get (show done < M.length by omega)
              have rd := hMr.at (show done < M.length by omega)
              have kd : k < (M[done]?.getD []).length := by omega
              have mxd : (M[done]?.getD [])[k]?.getD 0 = mx M done k := rfl
              have f1 := mul_fits hDN nd
              have set1 := rmat_set M done (scalS (M[done]?.getD []) (pw (mx M done k) 10005))
              rw [scalS_len] at set1
              have hsc : M.set done (scalS (M[done]?.getD []) (pw (mx M done k) 10005)) = scl M done k := rfl
              rw [hsc] at set1
              have bl := scl_len M done k
              have br := scl_ok hMr (k := k) (show done < M.length by omega)
              have cI := inv_c (mx M done k) nd
              have pb : fits (pw (mx M done k) 10005) := by have := isN_mod ((mx M done k) ^ (10005 : Int).toNat); exact ⟨by have := this.1; show _ ≤ _ % _; omega, by have := this.2; show _ % _ ≤ _; omega⟩
              have cS := scaled_c (M[done]?.getD []) (pw (mx M done k) 10005) rd.2 pb (by omega)
              clear hsc
              generalize hb : scl M done k = b at *
              simp [go_sem, gd, avs_drop kd, mxd]
              have kne : ¬ M[done]?.getD [] = [] := fun e => by rw [e] at kd; simp at kd
              refine ⟨by omega, ⟨kd, kne⟩, f1, ?_⟩
              refine CallVC.of (num_c _ f1.1 f1.2) (by decide) ?_
              simp [go_sem]
              simp [go_sem, gd, avs_drop kd, mxd]
              refine ⟨by kernel_rfl, by omega, ⟨kd, kne⟩, ?_⟩
              refine CallD.of (cI) (by simp [roots, rootsL]) (by decide) ?_
              simp [go_sem]
              refine CallD.of cS (by simp [go_sem, roots, rootsL]) (by decide) ?_
              simp [go_sem, gd, set1]
              refine ⟨by omega, ?_⟩
              refine ⟨by kernel_rfl, ?_⟩
              simp [go_sem]
              have ce : ∀ r, r < b.length → (elD b done k)[r]?.getD [] = if r = done then b[done]?.getD [] else plusS (b[r]?.getD []) (b[done]?.getD []) (- mx b r k) := fun r hr => elD_row hr
              have cl := elD_len b done k
              have cr := elD_ok br (k := k) (show done < b.length by omega)
              generalize elD b done k = C at *
              refine loop_inv ([9] ++ List.range' 100 27 ++ [4]) (fun r : Nat => [(4, .own 23 M.length (mat (mxR b C r))), (100, .int r)]) (fun r => r ≤ M.length) (fun r => M.length - r) 0 (by simp) (by simp [go_sem, mxR_zero]) (by simp [go_sem, rmat_kl]) ?_
              intro r hr1
              by_cases hrl : r < M.length
              · have Zl := mxR_len (A := b) (C := C) (by omega) (show r ≤ b.length by omega)
                have gd2 : done < (mxR b C r).length := by omega
                have gr2 : r < (mxR b C r).length := by omega
                have gd3 := rmat_get gd2
                have gr3 := rmat_get gr2
                have zr : (mxR b C r)[r]?.getD [] = b[r]?.getD [] := by rw [mxR_get (by omega) (by omega), if_neg (by omega)]
                have zd : (mxR b C r)[done]?.getD [] = b[done]?.getD [] := by
                  rw [mxR_get (by omega) (by omega)]
                  split
                  · rw [ce done (by omega), if_pos rfl]
                  · rfl
                have sr := mxR_set (A := b) (C := C) (by omega) (show r < b.length by omega) []
                have sr0 : r = done → mxR b C (r + 1) = mxR b C r := fun e => by
                  rw [← sr, ce r (by omega), if_pos e, ← zd, ← e]
                  refine List.ext_getElem? fun j => ?_
                  rw [List.getElem?_set]
                  split
                  · rename_i ej; subst ej; simp [gr2]
                  · rfl
                rw [zr] at gr3
                rw [zd] at gd3
                have br1 := br.at (show r < b.length by omega)
                have bd1 := br.at (show done < b.length by omega)
                have nr := mx_N br (show r < b.length by omega) k
                have mr : (b[r]?.getD [])[k]?.getD 0 = mx b r k := rfl
                have kr1 : k < (b[r]?.getD []).length := by omega
                have fr : fits (- mx b r k) := ⟨by have := nr.2; omega, by have := nr.1; omega⟩
                have cP := plus_c (b[r]?.getD []) (b[done]?.getD []) (- mx b r k) br1.2 bd1.2 fr (by omega) (by omega)
                have setr := rmat_set (mxR b C r) r (plusS (b[r]?.getD []) (b[done]?.getD []) (- mx b r k))
                rw [plusS_len] at setr
                generalize hZ : mxR b C r = Z at *
                generalize hZ2 : mxR b C (r + 1) = Z2 at *
                have kne1 : ¬ b[r]?.getD [] = [] := fun e => by rw [e] at kr1; simp at kr1
                by_cases hrd : r = done
                · have h2 := sr0 hrd
                  have hdM : done < M.length := by omega
                  simp [go_sem, hrd, hdM]
                  exact ⟨by omega, r + 1, by omega, by omega, Off_reset _ _ _ (by simp), by rw [hZ2, h2], by omega⟩
                · have hcr := ce r (by omega)
                  rw [if_neg hrd] at hcr
                  rw [hcr] at sr
                  rw [sr] at setr
                  have hri : ¬ ((r : Nat) : Int) = done := by omega
                  simp [go_sem, hrl, hrd, hri, gd3, gr3, avs_drop kr1, mr, -getElem?_pos]
                  refine ⟨by kernel_rfl, by omega, ⟨kr1, kne1⟩, ⟨by have := nr.2; omega, by have := nr.1; omega⟩, ?_⟩
                  refine CallD.of cP (by simp [go_sem, roots, rootsL]) (by decide) ?_
                  simp [go_sem, setr]
                  refine ⟨by omega, by omega, ?_⟩
                  refine ⟨by kernel_rfl, ?_⟩
                  simp [go_sem]
                  exact ⟨by omega, r + 1, by omega, by omega, Off_reset _ _ _ (by simp), by rw [hZ2], by omega⟩
              · have e2 : r = M.length := by omega
                subst e2
                have eC : mxR b C M.length = C := by rw [← bl]; exact mxR_all (by omega)
                rw [eC]
                simp [go_sem]
                refine ⟨⟨by omega, by omega⟩, ⟨by omega, by omega⟩, k + 1, C, D * mx M done k % 10007, done + 1, ⟨by omega, by omega, cr, isN_mod _, by omega, hst⟩, by omega, (by repeat (first | exact Off_reset _ _ _ (by simp) | (refine Off.reset (by intro x hx; simp at hx ⊢; omega) (by simp) ?_; simp -failIfUnchanged [go_sem, Off_reset]))), ⟨by omega, rfl⟩, rfl, by omega, by omega⟩
      · have e0 : i = m.length := by omega
        subst e0
        rw [Nat.sub_self, fndR] at hi3
        have hsr : stepR m det done k = (m, 0, done) := by unfold stepR; rw [if_pos hi3.symm]
        rw [hsr] at hst
        simp [go_sem]
        exact ⟨by omega, k + 1, m, 0, done, ⟨by omega, hm, hmr, ⟨by omega, by omega⟩, hdn, hst⟩, by omega, (Off.reset (by intro x hx; simp at hx ⊢; omega) (by simp) (by simp [go_sem, Off_reset])), ⟨rfl, rfl⟩, by omega⟩
    · have hf := fin (by omega)
      have hed : done = m.length := by omega
      rw [hf]
      simp [go_sem, g0, m0, r0, hkw, hdl, -getElem?_pos]
      exact ⟨by omega, rmat_take _ _⟩
  · have hf := fin (by omega)
    rw [hf]
    simp [go_sem, g0, m0, r0, hkw, -getElem?_pos]
    exact ⟨by omega, rmat_take _ _⟩
end Go.Proofs.Ytoamidolomldnaa

/- Contracts: the reference's determinant, systems solved by it. -/
namespace Go.Proofs.Ytoamidolomldnaa
open Go.Abs
set_option linter.unusedVariables false
set_option linter.unusedSimpArgs false
set_option maxHeartbeats 4000000
theorem memR {α : Type} {l : List α} {i : Nat} (d : α) (h : i < l.length) : l[i]?.getD d ∈ l := by simp [h]
theorem avs_tk (xs : List Int) (k : Nat) : (avs xs).take k = avs (xs.take k) := by simp [avs, List.map_take]
theorem avs_dp (xs : List Int) (k : Nat) : (avs xs).drop k = avs (xs.drop k) := by simp [avs, List.map_drop]
/-- A row without a number. -/
def outL (r : List Int) (k : Nat) : List Int := r.take k ++ r.drop (k + 1)
theorem outL_len {r : List Int} {k : Nat} (h : k < r.length) : (outL r k).length = r.length - 1 := by simp [outL]; omega
theorem minL_succ {a : List (List Int)} {k i : Nat} (h : i + 1 < a.length) : ((List.range (i + 1)).map fun r => outL (a[r + 1]?.getD []) k) = ((List.range i).map fun r => outL (a[r + 1]?.getD []) k) ++ [outL (a[i + 1]?.getD []) k] := by
  rw [List.range_succ, List.map_append]; rfl
set_option maxRecDepth 100000 in
theorem l01Minor_c (a : List (List Int)) (k : Nat) (h0 : 0 < a.length) (hl : a.length ≤ 1000) (hr : ∀ r ∈ a, r.length = a.length) (hk : k < a.length) :
    Con Try.prog 233 [.sl a.length (mat a), .int k] (.own 23 (a.length - 1) (omat (minL a k))) := by
  have hm : minL a k = (List.range (a.length - 1)).map fun r => outL (a[r + 1]?.getD []) k := rfl
  rw [hm]
  refine con_of_vc Try.mixed ⟨8, [], [], []⟩ Try.func233 (by decide) rfl (by simp) (by decide) (by simp [freshOK, freshL, go_sem]) ?_
  rw [Try.ntmps233]
  simp [go_sem]
  refine loop_inv (5 :: 6 :: 7 :: List.range' 9 25) (fun i : Nat => [(5, .own 23 i (omat ((List.range i).map fun r => outL (a[r + 1]?.getD []) k))), (6, .int (i + 1))]) (fun i => i + 1 ≤ a.length) (fun i => a.length - i) 0 (by simp; omega) (by simp [go_sem, omat]) (by simp [go_sem]) ?_
  intro i hi
  simp [go_sem]
  refine ⟨fun h => ?_, fun h => ?_⟩ <;> simp at h
  · have hif : i + 1 < a.length := by omega
    have hx := hr _ (memR [] hif)
    have ii : ((i : Int) + 1).toNat = i + 1 := by omega
    have ol := outL_len (r := a[i + 1]?.getD []) (k := k) (by omega)
    have hs := minL_succ (k := k) hif
    have hdr := mat_drop hif
    have hoo : outL (a[i + 1]?.getD []) k = (a[i + 1]?.getD []).take k ++ (a[i + 1]?.getD []).drop (k + 1) := rfl
    generalize a[i + 1]?.getD [] = row at *
    have cO := l01Own_c (row.take k) (by simp; omega)
    have tl : (row.take k).length = k := by simp; omega
    rw [tl] at cO
    simp [go_sem, ii, hdr, avs_tk, avs_dp]
    have kk : ((k : Int) + 1).toNat = k + 1 := by omega
    refine ⟨⟨by omega, by omega, by rintro rfl; simp at hif⟩, by omega, ?_⟩
    refine CallVC.of (cO) (by decide) ?_
    simp [go_sem]
    simp [go_sem, ii, hdr, kk, avs_tk, avs_dp]
    have n1 : k + ((row.length : Int) - ((k : Int) + 1)).toNat = (outL row k).length := by omega
    have n2 : avs (row.take k) ++ avs ((row.drop (k + 1)).take ((row.length : Int) - ((k : Int) + 1)).toNat) = avs (outL row k) := by
      have n3 : (row.drop (k + 1)).take ((row.length : Int) - ((k : Int) + 1)).toNat = row.drop (k + 1) := List.take_of_length_le (by simp; omega)
      rw [n3, ← avs_app, hoo]
    refine ⟨⟨by omega, by omega, by rintro rfl; simp at hif⟩, ⟨by omega, by omega⟩, ⟨by omega, by omega⟩, ⟨by omega, by omega, by omega, by omega⟩, ⟨by omega, by omega⟩, ⟨by omega, by omega⟩, i + 1, by omega, by omega, Off_reset _ _ _ (by simp), ⟨rfl, ?_⟩, by omega⟩
    rw [n1, n2, hs]
    simp [omat]
  · have e : i = a.length - 1 := by omega
    subst e
    simp [go_sem]
theorem lsum_N {t : Nat → Int} : ∀ n, isN (lsum t n)
  | 0 => ⟨by simp [lsum], by simp [lsum]⟩
  | n + 1 => by rw [lsum]; split <;> exact isN_mod _
theorem ldet_isN (n : Nat) (a : List (List Int)) (hl : a.length = n) (hr : Rws n a) : isN (ldet n a) := by
  cases n with
  | zero => exact ⟨by simp [ldet], by simp [ldet]⟩
  | succ n => rw [ldet_is _ a hl hr]; exact isN_mod _
/-- A row cleared by another one. -/
def clrE (a : List (List Int)) (i : Nat) (q : Int) (k j : Nat) : Int := (mx a k (j + 1) - mx a k 0 * q % 10007 * mx a i (j + 1) % 10007) % 10007
theorem clrE_is (a : List (List Int)) (i : Nat) (q : Int) (k j : Nat) : (mx a k (j + 1) - mx a k 0 * q % 10007 * mx a i (j + 1)) % 10007 = clrE a i q k j := by unfold clrE; simp
def rowR (a : List (List Int)) (i : Nat) (q : Int) (k : Nat) : List Int := tb (clrE a i q k) (a.length - 1)
def skp (i r : Nat) : Nat := if r < i then r else r + 1
def cnt (i k : Nat) : Nat := if k ≤ i then k else k - 1
theorem restL_eq (a : List (List Int)) (i : Nat) (q : Int) : restL a i q = (List.range (a.length - 1)).map fun r => rowR a i q (skp i r) := rfl
theorem cnt_same {i k : Nat} (h : k = i) : cnt i (k + 1) = cnt i k := by unfold cnt; rw [if_neg (by omega), if_pos (by omega)]; omega
theorem cnt_next {i k : Nat} (h : k ≠ i) : cnt i (k + 1) = cnt i k + 1 ∧ skp i (cnt i k) = k := by
  unfold cnt skp
  by_cases h1 : k < i
  · rw [if_pos (by omega), if_pos (by omega), if_pos h1]; exact ⟨rfl, rfl⟩
  · rw [if_neg (by omega), if_neg (show ¬ k ≤ i by omega), if_neg (by omega)]; exact ⟨by omega, by omega⟩
set_option maxRecDepth 100000 in
theorem l01Det_c : ∀ (n : Nat) (a : List (List Int)), a.length = n → n ≤ 100 → Rws n a → Con Try.prog 171 [.sl a.length (mat a)] (.int (ldet n a))
  | 0, a, hl, hn, hr => by
    have h0 : a = [] := List.length_eq_zero_iff.1 hl
    subst h0
    refine con_of_vc Try.mixed ⟨13, [], [], []⟩ Try.func171 (by decide) rfl (by simp) (by decide) (by simp [freshOK, freshL, go_sem]) ?_
    rw [Try.ntmps171]
    simp [go_sem]
    rfl
  | n + 1, a, hl, hn, hr => by
    have ih := fun b hb hbr => l01Det_c n b hb (by omega) hbr
    have h0 : ¬ a.length = 0 := by omega
    have ne : ¬ a = [] := by rintro rfl; simp at hl
    have rl : ∀ r ∈ a, r.length = a.length := fun r h => by rw [(hr r h).1, hl]
    have m0 := mat_drop (xss := a) (k := 0) (by omega)
    simp only [List.drop_zero] at m0
    have m1 : AV.sl (a[0]?.getD []).length (avs (a[0]?.getD [])) :: mat a.tail = mat a := by cases a with | nil => simp at hl | cons x l => simp [mat]
    have r0 := hr.at (show 0 < a.length by omega)
    by_cases h4 : n + 1 ≤ 4
    · have h4' : (a.length : Int) ≤ 4 := by omega
      have e0 : ldet (n + 1) a = lsum (fun k => mx a 0 k * ldet n (minL a k) % 10007) (n + 1) := by rw [ldet, if_pos h4]
      rw [e0]
      refine con_of_vc Try.mixed ⟨13, [], [], []⟩ Try.func171 (by decide) rfl (by simp) (by decide) (by simp [freshOK, freshL, go_sem]) ?_
      rw [Try.ntmps171]
      simp [go_sem]
      simp [go_sem, h0, h4', ne]
      refine loop_inv (3 :: 4 :: 5 :: List.range' 19 26) (fun k : Nat => [(3, .int (lsum (fun k => mx a 0 k * ldet n (minL a k) % 10007) k)), (4, .int k)]) (fun k => k ≤ n + 1) (fun k => n + 1 - k) 0 (by simp) (by simp [go_sem, lsum]) (by simp [go_sem]) ?_
      intro k hk
      by_cases hkn : k < n + 1
      · have hki : (k : Int) < a.length := by omega
        have kr : k < (a[0]?.getD []).length := by omega
        have mm : (a[0]?.getD [])[k]?.getD 0 = mx a 0 k := rfl
        have cM := l01Minor_c a k (by omega) (by omega) rl (by omega)
        have ml := minL_len a k
        have mr := minL_ok hl hr hkn
        have cD := ih (minL a k) (by omega) mr
        rw [ml] at cD
        have dN := ldet_isN n (minL a k) (by omega) mr
        have f1 := mul_fits (r0.2.get k) dN
        have ls : lsum (fun k => mx a 0 k * ldet n (minL a k) % 10007) (k + 1) = if k % 2 = 0 then (lsum (fun k => mx a 0 k * ldet n (minL a k) % 10007) k + mx a 0 k * ldet n (minL a k) % 10007) % 10007 else (lsum (fun k => mx a 0 k * ldet n (minL a k) % 10007) k - mx a 0 k * ldet n (minL a k) % 10007) % 10007 := rfl
        have lN := lsum_N (t := fun k => mx a 0 k * ldet n (minL a k) % 10007) k
        have pN := isN_mod (mx a 0 k * ldet n (minL a k))
        simp [go_sem, hki, m0, avs_drop kr, mm]
        simp only [m1]
        have krn : ¬ a[0]?.getD [] = [] := fun e => by rw [e] at kr; simp at kr
        rw [mm] at f1
        refine ⟨by kernel_rfl, by omega, ⟨kr, krn⟩, ?_⟩
        refine CallD.of (cM) (by simp [roots, rootsL]) (by decide) ?_
        simp [go_sem]
        refine CallD.of (cD) (by simp [roots, rootsL]) (by decide) ?_
        simp [go_sem]
        refine CallD.of (l01Mul_c _ _ f1) (by simp [roots, rootsL]) (by decide) ?_
        simp [go_sem]
        refine ⟨by kernel_rfl, ?_⟩
        simp [go_sem]
        have kt : ((k : Nat) : Int).tmod 2 = ((k % 2 : Nat) : Int) := bit_cast k
        simp [go_sem, kt]
        generalize lsum (fun k => mx a 0 k * ldet n (minL a k) % 10007) k = L at *
        generalize mx a 0 k * ldet n (minL a k) % 10007 = p at *
        have fa := add_fits lN pN
        have fs := sub_fits lN pN
        refine ⟨fun h => ?_, fun h => ?_⟩ <;> simp at h
        · have h2 : k % 2 = 0 := by omega
          rw [if_pos h2] at ls
          simp [go_sem]
          refine CallVC.of (l01Add_c _ _ fa) (by decide) ?_
          simp [go_sem]
          exact ⟨by omega, k + 1, by omega, by omega, Off_reset _ _ _ (by simp), by rw [ls], by omega⟩
        · have h2 : ¬ k % 2 = 0 := by omega
          rw [if_neg h2] at ls
          simp [go_sem]
          refine CallVC.of (l01Sub_c _ _ fs) (by decide) ?_
          simp [go_sem]
          exact ⟨by omega, k + 1, by omega, by omega, Off_reset _ _ _ (by simp), by rw [ls], by omega⟩
      · have : k = n + 1 := by omega
        subst this
        have hki : ¬ (n : Int) + 1 < a.length := by omega
        simp [go_sem, hki]
    · have h4' : ¬ (a.length : Int) ≤ 4 := by omega
      have fl := fndR_le a 0 (n + 1) 0
      refine con_of_vc Try.mixed ⟨13, [], [], []⟩ Try.func171 (by decide) rfl (by simp) (by decide) (by simp [freshOK, freshL, go_sem]) ?_
      rw [Try.ntmps171]
      simp [go_sem]
      simp [go_sem, h0, h4', ne]
      refine loop_inv ([2] ++ List.range' 6 7 ++ List.range' 46 83) (fun i : Nat => [(6, .int i)]) (fun i => i ≤ n + 1 ∧ fndR a 0 (n + 1 - i) i = fndR a 0 (n + 1) 0) (fun i => n + 1 - i) 0 (by simp) (by simp [go_sem]) (by simp [go_sem]) ?_
      rintro i ⟨hi, hi2⟩
      by_cases hin : i < n + 1
      · have hii : (i : Int) < a.length := by omega
        have hia : i < a.length := by omega
        have ri := hr.at hia
        have k0 : 0 < (a[i]?.getD []).length := by omega
        have mm : (a[i]?.getD [])[0]?.getD 0 = mx a i 0 := rfl
        have di := avs_drop k0
        simp only [List.drop_zero] at di
        have hfi : fndR a 0 (n + 1 - i) i = if mx a i 0 = 0 then fndR a 0 (n + 1 - (i + 1)) (i + 1) else i := by
          rw [show n + 1 - i = (n + 1 - (i + 1)) + 1 by omega, fndR]
        have kne : ¬ a[i]?.getD [] = [] := fun e => by rw [e] at k0; simp at k0
        simp [go_sem, hii, mat_drop hia, di, mm]
        refine ⟨ne, k0, ?_⟩
        by_cases hz : mx a i 0 = 0
        · rw [if_pos hz] at hfi
          simp [go_sem, hz]
          exact ⟨by omega, i + 1, ⟨by omega, by rw [← hi2, hfi]⟩, by omega, Off_reset _ _ _ (by simp), by omega⟩
        · rw [if_neg hz, hi2] at hfi
          have xN := mx_N hr hia 0
          have e0 : ldet (n + 1) a = if i % 2 = 1 then (0 - mx a i 0 * ldet n (restL a i (pw (mx a i 0) 10005)) % 10007) % 10007 else mx a i 0 * ldet n (restL a i (pw (mx a i 0) 10005)) % 10007 := by
            rw [ldet, if_neg h4, hfi, if_neg (by omega)]
          rw [e0]
          clear e0 hi2
          have qN : isN (pw (mx a i 0) 10005) := isN_mod _
          simp [go_sem, hz, mat_drop hia, di, mm]
          refine ⟨⟨hia, ne⟩, k0, ?_⟩
          refine CallVC.of (l01Inv_c _ xN) (by decide) ?_
          simp [go_sem]
          generalize pw (mx a i 0) 10005 = q at *
          refine loop_inv ([7, 9, 10, 11] ++ List.range' 67 47) (fun k : Nat => [(7, .own 23 (cnt i k) (omat ((List.range (cnt i k)).map fun r => rowR a i q (skp i r)))), (9, .int k)]) (fun k => k ≤ n + 1) (fun k => n + 1 - k) 0 (by simp) (by simp [go_sem, cnt, omat]) (by simp [go_sem]) ?_
          intro k hk
          by_cases hkn : k < n + 1
          · have hkl : (k : Int) < a.length := by omega
            have hka : k < a.length := by omega
            by_cases hki : k = i
            · have hkii : (k : Int) = i := by omega
              have cs := cnt_same hki
              simp [go_sem, hkl, hkii, hii]
              exact ⟨by omega, k + 1, by omega, by omega, Off_reset _ _ _ (by simp), by rw [cs]; exact ⟨rfl, rfl⟩, by omega⟩
            · have hkii : ¬ (k : Int) = i := by omega
              have cs := cnt_next hki
              have rk := hr.at hka
              have kk0 : 0 < (a[k]?.getD []).length := by omega
              simp [go_sem, hkl, hkii]
              refine loop_inv ([10, 11] ++ List.range' 77 33) (fun j : Nat => [(10, .own 2 j (avs (tb (clrE a i q k) j))), (11, .int (j + 1))]) (fun j => j ≤ n) (fun j => n - j) 0 (by simp) (by simp [go_sem]) (by simp [go_sem]) ?_
              intro j hj
              by_cases hjn : j < n
              · have hjl : (j : Int) + 1 < a.length := by omega
                have jj : ((j : Int) + 1).toNat = j + 1 := by omega
                have dk0 : avs (a[k]?.getD []) = .val (.int .i64 (mx a k 0)) :: avs (a[k]?.getD []).tail := by
                  have := avs_drop kk0
                  rw [List.drop_zero, List.drop_one] at this
                  rw [this]; rfl
                have dk1 : (avs (a[k]?.getD []).tail).drop j = .val (.int .i64 (mx a k (j + 1))) :: avs ((a[k]?.getD []).drop (j + 2)) := by
                  rw [← List.drop_one, avs_drop (by simp; omega)]
                  congr 1
                  · simp [mx, Nat.add_comm]
                  · rw [List.drop_drop]; congr 2; omega
                have di1 : (avs (a[i]?.getD [])).drop (j + 1) = .val (.int .i64 (mx a i (j + 1))) :: avs ((a[i]?.getD []).drop (j + 2)) := by
                  rw [avs_drop (by omega)]; rfl
                have n1 := mx_N hr hka (j + 1)
                have n2 := mx_N hr hka 0
                have n3 := mx_N hr hia (j + 1)
                have f1 := mul_fits n2 qN
                have f2 := mul_fits (isN_mod (mx a k 0 * q)) n3
                have f3 := sub_fits n1 (isN_mod (mx a k 0 * q % 10007 * mx a i (j + 1)))
                have ts := tb_succ (clrE a i q k) j
                simp [go_sem, hjl, jj, mat_drop hka, mat_drop hia, dk0, dk1, di1]
                refine ⟨by kernel_rfl, ⟨hka, ne⟩, ⟨by omega, by omega⟩, ⟨hka, ne⟩, kk0, ?_⟩
                refine CallD.of (l01Mul_c _ _ f1) (by simp [roots, rootsL]) (by decide) ?_
                simp [go_sem]
                simp [go_sem, jj, mat_drop hia, di1]
                refine ⟨⟨hia, ne⟩, ⟨by omega, by omega, kne⟩, ?_⟩
                refine CallD.of (l01Mul_c _ _ f2) (by simp [roots, rootsL]) (by decide) ?_
                simp [go_sem]
                refine CallD.of (l01Sub_c _ _ f3) (by simp [roots, rootsL]) (by decide) ?_
                simp [go_sem]
                refine ⟨by omega, ?_⟩
                refine ⟨by kernel_rfl, ?_⟩
                simp [go_sem]
                exact ⟨⟨by omega, by omega⟩, j + 1, by omega, by omega, Off_reset _ _ _ (by simp), by rw [ts, avs_snoc, clrE_is]; exact ⟨rfl, rfl⟩, by omega⟩
              · have e2 : j = n := by omega
                subst e2
                have hjl : ¬ (j : Int) + 1 < a.length := by omega
                have e4 : tb (clrE a i q k) j = rowR a i q k := by unfold rowR; rw [hl, Nat.add_sub_cancel]
                have e5 : omat ((List.range (cnt i k + 1)).map fun r => rowR a i q (skp i r)) = omat ((List.range (cnt i k)).map fun r => rowR a i q (skp i r)) ++ [.own 2 j (avs (rowR a i q k))] := by
                  have rl2 : (rowR a i q k).length = j := by unfold rowR; simp; omega
                  rw [omat_range_succ, cs.2, rl2]
                have cb : cnt i k ≤ k := by unfold cnt; split <;> omega
                simp [go_sem, hjl]
                exact ⟨by omega, by omega, k + 1, by omega, by omega, (Off.reset (by intro x hx; simp at hx ⊢; omega) (by simp) (by simp [go_sem, Off_reset])), by rw [cs.1, e5, e4]; exact ⟨rfl, rfl⟩, by omega⟩
          · have e1 : k = n + 1 := by omega
            subst e1
            have hki : ¬ (n : Int) + 1 < a.length := by omega
            have ec : cnt i (n + 1) = n := by unfold cnt; split <;> omega
            have er := restL_eq a i q
            rw [hl, Nat.add_sub_cancel] at er
            have ro := restL_ok hl i q
            have cD := ih (restL a i q) ro.1 ro.2
            rw [ro.1] at cD
            have dN := ldet_isN n (restL a i q) ro.1 ro.2
            rw [ec, ← er]
            have f1 := mul_fits xN dN
            have f2 := sub_fits (show isN 0 from ⟨by omega, by omega⟩) (isN_mod (mx a i 0 * ldet n (restL a i q)))
            simp [go_sem, hki, mat_drop hia, di, mm]
            refine ⟨by kernel_rfl, ⟨hia, ne⟩, k0, ?_⟩
            refine CallD.of (cD) (by simp [roots, rootsL]) (by decide) ?_
            simp [go_sem]
            refine CallD.of (l01Mul_c _ _ f1) (by simp [roots, rootsL]) (by decide) ?_
            simp [go_sem]
            refine ⟨by kernel_rfl, ?_⟩
            simp [go_sem]
            refine ⟨fun h => ?_, fun h => ?_⟩ <;> simp at h
            · have h2 : i % 2 = 1 := by have := bit_cast i; omega
              rw [if_pos h2]
              simp [go_sem]
              refine CallVC.of (l01Sub_c _ _ f2) (by decide) ?_
              simp [go_sem]
            · have h2 : ¬ i % 2 = 1 := by have := bit_cast i; omega
              rw [if_neg h2]
              simp [go_sem]
      · have : i = n + 1 := by omega
        subst this
        have hki : ¬ (n : Int) + 1 < a.length := by omega
        rw [Nat.sub_self, fndR] at hi2
        have e0 : ldet (n + 1) a = 0 := by rw [ldet, if_neg h4, if_pos hi2.symm]
        rw [e0]
        simp [go_sem, hki]
end Go.Proofs.Ytoamidolomldnaa

/- Contracts: linear systems, solved by the reference and by the program. -/
namespace Go.Proofs.Ytoamidolomldnaa
open Go.Abs
set_option linter.unusedVariables false
set_option linter.unusedSimpArgs false
set_option maxHeartbeats 4000000
theorem omat_kl (W : List Nat) (A : List (List Int)) : klL W (omat A) = omat A := by
  induction A with
  | nil => rfl
  | cons r A ih => simp only [omat, List.map_cons] at ih ⊢; rw [klL, ih]; rfl
/-- The solution, by determinants. -/
def sysF (n : Nat) (a : List (List Int)) (b : List Int) (k : Nat) : Int := ldet n (repL a k b) * pw (ldet n a) 10005 % 10007
def solX (n : Nat) (a : List (List Int)) (b : List Int) : List Int := if ldet n a = 0 then [] else tb (sysF n a b) n
def solR (n : Nat) (a : List (List Int)) (b : List Int) : AV := .tup [.own 2 (solX n a b).length (avs (solX n a b)), .bool (decide (ldet n a ≠ 0))]
theorem solX_N (n : Nat) (a : List (List Int)) (b : List Int) : Ns (solX n a b) := by
  unfold solX
  split
  · exact Ns.nil
  · exact tb_N fun k _ => isN_mod _
theorem solX_len {n : Nat} {a : List (List Int)} {b : List Int} (h : ldet n a ≠ 0) : (solX n a b).length = n := by unfold solX; rw [if_neg h]; simp
theorem repL_row {a : List (List Int)} {k i : Nat} {b : List Int} (hi : i < a.length) : (repL a k b)[i]?.getD [] = (a[i]?.getD []).set k (b[i]?.getD 0) := by simp [repL, hi]
set_option maxRecDepth 100000 in
theorem l01Solve_c {n : Nat} (a : List (List Int)) (b : List Int) (hl : a.length = n) (hn : n ≤ 100) (hr : Rws n a) (hb : Ns b) (hbl : n ≤ b.length) :
    Con Try.prog 90 [.sl a.length (mat a), .sl b.length (avs b)] (solR n a b) := by
  have cD := l01Det_c n a hl hn hr
  have dN := ldet_isN n a hl hr
  unfold solR solX
  by_cases h0 : ldet n a = 0
  · rw [if_pos h0]
    simp only [h0, ne_eq, not_true_eq_false, decide_false]
    refine Con.n1 _ ?_
    rw [h0] at cD
    refine con_of_vc Try.mixed ⟨11, [], [], []⟩ Try.func90 (by decide) rfl (by simp) (by decide) (by simp [freshOK, freshL, go_sem]) ?_
    rw [Try.ntmps90]
    simp [go_sem]
    refine CallVC.of (cD) (by decide) ?_
    simp [go_sem]
  · rw [if_neg h0]
    simp only [h0, ne_eq, not_false_eq_true, decide_true, tb_len]
    have sF : ∀ k, sysF n a b k = ldet n (repL a k b) * pw (ldet n a) 10005 % 10007 := fun k => rfl
    generalize ldet n a = d at *
    refine con_of_vc Try.mixed ⟨11, [], [], []⟩ Try.func90 (by decide) rfl (by simp) (by decide) (by simp [freshOK, freshL, go_sem]) ?_
    rw [Try.ntmps90]
    simp [go_sem]
    refine CallVC.of (cD) (by decide) ?_
    simp [go_sem]
    simp [go_sem, h0]
    refine loop_inv ([7, 8, 9, 10] ++ List.range' 16 32) (fun k : Nat => [(7, .own 2 k (avs (tb (sysF n a b) k))), (8, .int k)]) (fun k => k ≤ n) (fun k => n - k) 0 (by simp) (by simp [go_sem]) (by simp [go_sem]) ?_
    intro k hk
    by_cases hkn : k < n
    · have hki : (k : Int) < a.length := by omega
      have rl : ∀ r ∈ a, r.length ≤ 1048576 := fun r h => by have := (hr r h).1; omega
      have cO := l01Own2_c a (by omega) rl
      have ro := repL_ok (b := b) hl hr hb k
      have rw' : ∀ i, i < a.length → (repL a k b)[i]?.getD [] = (a[i]?.getD []).set k (b[i]?.getD 0) := fun i hi => repL_row hi
      have cR := l01Det_c n (repL a k b) ro.1 hn ro.2
      have cR : Con Try.prog 171 [.sl a.length (mat (repL a k b))] (.int (ldet n (repL a k b))) := by rw [ro.1] at cR; rw [hl]; exact cR
      have rN := ldet_isN n (repL a k b) ro.1 ro.2
      have hsf := sF k
      generalize repL a k b = B at *
      simp [go_sem, hki]
      refine CallVC.of (cO) (by decide) ?_
      simp [go_sem]
      refine loop_inv ([10] ++ List.range' 24 16 ++ [9]) (fun i : Nat => [(9, .own 23 a.length (omat (mxR a B i))), (10, .int i)]) (fun i => i ≤ n) (fun i => n - i) 0 (by simp) (by simp [go_sem, mxR_zero]) (by simp [go_sem, omat_kl]) ?_
      intro i hi
      by_cases hin : i < n
      · have hii : (i : Int) < a.length := by omega
        have hia : i < a.length := by omega
        have Ml := mxR_len (A := a) (C := B) (by omega) (show i ≤ a.length by omega)
        have hg := omat_get (A := mxR a B i) (k := i) (by omega)
        have hgi : (mxR a B i)[i]?.getD [] = a[i]?.getD [] := by rw [mxR_get (by omega) (by omega), if_neg (by omega)]
        rw [hgi] at hg
        have hset := omat_set (mxR a B i) i (B[i]?.getD [])
        rw [mxR_set (by omega) hia] at hset
        have hnew := rw' i hia
        have ri := hr.at hia
        have hkr : k < (a[i]?.getD []).length := by omega
        have hib : i < b.length := by omega
        generalize mxR a B i = M at *
        generalize B[i]?.getD [] = new at *
        generalize a[i]?.getD [] = old at *
        have bne : ¬ b = [] := by rintro rfl; simp at hib
        simp [go_sem, hii, hg, avs_drop hib]
        refine ⟨by kernel_rfl, ⟨hib, bne⟩, hkr, ?_⟩
        refine ⟨by kernel_rfl, ?_⟩
        simp [go_sem]
        exact ⟨by omega, i + 1, by omega, by omega, Off_reset _ _ _ (by simp), by rw [← hset, hnew, List.length_set, avs_set], by omega⟩
      · have e : i = n := by omega
        subst e
        have hii : ¬ (i : Int) < a.length := by omega
        have hall := mxR_all (A := a) (C := B) (by omega)
        rw [hl] at hall
        rw [hall]
        have ts := tb_succ (sysF i a b) k
        have f1 : fits (ldet i B * pw d 10005) := mul_fits rN (isN_mod _)
        simp [go_sem, hii]
        refine CallVC.of (cR) (by decide) ?_
        simp [go_sem]
        refine CallVC.of (l01Inv_c _ dN) (by decide) ?_
        simp [go_sem]
        refine CallVC.of (l01Mul_c _ _ f1) (by decide) ?_
        simp [go_sem]
        rw [← hsf]
        exact ⟨by omega, by omega, k + 1, by omega, by omega, (Off.reset (by intro x hx; simp at hx ⊢; omega) (by simp) (by simp [go_sem, Off_reset])), by rw [ts, avs_snoc]; exact ⟨rfl, rfl⟩, by omega⟩
    · have e : k = n := by omega
      subst e
      have hki : ¬ (k : Int) < a.length := by omega
      simp [go_sem, hki]
theorem leadL_c (a : List Int) (hl : a.length ≤ 1048576) : Con Try.prog 179 [.sl a.length (avs a)] (.int (leadL a)) := by
  refine con_of_vc Try.mixed ⟨4, [], [], []⟩ Try.func179 (by decide) rfl (by simp) (by decide) (by simp [freshOK, freshL, go_sem]) ?_
  rw [Try.ntmps179]
  simp [go_sem]
  refine loop_inv (3 :: List.range' 4 13) (fun i : Nat => [(3, .int i)]) (fun i => i ≤ a.length ∧ ldF a (a.length - i) i = leadL a) (fun i => a.length - i) 0 ⟨by omega, by simp [leadL]⟩ (by simp [go_sem]) (by simp [go_sem]) ?_
  rintro i ⟨hi, he⟩
  by_cases h : i < a.length
  · have hf : ldF a (a.length - i) i = if a[i]?.getD 0 = 0 then ldF a (a.length - (i + 1)) (i + 1) else i := by
      rw [show a.length - i = (a.length - (i + 1)) + 1 by omega, ldF]
    have ne : ¬ a = [] := by rintro rfl; simp at h
    have hii : (i : Int) < a.length := by omega
    by_cases hz : a[i]?.getD 0 = 0
    · rw [if_pos hz] at hf
      simp [go_sem, hii, avs_drop h, hz]
      exact ⟨ne, by omega, i + 1, ⟨by omega, by rw [← he, hf]⟩, by omega, Off_reset _ _ _ (by simp), by omega⟩
    · rw [if_neg hz, he] at hf
      simp [go_sem, hii, avs_drop h, hz]
      exact ⟨ne, by omega⟩
  · have e : i = a.length := by omega
    subst e
    rw [Nat.sub_self, ldF] at he
    simp [go_sem]
    omega
theorem widL_take {a : List (List Int)} {b : List Int} {i : Nat} (h : i < a.length) : ((List.range (i + 1)).map fun i => a[i]?.getD [] ++ [b[i]?.getD 0]) = ((List.range i).map fun i => a[i]?.getD [] ++ [b[i]?.getD 0]) ++ [a[i]?.getD [] ++ [b[i]?.getD 0]] := by
  rw [List.range_succ, List.map_append]; rfl
set_option maxRecDepth 100000 in
theorem solve_w {n : Nat} (a : List (List Int)) (b : List Int) (h0 : 0 < n) (hl : a.length = n) (hn : n ≤ 100) (hr : Rws n a) (hb : Ns b) (hbl : n ≤ b.length) {R : List (List Int)} {dt : Int} {dn : Nat} (x : AV)
    (hst : redR (n + 1) 0 (widL a b, 1, 0) = (R, dt, dn)) (gl : R.length = n) (gr : Rws (n + 1) R) (gd : dn ≤ n) (hf : freshOK x = true)
    (hA : dn = n → leadL (R[n - 1]?.getD []) = n - 1 → x = .tup [.own 2 R.length (avs (colS R n)), .bool true])
    (hB : ¬ (dn = n ∧ leadL (R[n - 1]?.getD []) = n - 1) → x = .tup [.val (.slice none 0 0), .bool false]) :
    Con Try.prog 119 [.sl a.length (mat a), .sl b.length (avs b)] x := by
  have wo := widL_ok (a := a) (b := b) hl hr hb
  have cR := reduce_c (w := n + 1) (widL a b) (by omega) (by omega) (by omega) wo.2
  have m0 := mat_drop (xss := a) (k := 0) (by omega)
  simp only [List.drop_zero] at m0
  have m1 : AV.sl (a[0]?.getD []).length (avs (a[0]?.getD [])) :: mat a.tail = mat a := by cases a with | nil => simp at hl; omega | cons x l => simp [mat]
  have r0 := hr.at (show 0 < a.length by omega)
  have hw : widL a b = (List.range a.length).map fun i => a[i]?.getD [] ++ [b[i]?.getD 0] := rfl
  have ne : ¬ a = [] := by rintro rfl; simp at hl; omega
  have wl : (widL a b).length = a.length := by simp [widL]
  rw [wl, hst] at cR
  simp only at cR
  refine con_of_vc Try.mixed ⟨12, [37], [1000000 + 178], []⟩ Try.func119 (by decide) rfl (by simp) (by decide) hf ?_
  rw [Try.ntmps119]
  simp [go_sem]
  simp [go_sem, m0]
  simp only [m1]
  refine ⟨by kernel_rfl, ⟨by omega, ne⟩, ?_⟩
  refine ⟨by kernel_rfl, ?_⟩
  simp [go_sem]
  refine loop_inv ([6, 8, 9] ++ List.range' 19 17) (fun i : Nat => [(6, .own 23 i (omat ((List.range i).map fun i => a[i]?.getD [] ++ [b[i]?.getD 0]))), (19, .int i)]) (fun i => i ≤ n) (fun i => n - i) 0 (by simp) (by simp [go_sem, omat]) (by simp [go_sem]) ?_
  intro i hi
  by_cases hin : i < n
  · have hii : (i : Int) < a.length := by omega
    have hia : i < a.length := by omega
    have hib : i < b.length := by omega
    have bne : ¬ b = [] := by rintro rfl; simp at hib
    have ri := (hr.at hia).1
    have cC := Clone_c (a[i]?.getD []) (by omega)
    have ho := omat_range_succ (fun i => a[i]?.getD [] ++ [b[i]?.getD 0]) i
    simp [go_sem, hii, mat_drop hia, avs_drop hib]
    refine ⟨ne, by kernel_rfl, ?_⟩
    refine CallD.of (cC) (by simp [roots, rootsL]) (by decide) ?_
    simp [go_sem]
    simp [go_sem, avs_drop hib]
    refine ⟨⟨hib, bne⟩, ⟨by omega, by omega⟩, ⟨by omega, by omega⟩, ?_⟩
    refine ⟨by kernel_rfl, ?_⟩
    simp [go_sem]
    refine ⟨by omega, i + 1, by omega, by omega, Off_reset _ _ _ (by simp), ?_, by omega⟩
    rw [ho, List.length_append, List.length_singleton, avs_snoc]
    exact ⟨rfl, rfl⟩
  · have e : i = a.length := by omega
    subst e
    rw [← hw]
    simp [go_sem]
    refine ⟨_, _, cR, ?_⟩
    simp [go_sem]
    have hd3 : (((a[0]?.getD []).length : Int) - 1) = ((n - 1 : Nat) : Int) := by omega
    by_cases hdn : dn = n
    · have hdR : dn = R.length := by omega
      subst hdR
      have hd0 : ((R.length : Nat) : Int) = (a[0]?.getD []).length := by omega
      have ht : R.take R.length = R := List.take_of_length_le (by omega)
      have hR1 := rmat_get (A := R) (k := n - 1) (by omega)
      have rr := (gr.at (show n - 1 < R.length by omega)).1
      have hL := leadL_c (R[n - 1]?.getD []) (by omega)
      rw [ht]
      have hk : n ≤ R.length := by omega
      have cC := column_c R n (by omega) (fun r h => by have := (gr r h).1; omega) (by omega)
      have hd4 : R.length = (a[0]?.getD []).length := by omega
      simp [go_sem, hd0, hd3, hR1]
      refine ⟨by omega, by omega, ?_⟩
      refine CallVC.of (hL) (by decide) ?_
      simp [go_sem]
      by_cases hld : leadL (R[n - 1]?.getD []) = n - 1
      · have hx := hA hdn hld
        have hlt : ¬ (leadL (R[n - 1]?.getD []) : Int) ≠ (((a[0]?.getD []).length : Int) - 1) := by omega
        subst hx
        simp [go_sem, hd3, hld]
        refine ⟨by omega, ?_⟩
        have hr0 : ((a[0]?.getD []).length : Int) = (n : Int) := by omega
        simp [go_sem, hr0]
        refine CallVC.of (cC) (by decide) ?_
        simp [go_sem]
      · have hx := hB (fun h => hld h.2)
        have hlt : ¬ (leadL (R[n - 1]?.getD []) : Int) = (((n - 1 : Nat) : Int)) := by omega
        subst hx
        simp [go_sem, hd3, hld, hlt]
        omega
    · have hx := hB (fun h => hdn h.1)
      have hd0 : ¬ ((dn : Nat) : Int) = (a[0]?.getD []).length := by omega
      subst hx
      simp [go_sem, hd0]
theorem solve_c {n : Nat} (a : List (List Int)) (b : List Int) (h0 : 0 < n) (hl : a.length = n) (hn : n ≤ 100) (hr : Rws n a) (hb : Ns b) (hbl : n ≤ b.length) :
    Con Try.prog 119 [.sl a.length (mat a), .sl b.length (avs b)] (solR n a b) := by
  have wo := widL_ok (a := a) (b := b) hl hr hb
  have sv := solve_is h0 hl hr hb
  obtain ⟨k', g1, g2, g3⟩ := redR_GI (n + 1) 0 (widL a b, 1, 0) (by omega) (GI.start wo.1 wo.2)
  have gl := g3.len
  have gr := g3.rws
  have gd := g3.dle
  clear g3 g1 g2
  generalize hst : redR (n + 1) 0 (widL a b, 1, 0) = st at *
  obtain ⟨R, dt, dn⟩ := st
  simp only at sv gl gr gd
  unfold oneB at sv
  have sv2 : ldet n a ≠ 0 → colS R n = tb (sysF n a b) n := fun h => by
    unfold colS tb
    rw [gl]
    refine List.map_congr_left fun k hk => ?_
    have hk : k < n := by simpa using hk
    exact sv.2 h k hk
  unfold solR solX
  by_cases hz : ldet n a = 0
  · rw [if_pos hz]
    have h1 := sv.1
    simp only [hz, ne_eq, not_true_eq_false, decide_false] at h1 ⊢
    refine Con.n1 _ (solve_w a b h0 hl hn hr hb hbl _ hst gl gr gd (by simp [freshOK, freshL]) (fun h2 h3 => ?_) (fun _ => rfl))
    rw [h2, h3] at h1
    simp at h1
  · rw [if_neg hz]
    have h1 := sv.1
    simp only [hz, ne_eq, not_false_eq_true, decide_true, Bool.and_eq_true, decide_eq_true_eq] at h1 ⊢
    refine solve_w a b h0 hl hn hr hb hbl _ hst gl gr gd (by simp [freshOK, freshL]) (fun h2 h3 => ?_) (fun h => (h h1).elim)
    rw [sv2 hz, tb_len, gl]
end Go.Proofs.Ytoamidolomldnaa

/- Plain: what Cramer's rule finds solves the system. -/
namespace Go.Proofs.Ytoamidolomldnaa
open Go.Abs
set_option linter.unusedVariables false
set_option linter.unusedSimpArgs false
set_option maxHeartbeats 1000000
theorem Nul.unswp {n w : Nat} {m : List (List Int)} {x : Nat → Int} {i d : Nat} (h : Nul n w (Go.Proofs.Ytoamidolomldnaa.swp m i d) x) (hl : m.length = n) (hi : i < n) (hd : d < n) : Nul n w m x := by
  have e : ∀ r, mx (Go.Proofs.Ytoamidolomldnaa.swp m i d) r = updR (updR (mx m) i (mx m d)) d (mx m i) r := fun r => by rw [swp_mx (by omega) (by omega)]
  intro r hr
  by_cases e1 : r = i
  · subst e1
    have := h d hd
    rw [e d, updR_at] at this
    exact this
  · by_cases e2 : r = d
    · subst e2
      have := h i hi
      rw [e i, updR_ne _ _ (fun k => e1 k.symm), updR_at] at this
      exact this
    · have := h r hr
      rw [e r, updR_ne _ _ e2, updR_ne _ _ e1] at this
      exact this
theorem Nul.unscl {n w : Nat} {m : List (List Int)} {x : Nat → Int} {d k : Nat} (h : Nul n w (Go.Proofs.Ytoamidolomldnaa.scl m d k) x) (hl : m.length = n) (hr : Rws w m) (hd : d < n) (hN : isN (mx m d k)) (h0 : mx m d k ≠ 0) : Nul n w m x := by
  intro r hrn
  have hh := h r hrn
  by_cases e : r = d
  · subst e
    have e1 : dsum (fun c => mx (Go.Proofs.Ytoamidolomldnaa.scl m r k) r c * x c) w % 10007 = dsum (fun c => (pw (mx m r k) 10005 % 10007) * (mx m r c * x c)) w % 10007 := dsum_cong fun c hc => by
      rw [scl_at hr (by omega) hc, if_pos rfl, mul_mod_l]
      congr 1
      rw [Int.mul_comm (mx m r c), Int.mul_assoc]
    rw [e1, ← dsum_mul] at hh
    have hi := inv_ok hN h0
    generalize dsum (fun c => mx m r c * x c) w = s at *
    generalize mx m r k = p at *
    have e2 : s % 10007 = p * (pw p 10005 % 10007 * s) % 10007 := by
      rw [← Int.mul_assoc, ← mul_mod_l (p * (pw p 10005 % 10007)), mul_mod_r, hi, Int.one_mul]
    rw [e2, ← mul_mod_r, hh]; simp
  · have e1 : dsum (fun c => mx (Go.Proofs.Ytoamidolomldnaa.scl m d k) r c * x c) w % 10007 = dsum (fun c => mx m r c * x c) w % 10007 := dsum_cong fun c hc => by
      rw [scl_at hr (by omega) hc, if_neg e]
    rw [e1] at hh; exact hh
theorem Nul.unelD {n w : Nat} {m : List (List Int)} {x : Nat → Int} {d k : Nat} (h : Nul n w (Go.Proofs.Ytoamidolomldnaa.elD m d k) x) (hl : m.length = n) (hr : Rws w m) (hd : d < n) : Nul n w m x := by
  have hdd : dsum (fun c => mx m d c * x c) w % 10007 = 0 := by
    have hh := h d hd
    have e1 : dsum (fun c => mx (Go.Proofs.Ytoamidolomldnaa.elD m d k) d c * x c) w % 10007 = dsum (fun c => mx m d c * x c) w % 10007 := dsum_cong fun c hc => by
      rw [elD_at hr (by omega) hc, if_pos rfl]
    rw [e1] at hh; exact hh
  intro r hrn
  by_cases e : r = d
  · subst e; exact hdd
  · have hh := h r hrn
    have e1 : dsum (fun c => mx (Go.Proofs.Ytoamidolomldnaa.elD m d k) r c * x c) w % 10007 = dsum (fun c => mx m r c * x c + ((- mx m r k) % 10007) * (mx m d c * x c)) w % 10007 := dsum_cong fun c hc => by
      rw [elD_at hr (by omega) hc, if_neg e, mul_mod_l, Int.add_mul, Int.mul_assoc]
    rw [e1, dsum_lin, Int.add_emod, ← mul_mod_r (- mx m r k % 10007), hdd] at hh
    simpa using hh
theorem stepR_unNul {n w : Nat} {W0 : Mx} {m : List (List Int)} {d : Int} {done k : Nat} {x : Nat → Int} (g : GI n w W0 m done k) (hk : k < w) (hd : done < n) (h : Nul n w (stepR m d done k).1 x) : Nul n w m x := by
  have hl := g.len
  have fl := fndR_le m k (m.length - done) done
  unfold stepR at h
  by_cases e : fndR m k (m.length - done) done = m.length
  · rw [if_pos e] at h; exact h
  · rw [if_neg e] at h
    have s1 := swp_ok g.rws (i := fndR m k (m.length - done) done) (d := done) (by omega) (by omega)
    have l1 := swp_len m (fndR m k (m.length - done) done) done
    have t1 := scl_ok s1 (d := done) (k := k) (by omega)
    have fne := fndR_ne m k (m.length - done) done (by omega)
    have hp : mx (swp m (fndR m k (m.length - done) done) done) done k = mx m (fndR m k (m.length - done) done) k := by
      rw [swp_mx (by omega) (by omega), updR_at]
    have h2 := Nul.unelD h (by rw [scl_len, l1]; exact hl) t1 hd
    have h3 := Nul.unscl h2 (by omega) s1 hd (mx_N s1 (by omega) k) (by rw [hp]; exact fne)
    exact Nul.unswp h3 hl (by omega) hd
theorem redR_unNul {n w : Nat} {W0 : Mx} {x : Nat → Int} : ∀ (f k : Nat) (st : List (List Int) × Int × Nat), k + f = w → GI n w W0 st.1 st.2.2 k → Nul n w (redR f k st).1 x → Nul n w st.1 x
  | 0, k, st, hk, g, h => h
  | f + 1, k, st, hk, g, h => by
    rw [redR] at h
    have hl := g.len
    split at h
    · rename_i hlt
      exact stepR_unNul g (by omega) (by omega) (redR_unNul f (k + 1) _ (by omega) (stepR_GI g (by omega) (by omega)) h)
    · exact h
/-- The system is solved. -/
theorem sys_solves {n : Nat} {a : List (List Int)} {b : List Int} (hn : 0 < n) (hl : a.length = n) (hr : Rws n a) (hb : Ns b) (h0 : ldet n a ≠ 0) :
    ∀ r, r < n → dsum (fun c => mx a r c * sysF n a b c) n % 10007 = b[r]?.getD 0 % 10007 := by
  have sv := solve_is hn hl hr hb
  have wo := widL_ok hl hr hb
  have wm := widL_mx (b := b) hl hr
  have ho := sv.1
  rw [decide_eq_true h0] at ho
  have hs : ∀ k, k < n → mx (redR (n + 1) 0 (widL a b, 1, 0)).1 k n = sysF n a b k := fun k hk => sv.2 h0 k hk
  obtain ⟨k', h1, h2, h3⟩ := redR_GI (n + 1) 0 (widL a b, 1, 0) (by omega) (GI.start wo.1 wo.2)
  have hid := h3.one hn h1 ho
  have nr : Nul n (n + 1) (redR (n + 1) 0 (widL a b, 1, 0)).1 (fun c => if c < n then sysF n a b c else -1) := fun k hk => by
    have e2 : dsum (fun c => mx (redR (n + 1) 0 (widL a b, 1, 0)).1 k c * (fun c => if c < n then sysF n a b c else -1) c) (n + 1) = sysF n a b k + mx (redR (n + 1) 0 (widL a b, 1, 0)).1 k n * (-1) := by
      rw [dsum]
      congr 1
      · have : dsum (fun c => mx (redR (n + 1) 0 (widL a b, 1, 0)).1 k c * (fun c => if c < n then sysF n a b c else -1) c) n = dsum (fun c => idM k c * sysF n a b c) n := dsum_congr fun c hc => by
          simp only [if_pos hc]; rw [hid k c hk hc]
        rw [this, dsum_id hk]
      · simp only [if_neg (show ¬ n < n by omega)]
    rw [e2, hs k hk]
    have : sysF n a b k + sysF n a b k * -1 = 0 := by omega
    rw [this]; rfl
  have nu := redR_unNul (n + 1) 0 (widL a b, 1, 0) (by omega) (GI.start wo.1 wo.2) nr
  intro r hrn
  have := nu r hrn
  have e1 : dsum (fun c => mx (widL a b) r c * (fun c => if c < n then sysF n a b c else -1) c) (n + 1) = dsum (fun c => mx a r c * sysF n a b c) n + b[r]?.getD 0 * (-1) := by
    rw [dsum]
    congr 1
    · exact dsum_congr fun c hc => by simp only [if_pos hc]; rw [(wm r hrn).1 c hc]
    · simp only [if_neg (show ¬ n < n by omega)]; rw [(wm r hrn).2]
  rw [e1] at this
  omega
end Go.Proofs.Ytoamidolomldnaa

/- Contracts: Pade approximants, the reference's and the program's. -/
namespace Go.Proofs.Ytoamidolomldnaa
open Go.Abs
set_option linter.unusedVariables false
set_option linter.unusedSimpArgs false
set_option maxHeartbeats 4000000
def serOk (a : List Int) : Bool := decide (1 ≤ (a.length : Int)) && decide ((a.length : Int) ≤ 16) && numsB a
theorem serOk_iff {a : List Int} (h : serOk a = true) : 1 ≤ a.length ∧ a.length ≤ 16 ∧ Ns a := by
  unfold serOk at h
  simp only [Bool.and_eq_true, decide_eq_true_eq, numsB_N] at h
  exact ⟨by omega, by omega, h.2⟩
theorem IsSeries_c (a : List Int) (hl : a.length ≤ 9223372036854775807) : Con Try.prog 115 [.sl a.length (avs a)] (.bool (serOk a)) := by
  have cN := areNumbers_c a hl
  unfold serOk
  generalize numsB a = b at *
  refine con_of_vc Try.mixed ⟨3, [], [], []⟩ Try.func115 (by decide) rfl (by simp) (by decide) (by simp [freshOK, freshL, go_sem]) ?_
  rw [Try.ntmps115]
  simp [go_sem]
  refine CallVC.of (length_c _ _ hl) (by decide) ?_
  simp [go_sem]
  refine CallVC.of (inRange_c _ _ _) (by decide) ?_
  simp [go_sem]
  by_cases h1 : 1 ≤ (a.length : Int) <;> by_cases h2 : (a.length : Int) ≤ 16
  · simp [go_sem, h1, h2]
    refine CallVC.of (cN) (by decide) ?_
    simp [go_sem]
  all_goals simp [go_sem, h1, h2]
theorem l02Is_c (a : List Int) (hl : a.length ≤ 9223372036854775807) : Con Try.prog 120 [.sl a.length (avs a)] (.bool (serOk a)) := by
  have cN := l01Numbers_c a hl
  unfold serOk
  generalize numsB a = b at *
  refine con_of_vc Try.mixed ⟨3, [], [], []⟩ Try.func120 (by decide) rfl (by simp) (by decide) (by simp [freshOK, freshL, go_sem]) ?_
  rw [Try.ntmps120]
  simp [go_sem]
  refine CallVC.of (l01In_c _ _ _) (by decide) ?_
  simp [go_sem]
  by_cases h1 : 1 ≤ (a.length : Int) <;> by_cases h2 : (a.length : Int) ≤ 16
  · simp [go_sem, h1, h2]
    refine CallVC.of (cN) (by decide) ?_
    simp [go_sem]
  all_goals simp [go_sem, h1, h2]
/-- A coefficient, 0 for a place below 0. -/
def cof (a : List Int) (k : Int) : Int := if k < 0 then 0 else a[k.toNat]?.getD 0
theorem cof_N {a : List Int} (h : Ns a) (k : Int) : isN (cof a k) := by
  unfold cof
  split
  · exact ⟨by omega, by omega⟩
  · exact h.get _
theorem coefficient_c (a : List Int) (k : Int) (hk : k < a.length) : Con Try.prog 118 [.sl a.length (avs a), .int k] (.int (cof a k)) := by
  unfold cof
  by_cases h : k < 0
  · rw [if_pos h]
    refine con_of_vc Try.mixed ⟨5, [], [], []⟩ Try.func118 (by decide) rfl (by simp) (by decide) (by simp [freshOK, freshL, go_sem]) ?_
    rw [Try.ntmps118]
    simp [go_sem]
    simp [go_sem, h]
  · rw [if_neg h]
    obtain ⟨j, rfl⟩ : ∃ j : Nat, k = j := ⟨k.toNat, by omega⟩
    have hj : j < a.length := by omega
    have ne : ¬ a = [] := by rintro rfl; simp at hj
    refine con_of_vc Try.mixed ⟨5, [], [], []⟩ Try.func118 (by decide) rfl (by simp) (by decide) (by simp [freshOK, freshL, go_sem]) ?_
    rw [Try.ntmps118]
    simp [go_sem]
    simp [go_sem, h, avs_drop hj]
    exact ⟨hj, ne⟩
def paE (a : List Int) (m : Nat) (i j : Nat) : Int := cof a ((m : Int) + 1 + i - (j + 1))
def paA (a : List Int) (m n : Nat) : List (List Int) := (List.range n).map fun i => tb (paE a m i) n
def paG (a : List Int) (m i : Nat) : Int := (0 - a[m + 1 + i]?.getD 0) % 10007
theorem paG_is (a : List Int) (m i : Nat) : (-a[m + 1 + i]?.getD 0) % 10007 = paG a m i := by unfold paG; rw [Int.zero_sub]
def paB (a : List Int) (m n : Nat) : List Int := tb (paG a m) n
def paQ (a : List Int) (m n : Nat) : List Int := 1 :: solX n (paA a m n) (paB a m n)
def psum (a q : List Int) (k : Nat) : Nat → Int
  | 0 => 0
  | j + 1 => psum a q k j + q[j]?.getD 0 * cof a ((k : Int) - j)
def paP (a : List Int) (m n : Nat) (q : List Int) : List Int := tb (fun k => psum a q k (n + 1) % 10007) (m + 1)
theorem paA_ok {a : List Int} (h : Ns a) (m n : Nat) : (paA a m n).length = n ∧ Rws n (paA a m n) := by
  refine ⟨by simp [paA], fun x hx => ?_⟩
  obtain ⟨i, _, rfl⟩ := List.mem_map.1 hx
  exact ⟨by simp, tb_N fun j _ => cof_N h _⟩
theorem paB_N (a : List Int) (m n : Nat) : Ns (paB a m n) := tb_N fun i _ => isN_mod _
theorem paQ_N (a : List Int) (m n : Nat) : Ns (paQ a m n) := fun x hx => by
  rcases List.mem_cons.1 hx with rfl | hx
  · exact ⟨by omega, by omega⟩
  · exact solX_N _ _ _ x hx
theorem psum_bound {a q : List Int} (ha : Ns a) (hq : Ns q) (k : Nat) : ∀ j : Nat, 0 ≤ psum a q k j ∧ psum a q k j ≤ j * 100120036
  | 0 => by simp [psum]
  | j + 1 => by
    have h1 := psum_bound ha hq k j
    have h2 := mul_bound (hq.get j) (cof_N ha ((k : Int) - j))
    rw [psum]
    omega
theorem psum_stop {a q : List Int} {k : Nat} : ∀ d j : Nat, k < j → psum a q k (j + d) = psum a q k j
  | 0, j, h => rfl
  | d + 1, j, h => by
    rw [show j + (d + 1) = (j + d) + 1 by omega, psum, psum_stop d j h]
    have : cof a ((k : Int) - (j + d : Nat)) = 0 := by unfold cof; rw [if_pos (by omega)]
    rw [this, Int.mul_zero, Int.add_zero]
theorem paA_succ (a : List Int) (m n i : Nat) : omat ((List.range (i + 1)).map fun i => tb (paE a m i) n) = omat ((List.range i).map fun i => tb (paE a m i) n) ++ [.own 2 n (avs (tb (paE a m i) n))] := by
  rw [omat_range_succ]; simp
set_option maxRecDepth 100000 in
theorem specPade_w (a : List Int) (m n : Nat) (hs : serOk a = true) (hm : m ≤ 8) (hn : n ≤ 8) (hmn : m + n + 1 ≤ a.length) (x : AV) (hf : freshOK x = true)
    (hA : ldet n (paA a m n) ≠ 0 → x = .tup [.own 2 (m + 1) (avs (paP a m n (paQ a m n))), .own 2 (n + 1) (avs (paQ a m n)), .int 0])
    (hB : ldet n (paA a m n) = 0 → x = .tup [.val (.slice none 0 0), .val (.slice none 0 0), .int 5]) :
    Con Try.prog 35 [.sl a.length (avs a), .int m, .int n] x := by
  obtain ⟨h1, h16, hN⟩ := serOk_iff hs
  have cI := l02Is_c a (by omega)
  rw [hs] at cI
  have Ao := paA_ok hN m n
  have cS := l01Solve_c (n := n) (paA a m n) (paB a m n) Ao.1 (by omega) Ao.2 (paB_N a m n) (by simp [paB])
  have hAd : paA a m n = (List.range n).map fun i => tb (paE a m i) n := rfl
  have hBd : paB a m n = tb (paG a m) n := rfl
  have Bl : (paB a m n).length = n := by simp [paB]
  rw [Ao.1, Bl] at cS
  unfold solR at cS
  have hm8 : (m : Int) ≤ 8 := by omega
  have hn8 : (n : Int) ≤ 8 := by omega
  have hml : ¬ (a.length : Int) < (m : Int) + n + 1 := by omega
  have ane : ¬ a = [] := by rintro rfl; simp at h1
  refine con_of_vc Try.mixed ⟨21, [], [], []⟩ Try.func35 (by decide) rfl (by simp) (by decide) hf ?_
  rw [Try.ntmps35]
  simp [go_sem]
  refine CallVC.of (cI) (by decide) ?_
  simp [go_sem]
  refine CallVC.of (l01In_c _ _ _) (by decide) ?_
  simp [go_sem]
  simp [go_sem, hm8]
  refine CallVC.of (l01In_c _ _ _) (by decide) ?_
  simp [go_sem]
  simp [go_sem, hn8, hml]
  refine ⟨⟨by omega, by omega⟩, ⟨by omega, by omega⟩, ?_⟩
  have qN := paQ_N a m n
  by_cases hn0 : n = 0
  · have hn1 : ¬ 0 < n := by omega
    have hq : paQ a m n = [1] := by subst hn0; unfold paQ solX; simp [ldet, tb]
    have ql : (paQ a m n).length = n + 1 := by rw [hq, hn0]; rfl
    have hx := hA (by rw [hn0]; simp [ldet])
    subst hx
    have hq2 : avs (paQ a m n) = [.val (.int .i64 1)] := by rw [hq]; rfl
    simp [go_sem, hn1]
    generalize hQ : paQ a m n = q at *
    have q0 : ¬ q = [] := by rintro rfl; simp at ql
    refine loop_inv ([9, 17, 18, 19, 20] ++ List.range' 101 32) (fun k : Nat => [(17, .own 2 k (avs (tb (fun k => psum a q k (n + 1) % 10007) k))), (18, .int k), (9, .own 2 (n + 1) (avs q))]) (fun k => k ≤ m + 1) (fun k => m + 1 - k) 0 (by simp) (by simp [go_sem, hn0, hq2]) (by simp [go_sem]) ?_
    intro k hk
    by_cases hkm : k ≤ m
    · have hki : (k : Int) ≤ m := by omega
      have ts := tb_succ (fun k => psum a q k (n + 1) % 10007) k
      simp [go_sem, hki, hkm]
      refine loop_inv ([19, 20] ++ List.range' 106 23) (fun j : Nat => [(19, .int (psum a q k j % 10007)), (20, .int j)]) (fun j => j ≤ n + 1 ∧ j ≤ k + 1) (fun j => n + 1 - j) 0 (by simp) (by simp [go_sem, psum]) (by simp [go_sem]) ?_
      rintro j ⟨hj1, hj2⟩
      by_cases hjn : j ≤ n
      · have hji : (j : Int) ≤ n := by omega
        by_cases hjk : j ≤ k
        · have hjki : (j : Int) ≤ k := by omega
          have ix : ((k : Int) - j).toNat = k - j := by omega
          have kj : k - j < a.length := by omega
          have jq : j < q.length := by omega
          have cf : cof a ((k : Int) - j) = a[k - j]?.getD 0 := by unfold cof; rw [if_neg (by omega), ix]
          have ps : psum a q k (j + 1) = psum a q k j + q[j]?.getD 0 * cof a ((k : Int) - j) := rfl
          rw [cf] at ps
          have f1 := mul_fits (hN.get (k - j)) (qN.get j)
          have f2 := add_fits (isN_mod (psum a q k j)) (isN_mod (a[k - j]?.getD 0 * q[j]?.getD 0))
          simp [go_sem, hji, hjki, hjn, hjk, ix, avs_drop kj, avs_at jq, avs_drop jq]
          have ej : (psum a q k j + a[k - j]?.getD 0 * q[j]?.getD 0) % 10007 = psum a q k (j + 1) % 10007 := by rw [ps, Int.mul_comm (q[j]?.getD 0)]
          refine ⟨by kernel_rfl, ⟨by omega, by omega⟩, ⟨by omega, ane⟩, by omega, ?_⟩
          refine CallD.of (l01Mul_c _ _ f1) (by simp [roots, rootsL]) (by decide) ?_
          simp [go_sem]
          refine CallD.of (l01Add_c _ _ f2) (by simp [roots, rootsL]) (by decide) ?_
          simp [go_sem]
          refine ⟨by kernel_rfl, ?_⟩
          simp [go_sem]
          exact ⟨by omega, j + 1, ⟨by omega, by omega⟩, by omega, Off_reset _ _ _ (by simp), ej, by omega⟩
        · have hjki : ¬ (j : Int) ≤ k := by omega
          have st := psum_stop (a := a) (q := q) (k := k) (n + 1 - j) j (by omega)
          rw [show j + (n + 1 - j) = n + 1 by omega] at st
          simp [go_sem, hji, hjki, hjn, hjk]
          rw [← st]
          exact ⟨by omega, by omega, k + 1, by omega, by omega, (Off.reset (by intro x hx; simp at hx ⊢; omega) (by simp) (by simp [go_sem, Off_reset])), by rw [ts, avs_snoc]; exact ⟨rfl, rfl⟩, by omega⟩
      · have e : j = n + 1 := by omega
        subst e
        have hji : ¬ ((n : Int) + 1) ≤ n := by omega
        simp [go_sem, hji]
        exact ⟨by omega, by omega, k + 1, by omega, by omega, (Off.reset (by intro x hx; simp at hx ⊢; omega) (by simp) (by simp [go_sem, Off_reset])), by rw [ts, avs_snoc]; exact ⟨rfl, rfl⟩, by omega⟩
    · have e : k = m + 1 := by omega
      subst e
      have hki : ¬ ((m : Int) + 1) ≤ m := by omega
      simp [go_sem, hki]
      rfl
  · have hn1 : 0 < n := by omega
    simp [go_sem, hn1]
    refine ⟨⟨by omega, by omega⟩, ?_⟩
    refine loop_inv ([10, 11, 12, 13, 14] ++ List.range' 48 41) (fun i : Nat => [(10, .own 23 i (omat ((List.range i).map fun i => tb (paE a m i) n))), (11, .own 2 i (avs (tb (paG a m) i))), (12, .int ((m : Int) + 1 + i))]) (fun i => i ≤ n) (fun i => n - i) 0 (by simp) (by simp [go_sem, omat]) (by simp [go_sem]) ?_
    intro i hi
    by_cases hin : i < n
    · have hii : (m : Int) + 1 + i ≤ (m : Int) + n := by omega
      have os := paA_succ a m n i
      have bs := tb_succ (paG a m) i
      simp [go_sem, hii]
      refine ⟨⟨by omega, by omega⟩, ?_⟩
      refine loop_inv ([13, 14] ++ List.range' 56 21) (fun j : Nat => [(13, .own 2 j (avs (tb (paE a m i) j))), (14, .int (j + 1))]) (fun j => j ≤ n) (fun j => n - j) 0 (by simp) (by simp [go_sem]) (by simp [go_sem]) ?_
      intro j hj
      by_cases hjn : j < n
      · have hji : (j : Int) + 1 ≤ n := by omega
        have ts := tb_succ (paE a m i) j
        have pe : paE a m i j = cof a ((m : Int) + 1 + i - (j + 1)) := rfl
        by_cases hsg : (0 : Int) ≤ (m : Int) + 1 + i - (j + 1)
        · obtain ⟨d, hd⟩ : ∃ d : Nat, (m : Int) + 1 + i - (j + 1) = d := ⟨((m : Int) + 1 + i - (j + 1)).toNat, by omega⟩
          have hda : d < a.length := by omega
          rw [hd] at pe hsg
          have pe2 : paE a m i j = a[d]?.getD 0 := by rw [pe]; unfold cof; rw [if_neg (by omega), Int.toNat_natCast]
          simp [go_sem, hji, hd, avs_drop hda]
          exact ⟨by omega, ⟨hda, ane⟩, ⟨by omega, by omega⟩, ⟨by omega, by omega⟩, j + 1, by omega, by omega, Off_reset _ _ _ (by simp), by rw [ts, avs_snoc, pe2]; exact ⟨rfl, rfl⟩, by omega⟩
        · have pe2 : paE a m i j = 0 := by rw [pe]; unfold cof; rw [if_pos (by omega)]
          simp [go_sem, hji, hsg]
          refine ⟨⟨by omega, by omega⟩, ?_⟩
          have hsg2 : ¬ (j : Int) + 1 ≤ (m : Int) + 1 + i := by omega
          simp [go_sem, hsg2]
          exact ⟨⟨by omega, by omega⟩, ⟨by omega, by omega⟩, j + 1, by omega, by omega, Off_reset _ _ _ (by simp), by rw [ts, avs_snoc, pe2]; exact ⟨rfl, rfl⟩, by omega⟩
      · have e : j = n := by omega
        subst e
        have hji : ¬ ((j : Int) + 1) ≤ j := by omega
        have hma : m + 1 + i < a.length := by omega
        have hmi : ((m : Int) + 1 + i).toNat = m + 1 + i := by omega
        have nN := hN.get (m + 1 + i)
        have f1 := sub_fits (show isN 0 from ⟨by omega, by omega⟩) nN
        simp [go_sem, hji, hmi, avs_drop hma]
        refine ⟨⟨by omega, by omega⟩, ⟨by omega, by omega, ane⟩, ?_⟩
        refine CallVC.of (l01Sub_c _ _ f1) (by decide) ?_
        simp [go_sem]
        rw [paG_is]
        exact ⟨⟨by omega, by omega⟩, ⟨by omega, by omega⟩, i + 1, by omega, by omega, (Off.reset (by intro x hx; simp at hx ⊢; omega) (by simp) (by simp [go_sem, Off_reset])), by rw [os]; exact ⟨rfl, rfl⟩, by rw [bs, avs_snoc]; exact ⟨rfl, rfl⟩, by omega⟩
    · have e : n = i := by omega
      subst e
      have hii : ¬ (m : Int) + 1 + n ≤ (m : Int) + n := by omega
      rw [← hAd, ← hBd]
      simp [go_sem, hii]
      refine ⟨⟨by omega, by omega⟩, ?_⟩
      refine CallVC.of (cS) (by decide) ?_
      simp [go_sem]
      have sl := @solX_len n (paA a m n) (paB a m n)
      have hQq : paQ a m n = 1 :: solX n (paA a m n) (paB a m n) := rfl
      by_cases hz : ldet n (paA a m n) = 0
      · have hx := hB hz
        subst hx
        simp [go_sem, hz]
      · have hx := hA hz
        have sl := sl hz
        subst hx
        have ql : (paQ a m n).length = n + 1 := by rw [hQq, List.length_cons, sl]
        have hq2 : .val (.int .i64 1) :: avs (solX n (paA a m n) (paB a m n)) = avs (paQ a m n) := by rw [hQq, avs_cons]
        generalize solX n (paA a m n) (paB a m n) = sx at *
        have hl1 : 1 + sx.length = n + 1 := by omega
        simp [go_sem, hz]
        refine ⟨⟨by omega, by omega⟩, ?_⟩
        generalize hQ : paQ a m n = q at *
        have q0 : ¬ q = [] := by rintro rfl; simp at ql
        refine loop_inv ([9, 17, 18, 19, 20] ++ List.range' 101 32) (fun k : Nat => [(17, .own 2 k (avs (tb (fun k => psum a q k (n + 1) % 10007) k))), (18, .int k), (9, .own 2 (n + 1) (avs q))]) (fun k => k ≤ m + 1) (fun k => m + 1 - k) 0 (by simp) (by simp [go_sem, hq2, hl1]) (by simp [go_sem]) ?_
        intro k hk
        by_cases hkm : k ≤ m
        · have hki : (k : Int) ≤ m := by omega
          have ts := tb_succ (fun k => psum a q k (n + 1) % 10007) k
          simp [go_sem, hki, hkm]
          refine loop_inv ([19, 20] ++ List.range' 106 23) (fun j : Nat => [(19, .int (psum a q k j % 10007)), (20, .int j)]) (fun j => j ≤ n + 1 ∧ j ≤ k + 1) (fun j => n + 1 - j) 0 (by simp) (by simp [go_sem, psum]) (by simp [go_sem]) ?_
          rintro j ⟨hj1, hj2⟩
          by_cases hjn : j ≤ n
          · have hji : (j : Int) ≤ n := by omega
            by_cases hjk : j ≤ k
            · have hjki : (j : Int) ≤ k := by omega
              have ix : ((k : Int) - j).toNat = k - j := by omega
              have kj : k - j < a.length := by omega
              have jq : j < q.length := by omega
              have cf : cof a ((k : Int) - j) = a[k - j]?.getD 0 := by unfold cof; rw [if_neg (by omega), ix]
              have ps : psum a q k (j + 1) = psum a q k j + q[j]?.getD 0 * cof a ((k : Int) - j) := rfl
              rw [cf] at ps
              have f1 := mul_fits (hN.get (k - j)) (qN.get j)
              have f2 := add_fits (isN_mod (psum a q k j)) (isN_mod (a[k - j]?.getD 0 * q[j]?.getD 0))
              simp [go_sem, hji, hjki, hjn, hjk, ix, avs_drop kj, avs_at jq, avs_drop jq]
              have ej : (psum a q k j + a[k - j]?.getD 0 * q[j]?.getD 0) % 10007 = psum a q k (j + 1) % 10007 := by rw [ps, Int.mul_comm (q[j]?.getD 0)]
              refine ⟨by kernel_rfl, ⟨by omega, by omega⟩, ⟨by omega, ane⟩, by omega, ?_⟩
              refine CallD.of (l01Mul_c _ _ f1) (by simp [roots, rootsL]) (by decide) ?_
              simp [go_sem]
              refine CallD.of (l01Add_c _ _ f2) (by simp [roots, rootsL]) (by decide) ?_
              simp [go_sem]
              refine ⟨by kernel_rfl, ?_⟩
              simp [go_sem]
              exact ⟨by omega, j + 1, ⟨by omega, by omega⟩, by omega, Off_reset _ _ _ (by simp), ej, by omega⟩
            · have hjki : ¬ (j : Int) ≤ k := by omega
              have st := psum_stop (a := a) (q := q) (k := k) (n + 1 - j) j (by omega)
              rw [show j + (n + 1 - j) = n + 1 by omega] at st
              simp [go_sem, hji, hjki, hjn, hjk]
              rw [← st]
              exact ⟨by omega, by omega, k + 1, by omega, by omega, (Off.reset (by intro x hx; simp at hx ⊢; omega) (by simp) (by simp [go_sem, Off_reset])), by rw [ts, avs_snoc]; exact ⟨rfl, rfl⟩, by omega⟩
          · have e : j = n + 1 := by omega
            subst e
            have hji : ¬ ((n : Int) + 1) ≤ n := by omega
            simp [go_sem, hji]
            exact ⟨by omega, by omega, k + 1, by omega, by omega, (Off.reset (by intro x hx; simp at hx ⊢; omega) (by simp) (by simp [go_sem, Off_reset])), by rw [ts, avs_snoc]; exact ⟨rfl, rfl⟩, by omega⟩
        · have e : k = m + 1 := by omega
          subst e
          have hki : ¬ ((m : Int) + 1) ≤ m := by omega
          simp [go_sem, hki]
          rfl
end Go.Proofs.Ytoamidolomldnaa

/- Contracts: Pade approximants, the program's. -/
namespace Go.Proofs.Ytoamidolomldnaa
open Go.Abs
set_option linter.unusedVariables false
set_option linter.unusedSimpArgs false
set_option maxHeartbeats 4000000
set_option maxRecDepth 100000 in
theorem Pade_w (a : List Int) (m n : Nat) (hs : serOk a = true) (hm : m ≤ 8) (hn : n ≤ 8) (hmn : m + n + 1 ≤ a.length) (x : AV) (hf : freshOK x = true)
    (hA : ldet n (paA a m n) ≠ 0 → x = .tup [.own 2 (m + 1) (avs (paP a m n (paQ a m n))), .own 2 (n + 1) (avs (paQ a m n)), .int 0])
    (hB : ldet n (paA a m n) = 0 → x = .tup [.val (.slice none 0 0), .val (.slice none 0 0), .int 5]) :
    Con Try.prog 34 [.sl a.length (avs a), .int m, .int n] x := by
  obtain ⟨h1, h16, hN⟩ := serOk_iff hs
  have cI := IsSeries_c a (by omega)
  rw [hs] at cI
  have Ao := paA_ok hN m n
  have cS := fun h0 => solve_c (n := n) (paA a m n) (paB a m n) h0 Ao.1 (by omega) Ao.2 (paB_N a m n) (by simp [paB])
  have hAd : paA a m n = (List.range n).map fun i => tb (paE a m i) n := rfl
  have hBd : paB a m n = tb (paG a m) n := rfl
  have Bl : (paB a m n).length = n := by simp [paB]
  rw [Ao.1, Bl] at cS
  unfold solR at cS
  have hm8 : (m : Int) ≤ 8 := by omega
  have hn8 : (n : Int) ≤ 8 := by omega
  have hml : ¬ (a.length : Int) < (m : Int) + n + 1 := by omega
  have ane : ¬ a = [] := by rintro rfl; simp at h1
  refine con_of_vc Try.mixed ⟨22, [], [], []⟩ Try.func34 (by decide) rfl (by simp) (by decide) hf ?_
  rw [Try.ntmps34]
  simp [go_sem]
  refine CallVC.of (cI) (by decide) ?_
  simp [go_sem]
  refine CallVC.of (areDegrees_c _ _) (by decide) ?_
  simp [go_sem]
  simp [go_sem, hm8, hn8]
  refine CallVC.of (length_c _ _ (by omega)) (by decide) ?_
  simp [go_sem]
  simp [go_sem, hml]
  refine ⟨⟨by omega, by omega⟩, ⟨by omega, by omega⟩, ?_⟩
  have qN := paQ_N a m n
  by_cases hn0 : n = 0
  · have hn1 : ¬ 0 < n := by omega
    have hq : paQ a m n = [1] := by subst hn0; unfold paQ solX; simp [ldet, tb]
    have ql : (paQ a m n).length = n + 1 := by rw [hq, hn0]; rfl
    have hx := hA (by rw [hn0]; simp [ldet])
    subst hx
    have hq2 : avs (paQ a m n) = [.val (.int .i64 1)] := by rw [hq]; rfl
    simp [go_sem, hn1]
    generalize hQ : paQ a m n = q at *
    have q0 : ¬ q = [] := by rintro rfl; simp at ql
    refine ⟨⟨by omega, by omega⟩, ?_⟩
    refine loop_inv ([9, 17, 18, 19, 20, 21] ++ List.range' 95 26) (fun k : Nat => [(17, .own 2 k (avs (tb (fun k => psum a q k (n + 1) % 10007) k))), (95, .int k), (9, .own 2 (n + 1) (avs q))]) (fun k => k ≤ m + 1) (fun k => m + 1 - k) 0 (by simp) (by simp [go_sem, hn0, hq2]) (by simp [go_sem]) ?_
    intro k hk
    by_cases hkm : k ≤ m
    · have hki : (k : Int) < (m : Int) + 1 := by omega
      have ts := tb_succ (fun k => psum a q k (n + 1) % 10007) k
      simp [go_sem, hki]
      refine loop_inv ([19, 20, 21] ++ List.range' 100 15) (fun j : Nat => [(19, .int (psum a q k j)), (100, .int j)]) (fun j => j ≤ n + 1) (fun j => n + 1 - j) 0 (by simp) (by simp [go_sem, psum]) (by simp [go_sem]) ?_
      intro j hj
      by_cases hjn : j ≤ n
      · have hji : (j : Int) < (n : Int) + 1 := by omega
        have jq : j < q.length := by omega
        have ps : psum a q k (j + 1) = psum a q k j + q[j]?.getD 0 * cof a ((k : Int) - j) := rfl
        have cC := coefficient_c a ((k : Int) - j) (by omega)
        have cN := cof_N hN ((k : Int) - j)
        have f1 := mul_fits (qN.get j) cN
        have b1 := psum_bound hN qN k j
        have b2 := mul_bound (qN.get j) cN
        simp [go_sem, hji, avs_at jq, avs_drop jq]
        refine ⟨⟨by omega, by omega⟩, ?_⟩
        refine CallVC.of (cC) (by decide) ?_
        simp [go_sem]
        rw [← ps]
        refine ⟨f1, ⟨by omega, by omega⟩, ⟨by omega, by omega⟩, j + 1, by omega, by omega, Off_reset _ _ _ (by simp), rfl, by omega⟩
      · have e : j = n + 1 := by omega
        subst e
        have hji : ¬ ((n : Int) + 1) < (n : Int) + 1 := by omega
        have b1 := psum_bound hN qN k (n + 1)
        simp [go_sem, hji]
        refine CallVC.of (num_c _ (by omega) (by omega)) (by decide) ?_
        simp [go_sem]
        exact ⟨⟨by omega, by omega⟩, ⟨by omega, by omega⟩, k + 1, by omega, by omega, (Off.reset (by intro x hx; simp at hx ⊢; omega) (by simp) (by simp [go_sem, Off_reset])), by rw [ts, avs_snoc]; exact ⟨rfl, rfl⟩, by omega⟩
    · have e : k = m + 1 := by omega
      subst e
      have hki : ¬ ((m : Int) + 1) < (m : Int) + 1 := by omega
      simp [go_sem, hki]
      rfl
  · have hn1 : 0 < n := by omega
    have cS := cS hn1
    simp [go_sem, hn1]
    refine ⟨⟨by omega, by omega⟩, ?_⟩
    refine loop_inv ([10, 11, 12, 13, 14] ++ List.range' 47 34) (fun i : Nat => [(10, .own 23 i (omat ((List.range i).map fun i => tb (paE a m i) n))), (11, .own 2 i (avs (tb (paG a m) i))), (12, .int ((m : Int) + 1 + i))]) (fun i => i ≤ n) (fun i => n - i) 0 (by simp) (by simp [go_sem, omat]) (by simp [go_sem]) ?_
    intro i hi
    by_cases hin : i < n
    · have hii : (m : Int) + 1 + i ≤ (m : Int) + n := by omega
      have os := paA_succ a m n i
      have bs := tb_succ (paG a m) i
      simp [go_sem, hii]
      refine ⟨⟨by omega, by omega⟩, ?_⟩
      refine loop_inv ([13, 14] ++ List.range' 55 13) (fun j : Nat => [(13, .own 2 j (avs (tb (paE a m i) j))), (14, .int (j + 1))]) (fun j => j ≤ n) (fun j => n - j) 0 (by simp) (by simp [go_sem]) (by simp [go_sem]) ?_
      intro j hj
      by_cases hjn : j < n
      · have hji : (j : Int) + 1 ≤ n := by omega
        have ts := tb_succ (paE a m i) j
        have pe : paE a m i j = cof a ((m : Int) + 1 + i - (j + 1)) := rfl
        have cC := coefficient_c a ((m : Int) + 1 + i - (j + 1)) (by omega)
        simp [go_sem, hji]
        refine ⟨⟨by omega, by omega⟩, ?_⟩
        refine CallVC.of (cC) (by decide) ?_
        simp [go_sem]
        exact ⟨⟨by omega, by omega⟩, ⟨by omega, by omega⟩, j + 1, by omega, by omega, Off_reset _ _ _ (by simp), by rw [ts, avs_snoc, pe]; exact ⟨rfl, rfl⟩, by omega⟩
      · have e : j = n := by omega
        subst e
        have hji : ¬ ((j : Int) + 1) ≤ j := by omega
        have hma : m + 1 + i < a.length := by omega
        have hmi : ((m : Int) + 1 + i).toNat = m + 1 + i := by omega
        have nN := hN.get (m + 1 + i)
        obtain ⟨nN0, nN1⟩ := nN
        simp [go_sem, hji, hmi, avs_drop hma]
        refine ⟨by kernel_rfl, ⟨by omega, by omega⟩, ⟨by omega, by omega, ane⟩, ⟨by omega, by omega⟩, ?_⟩
        refine CallD.of (num_c _ (by omega) (by omega)) (by simp [roots, rootsL]) (by decide) ?_
        simp [go_sem]
        refine ⟨⟨by omega, by omega⟩, ?_⟩
        refine ⟨by kernel_rfl, ?_⟩
        simp [go_sem]
        rw [paG_is]
        exact ⟨⟨by omega, by omega⟩, i + 1, by omega, by omega, (Off.reset (by intro x hx; simp at hx ⊢; omega) (by simp) (by simp [go_sem, Off_reset])), by rw [os]; exact ⟨rfl, rfl⟩, by rw [bs, avs_snoc]; exact ⟨rfl, rfl⟩, by omega⟩
    · have e : n = i := by omega
      subst e
      have hii : ¬ (m : Int) + 1 + n ≤ (m : Int) + n := by omega
      rw [← hAd, ← hBd]
      simp [go_sem, hii]
      refine ⟨⟨by omega, by omega⟩, ?_⟩
      refine CallVC.of (cS) (by decide) ?_
      simp [go_sem]
      have sl := @solX_len n (paA a m n) (paB a m n)
      have hQq : paQ a m n = 1 :: solX n (paA a m n) (paB a m n) := rfl
      by_cases hz : ldet n (paA a m n) = 0
      · have hx := hB hz
        subst hx
        simp [go_sem, hz]
      · have hx := hA hz
        have sl := sl hz
        subst hx
        have ql : (paQ a m n).length = n + 1 := by rw [hQq, List.length_cons, sl]
        have hq2 : .val (.int .i64 1) :: avs (solX n (paA a m n) (paB a m n)) = avs (paQ a m n) := by rw [hQq, avs_cons]
        generalize solX n (paA a m n) (paB a m n) = sx at *
        have hl1 : 1 + sx.length = n + 1 := by omega
        simp [go_sem, hz]
        refine ⟨⟨by omega, by omega⟩, ?_⟩
        generalize hQ : paQ a m n = q at *
        have q0 : ¬ q = [] := by rintro rfl; simp at ql
        refine ⟨⟨by omega, by omega⟩, ?_⟩
        refine loop_inv ([9, 17, 18, 19, 20, 21] ++ List.range' 95 26) (fun k : Nat => [(17, .own 2 k (avs (tb (fun k => psum a q k (n + 1) % 10007) k))), (95, .int k), (9, .own 2 (n + 1) (avs q))]) (fun k => k ≤ m + 1) (fun k => m + 1 - k) 0 (by simp) (by simp [go_sem, hq2, hl1]) (by simp [go_sem]) ?_
        intro k hk
        by_cases hkm : k ≤ m
        · have hki : (k : Int) < (m : Int) + 1 := by omega
          have ts := tb_succ (fun k => psum a q k (n + 1) % 10007) k
          simp [go_sem, hki]
          refine loop_inv ([19, 20, 21] ++ List.range' 100 15) (fun j : Nat => [(19, .int (psum a q k j)), (100, .int j)]) (fun j => j ≤ n + 1) (fun j => n + 1 - j) 0 (by simp) (by simp [go_sem, psum]) (by simp [go_sem]) ?_
          intro j hj
          by_cases hjn : j ≤ n
          · have hji : (j : Int) < (n : Int) + 1 := by omega
            have jq : j < q.length := by omega
            have ps : psum a q k (j + 1) = psum a q k j + q[j]?.getD 0 * cof a ((k : Int) - j) := rfl
            have cC := coefficient_c a ((k : Int) - j) (by omega)
            have cN := cof_N hN ((k : Int) - j)
            have f1 := mul_fits (qN.get j) cN
            have b1 := psum_bound hN qN k j
            have b2 := mul_bound (qN.get j) cN
            simp [go_sem, hji, avs_at jq, avs_drop jq]
            refine ⟨⟨by omega, by omega⟩, ?_⟩
            refine CallVC.of (cC) (by decide) ?_
            simp [go_sem]
            rw [← ps]
            refine ⟨f1, ⟨by omega, by omega⟩, ⟨by omega, by omega⟩, j + 1, by omega, by omega, Off_reset _ _ _ (by simp), rfl, by omega⟩
          · have e : j = n + 1 := by omega
            subst e
            have hji : ¬ ((n : Int) + 1) < (n : Int) + 1 := by omega
            have b1 := psum_bound hN qN k (n + 1)
            simp [go_sem, hji]
            refine CallVC.of (num_c _ (by omega) (by omega)) (by decide) ?_
            simp [go_sem]
            exact ⟨⟨by omega, by omega⟩, ⟨by omega, by omega⟩, k + 1, by omega, by omega, (Off.reset (by intro x hx; simp at hx ⊢; omega) (by simp) (by simp [go_sem, Off_reset])), by rw [ts, avs_snoc]; exact ⟨rfl, rfl⟩, by omega⟩
        · have e : k = m + 1 := by omega
          subst e
          have hki : ¬ ((m : Int) + 1) < (m : Int) + 1 := by omega
          simp [go_sem, hki]
          rfl
end Go.Proofs.Ytoamidolomldnaa

/- Contracts: Pade approximants, for all arguments. -/
namespace Go.Proofs.Ytoamidolomldnaa
open Go.Abs
set_option linter.unusedVariables false
set_option linter.unusedSimpArgs false
set_option maxHeartbeats 4000000
def pdE (a : List Int) (m n : Int) : Int := if serOk a = true then if 0 ≤ m ∧ m ≤ 8 ∧ 0 ≤ n ∧ n ≤ 8 ∧ m + n + 1 ≤ a.length then if ldet n.toNat (paA a m.toNat n.toNat) = 0 then 5 else 0 else 2 else 1
def pdP (a : List Int) (m n : Int) : List Int := if pdE a m n = 0 then paP a m.toNat n.toNat (paQ a m.toNat n.toNat) else []
def pdQ (a : List Int) (m n : Int) : List Int := if pdE a m n = 0 then paQ a m.toNat n.toNat else []
def pdR (a : List Int) (m n : Int) : AV := .tup [.own 2 (pdP a m n).length (avs (pdP a m n)), .own 2 (pdQ a m n).length (avs (pdQ a m n)), .int (pdE a m n)]
theorem pd_cases (a : List Int) (m n : Int) {C : AV → Prop} (hw : ∀ c, C (.tup [.val (.slice none 0 0), .val (.slice none 0 0), .int c]) → C (.tup [.own 2 0 [], .own 2 0 [], .int c]))
    (h1 : serOk a = false → C (.tup [.val (.slice none 0 0), .val (.slice none 0 0), .int 1]))
    (h2 : serOk a = true → ¬ (0 ≤ m ∧ m ≤ 8 ∧ 0 ≤ n ∧ n ≤ 8 ∧ m + n + 1 ≤ a.length) → C (.tup [.val (.slice none 0 0), .val (.slice none 0 0), .int 2]))
    (h3 : ∀ M N : Nat, m = M → n = N → serOk a = true → M ≤ 8 → N ≤ 8 → M + N + 1 ≤ a.length → ∀ x : AV, freshOK x = true →
      (ldet N (paA a M N) ≠ 0 → x = .tup [.own 2 (M + 1) (avs (paP a M N (paQ a M N))), .own 2 (N + 1) (avs (paQ a M N)), .int 0]) →
      (ldet N (paA a M N) = 0 → x = .tup [.val (.slice none 0 0), .val (.slice none 0 0), .int 5]) → C x) : C (pdR a m n) := by
  unfold pdR pdP pdQ
  cases hs : serOk a with
  | false =>
    have e : pdE a m n = 1 := by unfold pdE; rw [if_neg (by rw [hs]; simp)]
    simp only [e, show ¬ (1 : Int) = 0 by omega, if_false]
    exact hw _ (h1 hs)
  | true =>
    by_cases hr : 0 ≤ m ∧ m ≤ 8 ∧ 0 ≤ n ∧ n ≤ 8 ∧ m + n + 1 ≤ a.length
    · obtain ⟨M, rfl⟩ : ∃ M : Nat, m = M := ⟨m.toNat, by omega⟩
      obtain ⟨N, rfl⟩ : ∃ N : Nat, n = N := ⟨n.toNat, by omega⟩
      by_cases hz : ldet N (paA a M N) = 0
      · have e : pdE a M N = 5 := by unfold pdE; rw [if_pos hs, if_pos hr, Int.toNat_natCast, Int.toNat_natCast, if_pos hz]
        simp only [e, show ¬ (5 : Int) = 0 by omega, if_false]
        exact hw _ (h3 M N rfl rfl hs (by omega) (by omega) (by omega) _ (by simp [freshOK, freshL]) (fun h => (h hz).elim) (fun _ => rfl))
      · have e : pdE a M N = 0 := by unfold pdE; rw [if_pos hs, if_pos hr, Int.toNat_natCast, Int.toNat_natCast, if_neg hz]
        simp only [e, if_true, Int.toNat_natCast]
        have ql : (paQ a M N).length = N + 1 := by unfold paQ; rw [List.length_cons, solX_len hz]
        have pl : (paP a M N (paQ a M N)).length = M + 1 := by simp [paP]
        exact h3 M N rfl rfl hs (by omega) (by omega) (by omega) _ (by simp [freshOK, freshL]) (fun _ => by rw [ql, pl]) (fun h => (hz h).elim)
    · have e : pdE a m n = 2 := by unfold pdE; rw [if_pos hs, if_neg hr]
      simp only [e, show ¬ (2 : Int) = 0 by omega, if_false]
      exact hw _ (h2 hs hr)
theorem pdP_len (a : List Int) (m n : Int) : (pdP a m n).length ≤ 9 ∧ (pdQ a m n).length ≤ 9 := by
  unfold pdP pdQ
  by_cases h : pdE a m n = 0
  · rw [if_pos h, if_pos h]
    unfold pdE at h
    split at h
    · split at h
      · rename_i hr
        split at h
        · omega
        · rename_i hz
          have pl : (paP a m.toNat n.toNat (paQ a m.toNat n.toNat)).length = m.toNat + 1 := by simp [paP]
          have ql : (paQ a m.toNat n.toNat).length = n.toNat + 1 := by unfold paQ; rw [List.length_cons, solX_len hz]
          omega
      · omega
    · omega
  · rw [if_neg h, if_neg h]; simp
theorem specPadeOf_c (a : List Int) (m n : Int) (hl : a.length ≤ 1048576) : Con Try.prog 35 [.sl a.length (avs a), .int m, .int n] (pdR a m n) := by
  have cI := l02Is_c a (by omega)
  refine pd_cases a m n (C := fun x => Con Try.prog 35 [.sl a.length (avs a), .int m, .int n] x) (fun c h => Con.n2 _ _ h) (fun hs => ?_) (fun hs hr => ?_) (fun M N hM hN hs h1 h2 h3 x hf hA hB => ?_)
  · rw [hs] at cI
    refine con_of_vc Try.mixed ⟨21, [], [], []⟩ Try.func35 (by decide) rfl (by simp) (by decide) (by simp [freshOK, freshL, go_sem]) ?_
    rw [Try.ntmps35]
    simp [go_sem]
    refine CallVC.of (cI) (by decide) ?_
    simp [go_sem]
  · rw [hs] at cI
    refine con_of_vc Try.mixed ⟨21, [], [], []⟩ Try.func35 (by decide) rfl (by simp) (by decide) (by simp [freshOK, freshL, go_sem]) ?_
    rw [Try.ntmps35]
    simp [go_sem]
    refine CallVC.of (cI) (by decide) ?_
    simp [go_sem]
    refine CallVC.of (l01In_c _ _ _) (by decide) ?_
    simp [go_sem]
    by_cases hm : 0 ≤ m ∧ m ≤ 8
    · simp [go_sem, hm.1, hm.2]
      refine CallVC.of (l01In_c _ _ _) (by decide) ?_
      simp [go_sem]
      by_cases hn : 0 ≤ n ∧ n ≤ 8
      · have hlt : (a.length : Int) < m + n + 1 := by omega
        simp [go_sem, hn.1, hn.2, hlt]
        omega
      · by_cases h0 : 0 ≤ n
        · have h8 : ¬ n ≤ 8 := by omega
          simp [go_sem, h0, h8]
        · simp [go_sem, h0]
    · by_cases h0 : 0 ≤ m
      · have h8 : ¬ m ≤ 8 := by omega
        simp [go_sem, h0, h8]
      · simp [go_sem, h0]
  · subst hM; subst hN
    exact specPade_w a M N hs h1 h2 h3 x hf hA hB
theorem PadeOf_c (a : List Int) (m n : Int) (hl : a.length ≤ 1048576) : Con Try.prog 34 [.sl a.length (avs a), .int m, .int n] (pdR a m n) := by
  have cI := IsSeries_c a (by omega)
  refine pd_cases a m n (C := fun x => Con Try.prog 34 [.sl a.length (avs a), .int m, .int n] x) (fun c h => Con.n2 _ _ h) (fun hs => ?_) (fun hs hr => ?_) (fun M N hM hN hs h1 h2 h3 x hf hA hB => ?_)
  · rw [hs] at cI
    refine con_of_vc Try.mixed ⟨22, [], [], []⟩ Try.func34 (by decide) rfl (by simp) (by decide) (by simp [freshOK, freshL, go_sem]) ?_
    rw [Try.ntmps34]
    simp [go_sem]
    refine CallVC.of (cI) (by decide) ?_
    simp [go_sem]
  · rw [hs] at cI
    have cD := areDegrees_c m n
    by_cases hd : 0 ≤ m ∧ m ≤ 8 ∧ 0 ≤ n ∧ n ≤ 8
    · have hlt : (a.length : Int) < m + n + 1 := by omega
      rw [decide_eq_true hd] at cD
      refine con_of_vc Try.mixed ⟨22, [], [], []⟩ Try.func34 (by decide) rfl (by simp) (by decide) (by simp [freshOK, freshL, go_sem]) ?_
      rw [Try.ntmps34]
      simp [go_sem]
      refine CallVC.of (cI) (by decide) ?_
      simp [go_sem]
      refine CallVC.of (cD) (by decide) ?_
      simp [go_sem]
      refine CallVC.of (length_c _ _ (by omega)) (by decide) ?_
      simp [go_sem]
      simp [go_sem, hlt]
      omega
    · rw [decide_eq_false hd] at cD
      refine con_of_vc Try.mixed ⟨22, [], [], []⟩ Try.func34 (by decide) rfl (by simp) (by decide) (by simp [freshOK, freshL, go_sem]) ?_
      rw [Try.ntmps34]
      simp [go_sem]
      refine CallVC.of (cI) (by decide) ?_
      simp [go_sem]
      refine CallVC.of (cD) (by decide) ?_
      simp [go_sem]
  · subst hM; subst hN
    exact Pade_w a M N hs h1 h2 h3 x hf hA hB
end Go.Proofs.Ytoamidolomldnaa

/- Plain: what Pade's numbers answer; the Pade numbers of the exponential. -/
namespace Go.Proofs.Ytoamidolomldnaa
open Go.Abs
set_option linter.unusedVariables false
set_option linter.unusedSimpArgs false
set_option maxHeartbeats 1000000
theorem pd_fine {a : List Int} {m n : Int} (h : pdE a m n = 0) : ∃ M N : Nat, m = M ∧ n = N ∧ M ≤ 8 ∧ N ≤ 8 ∧ M + N + 1 ≤ a.length ∧ a.length ≤ 16 ∧ Ns a ∧ ldet N (paA a M N) ≠ 0 := by
  unfold pdE at h
  split at h
  · rename_i hs
    split at h
    · rename_i hr
      obtain ⟨s1, s2, s3⟩ := serOk_iff hs
      refine ⟨m.toNat, n.toNat, by omega, by omega, by omega, by omega, by omega, s2, s3, ?_⟩
      intro e
      rw [if_pos] at h
      · omega
      · exact e
    · omega
  · omega
theorem psum_cons (a x : List Int) (k : Nat) : ∀ j, psum a (1 :: x) k (j + 1) = cof a k + dsum (fun c => x[c]?.getD 0 * cof a ((k : Int) - (c + 1))) j
  | 0 => by simp [psum, dsum]
  | j + 1 => by
    rw [psum, psum_cons a x k j, dsum]
    simp
    omega
/-- Beyond the first degree the sums are 0. -/
theorem pd_zero {a : List Int} {M N i : Nat} (hN : Ns a) (h0 : ldet N (paA a M N) ≠ 0) (hi : i < N) : psum a (paQ a M N) (M + 1 + i) (N + 1) % 10007 = 0 := by
  unfold paQ
  rw [psum_cons]
  have ok := paA_ok hN M N
  have sv := sys_solves (by omega) ok.1 ok.2 (paB_N a M N) h0 i hi
  have e1 : dsum (fun c => mx (paA a M N) i c * sysF N (paA a M N) (paB a M N) c) N = dsum (fun c => (solX N (paA a M N) (paB a M N))[c]?.getD 0 * cof a (((M + 1 + i : Nat) : Int) - (c + 1))) N := dsum_congr fun c hc => by
    have e2 : (solX N (paA a M N) (paB a M N))[c]?.getD 0 = sysF N (paA a M N) (paB a M N) c := by
      unfold solX; rw [if_neg h0, tb_get _ hc]
    have e3 : mx (paA a M N) i c = cof a (((M + 1 + i : Nat) : Int) - (c + 1)) := by
      show ((paA a M N)[i]?.getD [])[c]?.getD 0 = _
      have : (paA a M N)[i]?.getD [] = tb (paE a M i) N := by simp [paA, hi]
      rw [this, tb_get _ hc]
      unfold paE
      congr 1
    rw [e2, e3, Int.mul_comm]
  rw [e1] at sv
  have e4 : (paB a M N)[i]?.getD 0 = paG a M i := by unfold paB; rw [tb_get _ hi]
  rw [e4] at sv
  unfold paG at sv
  have e5 : cof a ((M + 1 + i : Nat) : Int) = a[M + 1 + i]?.getD 0 := by
    unfold cof
    rw [if_neg (by omega), Int.toNat_natCast]
  rw [e5]
  generalize dsum (fun c => (solX N (paA a M N) (paB a M N))[c]?.getD 0 * cof a (((M + 1 + i : Nat) : Int) - (c + 1))) N = s at *
  generalize a[M + 1 + i]?.getD 0 = b at *
  omega
/-- The exponential up to a degree. -/
def unN (n : Nat) : List Int := tb (fun i => if i = 1 then 1 else 0) (n + 1)
def expN (n : Nat) : List Int := expTo (unN n) n
set_option maxRecDepth 100000 in
theorem exp_is : (List.range 16).all (fun n => decide (expN n = (expN 15).take (n + 1))) = true := by decide +kernel
/-- Whether the formula's numbers are the ones that are found. -/
def exOk (E : List Int) (i j : Nat) : Bool := decide (ldetQ fq j (paA E i j) ≠ 0) && (List.range j).all (fun r => decide (dsum (fun c => mx (paA E i j) r c * (padeF true j i (c + 1))) j % 10007 = (paB E i j)[r]?.getD 0 % 10007)) && decide (padeF true j i 0 = 1) &&
  (List.range (i + 1)).all (fun k => decide (psum E (padeL true j i (j + 1)) k (j + 1) % 10007 = padeF false i j k))
set_option maxRecDepth 100000 in
theorem ex_all : (List.range 9).all (fun i => (List.range 9).all fun j => decide (15 < i + j) || exOk (expN (i + j)) i j) = true := by decide +kernel
theorem padeF_N (odd : Bool) (m n k : Nat) : isN (padeF odd m n k) := by
  unfold padeF
  split
  · exact isN_mod _
  · exact isN_mod _
theorem expN_len (n : Nat) : (expN n).length = n + 1 := by unfold expN; simp
theorem expN_ser {n : Nat} (h : n ≤ 15) : serOk (expN n) = true := by
  unfold serOk
  rw [expN_len]
  simp [numsB_N]
  exact ⟨by omega, expTo_N _ _⟩
theorem ex_pade {i j : Nat} (hi : i ≤ 8) (hj : j ≤ 8) (h : i + j ≤ 15) :
    pdE (expN (i + j)) i j = 0 ∧ pdP (expN (i + j)) i j = padeL false i j (i + 1) ∧ pdQ (expN (i + j)) i j = padeL true j i (j + 1) := by
  have hN : Ns (expN (i + j)) := expTo_N _ _
  have ok : exOk (expN (i + j)) i j = true := by
    have h1 := (List.all_eq_true.1 ex_all) i (by simp; omega)
    have h2 := (List.all_eq_true.1 h1) j (by simp; omega)
    simpa [show ¬ 15 < i + j by omega] using h2
  have hl := expN_len (i + j)
  have hs := expN_ser h
  generalize expN (i + j) = E at *
  unfold exOk at ok
  simp only [Bool.and_eq_true, decide_eq_true_eq, List.all_eq_true, List.mem_range] at ok
  obtain ⟨⟨⟨k1, k2⟩, k3⟩, k4⟩ := ok
  rw [fq_is, ldetQ_is] at k1
  have aok := paA_ok hN i j
  have hX : solX j (paA E i j) (paB E i j) = tb (fun c => padeF true j i (c + 1)) j := by
    unfold solX
    rw [if_neg k1]
    refine List.ext_getElem (by simp) fun c h1 h2 => ?_
    simp only [tb_len] at h1
    have := solve_uniq (by omega) aok.1 aok.2 (paB_N E i j) k1 k2 c h1
    have hn := padeF_N true j i (c + 1)
    simp only [tb, List.getElem_map, List.getElem_range]
    unfold sysF
    rw [this]
    unfold isN at hn
    omega
  have hQ : paQ E i j = padeL true j i (j + 1) := by
    unfold paQ padeL
    rw [hX, List.range_succ_eq_map, List.map_cons, k3, List.map_map]
    rfl
  have e0 : pdE E i j = 0 := by
    unfold pdE
    rw [if_pos hs, if_pos ⟨by omega, by omega, by omega, by omega, by omega⟩, Int.toNat_natCast, Int.toNat_natCast, if_neg k1]
  refine ⟨e0, ?_, ?_⟩
  · unfold pdP
    rw [if_pos e0, Int.toNat_natCast, Int.toNat_natCast, hQ]
    unfold paP padeL tb
    refine List.map_congr_left fun k hk => ?_
    exact k4 k (by simpa using hk)
  · unfold pdQ
    rw [if_pos e0, Int.toNat_natCast, Int.toNat_natCast, hQ]
set_option maxRecDepth 100000 in
theorem ExponentialTo_n (n : Nat) (h : n ≤ 15) : Con Try.prog 41 [.int n] (.tup [.own 2 (n + 1) (avs (expN n)), .int 0]) := by
  have uN : Ns (unN n) := tb_N fun i _ => by split <;> exact ⟨by omega, by omega⟩
  have ul : (unN n).length = n + 1 := by simp [unN]
  have ce := expSeries_c (unN n) uN (by omega) (by omega)
  rw [ul, Nat.add_sub_cancel] at ce
  change Con _ _ _ (.own _ (n + 1) (avs (expN n))) at ce
  have hz : (decide (0 ≤ (n : Int)) && decide ((n : Int) ≤ 15)) = true := by simp; omega
  refine con_of_vc Try.mixed ⟨5, [], [], []⟩ Try.func41 (by decide) rfl (by simp) (by decide) (by simp [freshOK, freshL, go_sem]) ?_
  rw [Try.ntmps41]
  simp [go_sem]
  refine CallVC.of (inRange_c n 0 15) (by decide) ?_
  rw [hz]
  have hr : List.replicate (n + 1) (AV.val (.int .i64 0)) = avs (List.replicate (n + 1) 0) := avs_repl _ _
  by_cases h0 : n = 0
  · subst h0
    have hu : unN 0 = List.replicate (0 + 1) 0 := rfl
    rw [hu] at ce
    simp [go_sem]
    refine CallVC.of (ce) (by decide) ?_
    simp [go_sem]
  · have hu : (List.replicate (n + 1) 0).set 1 1 = unN n := by
      refine List.ext_getElem (by simp [unN]) fun k h1 h2 => ?_
      simp only [unN, tb, List.getElem_map, List.getElem_range]
      by_cases e : k = 1
      · subst e; simp
      · rw [List.getElem_set_ne (by omega)]; simp [e]
    have hp : 0 < n := by omega
    have hset : (avs (List.replicate (n + 1) 0)).set 1 (.val (.int .i64 1)) = avs (unN n) := by rw [avs_set, hu]
    simp [go_sem, hr, hp]
    refine ⟨⟨by omega, by omega⟩, ⟨by omega, by omega, by omega⟩, by omega, ?_⟩
    rw [hset, avs_frz]
    refine CallVC.of (ce) (by decide) ?_
    simp [go_sem]
theorem pd_law {a : List Int} {M N : Nat} (hN : Ns a) (h0 : ldet N (paA a M N) ≠ 0) :
    (paP a M N (paQ a M N)).length = M + 1 ∧ (paQ a M N).length = N + 1 ∧ (paQ a M N)[0]?.getD 0 = 1 ∧ Ns (paQ a M N) ∧
      (∀ k, k ≤ M → (paP a M N (paQ a M N))[k]?.getD 0 = psum a (paQ a M N) k (N + 1) % 10007) ∧ ∀ k, M < k → k ≤ M + N → psum a (paQ a M N) k (N + 1) % 10007 = 0 := by
  refine ⟨by simp [paP], by unfold paQ; simp [solX_len h0], rfl, paQ_N a M N, fun k hk => ?_, fun k h1 h2 => ?_⟩
  · unfold paP; rw [tb_get _ (by omega)]
  · obtain ⟨i, rfl⟩ : ∃ i, k = M + 1 + i := ⟨k - M - 1, by omega⟩
    exact pd_zero hN h0 (by omega)
end Go.Proofs.Ytoamidolomldnaa

/- The Pade approximant of a series agrees with it up to the sum of the degrees, and that of the exponential, for degrees with a sum of at most 15, has the polynomials of the formula. -/
namespace Go.Proofs.Ytoamidolomldnaa
open Go.Abs
set_option linter.unusedVariables false
set_option linter.unusedSimpArgs false
set_option maxHeartbeats 4000000
set_option maxRecDepth 100000 in
theorem FnPade_c (c : List Int) (hl : c.length ≤ 9223372036854775807) (hb : ∀ x ∈ c, 0 ≤ x ∧ x ≤ 255) : Con Try.prog 6 [.sl c.length (bys c)] (.bool true) := by
  have cB := big_c c hl
  by_cases hc4 : 4096 < c.length
  · refine con_of_vc Try.mixed ⟨28, [], [2000000 + 33, 2000000 + 38], []⟩ Try.func6 (by decide) rfl (by simp) (by decide) (by simp [freshOK, freshL, go_sem]) ?_
    rw [Try.ntmps6]
    simp [go_sem]
    refine CallVC.of (cB) (by decide) ?_
    simp [go_sem]
    simp [go_sem, hc4]
  · have hc : Byt c := ⟨by omega, hb⟩
    have cD := DrawPadeOf_r c hc
    have cX := DrawExponentialPade_r c hc
    refine con_of_vc Try.mixed ⟨28, [], [2000000 + 33, 2000000 + 38], []⟩ Try.func6 (by decide) rfl (by simp) (by decide) (by simp [freshOK, freshL, go_sem]) ?_
    rw [Try.ntmps6]
    simp [go_sem]
    refine CallVC.of (cB) (by decide) ?_
    simp [go_sem]
    simp [go_sem, hc4]
    refine ⟨_, cD, ?_⟩
    rintro _ _ ⟨rfl, a, m, n, ha, m1, m2, n1, n2, rfl⟩
    have c1 := PadeOf_c a m n (by omega)
    have c2 := specPadeOf_c a m n (by omega)
    unfold pdR at c1 c2
    have hP : (pdP a m n).length ≤ 1000 := by unfold pdP; split <;> simp [paP]; omega
    have hQ : (pdQ a m n).length ≤ 1000 := by
      unfold pdQ; split
      · rename_i h
        obtain ⟨M, N, rfl, rfl, h1, h2, h3, h4, h5, h6⟩ := pd_fine h
        rw [Int.toNat_natCast, Int.toNat_natCast, (pd_law h5 h6).2.1]; omega
      · simp
    simp [go_sem]
    refine CallVC.of (c1) (by decide) ?_
    simp [go_sem]
    refine CallVC.of (c2) (by decide) ?_
    simp [go_sem]
    refine CallVC.of (likeInts_c _ _ (by omega)) (by decide) ?_
    simp [go_sem]
    refine CallVC.of (likeInts_c _ _ (by omega)) (by decide) ?_
    simp [go_sem]
    by_cases hE : pdE a m n = 0
    · obtain ⟨M, N, rfl, rfl, h1, h2, h3, h4, h5, h6⟩ := pd_fine hE
      have law := pd_law h5 h6
      have eP : pdP a M N = paP a M N (paQ a M N) := by unfold pdP; rw [if_pos hE, Int.toNat_natCast, Int.toNat_natCast]
      have eQ : pdQ a M N = paQ a M N := by unfold pdQ; rw [if_pos hE, Int.toNat_natCast, Int.toNat_natCast]
      rw [eP, eQ]
      have lP := law.1
      have lQ := law.2.1
      have q0 := law.2.2.1
      have qN := law.2.2.2.1
      have p1 := law.2.2.2.2.1
      have p2 := law.2.2.2.2.2
      have gQ := avs_at (xs := paQ a M N) (k := 0) (by omega)
      rw [q0] at gQ
      generalize paQ a M N = Q at *
      generalize paP a M N Q = P at *
      simp [go_sem, hE]
      refine ⟨⟨by omega, by omega⟩, ?_⟩
      simp [go_sem, lP, lQ, gQ, -getElem?_pos]
      refine ⟨⟨by omega, by omega⟩, ?_⟩
      refine loop_inv (2 :: (List.range' 12 3 ++ List.range' 87 51)) (fun k : Nat => [(12, .int k)]) (fun k => k ≤ M + N + 1) (fun k => M + N + 1 - k) 0 (by simp) (by simp [go_sem]) (by simp [go_sem]) ?_
      intro k hk
      simp [go_sem]
      refine ⟨⟨by omega, by omega⟩, ?_⟩
      refine ⟨fun h => ?_, fun h => ?_⟩ <;> simp at h
      · have hk2 : k ≤ M + N := by omega
        simp [go_sem]
        refine loop_inv (List.range' 13 2 ++ List.range' 94 24) (fun j : Nat => [(13, .int (psum a Q k j % 10007)), (14, .int j)]) (fun j => j ≤ k + 1 ∧ j ≤ N + 1) (fun j => N + 1 - j) 0 (by simp) (by simp [go_sem, psum]) (by simp [go_sem]) ?_
        rintro j ⟨q1, q2⟩
        have sN : isN (psum a Q k j % 10007) := isN_mod _
        have sS : psum a Q k (j + 1) % 10007 = (psum a Q k j % 10007 + Q[j]?.getD 0 * cof a ((k : Int) - j)) % 10007 := by
          show (psum a Q k j + _) % 10007 = _
          omega
        obtain ⟨s, hs⟩ : ∃ s, psum a Q k j % 10007 = s := ⟨_, rfl⟩
        rw [hs] at sS sN ⊢
        by_cases jk : j ≤ k
        · by_cases jN : j ≤ N
          · have jk' : (j : Int) ≤ k := by omega
            have jN' : (j : Int) ≤ N := by omega
            have hq := avs_at (xs := Q) (k := j) (by omega)
            have hqN := qN.get j
            have hcf : cof a ((k : Int) - j) = a[k - j]?.getD 0 := by
              unfold cof
              rw [if_neg (by omega)]
              congr 2
              omega
            have haa := avs_at (xs := a) (k := k - j) (by omega)
            have hkj : (k : Int) - j = ((k - j : Nat) : Int) := by omega
            have haN := h5.get (k - j)
            rw [hcf] at sS
            generalize Q[j]?.getD 0 = x at *
            generalize a[k - j]?.getD 0 = y at *
            simp [go_sem, jk, jN, hkj]
            refine ⟨by kernel_rfl, ?_⟩
            simp -failIfUnchanged [go_sem, hq, haa, hkj, -getElem?_pos]
            have mb := mul_bound hqN haN
            obtain ⟨sN1, sN2⟩ := sN
            refine ⟨by omega, by omega, by omega, ⟨by omega, by omega⟩, ⟨by omega, by omega⟩, ?_⟩
            refine CallD.of (mod5_c _ (by omega) (by omega)) (by simp [roots, rootsL]) (by decide) ?_
            simp [go_sem]
            refine ⟨by kernel_rfl, ?_⟩
            simp [go_sem]
            refine ⟨⟨by omega, by omega⟩, j + 1, ⟨by omega, by omega⟩, by omega, (by repeat (first | exact Off_reset _ _ _ (by simp) | (refine Off.reset (by intro x hx; simp at hx ⊢; omega) (by simp) ?_; simp -failIfUnchanged [go_sem, Off_reset]))), ?_⟩
            exact ⟨sS.symm, by omega⟩
          · have jN' : ¬ (j : Int) ≤ N := by omega
            have fS : psum a Q k (N + 1) % 10007 = s := by rw [← hs]; congr 2; omega
            simp [go_sem, jk, jN]
            by_cases kM : k ≤ M
            · have e := p1 k kM
              rw [fS] at e
              have gP := avs_at (xs := P) (k := k) (by omega)
              rw [e] at gP
              have kM' : ¬ M < k := by omega
              simp [go_sem, kM, kM', gP, -getElem?_pos]
              exact ⟨by omega, ⟨by omega, by omega⟩, k + 1, by omega, by omega, (by repeat (first | exact Off_reset _ _ _ (by simp) | (refine Off.reset (by intro x hx; simp at hx ⊢; omega) (by simp) ?_; simp -failIfUnchanged [go_sem, Off_reset]))), by omega⟩
            · have e := p2 k (by omega) (by omega)
              rw [fS] at e
              have kM' : M < k := by omega
              simp [go_sem, kM, kM', e]
              exact ⟨⟨by omega, by omega⟩, k + 1, by omega, by omega, (by repeat (first | exact Off_reset _ _ _ (by simp) | (refine Off.reset (by intro x hx; simp at hx ⊢; omega) (by simp) ?_; simp -failIfUnchanged [go_sem, Off_reset]))), by omega⟩
        · have jk' : ¬ (j : Int) ≤ k := by omega
          have fS : psum a Q k (N + 1) % 10007 = s := by
            have e1 : j = k + 1 := by omega
            have e2 : N + 1 = j + (N + 1 - j) := by omega
            rw [← hs, e2, psum_stop _ _ (by omega)]
          simp [go_sem, jk]
          by_cases kM : k ≤ M
          · have e := p1 k kM
            rw [fS] at e
            have gP := avs_at (xs := P) (k := k) (by omega)
            rw [e] at gP
            have kM' : ¬ M < k := by omega
            simp [go_sem, kM, kM', gP, -getElem?_pos]
            exact ⟨by omega, ⟨by omega, by omega⟩, k + 1, by omega, by omega, (by repeat (first | exact Off_reset _ _ _ (by simp) | (refine Off.reset (by intro x hx; simp at hx ⊢; omega) (by simp) ?_; simp -failIfUnchanged [go_sem, Off_reset]))), by omega⟩
          · have e := p2 k (by omega) (by omega)
            rw [fS] at e
            have kM' : M < k := by omega
            simp [go_sem, kM, kM', e]
            exact ⟨⟨by omega, by omega⟩, k + 1, by omega, by omega, (by repeat (first | exact Off_reset _ _ _ (by simp) | (refine Off.reset (by intro x hx; simp at hx ⊢; omega) (by simp) ?_; simp -failIfUnchanged [go_sem, Off_reset]))), by omega⟩
      · simp [go_sem]
        refine ⟨_, cX, ?_⟩
        rintro _ _ ⟨rfl, i, j, i1, i2, j1, j2, rfl⟩
        have cE1 := ExponentialPade_c i j
        have cE2 := specExponentialPade_c i j
        unfold pade at cE1 cE2
        by_cases hij : 0 ≤ i ∧ i ≤ 8 ∧ 0 ≤ j ∧ j ≤ 8
        · rw [if_pos hij] at cE1 cE2
          obtain ⟨u, rfl⟩ : ∃ u : Nat, i = u := ⟨i.toNat, by omega⟩
          obtain ⟨v, rfl⟩ : ∃ v : Nat, j = v := ⟨j.toNat, by omega⟩
          rw [Int.toNat_natCast, Int.toNat_natCast] at cE1 cE2
          simp [go_sem]
          refine CallVC.of (cE1) (by decide) ?_
          simp [go_sem]
          refine CallVC.of (cE2) (by decide) ?_
          simp [go_sem]
          refine ⟨⟨by omega, by omega⟩, ?_⟩
          by_cases h15 : 15 < (u : Int) + v
          · simp [go_sem, h15]
          · have ep := ex_pade (i := u) (j := v) (by omega) (by omega) (by omega)
            have cT := ExponentialTo_n (u + v) (by omega)
            have cP3 := PadeOf_c (expN (u + v)) u v (by rw [expN_len]; omega)
            have eC : ((u + v : Nat) : Int) = (u : Int) + v := by omega
            unfold pdR at cP3
            rw [ep.1, ep.2.1, ep.2.2, expN_len, padeL_len, padeL_len] at cP3
            rw [eC] at cT
            have cA := likeInts_c (padeL false u v (u + 1)) (padeL false u v (u + 1)) (by simp; omega)
            have cB2 := likeInts_c (padeL true v u (v + 1)) (padeL true v u (v + 1)) (by simp; omega)
            rw [padeL_len] at cA cB2
            simp [go_sem, h15]
            refine ⟨⟨by omega, by omega⟩, ?_⟩
            refine CallVC.of (cT) (by decide) ?_
            simp [go_sem]
            refine CallVC.of (cP3) (by decide) ?_
            simp [go_sem]
            refine CallVC.of (cA) (by decide) ?_
            simp [go_sem]
            refine CallVC.of (cB2) (by decide) ?_
            simp [go_sem]
        · rw [if_neg hij] at cE1 cE2
          simp [go_sem]
          refine CallVC.of (cE1) (by decide) ?_
          simp [go_sem]
          refine CallVC.of (cE2) (by decide) ?_
          simp [go_sem]

    · generalize pdE a m n = e at *
      simp [go_sem, hE]
      refine ⟨_, cX, ?_⟩
      rintro _ _ ⟨rfl, i, j, i1, i2, j1, j2, rfl⟩
      have cE1 := ExponentialPade_c i j
      have cE2 := specExponentialPade_c i j
      unfold pade at cE1 cE2
      by_cases hij : 0 ≤ i ∧ i ≤ 8 ∧ 0 ≤ j ∧ j ≤ 8
      · rw [if_pos hij] at cE1 cE2
        obtain ⟨u, rfl⟩ : ∃ u : Nat, i = u := ⟨i.toNat, by omega⟩
        obtain ⟨v, rfl⟩ : ∃ v : Nat, j = v := ⟨j.toNat, by omega⟩
        rw [Int.toNat_natCast, Int.toNat_natCast] at cE1 cE2
        simp [go_sem]
        refine CallVC.of (cE1) (by decide) ?_
        simp [go_sem]
        refine CallVC.of (cE2) (by decide) ?_
        simp [go_sem]
        refine ⟨⟨by omega, by omega⟩, ?_⟩
        by_cases h15 : 15 < (u : Int) + v
        · simp [go_sem, h15]
        · have ep := ex_pade (i := u) (j := v) (by omega) (by omega) (by omega)
          have cT := ExponentialTo_n (u + v) (by omega)
          have cP3 := PadeOf_c (expN (u + v)) u v (by rw [expN_len]; omega)
          have eC : ((u + v : Nat) : Int) = (u : Int) + v := by omega
          unfold pdR at cP3
          rw [ep.1, ep.2.1, ep.2.2, expN_len, padeL_len, padeL_len] at cP3
          rw [eC] at cT
          have cA := likeInts_c (padeL false u v (u + 1)) (padeL false u v (u + 1)) (by simp; omega)
          have cB2 := likeInts_c (padeL true v u (v + 1)) (padeL true v u (v + 1)) (by simp; omega)
          rw [padeL_len] at cA cB2
          simp [go_sem, h15]
          refine ⟨⟨by omega, by omega⟩, ?_⟩
          refine CallVC.of (cT) (by decide) ?_
          simp [go_sem]
          refine CallVC.of (cP3) (by decide) ?_
          simp [go_sem]
          refine CallVC.of (cA) (by decide) ?_
          simp [go_sem]
          refine CallVC.of (cB2) (by decide) ?_
          simp [go_sem]
      · rw [if_neg hij] at cE1 cE2
        simp [go_sem]
        refine CallVC.of (cE1) (by decide) ?_
        simp [go_sem]
        refine CallVC.of (cE2) (by decide) ?_
        simp [go_sem]

end Go.Proofs.Ytoamidolomldnaa
