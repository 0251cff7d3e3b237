/- Texts of the own layer and contracts, part 8: B13 B14 R1 R2 R3 E3 B15 B16 R7 R8 E12 E13 N5 E22 V9 V10 V11 V12 E23 E1 L40. -/
import Derived.Test.YtoeikpioonlmfaaGreatM7
namespace Go.Proofs.YtoeikpioonlmfaaGreat
open Go.Abs CR
set_option linter.unusedSectionVars false
set_option linter.unusedVariables false
set_option linter.unusedSimpArgs false
set_option maxHeartbeats 1000000
theorem cmul_nil (b : Ser Int) : ∀ (k : Nat) (a : Ser Int), (∀ i, a i = 0) → cmul k a b = 0
  | 0, a, h => by show a 0 * b 0 = 0; rw [h 0, Int.zero_mul]
  | k + 1, a, h => by
    show a 0 * b (k + 1) + cmul k (sh a) b = 0
    rw [h 0, cmul_nil b k (sh a) (fun i => h (i + 1)), Int.zero_mul]; rfl
theorem cmul_lin {a : Ser Int} (h : ∀ i, a (i + 2) = 0) (b : Ser Int) (k : Nat) : cmul (k + 1) a b = a 0 * b (k + 1) + a 1 * b k := by
  show a 0 * b (k + 1) + cmul k (sh a) b = _
  congr 1
  cases k with
  | zero => rfl
  | succ k =>
    show sh a 0 * b (k + 1) + cmul k (sh (sh a)) b = _
    rw [cmul_nil b k (sh (sh a)) (fun i => h i), Int.add_zero]; rfl
theorem dsum_id {n j : Nat} (hj : j < n) (f : Nat → Int) : dsum (fun c => idM j c * f c) n = f j := by
  rw [dsum_one hj (fun i hi hne => by unfold idM; rw [if_neg (fun e => hne e.symm), Int.zero_mul])]
  unfold idM; rw [if_pos rfl, Int.one_mul]
def Ev (z : Int) (d : Nat) (f : Ser Int) (v : Int) : Prop := (∀ k, d < k → f k = 0) ∧ dsum (fun k => f k * z ^ k) (d + 1) = v
theorem Ev.zero (z : Int) (d : Nat) : Ev z d (ofI 0) 0 := by
  have h0 : ∀ k, (ofI 0 : Ser Int) k = 0 := fun k => by cases k <;> rfl
  exact ⟨fun k _ => h0 k, dsum_zero fun k _ => by rw [h0, Int.zero_mul]⟩
theorem Ev.add {z : Int} {d : Nat} {f g : Ser Int} {v w : Int} (h : Ev z d f v) (k : Ev z d g w) : Ev z d (f + g) (v + w) := by
  refine ⟨fun i hi => by rw [ser_add, h.1 i hi, k.1 i hi]; rfl, ?_⟩
  rw [← h.2, ← k.2, ← dsum_plus]
  exact dsum_congr fun i hi => by rw [ser_add, Int.add_mul]
theorem Ev.lin {z : Int} {d : Nat} {f g : Ser Int} {w : Int} (hf : ∀ i, f (i + 2) = 0) (k : Ev z d g w) : Ev z (d + 1) (f * g) ((f 0 + f 1 * z) * w) := by
  have at1 : ∀ i, (f * g) (i + 1) = f 0 * g (i + 1) + f 1 * g i := fun i => cmul_lin hf g i
  have at0 : (f * g) 0 = f 0 * g 0 := rfl
  refine ⟨fun i hi => ?_, ?_⟩
  · obtain ⟨j, rfl⟩ : ∃ j, i = j + 1 := ⟨i - 1, by omega⟩
    rw [at1, k.1 (j + 1) (by omega), k.1 j (by omega)]; omega
  · have e1 : dsum (fun i => (f * g) (i + 1) * z ^ (i + 1)) (d + 1) = dsum (fun i => f 0 * (g (i + 1) * z ^ (i + 1)) + (f 1 * z) * (g i * z ^ i)) (d + 1) :=
      dsum_congr fun i hi => by
        rw [at1, Int.add_mul, Int.pow_succ]
        congr 1
        · rw [Int.mul_assoc]
        · rw [Int.mul_assoc, Int.mul_assoc]
          congr 1
          rw [← Int.mul_assoc, Int.mul_comm]
    have e2 : dsum (fun i => g i * z ^ i) (d + 1 + 1) = w := by
      show dsum (fun i => g i * z ^ i) (d + 1) + g (d + 1) * z ^ (d + 1) = w
      rw [k.2, k.1 (d + 1) (by omega), Int.zero_mul, Int.add_zero]
    rw [dsum_shift] at e2
    rw [dsum_shift, e1, dsum_lin, at0, ← dsum_mul, k.2, Int.add_mul]
    have e3 : f 0 * w = f 0 * (g 0 * z ^ 0) + f 0 * dsum (fun i => g (i + 1) * z ^ (i + 1)) (d + 1) := by rw [← Int.mul_add, e2]
    rw [e3, Int.mul_assoc (f 0) (g 0), Int.add_assoc]
theorem Ev.dR {z : Int} {d : Nat} {f : Nat → Ser Int} {v : Nat → Int} : ∀ {n : Nat}, (∀ i, i < n → Ev z d (f i) (v i)) → Ev z d (dR f n) (dsum v n)
  | 0, _ => Ev.zero z d
  | n + 1, h => Ev.add (Ev.dR (n := n) (fun i hi => h i (by omega))) (h n (by omega))
theorem Ev.det {z : Int} : ∀ (n : Nat) (A : Nat → Nat → Ser Int), (∀ r c i, A r c (i + 2) = 0) → Ev z n (dtR n A) (det n (fun r c => A r c 0 + A r c 1 * z))
  | 0, A, _ => by
    refine ⟨fun k hk => ?_, ?_⟩
    · obtain ⟨j, rfl⟩ : ∃ j, k = j + 1 := ⟨k - 1, by omega⟩
      rfl
    · show (0 : Int) + 1 * z ^ 0 = 1
      rw [Int.pow_zero]; rfl
  | n + 1, A, h => by
    rw [dtR, Go.Proofs.YtoeikpioonlmfaaGreat.det]
    refine Ev.dR fun i hi => ?_
    have q := Ev.lin (f := ofI (sgd i) * A i 0) (fun t => by
      show cmul (t + 2) (sOf (sgd i)) (A i 0) = 0
      rw [cmul_comm, cmul_of, h, Int.zero_mul]) (Ev.det (z := z) n (mnR A i) (fun r c t => h _ _ _))
    have e : ∀ t, (ofI (sgd i) * A i 0) t = sgd i * A i 0 t := fun t => by
      show cmul t (sOf (sgd i)) (A i 0) = _
      rw [cmul_comm, cmul_of]; exact Int.mul_comm _ _
    rw [e, e, Int.mul_assoc, ← Int.mul_add] at q
    exact q
end Go.Proofs.YtoeikpioonlmfaaGreat


namespace Go.Proofs.YtoeikpioonlmfaaGreat
open Go.Abs
set_option linter.unusedSectionVars false
set_option linter.unusedVariables false
set_option linter.unusedSimpArgs false
set_option maxHeartbeats 1000000
def Nul (n w : Nat) (m : List (List Int)) (x : Nat → Int) : Prop := ∀ r, r < n → dsum (fun c => mx m r c * x c) w % 10007 = 0
theorem Nul.swp {n w : Nat} {m : List (List Int)} {x : Nat → Int} (h : Nul n w m x) (hl : m.length = n) {i d : Nat} (hi : i < n) (hd : d < n) : Nul n w (swp m i d) x := by
  intro r hr
  rw [swp_mx (by omega) (by omega)]
  by_cases e1 : r = d
  · subst e1; rw [updR_at]; exact h i hi
  · rw [updR_ne _ _ e1]
    by_cases e2 : r = i
    · subst e2; rw [updR_at]; exact h d hd
    · rw [updR_ne _ _ e2]; exact h r hr
theorem Nul.scl {n w : Nat} {m : List (List Int)} {x : Nat → Int} (h : Nul n w m x) (hl : m.length = n) (hr : Rws w m) {d k : Nat} (hd : d < n) : Nul n w (scl m d k) x := by
  intro r hrn
  by_cases e : r = d
  · subst e
    have e1 : dsum (fun c => mx (Go.Proofs.YtoeikpioonlmfaaGreat.scl m r k) r c * x c) w % 10007 = dsum (fun c => (pw (mx m r k) 10005 % 10007) * (mx m r c * x c)) w % 10007 := dsum_cong fun c hc => by
      rw [scl_at hr (by omega) hc, if_pos rfl, mul_mod_l]
      congr 1
      rw [Int.mul_comm (mx m r c), Int.mul_assoc]
    rw [e1, ← dsum_mul, ← mul_mod_r, h r hrn]; simp
  · have e1 : dsum (fun c => mx (Go.Proofs.YtoeikpioonlmfaaGreat.scl m d k) r c * x c) w % 10007 = dsum (fun c => mx m r c * x c) w % 10007 := dsum_cong fun c hc => by
      rw [scl_at hr (by omega) hc, if_neg e]
    rw [e1]; exact h r hrn
theorem Nul.elD {n w : Nat} {m : List (List Int)} {x : Nat → Int} (h : Nul n w m x) (hl : m.length = n) (hr : Rws w m) {d k : Nat} (hd : d < n) : Nul n w (elD m d k) x := by
  intro r hrn
  by_cases e : r = d
  · have e1 : dsum (fun c => mx (Go.Proofs.YtoeikpioonlmfaaGreat.elD m d k) r c * x c) w % 10007 = dsum (fun c => mx m d c * x c) w % 10007 := dsum_cong fun c hc => by
      rw [elD_at hr (by omega) hc, if_pos e]
    rw [e1]; exact h d hd
  · have e1 : dsum (fun c => mx (Go.Proofs.YtoeikpioonlmfaaGreat.elD m d k) r c * x c) w % 10007 = dsum (fun c => mx m r c * x c + ((- mx m r k) % 10007) * (mx m d c * x c)) w % 10007 := dsum_cong fun c hc => by
      rw [elD_at hr (by omega) hc, if_neg e, mul_mod_l, Int.add_mul, Int.mul_assoc]
    rw [e1, dsum_lin, Int.add_emod, h r hrn, ← mul_mod_r, h d hd]; simp
theorem stepR_Nul {n w : Nat} {W0 : Mx} {m : List (List Int)} {d : Int} {done k : Nat} {x : Nat → Int} (g : GI n w W0 m done k) (hk : k < w) (hd : done < n) (h : Nul n w m x) : Nul n w (stepR m d done k).1 x := by
  have hl := g.len
  have fl := fndR_le m k (m.length - done) done
  unfold stepR
  by_cases e : fndR m k (m.length - done) done = m.length
  · rw [if_pos e]; exact h
  · rw [if_neg e]
    have s1 := swp_ok g.rws (i := fndR m k (m.length - done) done) (d := done) (by omega) (by omega)
    have s2 := h.swp hl (i := fndR m k (m.length - done) done) (d := done) (by omega) hd
    have l1 := swp_len m (fndR m k (m.length - done) done) done
    have t1 := scl_ok s1 (d := done) (k := k) (by omega)
    have t2 := s2.scl (by omega) s1 (k := k) hd
    exact t2.elD (by rw [scl_len, l1]; exact hl) t1 hd
theorem redR_Nul {n w : Nat} {W0 : Mx} {x : Nat → Int} : ∀ (f k : Nat) (st : List (List Int) × Int × Nat), k + f = w → GI n w W0 st.1 st.2.2 k → Nul n w st.1 x → Nul n w (redR f k st).1 x
  | 0, k, st, hk, g, h => h
  | f + 1, k, st, hk, g, h => by
    rw [redR]
    have hl := g.len
    split
    · rename_i hlt
      exact redR_Nul f (k + 1) _ (by omega) (stepR_GI g (by omega) (by omega)) (stepR_Nul g (by omega) (by omega) h)
    · exact h
theorem solve_uniq {n : Nat} {a : List (List Int)} {b : List Int} {e : Nat → Int} (hn : 0 < n) (hl : a.length = n) (hr : Rws n a) (hb : Ns b) (h0 : ldet n a ≠ 0)
    (he : ∀ r, r < n → dsum (fun c => mx a r c * e c) n % 10007 = b[r]?.getD 0 % 10007) :
    ∀ k, k < n → ldet n (repL a k b) * pw (ldet n a) 10005 % 10007 = e k % 10007 := by
  intro k hk
  have sv := solve_is hn hl hr hb
  have wo := widL_ok hl hr hb
  have wm := widL_mx (b := b) hl hr
  rw [← sv.2 h0 k hk]
  have ho := sv.1
  rw [decide_eq_true h0] at ho
  obtain ⟨k', h1, h2, h3⟩ := redR_GI (n + 1) 0 (widL a b, 1, 0) (by omega) (GI.start wo.1 wo.2)
  have hid := h3.one hn h1 ho
  have hN := mx_N h3.rws (show k < (redR (n + 1) 0 (widL a b, 1, 0)).1.length by rw [h3.len]; exact hk) n
  have nu : Nul n (n + 1) (widL a b) (fun c => if c < n then e c else -1) := fun r hrn => by
    have e1 : dsum (fun c => mx (widL a b) r c * (fun c => if c < n then e c else -1) c) (n + 1) = dsum (fun c => mx a r c * e c) n + b[r]?.getD 0 * (-1) := by
      rw [dsum]
      congr 1
      · exact dsum_congr fun c hc => by simp only [if_pos hc]; rw [(wm r hrn).1 c hc]
      · simp only [if_neg (show ¬ n < n by omega)]; rw [(wm r hrn).2]
    rw [e1]
    have := he r hrn
    omega
  have nr := redR_Nul (n + 1) 0 (widL a b, 1, 0) (by omega) (GI.start wo.1 wo.2) nu k hk
  have e2 : dsum (fun c => mx (redR (n + 1) 0 (widL a b, 1, 0)).1 k c * (fun c => if c < n then e c else -1) c) (n + 1) = e k + mx (redR (n + 1) 0 (widL a b, 1, 0)).1 k n * (-1) := by
    rw [dsum]
    congr 1
    · have : dsum (fun c => mx (redR (n + 1) 0 (widL a b, 1, 0)).1 k c * (fun c => if c < n then e c else -1) c) n = dsum (fun c => idM k c * e c) n := dsum_congr fun c hc => by
        simp only [if_pos hc]; rw [hid k c hk hc]
      rw [this, dsum_id hk]
    · simp only [if_neg (show ¬ n < n by omega)]
  rw [e2] at nr
  obtain ⟨n0, n1⟩ := hN
  generalize mx (redR (n + 1) 0 (widL a b, 1, 0)).1 k n = y at *
  omega
end Go.Proofs.YtoeikpioonlmfaaGreat


namespace Go.Proofs.YtoeikpioonlmfaaGreat
open Go.Abs
set_option linter.unusedSectionVars false
set_option linter.unusedVariables false
set_option linter.unusedSimpArgs false
set_option maxHeartbeats 4000000
theorem rmat_get {A : List (List Int)} {k : Nat} (h : k < A.length) : (mat A)[k]? = some (.sl (A[k]?.getD []).length (avs (A[k]?.getD []))) := by simp [mat, h]
theorem rmat_set (A : List (List Int)) (k : Nat) (l : List Int) : (mat A).set k (.sl l.length (avs l)) = mat (A.set k l) := by simp [mat, List.map_set]
theorem rmat_take (A : List (List Int)) (k : Nat) : (mat A).take k = mat (A.take k) := by simp [mat, List.map_take]
theorem rmat_kl (W : List Nat) (A : List (List Int)) : klL W (mat A) = mat A := by
  induction A with
  | nil => rfl
  | cons r A ih => simp only [mat, List.map_cons] at ih ⊢; rw [klL, ih]; rfl
def mxR {α : Type} (A C : List α) (i : Nat) : List α := C.take i ++ A.drop i
theorem mxR_zero {α : Type} (A C : List α) : mxR A C 0 = A := by simp [mxR]
theorem mxR_all {α : Type} {A C : List α} (h : C.length = A.length) : mxR A C A.length = C := by simp [mxR, ← h]
theorem mxR_len {α : Type} {A C : List α} (h : C.length = A.length) {i : Nat} (hi : i ≤ A.length) : (mxR A C i).length = A.length := by simp [mxR]; omega
theorem mxR_get {α : Type} {A C : List α} (h : C.length = A.length) {i j : Nat} (hi : i ≤ A.length) (d : α) : (mxR A C i)[j]?.getD d = if j < i then C[j]?.getD d else A[j]?.getD d := by
  unfold mxR
  split
  · rename_i hj
    rw [List.getElem?_append_left (by simp; omega), List.getElem?_take_of_lt hj]
  · rename_i hj
    rw [List.getElem?_append_right (by simp; omega), List.getElem?_drop]
    congr 2
    simp; omega
theorem mxR_set {α : Type} {A C : List α} (h : C.length = A.length) {i : Nat} (hi : i < A.length) (d : α) : (mxR A C i).set i (C[i]?.getD d) = mxR A C (i + 1) := by
  unfold mxR
  have hc : i < C.length := by omega
  rw [List.set_append_right _ _ (by simp; omega)]
  have e1 : (C.take i).length = i := by simp; omega
  have e2 : C.take (i + 1) = C.take i ++ [C[i]] := by rw [List.take_add_one, List.getElem?_eq_getElem hc]; rfl
  rw [e1, Nat.sub_self, List.drop_eq_getElem_cons hi, List.set_cons_zero, e2, List.getElem?_eq_getElem hc, List.append_assoc]
  rfl
theorem elD_row {m : List (List Int)} {d k r : Nat} (hr : r < m.length) : (elD m d k)[r]?.getD [] = if r = d then m[d]?.getD [] else plusS (m[r]?.getD []) (m[d]?.getD []) (- mx m r k) := by
  simp [elD, hr]
set_option maxRecDepth 100000 in
theorem reduce_c {w : Nat} (a : List (List Int)) (h0 : 0 < a.length) (hl : a.length ≤ 1000) (hw : w ≤ 1000) (hr : Rws w a) :
    GCon Tryz.prog 152 [.sl a.length (mat a)] (.tup [.own 35 (redR w 0 (a, 1, 0)).2.2 (mat ((redR w 0 (a, 1, 0)).1.take (redR w 0 (a, 1, 0)).2.2)), .int (redR w 0 (a, 1, 0)).2.1]) [.any] := by
  have cC := Con.gfz (cloneRows_c a (by omega) (fun r h => by have := (hr r h).1; omega)) (by simp [hasOwnL, hasOwn]) (omat_frz a)
  refine gcon_of_vc Tryz.mixed ⟨10, [96, 124], [1000000 + 204], [131, 1001113990216]⟩ [2, 3] [] Tryz.func152 (by decide) rfl rfl (by simp) (by simp) (by decide) ?_
  rw [Tryz.ntmps152]
  simp [go_sem]
  refine ⟨_, _, cC, ?_⟩
  simp [go_sem]
  refine loop_inv ([5, 6, 7, 8, 9] ++ List.range' 12 117 ++ [4]) (fun x : Nat × List (List Int) × Int × Nat => [(4, .own 35 x.2.1.length (mat x.2.1)), (5, .int x.2.2.1), (6, .int x.2.2.2), (7, .int x.1)])
    (fun x => x.1 ≤ w ∧ x.2.1.length = a.length ∧ Rws w x.2.1 ∧ isN x.2.2.1 ∧ x.2.2.2 ≤ a.length ∧ redR (w - x.1) x.1 x.2 = redR w 0 (a, 1, 0)) (fun x => w - x.1) (0, a, 1, 0) ⟨by simp, rfl, hr, ⟨by simp, by simp⟩, by simp, rfl⟩ (by simp [go_sem]) (by simp [go_sem, rmat_kl]) ?_
  rintro ⟨k, m, det, done⟩ ⟨hk, hm, hmr, hd, hdn, he⟩
  simp only at hk hm hmr hd hdn he
  have m0 : 0 < m.length := by omega
  have g0 := rmat_get m0
  have r0 := (hmr.at m0).1
  have fin : ¬ (k < w ∧ done < m.length) → redR w 0 (a, 1, 0) = (m, det, done) := fun h => by
    rw [← he]
    rcases Nat.lt_or_ge k w with h1 | h1
    · obtain ⟨f, hf⟩ : ∃ f, w - k = f + 1 := ⟨w - k - 1, by omega⟩
      rw [hf, redR, if_neg (by simp only; omega)]
    · rw [show w - k = 0 by omega, redR]
  by_cases hkw : k < w
  · by_cases hdl : done < m.length
    · clear fin
      have hst : redR (w - (k + 1)) (k + 1) (stepR m det done k) = redR w 0 (a, 1, 0) := by
        rw [← he, show w - k = (w - (k + 1)) + 1 by omega, redR, if_pos hdl]
      clear he
      simp [go_sem, g0, m0, r0, hkw, hdl, -getElem?_pos]
      have fl := fndR_le m k (m.length - done) done
      refine loop_inv ([8] ++ List.range' 32 16) (fun i : Nat => [(8, .int i)]) (fun i => done ≤ i ∧ i ≤ m.length ∧ fndR m k (m.length - i) i = fndR m k (m.length - done) done) (fun i => m.length - i) done ⟨Nat.le_refl _, by omega, rfl⟩ (by simp [go_sem]) (by simp [go_sem]) ?_
      rintro i ⟨hi1, hi2, hi3⟩
      by_cases hil : i < m.length
      · have gi := rmat_get hil
        have ri := (hmr.at hil).1
        have hin : ((i : Nat) : Int).toNat = i := by omega
        have hfi : fndR m k (m.length - i) i = if mx m i k = 0 then fndR m k (m.length - (i + 1)) (i + 1) else i := by
          rw [show m.length - i = (m.length - (i + 1)) + 1 by omega, fndR]
        have mxi : (m[i]?.getD [])[k]?.getD 0 = mx m i k := rfl
        have kr : k < (m[i]?.getD []).length := by omega
        simp [go_sem, hil, gi, avs_drop kr, mxi, -getElem?_pos]
        by_cases hz : mx m i k = 0
        · rw [if_pos hz] at hfi
          simp [go_sem, hz]
          refine ⟨⟨by omega, fun e => by rw [e] at kr; simp at kr⟩, ⟨by omega, by omega⟩, i + 1, ⟨by omega, by omega, by rw [← hi3, hfi]⟩, by omega, Off_reset _ _ _ (by simp), by omega⟩
        · rw [if_neg hz, hi3] at hfi
          subst hfi
          clear hi3
          generalize hI : fndR m k (m.length - done) done = I at *
          have hsr : stepR m det done k = (elD (scl (swp m I done) done k) done k, (if I = done then det else (- det) % 10007) * mx (swp m I done) done k % 10007, done + 1) := by
            unfold stepR
            rw [hI, if_neg (by omega)]
          rw [hsr] at hst
          clear hsr hI
          have hIl : ¬ ((I : Nat) : Int) = m.length := by omega
          simp [go_sem, hz, hil, hIl, -getElem?_pos]
          refine ⟨⟨kr, fun e => by rw [e] at kr; simp at kr⟩, ?_⟩
          by_cases hID : I = done
          · have hsw : swp m I done = m := by unfold swp; rw [if_pos hID]
            rw [hsw, if_pos hID] at hst
            have hMl := hm
            have hMr := hmr
            have hDN := hd
            simp [go_sem, hID]
            generalize m = M at *
            generalize det = D at *
            have nd := mx_N hMr (show done < M.length by omega) k
            have gd := rmat_get (show done < M.length by omega)
            have rd := hMr.at (show done < M.length by omega)
            have kd : k < (M[done]?.getD []).length := by omega
            have mxd : (M[done]?.getD [])[k]?.getD 0 = mx M done k := rfl
            have f1 := mul_fits hDN nd
            have set1 := rmat_set M done (scalS (M[done]?.getD []) (pw (mx M done k) 10005))
            rw [scalS_len] at set1
            have hsc : M.set done (scalS (M[done]?.getD []) (pw (mx M done k) 10005)) = scl M done k := rfl
            rw [hsc] at set1
            have bl := scl_len M done k
            have br := scl_ok hMr (k := k) (show done < M.length by omega)
            have cI := inv_c (mx M done k) nd
            have pb : fits (pw (mx M done k) 10005) := by have := isN_mod ((mx M done k) ^ (10005 : Int).toNat); exact ⟨by have := this.1; show _ ≤ _ % _; omega, by have := this.2; show _ % _ ≤ _; omega⟩
            have cS := scaled_c (M[done]?.getD []) (pw (mx M done k) 10005) rd.2 pb (by omega)
            clear hsc
            generalize hb : scl M done k = b at *
            simp [go_sem, gd, avs_drop kd, mxd]
            have kne : ¬ M[done]?.getD [] = [] := fun e => by rw [e] at kd; simp at kd
            refine ⟨by omega, ⟨kd, kne⟩, f1, ?_⟩
            refine CallVC.of (num_c _ f1.1 f1.2) (by decide) ?_
            simp [go_sem]
            simp [go_sem, gd, avs_drop kd, mxd]
            refine ⟨by kernel_rfl, by omega, ⟨kd, kne⟩, ?_⟩
            refine CallD.of (cI) (by simp [roots, rootsL]) (by decide) ?_
            simp [go_sem]
            refine CallD.of cS (by simp [go_sem, roots, rootsL]) (by decide) ?_
            simp [go_sem, gd, set1]
            refine ⟨by omega, ?_⟩
            refine ⟨by kernel_rfl, ?_⟩
            simp [go_sem]
            have ce : ∀ r, r < b.length → (elD b done k)[r]?.getD [] = if r = done then b[done]?.getD [] else plusS (b[r]?.getD []) (b[done]?.getD []) (- mx b r k) := fun r hr => elD_row hr
            have cl := elD_len b done k
            have cr := elD_ok br (k := k) (show done < b.length by omega)
            generalize elD b done k = C at *
            refine loop_inv ([9] ++ List.range' 100 27 ++ [4]) (fun r : Nat => [(4, .own 35 M.length (mat (mxR b C r))), (100, .int r)]) (fun r => r ≤ M.length) (fun r => M.length - r) 0 (by simp) (by simp [go_sem, mxR_zero]) (by simp [go_sem, rmat_kl]) ?_
            intro r hr1
            by_cases hrl : r < M.length
            · have Zl := mxR_len (A := b) (C := C) (by omega) (show r ≤ b.length by omega)
              have gd2 : done < (mxR b C r).length := by omega
              have gr2 : r < (mxR b C r).length := by omega
              have gd3 := rmat_get gd2
              have gr3 := rmat_get gr2
              have zr : (mxR b C r)[r]?.getD [] = b[r]?.getD [] := by rw [mxR_get (by omega) (by omega), if_neg (by omega)]
              have zd : (mxR b C r)[done]?.getD [] = b[done]?.getD [] := by
                rw [mxR_get (by omega) (by omega)]
                split
                · rw [ce done (by omega), if_pos rfl]
                · rfl
              have sr := mxR_set (A := b) (C := C) (by omega) (show r < b.length by omega) []
              have sr0 : r = done → mxR b C (r + 1) = mxR b C r := fun e => by
                rw [← sr, ce r (by omega), if_pos e, ← zd, ← e]
                refine List.ext_getElem? fun j => ?_
                rw [List.getElem?_set]
                split
                · rename_i ej; subst ej; simp [gr2]
                · rfl
              rw [zr] at gr3
              rw [zd] at gd3
              have br1 := br.at (show r < b.length by omega)
              have bd1 := br.at (show done < b.length by omega)
              have nr := mx_N br (show r < b.length by omega) k
              have mr : (b[r]?.getD [])[k]?.getD 0 = mx b r k := rfl
              have kr1 : k < (b[r]?.getD []).length := by omega
              have fr : fits (- mx b r k) := ⟨by have := nr.2; omega, by have := nr.1; omega⟩
              have cP := plus_c (b[r]?.getD []) (b[done]?.getD []) (- mx b r k) br1.2 bd1.2 fr (by omega) (by omega)
              have setr := rmat_set (mxR b C r) r (plusS (b[r]?.getD []) (b[done]?.getD []) (- mx b r k))
              rw [plusS_len] at setr
              generalize hZ : mxR b C r = Z at *
              generalize hZ2 : mxR b C (r + 1) = Z2 at *
              have kne1 : ¬ b[r]?.getD [] = [] := fun e => by rw [e] at kr1; simp at kr1
              by_cases hrd : r = done
              · have h2 := sr0 hrd
                have hdM : done < M.length := by omega
                simp [go_sem, hrd, hdM]
                exact ⟨by omega, r + 1, by omega, by omega, Off_reset _ _ _ (by simp), by rw [hZ2, h2], by omega⟩
              · have hcr := ce r (by omega)
                rw [if_neg hrd] at hcr
                rw [hcr] at sr
                rw [sr] at setr
                have hri : ¬ ((r : Nat) : Int) = done := by omega
                simp [go_sem, hrl, hrd, hri, gd3, gr3, avs_drop kr1, mr, -getElem?_pos]
                refine ⟨by kernel_rfl, by omega, ⟨kr1, kne1⟩, ⟨by have := nr.2; omega, by have := nr.1; omega⟩, ?_⟩
                refine CallD.of cP (by simp [go_sem, roots, rootsL]) (by decide) ?_
                simp [go_sem, setr]
                refine ⟨by omega, by omega, ?_⟩
                refine ⟨by kernel_rfl, ?_⟩
                simp [go_sem]
                exact ⟨by omega, r + 1, by omega, by omega, Off_reset _ _ _ (by simp), by rw [hZ2], by omega⟩
            · have e2 : r = M.length := by omega
              subst e2
              have eC : mxR b C M.length = C := by rw [← bl]; exact mxR_all (by omega)
              rw [eC]
              simp [go_sem]
              refine ⟨⟨by omega, by omega⟩, ⟨by omega, by omega⟩, k + 1, C, D * mx M done k % 10007, done + 1, ⟨by omega, by omega, cr, isN_mod _, by omega, hst⟩, by omega, (by repeat (first | exact Off_reset _ _ _ (by simp) | (refine Off.reset (by intro x hx; simp at hx ⊢; omega) (by simp) ?_; simp -failIfUnchanged [go_sem, Off_reset]))), ⟨by omega, rfl⟩, rfl, by omega, by omega⟩
          · have hsw : swp m I done = (m.set I (m[done]?.getD [])).set done (m[I]?.getD []) := by unfold swp; rw [if_neg hID]
            have hIDi : ¬ ((I : Nat) : Int) = done := by omega
            rw [if_neg hID] at hst
            have gdd := rmat_get hdl
            have hMl : (swp m I done).length = a.length := by rw [swp_len]; exact hm
            have hMr := swp_ok hmr hil hdl
            have hDN := isN_mod (- det)
            have s1 := rmat_set m I (m[done]?.getD [])
            have s2 := rmat_set (m.set I (m[done]?.getD [])) done (m[I]?.getD [])
            rw [← hsw] at s2
            have ml : m.length = (swp m I done).length := by rw [swp_len]
            generalize swp m I done = M at *
            simp [go_sem, hIDi, gi, gdd, s1, s2, hil, hdl, -getElem?_pos]
            refine ⟨by kernel_rfl, ?_, ?_⟩
            · refine ⟨by kernel_rfl, ⟨by have := hd.2; omega, by have := hd.1; omega⟩, ?_⟩
              refine CallVC.of (num_c _ (by have := hd.2; omega) (by have := hd.1; omega)) (by decide) ?_
              simp [go_sem]
              generalize (- det) % 10007 = D at *
              rw [ml]
              have nd := mx_N hMr (show done < M.length by omega) k
              have gd := rmat_get (show done < M.length by omega)
              have rd := hMr.at (show done < M.length by omega)
              have kd : k < (M[done]?.getD []).length := by omega
              have mxd : (M[done]?.getD [])[k]?.getD 0 = mx M done k := rfl
              have f1 := mul_fits hDN nd
              have set1 := rmat_set M done (scalS (M[done]?.getD []) (pw (mx M done k) 10005))
              rw [scalS_len] at set1
              have hsc : M.set done (scalS (M[done]?.getD []) (pw (mx M done k) 10005)) = scl M done k := rfl
              rw [hsc] at set1
              have bl := scl_len M done k
              have br := scl_ok hMr (k := k) (show done < M.length by omega)
              have cI := inv_c (mx M done k) nd
              have pb : fits (pw (mx M done k) 10005) := by have := isN_mod ((mx M done k) ^ (10005 : Int).toNat); exact ⟨by have := this.1; show _ ≤ _ % _; omega, by have := this.2; show _ % _ ≤ _; omega⟩
              have cS := scaled_c (M[done]?.getD []) (pw (mx M done k) 10005) rd.2 pb (by omega)
              clear hsc
              generalize hb : scl M done k = b at *
              simp [go_sem, gd, avs_drop kd, mxd]
              have kne : ¬ M[done]?.getD [] = [] := fun e => by rw [e] at kd; simp at kd
              refine ⟨by omega, ⟨kd, kne⟩, f1, ?_⟩
              refine CallVC.of (num_c _ f1.1 f1.2) (by decide) ?_
              simp [go_sem]
              simp [go_sem, gd, avs_drop kd, mxd]
              refine ⟨by kernel_rfl, by omega, ⟨kd, kne⟩, ?_⟩
              refine CallD.of (cI) (by simp [roots, rootsL]) (by decide) ?_
              simp [go_sem]
              refine CallD.of cS (by simp [go_sem, roots, rootsL]) (by decide) ?_
              simp [go_sem, gd, set1]
              refine ⟨by omega, ?_⟩
              refine ⟨by kernel_rfl, ?_⟩
              simp [go_sem]
              have ce : ∀ r, r < b.length → (elD b done k)[r]?.getD [] = if r = done then b[done]?.getD [] else plusS (b[r]?.getD []) (b[done]?.getD []) (- mx b r k) := fun r hr => elD_row hr
              have cl := elD_len b done k
              have cr := elD_ok br (k := k) (show done < b.length by omega)
              generalize elD b done k = C at *
              refine loop_inv ([9] ++ List.range' 100 27 ++ [4]) (fun r : Nat => [(4, .own 35 M.length (mat (mxR b C r))), (100, .int r)]) (fun r => r ≤ M.length) (fun r => M.length - r) 0 (by simp) (by simp [go_sem, mxR_zero]) (by simp [go_sem, rmat_kl]) ?_
              intro r hr1
              by_cases hrl : r < M.length
              · have Zl := mxR_len (A := b) (C := C) (by omega) (show r ≤ b.length by omega)
                have gd2 : done < (mxR b C r).length := by omega
                have gr2 : r < (mxR b C r).length := by omega
                have gd3 := rmat_get gd2
                have gr3 := rmat_get gr2
                have zr : (mxR b C r)[r]?.getD [] = b[r]?.getD [] := by rw [mxR_get (by omega) (by omega), if_neg (by omega)]
                have zd : (mxR b C r)[done]?.getD [] = b[done]?.getD [] := by
                  rw [mxR_get (by omega) (by omega)]
                  split
                  · rw [ce done (by omega), if_pos rfl]
                  · rfl
                have sr := mxR_set (A := b) (C := C) (by omega) (show r < b.length by omega) []
                have sr0 : r = done → mxR b C (r + 1) = mxR b C r := fun e => by
                  rw [← sr, ce r (by omega), if_pos e, ← zd, ← e]
                  refine List.ext_getElem? fun j => ?_
                  rw [List.getElem?_set]
                  split
                  · rename_i ej; subst ej; simp [gr2]
                  · rfl
                rw [zr] at gr3
                rw [zd] at gd3
                have br1 := br.at (show r < b.length by omega)
                have bd1 := br.at (show done < b.length by omega)
                have nr := mx_N br (show r < b.length by omega) k
                have mr : (b[r]?.getD [])[k]?.getD 0 = mx b r k := rfl
                have kr1 : k < (b[r]?.getD []).length := by omega
                have fr : fits (- mx b r k) := ⟨by have := nr.2; omega, by have := nr.1; omega⟩
                have cP := plus_c (b[r]?.getD []) (b[done]?.getD []) (- mx b r k) br1.2 bd1.2 fr (by omega) (by omega)
                have setr := rmat_set (mxR b C r) r (plusS (b[r]?.getD []) (b[done]?.getD []) (- mx b r k))
                rw [plusS_len] at setr
                generalize hZ : mxR b C r = Z at *
                generalize hZ2 : mxR b C (r + 1) = Z2 at *
                have kne1 : ¬ b[r]?.getD [] = [] := fun e => by rw [e] at kr1; simp at kr1
                by_cases hrd : r = done
                · have h2 := sr0 hrd
                  have hdM : done < M.length := by omega
                  simp [go_sem, hrd, hdM]
                  exact ⟨by omega, r + 1, by omega, by omega, Off_reset _ _ _ (by simp), by rw [hZ2, h2], by omega⟩
                · have hcr := ce r (by omega)
                  rw [if_neg hrd] at hcr
                  rw [hcr] at sr
                  rw [sr] at setr
                  have hri : ¬ ((r : Nat) : Int) = done := by omega
                  simp [go_sem, hrl, hrd, hri, gd3, gr3, avs_drop kr1, mr, -getElem?_pos]
                  refine ⟨by kernel_rfl, by omega, ⟨kr1, kne1⟩, ⟨by have := nr.2; omega, by have := nr.1; omega⟩, ?_⟩
                  refine CallD.of cP (by simp [go_sem, roots, rootsL]) (by decide) ?_
                  simp [go_sem, setr]
                  refine ⟨by omega, by omega, ?_⟩
                  refine ⟨by kernel_rfl, ?_⟩
                  simp [go_sem]
                  exact ⟨by omega, r + 1, by omega, by omega, Off_reset _ _ _ (by simp), by rw [hZ2], by omega⟩
              · have e2 : r = M.length := by omega
                subst e2
                have eC : mxR b C M.length = C := by rw [← bl]; exact mxR_all (by omega)
                rw [eC]
                simp [go_sem]
                refine ⟨⟨by omega, by omega⟩, ⟨by omega, by omega⟩, k + 1, C, D * mx M done k % 10007, done + 1, ⟨by omega, by omega, cr, isN_mod _, by omega, hst⟩, by omega, (by repeat (first | exact Off_reset _ _ _ (by simp) | (refine Off.reset (by intro x hx; simp at hx ⊢; omega) (by simp) ?_; simp -failIfUnchanged [go_sem, Off_reset]))), ⟨by omega, rfl⟩, rfl, by omega, by omega⟩
            · refine ⟨by kernel_rfl, ⟨by have := hd.2; omega, by have := hd.1; omega⟩, ?_⟩
              refine CallVC.of (num_c _ (by have := hd.2; omega) (by have := hd.1; omega)) (by decide) ?_
              simp [go_sem]
              generalize (- det) % 10007 = D at *
              rw [ml]
              have nd := mx_N hMr (show done < M.length by omega) k
              have gd := rmat_get (show done < M.length by omega)
              have rd := hMr.at (show done < M.length by omega)
              have kd : k < (M[done]?.getD []).length := by omega
              have mxd : (M[done]?.getD [])[k]?.getD 0 = mx M done k := rfl
              have f1 := mul_fits hDN nd
              have set1 := rmat_set M done (scalS (M[done]?.getD []) (pw (mx M done k) 10005))
              rw [scalS_len] at set1
              have hsc : M.set done (scalS (M[done]?.getD []) (pw (mx M done k) 10005)) = scl M done k := rfl
              rw [hsc] at set1
              have bl := scl_len M done k
              have br := scl_ok hMr (k := k) (show done < M.length by omega)
              have cI := inv_c (mx M done k) nd
              have pb : fits (pw (mx M done k) 10005) := by have := isN_mod ((mx M done k) ^ (10005 : Int).toNat); exact ⟨by have := this.1; show _ ≤ _ % _; omega, by have := this.2; show _ % _ ≤ _; omega⟩
              have cS := scaled_c (M[done]?.getD []) (pw (mx M done k) 10005) rd.2 pb (by omega)
              clear hsc
              generalize hb : scl M done k = b at *
              simp [go_sem, gd, avs_drop kd, mxd]
              have kne : ¬ M[done]?.getD [] = [] := fun e => by rw [e] at kd; simp at kd
              refine ⟨by omega, ⟨kd, kne⟩, f1, ?_⟩
              refine CallVC.of (num_c _ f1.1 f1.2) (by decide) ?_
              simp [go_sem]
              simp [go_sem, gd, avs_drop kd, mxd]
              refine ⟨by kernel_rfl, by omega, ⟨kd, kne⟩, ?_⟩
              refine CallD.of (cI) (by simp [roots, rootsL]) (by decide) ?_
              simp [go_sem]
              refine CallD.of cS (by simp [go_sem, roots, rootsL]) (by decide) ?_
              simp [go_sem, gd, set1]
              refine ⟨by omega, ?_⟩
              refine ⟨by kernel_rfl, ?_⟩
              simp [go_sem]
              have ce : ∀ r, r < b.length → (elD b done k)[r]?.getD [] = if r = done then b[done]?.getD [] else plusS (b[r]?.getD []) (b[done]?.getD []) (- mx b r k) := fun r hr => elD_row hr
              have cl := elD_len b done k
              have cr := elD_ok br (k := k) (show done < b.length by omega)
              generalize elD b done k = C at *
              refine loop_inv ([9] ++ List.range' 100 27 ++ [4]) (fun r : Nat => [(4, .own 35 M.length (mat (mxR b C r))), (100, .int r)]) (fun r => r ≤ M.length) (fun r => M.length - r) 0 (by simp) (by simp [go_sem, mxR_zero]) (by simp [go_sem, rmat_kl]) ?_
              intro r hr1
              by_cases hrl : r < M.length
              · have Zl := mxR_len (A := b) (C := C) (by omega) (show r ≤ b.length by omega)
                have gd2 : done < (mxR b C r).length := by omega
                have gr2 : r < (mxR b C r).length := by omega
                have gd3 := rmat_get gd2
                have gr3 := rmat_get gr2
                have zr : (mxR b C r)[r]?.getD [] = b[r]?.getD [] := by rw [mxR_get (by omega) (by omega), if_neg (by omega)]
                have zd : (mxR b C r)[done]?.getD [] = b[done]?.getD [] := by
                  rw [mxR_get (by omega) (by omega)]
                  split
                  · rw [ce done (by omega), if_pos rfl]
                  · rfl
                have sr := mxR_set (A := b) (C := C) (by omega) (show r < b.length by omega) []
                have sr0 : r = done → mxR b C (r + 1) = mxR b C r := fun e => by
                  rw [← sr, ce r (by omega), if_pos e, ← zd, ← e]
                  refine List.ext_getElem? fun j => ?_
                  rw [List.getElem?_set]
                  split
                  · rename_i ej; subst ej; simp [gr2]
                  · rfl
                rw [zr] at gr3
                rw [zd] at gd3
                have br1 := br.at (show r < b.length by omega)
                have bd1 := br.at (show done < b.length by omega)
                have nr := mx_N br (show r < b.length by omega) k
                have mr : (b[r]?.getD [])[k]?.getD 0 = mx b r k := rfl
                have kr1 : k < (b[r]?.getD []).length := by omega
                have fr : fits (- mx b r k) := ⟨by have := nr.2; omega, by have := nr.1; omega⟩
                have cP := plus_c (b[r]?.getD []) (b[done]?.getD []) (- mx b r k) br1.2 bd1.2 fr (by omega) (by omega)
                have setr := rmat_set (mxR b C r) r (plusS (b[r]?.getD []) (b[done]?.getD []) (- mx b r k))
                rw [plusS_len] at setr
                generalize hZ : mxR b C r = Z at *
                generalize hZ2 : mxR b C (r + 1) = Z2 at *
                have kne1 : ¬ b[r]?.getD [] = [] := fun e => by rw [e] at kr1; simp at kr1
                by_cases hrd : r = done
                · have h2 := sr0 hrd
                  have hdM : done < M.length := by omega
                  simp [go_sem, hrd, hdM]
                  exact ⟨by omega, r + 1, by omega, by omega, Off_reset _ _ _ (by simp), by rw [hZ2, h2], by omega⟩
                · have hcr := ce r (by omega)
                  rw [if_neg hrd] at hcr
                  rw [hcr] at sr
                  rw [sr] at setr
                  have hri : ¬ ((r : Nat) : Int) = done := by omega
                  simp [go_sem, hrl, hrd, hri, gd3, gr3, avs_drop kr1, mr, -getElem?_pos]
                  refine ⟨by kernel_rfl, by omega, ⟨kr1, kne1⟩, ⟨by have := nr.2; omega, by have := nr.1; omega⟩, ?_⟩
                  refine CallD.of cP (by simp [go_sem, roots, rootsL]) (by decide) ?_
                  simp [go_sem, setr]
                  refine ⟨by omega, by omega, ?_⟩
                  refine ⟨by kernel_rfl, ?_⟩
                  simp [go_sem]
                  exact ⟨by omega, r + 1, by omega, by omega, Off_reset _ _ _ (by simp), by rw [hZ2], by omega⟩
              · have e2 : r = M.length := by omega
                subst e2
                have eC : mxR b C M.length = C := by rw [← bl]; exact mxR_all (by omega)
                rw [eC]
                simp [go_sem]
                refine ⟨⟨by omega, by omega⟩, ⟨by omega, by omega⟩, k + 1, C, D * mx M done k % 10007, done + 1, ⟨by omega, by omega, cr, isN_mod _, by omega, hst⟩, by omega, (by repeat (first | exact Off_reset _ _ _ (by simp) | (refine Off.reset (by intro x hx; simp at hx ⊢; omega) (by simp) ?_; simp -failIfUnchanged [go_sem, Off_reset]))), ⟨by omega, rfl⟩, rfl, by omega, by omega⟩
      · have e0 : i = m.length := by omega
        subst e0
        rw [Nat.sub_self, fndR] at hi3
        have hsr : stepR m det done k = (m, 0, done) := by unfold stepR; rw [if_pos hi3.symm]
        rw [hsr] at hst
        simp [go_sem]
        exact ⟨by omega, k + 1, m, 0, done, ⟨by omega, hm, hmr, ⟨by omega, by omega⟩, hdn, hst⟩, by omega, (Off.reset (by intro x hx; simp at hx ⊢; omega) (by simp) (by simp [go_sem, Off_reset])), ⟨rfl, rfl⟩, by omega⟩
    · have hf := fin (by omega)
      have hed : done = m.length := by omega
      rw [hf]
      simp [go_sem, g0, m0, r0, hkw, hdl, -getElem?_pos]
      exact ⟨by omega, rmat_take _ _⟩
  · have hf := fin (by omega)
    rw [hf]
    simp [go_sem, g0, m0, r0, hkw, -getElem?_pos]
    exact ⟨by omega, rmat_take _ _⟩
end Go.Proofs.YtoeikpioonlmfaaGreat


namespace Go.Proofs.YtoeikpioonlmfaaGreat
open Go.Abs
set_option linter.unusedSectionVars false
set_option linter.unusedVariables false
set_option linter.unusedSimpArgs false
set_option maxHeartbeats 4000000
theorem memR {α : Type} {l : List α} {i : Nat} (d : α) (h : i < l.length) : l[i]?.getD d ∈ l := by simp [h]
theorem avs_tk (xs : List Int) (k : Nat) : (avs xs).take k = avs (xs.take k) := by simp [avs, List.map_take]
theorem avs_dp (xs : List Int) (k : Nat) : (avs xs).drop k = avs (xs.drop k) := by simp [avs, List.map_drop]
def outL (r : List Int) (k : Nat) : List Int := r.take k ++ r.drop (k + 1)
theorem outL_len {r : List Int} {k : Nat} (h : k < r.length) : (outL r k).length = r.length - 1 := by simp [outL]; omega
theorem minL_succ {a : List (List Int)} {k i : Nat} (h : i + 1 < a.length) : ((List.range (i + 1)).map fun r => outL (a[r + 1]?.getD []) k) = ((List.range i).map fun r => outL (a[r + 1]?.getD []) k) ++ [outL (a[i + 1]?.getD []) k] := by
  rw [List.range_succ, List.map_append]; rfl
set_option maxRecDepth 100000 in
theorem l01Minor_c (a : List (List Int)) (k : Nat) (h0 : 0 < a.length) (hl : a.length ≤ 1000) (hr : ∀ r ∈ a, r.length = a.length) (hk : k < a.length) :
    Con Tryz.prog 199 [.sl a.length (mat a), .int k] (.own 35 (a.length - 1) (omat (minL a k))) := by
  have hm : minL a k = (List.range (a.length - 1)).map fun r => outL (a[r + 1]?.getD []) k := rfl
  rw [hm]
  refine con_of_vc Tryz.mixed ⟨8, [], [], []⟩ Tryz.func199 (by decide) rfl (by simp) (by decide) (by simp [freshOK, freshL, go_sem]) ?_
  rw [Tryz.ntmps199]
  simp [go_sem]
  refine loop_inv (5 :: 6 :: 7 :: List.range' 9 25) (fun i : Nat => [(5, .own 35 i (omat ((List.range i).map fun r => outL (a[r + 1]?.getD []) k))), (6, .int (i + 1))]) (fun i => i + 1 ≤ a.length) (fun i => a.length - i) 0 (by simp; omega) (by simp [go_sem, omat]) (by simp [go_sem]) ?_
  intro i hi
  simp [go_sem]
  refine ⟨fun h => ?_, fun h => ?_⟩ <;> simp at h
  · have hif : i + 1 < a.length := by omega
    have hx := hr _ (memR [] hif)
    have ii : ((i : Int) + 1).toNat = i + 1 := by omega
    have ol := outL_len (r := a[i + 1]?.getD []) (k := k) (by omega)
    have hs := minL_succ (k := k) hif
    have hdr := mat_drop hif
    have hoo : outL (a[i + 1]?.getD []) k = (a[i + 1]?.getD []).take k ++ (a[i + 1]?.getD []).drop (k + 1) := rfl
    generalize a[i + 1]?.getD [] = row at *
    have cO := l01Own_c (row.take k) (by simp; omega)
    have tl : (row.take k).length = k := by simp; omega
    rw [tl] at cO
    simp [go_sem, ii, hdr, avs_tk, avs_dp]
    have kk : ((k : Int) + 1).toNat = k + 1 := by omega
    refine ⟨⟨by omega, by omega, by rintro rfl; simp at hif⟩, by omega, ?_⟩
    refine CallVC.of (cO) (by decide) ?_
    simp [go_sem]
    simp [go_sem, ii, hdr, kk, avs_tk, avs_dp]
    have n1 : k + ((row.length : Int) - ((k : Int) + 1)).toNat = (outL row k).length := by omega
    have n2 : avs (row.take k) ++ avs ((row.drop (k + 1)).take ((row.length : Int) - ((k : Int) + 1)).toNat) = avs (outL row k) := by
      have n3 : (row.drop (k + 1)).take ((row.length : Int) - ((k : Int) + 1)).toNat = row.drop (k + 1) := List.take_of_length_le (by simp; omega)
      rw [n3, ← avs_app, hoo]
    refine ⟨⟨by omega, by omega, by rintro rfl; simp at hif⟩, ⟨by omega, by omega⟩, ⟨by omega, by omega⟩, ⟨by omega, by omega, by omega, by omega⟩, ⟨by omega, by omega⟩, ⟨by omega, by omega⟩, i + 1, by omega, by omega, Off_reset _ _ _ (by simp), ⟨rfl, ?_⟩, by omega⟩
    rw [n1, n2, hs]
    simp [omat]
  · have e : i = a.length - 1 := by omega
    subst e
    simp [go_sem]
theorem lsum_N {t : Nat → Int} : ∀ n, isN (lsum t n)
  | 0 => ⟨by simp [lsum], by simp [lsum]⟩
  | n + 1 => by rw [lsum]; split <;> exact isN_mod _
theorem ldet_isN (n : Nat) (a : List (List Int)) (hl : a.length = n) (hr : Rws n a) : isN (ldet n a) := by
  cases n with
  | zero => exact ⟨by simp [ldet], by simp [ldet]⟩
  | succ n => rw [ldet_is _ a hl hr]; exact isN_mod _
def clrE (a : List (List Int)) (i : Nat) (q : Int) (k j : Nat) : Int := (mx a k (j + 1) - mx a k 0 * q % 10007 * mx a i (j + 1) % 10007) % 10007
theorem clrE_is (a : List (List Int)) (i : Nat) (q : Int) (k j : Nat) : (mx a k (j + 1) - mx a k 0 * q % 10007 * mx a i (j + 1)) % 10007 = clrE a i q k j := by unfold clrE; simp
def rowR (a : List (List Int)) (i : Nat) (q : Int) (k : Nat) : List Int := tb (clrE a i q k) (a.length - 1)
def skp (i r : Nat) : Nat := if r < i then r else r + 1
def cnt (i k : Nat) : Nat := if k ≤ i then k else k - 1
theorem restL_eq (a : List (List Int)) (i : Nat) (q : Int) : restL a i q = (List.range (a.length - 1)).map fun r => rowR a i q (skp i r) := rfl
theorem cnt_same {i k : Nat} (h : k = i) : cnt i (k + 1) = cnt i k := by unfold cnt; rw [if_neg (by omega), if_pos (by omega)]; omega
theorem cnt_next {i k : Nat} (h : k ≠ i) : cnt i (k + 1) = cnt i k + 1 ∧ skp i (cnt i k) = k := by
  unfold cnt skp
  by_cases h1 : k < i
  · rw [if_pos (by omega), if_pos (by omega), if_pos h1]; exact ⟨rfl, rfl⟩
  · rw [if_neg (by omega), if_neg (show ¬ k ≤ i by omega), if_neg (by omega)]; exact ⟨by omega, by omega⟩
set_option maxRecDepth 100000 in
theorem l01Det_c : ∀ (n : Nat) (a : List (List Int)), a.length = n → n ≤ 100 → Rws n a → Con Tryz.prog 146 [.sl a.length (mat a)] (.int (ldet n a))
  | 0, a, hl, hn, hr => by
    have h0 : a = [] := List.length_eq_zero_iff.1 hl
    subst h0
    refine con_of_vc Tryz.mixed ⟨13, [], [], []⟩ Tryz.func146 (by decide) rfl (by simp) (by decide) (by simp [freshOK, freshL, go_sem]) ?_
    rw [Tryz.ntmps146]
    simp [go_sem]
    rfl
  | n + 1, a, hl, hn, hr => by
    have ih := fun b hb hbr => l01Det_c n b hb (by omega) hbr
    have h0 : ¬ a.length = 0 := by omega
    have ne : ¬ a = [] := by rintro rfl; simp at hl
    have rl : ∀ r ∈ a, r.length = a.length := fun r h => by rw [(hr r h).1, hl]
    have m0 := mat_drop (xss := a) (k := 0) (by omega)
    simp only [List.drop_zero] at m0
    have m1 : AV.sl (a[0]?.getD []).length (avs (a[0]?.getD [])) :: mat a.tail = mat a := by cases a with | nil => simp at hl | cons x l => simp [mat]
    have r0 := hr.at (show 0 < a.length by omega)
    by_cases h4 : n + 1 ≤ 4
    · have h4' : (a.length : Int) ≤ 4 := by omega
      have e0 : ldet (n + 1) a = lsum (fun k => mx a 0 k * ldet n (minL a k) % 10007) (n + 1) := by rw [ldet, if_pos h4]
      rw [e0]
      refine con_of_vc Tryz.mixed ⟨13, [], [], []⟩ Tryz.func146 (by decide) rfl (by simp) (by decide) (by simp [freshOK, freshL, go_sem]) ?_
      rw [Tryz.ntmps146]
      simp [go_sem]
      simp [go_sem, h0, h4', ne]
      refine loop_inv (3 :: 4 :: 5 :: List.range' 19 26) (fun k : Nat => [(3, .int (lsum (fun k => mx a 0 k * ldet n (minL a k) % 10007) k)), (4, .int k)]) (fun k => k ≤ n + 1) (fun k => n + 1 - k) 0 (by simp) (by simp [go_sem, lsum]) (by simp [go_sem]) ?_
      intro k hk
      by_cases hkn : k < n + 1
      · have hki : (k : Int) < a.length := by omega
        have kr : k < (a[0]?.getD []).length := by omega
        have mm : (a[0]?.getD [])[k]?.getD 0 = mx a 0 k := rfl
        have cM := l01Minor_c a k (by omega) (by omega) rl (by omega)
        have ml := minL_len a k
        have mr := minL_ok hl hr hkn
        have cD := ih (minL a k) (by omega) mr
        rw [ml] at cD
        have dN := ldet_isN n (minL a k) (by omega) mr
        have f1 := mul_fits (r0.2.get k) dN
        have ls : lsum (fun k => mx a 0 k * ldet n (minL a k) % 10007) (k + 1) = if k % 2 = 0 then (lsum (fun k => mx a 0 k * ldet n (minL a k) % 10007) k + mx a 0 k * ldet n (minL a k) % 10007) % 10007 else (lsum (fun k => mx a 0 k * ldet n (minL a k) % 10007) k - mx a 0 k * ldet n (minL a k) % 10007) % 10007 := rfl
        have lN := lsum_N (t := fun k => mx a 0 k * ldet n (minL a k) % 10007) k
        have pN := isN_mod (mx a 0 k * ldet n (minL a k))
        simp [go_sem, hki, m0, avs_drop kr, mm]
        simp only [m1]
        have krn : ¬ a[0]?.getD [] = [] := fun e => by rw [e] at kr; simp at kr
        rw [mm] at f1
        refine ⟨by kernel_rfl, by omega, ⟨kr, krn⟩, ?_⟩
        refine CallD.of (cM) (by simp [roots, rootsL]) (by decide) ?_
        simp [go_sem]
        refine CallD.of (cD) (by simp [roots, rootsL]) (by decide) ?_
        simp [go_sem]
        refine CallD.of (l01Mul_c _ _ f1) (by simp [roots, rootsL]) (by decide) ?_
        simp [go_sem]
        refine ⟨by kernel_rfl, ?_⟩
        simp [go_sem]
        have kt : ((k : Nat) : Int).tmod 2 = ((k % 2 : Nat) : Int) := bit_cast k
        simp [go_sem, kt]
        generalize lsum (fun k => mx a 0 k * ldet n (minL a k) % 10007) k = L at *
        generalize mx a 0 k * ldet n (minL a k) % 10007 = p at *
        have fa := add_fits lN pN
        have fs := sub_fits lN pN
        refine ⟨fun h => ?_, fun h => ?_⟩ <;> simp at h
        · have h2 : k % 2 = 0 := by omega
          rw [if_pos h2] at ls
          simp [go_sem]
          refine CallVC.of (l01Add_c _ _ fa) (by decide) ?_
          simp [go_sem]
          exact ⟨by omega, k + 1, by omega, by omega, Off_reset _ _ _ (by simp), by rw [ls], by omega⟩
        · have h2 : ¬ k % 2 = 0 := by omega
          rw [if_neg h2] at ls
          simp [go_sem]
          refine CallVC.of (l01Sub_c _ _ fs) (by decide) ?_
          simp [go_sem]
          exact ⟨by omega, k + 1, by omega, by omega, Off_reset _ _ _ (by simp), by rw [ls], by omega⟩
      · have : k = n + 1 := by omega
        subst this
        have hki : ¬ (n : Int) + 1 < a.length := by omega
        simp [go_sem, hki]
    · have h4' : ¬ (a.length : Int) ≤ 4 := by omega
      have fl := fndR_le a 0 (n + 1) 0
      refine con_of_vc Tryz.mixed ⟨13, [], [], []⟩ Tryz.func146 (by decide) rfl (by simp) (by decide) (by simp [freshOK, freshL, go_sem]) ?_
      rw [Tryz.ntmps146]
      simp [go_sem]
      simp [go_sem, h0, h4', ne]
      refine loop_inv ([2] ++ List.range' 6 7 ++ List.range' 46 83) (fun i : Nat => [(6, .int i)]) (fun i => i ≤ n + 1 ∧ fndR a 0 (n + 1 - i) i = fndR a 0 (n + 1) 0) (fun i => n + 1 - i) 0 (by simp) (by simp [go_sem]) (by simp [go_sem]) ?_
      rintro i ⟨hi, hi2⟩
      by_cases hin : i < n + 1
      · have hii : (i : Int) < a.length := by omega
        have hia : i < a.length := by omega
        have ri := hr.at hia
        have k0 : 0 < (a[i]?.getD []).length := by omega
        have mm : (a[i]?.getD [])[0]?.getD 0 = mx a i 0 := rfl
        have di := avs_drop k0
        simp only [List.drop_zero] at di
        have hfi : fndR a 0 (n + 1 - i) i = if mx a i 0 = 0 then fndR a 0 (n + 1 - (i + 1)) (i + 1) else i := by
          rw [show n + 1 - i = (n + 1 - (i + 1)) + 1 by omega, fndR]
        have kne : ¬ a[i]?.getD [] = [] := fun e => by rw [e] at k0; simp at k0
        simp [go_sem, hii, mat_drop hia, di, mm]
        refine ⟨ne, k0, ?_⟩
        by_cases hz : mx a i 0 = 0
        · rw [if_pos hz] at hfi
          simp [go_sem, hz]
          exact ⟨by omega, i + 1, ⟨by omega, by rw [← hi2, hfi]⟩, by omega, Off_reset _ _ _ (by simp), by omega⟩
        · rw [if_neg hz, hi2] at hfi
          have xN := mx_N hr hia 0
          have e0 : ldet (n + 1) a = if i % 2 = 1 then (0 - mx a i 0 * ldet n (restL a i (pw (mx a i 0) 10005)) % 10007) % 10007 else mx a i 0 * ldet n (restL a i (pw (mx a i 0) 10005)) % 10007 := by
            rw [ldet, if_neg h4, hfi, if_neg (by omega)]
          rw [e0]
          clear e0 hi2
          have qN : isN (pw (mx a i 0) 10005) := isN_mod _
          simp [go_sem, hz, mat_drop hia, di, mm]
          refine ⟨⟨hia, ne⟩, k0, ?_⟩
          refine CallVC.of (l01Inv_c _ xN) (by decide) ?_
          simp [go_sem]
          generalize pw (mx a i 0) 10005 = q at *
          refine loop_inv ([7, 9, 10, 11] ++ List.range' 67 47) (fun k : Nat => [(7, .own 35 (cnt i k) (omat ((List.range (cnt i k)).map fun r => rowR a i q (skp i r)))), (9, .int k)]) (fun k => k ≤ n + 1) (fun k => n + 1 - k) 0 (by simp) (by simp [go_sem, cnt, omat]) (by simp [go_sem]) ?_
          intro k hk
          by_cases hkn : k < n + 1
          · have hkl : (k : Int) < a.length := by omega
            have hka : k < a.length := by omega
            by_cases hki : k = i
            · have hkii : (k : Int) = i := by omega
              have cs := cnt_same hki
              simp [go_sem, hkl, hkii, hii]
              exact ⟨by omega, k + 1, by omega, by omega, Off_reset _ _ _ (by simp), by rw [cs]; exact ⟨rfl, rfl⟩, by omega⟩
            · have hkii : ¬ (k : Int) = i := by omega
              have cs := cnt_next hki
              have rk := hr.at hka
              have kk0 : 0 < (a[k]?.getD []).length := by omega
              simp [go_sem, hkl, hkii]
              refine loop_inv ([10, 11] ++ List.range' 77 33) (fun j : Nat => [(10, .own 2 j (avs (tb (clrE a i q k) j))), (11, .int (j + 1))]) (fun j => j ≤ n) (fun j => n - j) 0 (by simp) (by simp [go_sem]) (by simp [go_sem]) ?_
              intro j hj
              by_cases hjn : j < n
              · have hjl : (j : Int) + 1 < a.length := by omega
                have jj : ((j : Int) + 1).toNat = j + 1 := by omega
                have dk0 : avs (a[k]?.getD []) = .val (.int .i64 (mx a k 0)) :: avs (a[k]?.getD []).tail := by
                  have := avs_drop kk0
                  rw [List.drop_zero, List.drop_one] at this
                  rw [this]; rfl
                have dk1 : (avs (a[k]?.getD []).tail).drop j = .val (.int .i64 (mx a k (j + 1))) :: avs ((a[k]?.getD []).drop (j + 2)) := by
                  rw [← List.drop_one, avs_drop (by simp; omega)]
                  congr 1
                  · simp [mx, Nat.add_comm]
                  · rw [List.drop_drop]; congr 2; omega
                have di1 : (avs (a[i]?.getD [])).drop (j + 1) = .val (.int .i64 (mx a i (j + 1))) :: avs ((a[i]?.getD []).drop (j + 2)) := by
                  rw [avs_drop (by omega)]; rfl
                have n1 := mx_N hr hka (j + 1)
                have n2 := mx_N hr hka 0
                have n3 := mx_N hr hia (j + 1)
                have f1 := mul_fits n2 qN
                have f2 := mul_fits (isN_mod (mx a k 0 * q)) n3
                have f3 := sub_fits n1 (isN_mod (mx a k 0 * q % 10007 * mx a i (j + 1)))
                have ts := tb_succ (clrE a i q k) j
                simp [go_sem, hjl, jj, mat_drop hka, mat_drop hia, dk0, dk1, di1]
                refine ⟨by kernel_rfl, ⟨hka, ne⟩, ⟨by omega, by omega⟩, ⟨hka, ne⟩, kk0, ?_⟩
                refine CallD.of (l01Mul_c _ _ f1) (by simp [roots, rootsL]) (by decide) ?_
                simp [go_sem]
                simp [go_sem, jj, mat_drop hia, di1]
                refine ⟨⟨hia, ne⟩, ⟨by omega, by omega, kne⟩, ?_⟩
                refine CallD.of (l01Mul_c _ _ f2) (by simp [roots, rootsL]) (by decide) ?_
                simp [go_sem]
                refine CallD.of (l01Sub_c _ _ f3) (by simp [roots, rootsL]) (by decide) ?_
                simp [go_sem]
                refine ⟨by omega, ?_⟩
                refine ⟨by kernel_rfl, ?_⟩
                simp [go_sem]
                exact ⟨⟨by omega, by omega⟩, j + 1, by omega, by omega, Off_reset _ _ _ (by simp), by rw [ts, avs_snoc, clrE_is]; exact ⟨rfl, rfl⟩, by omega⟩
              · have e2 : j = n := by omega
                subst e2
                have hjl : ¬ (j : Int) + 1 < a.length := by omega
                have e4 : tb (clrE a i q k) j = rowR a i q k := by unfold rowR; rw [hl, Nat.add_sub_cancel]
                have e5 : omat ((List.range (cnt i k + 1)).map fun r => rowR a i q (skp i r)) = omat ((List.range (cnt i k)).map fun r => rowR a i q (skp i r)) ++ [.own 2 j (avs (rowR a i q k))] := by
                  have rl2 : (rowR a i q k).length = j := by unfold rowR; simp; omega
                  rw [omat_range_succ, cs.2, rl2]
                have cb : cnt i k ≤ k := by unfold cnt; split <;> omega
                simp [go_sem, hjl]
                exact ⟨by omega, by omega, k + 1, by omega, by omega, (Off.reset (by intro x hx; simp at hx ⊢; omega) (by simp) (by simp [go_sem, Off_reset])), by rw [cs.1, e5, e4]; exact ⟨rfl, rfl⟩, by omega⟩
          · have e1 : k = n + 1 := by omega
            subst e1
            have hki : ¬ (n : Int) + 1 < a.length := by omega
            have ec : cnt i (n + 1) = n := by unfold cnt; split <;> omega
            have er := restL_eq a i q
            rw [hl, Nat.add_sub_cancel] at er
            have ro := restL_ok hl i q
            have cD := ih (restL a i q) ro.1 ro.2
            rw [ro.1] at cD
            have dN := ldet_isN n (restL a i q) ro.1 ro.2
            rw [ec, ← er]
            have f1 := mul_fits xN dN
            have f2 := sub_fits (show isN 0 from ⟨by omega, by omega⟩) (isN_mod (mx a i 0 * ldet n (restL a i q)))
            simp [go_sem, hki, mat_drop hia, di, mm]
            refine ⟨by kernel_rfl, ⟨hia, ne⟩, k0, ?_⟩
            refine CallD.of (cD) (by simp [roots, rootsL]) (by decide) ?_
            simp [go_sem]
            refine CallD.of (l01Mul_c _ _ f1) (by simp [roots, rootsL]) (by decide) ?_
            simp [go_sem]
            refine ⟨by kernel_rfl, ?_⟩
            simp [go_sem]
            refine ⟨fun h => ?_, fun h => ?_⟩ <;> simp at h
            · have h2 : i % 2 = 1 := by have := bit_cast i; omega
              rw [if_pos h2]
              simp [go_sem]
              refine CallVC.of (l01Sub_c _ _ f2) (by decide) ?_
              simp [go_sem]
            · have h2 : ¬ i % 2 = 1 := by have := bit_cast i; omega
              rw [if_neg h2]
              simp [go_sem]
      · have : i = n + 1 := by omega
        subst this
        have hki : ¬ (n : Int) + 1 < a.length := by omega
        rw [Nat.sub_self, fndR] at hi2
        have e0 : ldet (n + 1) a = 0 := by rw [ldet, if_neg h4, if_pos hi2.symm]
        rw [e0]
        simp [go_sem, hki]
end Go.Proofs.YtoeikpioonlmfaaGreat


namespace Go.Proofs.YtoeikpioonlmfaaGreat
open Go.Abs
set_option linter.unusedSectionVars false
set_option linter.unusedVariables false
set_option linter.unusedSimpArgs false
set_option maxHeartbeats 4000000
theorem omat_kl (W : List Nat) (A : List (List Int)) : klL W (omat A) = omat A := by
  induction A with
  | nil => rfl
  | cons r A ih => simp only [omat, List.map_cons] at ih ⊢; rw [klL, ih]; rfl
def sysF (n : Nat) (a : List (List Int)) (b : List Int) (k : Nat) : Int := ldet n (repL a k b) * pw (ldet n a) 10005 % 10007
def solX (n : Nat) (a : List (List Int)) (b : List Int) : List Int := if ldet n a = 0 then [] else tb (sysF n a b) n
def solR (n : Nat) (a : List (List Int)) (b : List Int) : AV := .tup [.own 2 (solX n a b).length (avs (solX n a b)), .bool (decide (ldet n a ≠ 0))]
theorem repL_row {a : List (List Int)} {k i : Nat} {b : List Int} (hi : i < a.length) : (repL a k b)[i]?.getD [] = (a[i]?.getD []).set k (b[i]?.getD 0) := by simp [repL, hi]
set_option maxRecDepth 100000 in
theorem l01Solve_c {n : Nat} (a : List (List Int)) (b : List Int) (hl : a.length = n) (hn : n ≤ 100) (hr : Rws n a) (hb : Ns b) (hbl : n ≤ b.length) :
    Con Tryz.prog 147 [.sl a.length (mat a), .sl b.length (avs b)] (solR n a b) := by
  have cD := l01Det_c n a hl hn hr
  have dN := ldet_isN n a hl hr
  unfold solR solX
  by_cases h0 : ldet n a = 0
  · rw [if_pos h0]
    simp only [h0, ne_eq, not_true_eq_false, decide_false]
    refine Con.n1 _ ?_
    rw [h0] at cD
    refine con_of_vc Tryz.mixed ⟨11, [], [], []⟩ Tryz.func147 (by decide) rfl (by simp) (by decide) (by simp [freshOK, freshL, go_sem]) ?_
    rw [Tryz.ntmps147]
    simp [go_sem]
    refine CallVC.of (cD) (by decide) ?_
    simp [go_sem]
  · rw [if_neg h0]
    simp only [h0, ne_eq, not_false_eq_true, decide_true, tb_len]
    have sF : ∀ k, sysF n a b k = ldet n (repL a k b) * pw (ldet n a) 10005 % 10007 := fun k => rfl
    generalize ldet n a = d at *
    refine con_of_vc Tryz.mixed ⟨11, [], [], []⟩ Tryz.func147 (by decide) rfl (by simp) (by decide) (by simp [freshOK, freshL, go_sem]) ?_
    rw [Tryz.ntmps147]
    simp [go_sem]
    refine CallVC.of (cD) (by decide) ?_
    simp [go_sem]
    simp [go_sem, h0]
    refine loop_inv ([7, 8, 9, 10] ++ List.range' 16 32) (fun k : Nat => [(7, .own 2 k (avs (tb (sysF n a b) k))), (8, .int k)]) (fun k => k ≤ n) (fun k => n - k) 0 (by simp) (by simp [go_sem]) (by simp [go_sem]) ?_
    intro k hk
    by_cases hkn : k < n
    · have hki : (k : Int) < a.length := by omega
      have rl : ∀ r ∈ a, r.length ≤ 1048576 := fun r h => by have := (hr r h).1; omega
      have cO := l01Own2_c a (by omega) rl
      have ro := repL_ok (b := b) hl hr hb k
      have rw' : ∀ i, i < a.length → (repL a k b)[i]?.getD [] = (a[i]?.getD []).set k (b[i]?.getD 0) := fun i hi => repL_row hi
      have cR := l01Det_c n (repL a k b) ro.1 hn ro.2
      have cR : Con Tryz.prog 146 [.sl a.length (mat (repL a k b))] (.int (ldet n (repL a k b))) := by rw [ro.1] at cR; rw [hl]; exact cR
      have rN := ldet_isN n (repL a k b) ro.1 ro.2
      have hsf := sF k
      generalize repL a k b = B at *
      simp [go_sem, hki]
      refine CallVC.of (cO) (by decide) ?_
      simp [go_sem]
      refine loop_inv ([10] ++ List.range' 24 16 ++ [9]) (fun i : Nat => [(9, .own 35 a.length (omat (mxR a B i))), (10, .int i)]) (fun i => i ≤ n) (fun i => n - i) 0 (by simp) (by simp [go_sem, mxR_zero]) (by simp [go_sem, omat_kl]) ?_
      intro i hi
      by_cases hin : i < n
      · have hii : (i : Int) < a.length := by omega
        have hia : i < a.length := by omega
        have Ml := mxR_len (A := a) (C := B) (by omega) (show i ≤ a.length by omega)
        have hg := omat_get (A := mxR a B i) (k := i) (by omega)
        have hgi : (mxR a B i)[i]?.getD [] = a[i]?.getD [] := by rw [mxR_get (by omega) (by omega), if_neg (by omega)]
        rw [hgi] at hg
        have hset := omat_set (mxR a B i) i (B[i]?.getD [])
        rw [mxR_set (by omega) hia] at hset
        have hnew := rw' i hia
        have ri := hr.at hia
        have hkr : k < (a[i]?.getD []).length := by omega
        have hib : i < b.length := by omega
        generalize mxR a B i = M at *
        generalize B[i]?.getD [] = new at *
        generalize a[i]?.getD [] = old at *
        have bne : ¬ b = [] := by rintro rfl; simp at hib
        simp [go_sem, hii, hg, avs_drop hib]
        refine ⟨by kernel_rfl, ⟨hib, bne⟩, hkr, ?_⟩
        refine ⟨by kernel_rfl, ?_⟩
        simp [go_sem]
        exact ⟨by omega, i + 1, by omega, by omega, Off_reset _ _ _ (by simp), by rw [← hset, hnew, List.length_set, avs_set], by omega⟩
      · have e : i = n := by omega
        subst e
        have hii : ¬ (i : Int) < a.length := by omega
        have hall := mxR_all (A := a) (C := B) (by omega)
        rw [hl] at hall
        rw [hall]
        have ts := tb_succ (sysF i a b) k
        have f1 : fits (ldet i B * pw d 10005) := mul_fits rN (isN_mod _)
        simp [go_sem, hii]
        refine CallVC.of (cR) (by decide) ?_
        simp [go_sem]
        refine CallVC.of (l01Inv_c _ dN) (by decide) ?_
        simp [go_sem]
        refine CallVC.of (l01Mul_c _ _ f1) (by decide) ?_
        simp [go_sem]
        rw [← hsf]
        exact ⟨by omega, by omega, k + 1, by omega, by omega, (Off.reset (by intro x hx; simp at hx ⊢; omega) (by simp) (by simp [go_sem, Off_reset])), by rw [ts, avs_snoc]; exact ⟨rfl, rfl⟩, by omega⟩
    · have e : k = n := by omega
      subst e
      have hki : ¬ (k : Int) < a.length := by omega
      simp [go_sem, hki]
theorem leadL_c (a : List Int) (hl : a.length ≤ 1048576) : Con Tryz.prog 153 [.sl a.length (avs a)] (.int (leadL a)) := by
  refine con_of_vc Tryz.mixed ⟨4, [], [], []⟩ Tryz.func153 (by decide) rfl (by simp) (by decide) (by simp [freshOK, freshL, go_sem]) ?_
  rw [Tryz.ntmps153]
  simp [go_sem]
  refine loop_inv (3 :: List.range' 4 13) (fun i : Nat => [(3, .int i)]) (fun i => i ≤ a.length ∧ ldF a (a.length - i) i = leadL a) (fun i => a.length - i) 0 ⟨by omega, by simp [leadL]⟩ (by simp [go_sem]) (by simp [go_sem]) ?_
  rintro i ⟨hi, he⟩
  by_cases h : i < a.length
  · have hf : ldF a (a.length - i) i = if a[i]?.getD 0 = 0 then ldF a (a.length - (i + 1)) (i + 1) else i := by
      rw [show a.length - i = (a.length - (i + 1)) + 1 by omega, ldF]
    have ne : ¬ a = [] := by rintro rfl; simp at h
    have hii : (i : Int) < a.length := by omega
    by_cases hz : a[i]?.getD 0 = 0
    · rw [if_pos hz] at hf
      simp [go_sem, hii, avs_drop h, hz]
      exact ⟨ne, by omega, i + 1, ⟨by omega, by rw [← he, hf]⟩, by omega, Off_reset _ _ _ (by simp), by omega⟩
    · rw [if_neg hz, he] at hf
      simp [go_sem, hii, avs_drop h, hz]
      exact ⟨ne, by omega⟩
  · have e : i = a.length := by omega
    subst e
    rw [Nat.sub_self, ldF] at he
    simp [go_sem]
    omega
end Go.Proofs.YtoeikpioonlmfaaGreat


namespace Go.Proofs.YtoeikpioonlmfaaGreat
open Go.Abs
set_option linter.unusedSectionVars false
set_option linter.unusedVariables false
set_option linter.unusedSimpArgs false
set_option maxHeartbeats 1000000
theorem Nul.unswp {n w : Nat} {m : List (List Int)} {x : Nat → Int} {i d : Nat} (h : Nul n w (Go.Proofs.YtoeikpioonlmfaaGreat.swp m i d) x) (hl : m.length = n) (hi : i < n) (hd : d < n) : Nul n w m x := by
  have e : ∀ r, mx (Go.Proofs.YtoeikpioonlmfaaGreat.swp m i d) r = updR (updR (mx m) i (mx m d)) d (mx m i) r := fun r => by rw [swp_mx (by omega) (by omega)]
  intro r hr
  by_cases e1 : r = i
  · subst e1
    have := h d hd
    rw [e d, updR_at] at this
    exact this
  · by_cases e2 : r = d
    · subst e2
      have := h i hi
      rw [e i, updR_ne _ _ (fun k => e1 k.symm), updR_at] at this
      exact this
    · have := h r hr
      rw [e r, updR_ne _ _ e2, updR_ne _ _ e1] at this
      exact this
theorem Nul.unscl {n w : Nat} {m : List (List Int)} {x : Nat → Int} {d k : Nat} (h : Nul n w (Go.Proofs.YtoeikpioonlmfaaGreat.scl m d k) x) (hl : m.length = n) (hr : Rws w m) (hd : d < n) (hN : isN (mx m d k)) (h0 : mx m d k ≠ 0) : Nul n w m x := by
  intro r hrn
  have hh := h r hrn
  by_cases e : r = d
  · subst e
    have e1 : dsum (fun c => mx (Go.Proofs.YtoeikpioonlmfaaGreat.scl m r k) r c * x c) w % 10007 = dsum (fun c => (pw (mx m r k) 10005 % 10007) * (mx m r c * x c)) w % 10007 := dsum_cong fun c hc => by
      rw [scl_at hr (by omega) hc, if_pos rfl, mul_mod_l]
      congr 1
      rw [Int.mul_comm (mx m r c), Int.mul_assoc]
    rw [e1, ← dsum_mul] at hh
    have hi := inv_ok hN h0
    generalize dsum (fun c => mx m r c * x c) w = s at *
    generalize mx m r k = p at *
    have e2 : s % 10007 = p * (pw p 10005 % 10007 * s) % 10007 := by
      rw [← Int.mul_assoc, ← mul_mod_l (p * (pw p 10005 % 10007)), mul_mod_r, hi, Int.one_mul]
    rw [e2, ← mul_mod_r, hh]; simp
  · have e1 : dsum (fun c => mx (Go.Proofs.YtoeikpioonlmfaaGreat.scl m d k) r c * x c) w % 10007 = dsum (fun c => mx m r c * x c) w % 10007 := dsum_cong fun c hc => by
      rw [scl_at hr (by omega) hc, if_neg e]
    rw [e1] at hh; exact hh
theorem Nul.unelD {n w : Nat} {m : List (List Int)} {x : Nat → Int} {d k : Nat} (h : Nul n w (Go.Proofs.YtoeikpioonlmfaaGreat.elD m d k) x) (hl : m.length = n) (hr : Rws w m) (hd : d < n) : Nul n w m x := by
  have hdd : dsum (fun c => mx m d c * x c) w % 10007 = 0 := by
    have hh := h d hd
    have e1 : dsum (fun c => mx (Go.Proofs.YtoeikpioonlmfaaGreat.elD m d k) d c * x c) w % 10007 = dsum (fun c => mx m d c * x c) w % 10007 := dsum_cong fun c hc => by
      rw [elD_at hr (by omega) hc, if_pos rfl]
    rw [e1] at hh; exact hh
  intro r hrn
  by_cases e : r = d
  · subst e; exact hdd
  · have hh := h r hrn
    have e1 : dsum (fun c => mx (Go.Proofs.YtoeikpioonlmfaaGreat.elD m d k) r c * x c) w % 10007 = dsum (fun c => mx m r c * x c + ((- mx m r k) % 10007) * (mx m d c * x c)) w % 10007 := dsum_cong fun c hc => by
      rw [elD_at hr (by omega) hc, if_neg e, mul_mod_l, Int.add_mul, Int.mul_assoc]
    rw [e1, dsum_lin, Int.add_emod, ← mul_mod_r (- mx m r k % 10007), hdd] at hh
    simpa using hh
theorem stepR_unNul {n w : Nat} {W0 : Mx} {m : List (List Int)} {d : Int} {done k : Nat} {x : Nat → Int} (g : GI n w W0 m done k) (hk : k < w) (hd : done < n) (h : Nul n w (stepR m d done k).1 x) : Nul n w m x := by
  have hl := g.len
  have fl := fndR_le m k (m.length - done) done
  unfold stepR at h
  by_cases e : fndR m k (m.length - done) done = m.length
  · rw [if_pos e] at h; exact h
  · rw [if_neg e] at h
    have s1 := swp_ok g.rws (i := fndR m k (m.length - done) done) (d := done) (by omega) (by omega)
    have l1 := swp_len m (fndR m k (m.length - done) done) done
    have t1 := scl_ok s1 (d := done) (k := k) (by omega)
    have fne := fndR_ne m k (m.length - done) done (by omega)
    have hp : mx (swp m (fndR m k (m.length - done) done) done) done k = mx m (fndR m k (m.length - done) done) k := by
      rw [swp_mx (by omega) (by omega), updR_at]
    have h2 := Nul.unelD h (by rw [scl_len, l1]; exact hl) t1 hd
    have h3 := Nul.unscl h2 (by omega) s1 hd (mx_N s1 (by omega) k) (by rw [hp]; exact fne)
    exact Nul.unswp h3 hl (by omega) hd
theorem redR_unNul {n w : Nat} {W0 : Mx} {x : Nat → Int} : ∀ (f k : Nat) (st : List (List Int) × Int × Nat), k + f = w → GI n w W0 st.1 st.2.2 k → Nul n w (redR f k st).1 x → Nul n w st.1 x
  | 0, k, st, hk, g, h => h
  | f + 1, k, st, hk, g, h => by
    rw [redR] at h
    have hl := g.len
    split at h
    · rename_i hlt
      exact stepR_unNul g (by omega) (by omega) (redR_unNul f (k + 1) _ (by omega) (stepR_GI g (by omega) (by omega)) h)
    · exact h
end Go.Proofs.YtoeikpioonlmfaaGreat


namespace Go.Proofs.YtoeikpioonlmfaaGreat
open Go.Abs
set_option linter.unusedSectionVars false
set_option linter.unusedVariables false
set_option linter.unusedSimpArgs false
set_option maxHeartbeats 1000000
end Go.Proofs.YtoeikpioonlmfaaGreat


namespace Go.Proofs.YtoeikpioonlmfaaGreat
open Go.Abs
set_option linter.unusedSectionVars false
set_option linter.unusedVariables false
set_option linter.unusedSimpArgs false
set_option maxHeartbeats 1000000
end Go.Proofs.YtoeikpioonlmfaaGreat


namespace Go.Proofs.YtoeikpioonlmfaaGreat
open Go.Abs
set_option linter.unusedSectionVars false
set_option linter.unusedVariables false
set_option linter.unusedSimpArgs false
set_option maxHeartbeats 4000000
end Go.Proofs.YtoeikpioonlmfaaGreat


namespace Go.Proofs.YtoeikpioonlmfaaGreat
open Go.Abs
set_option linter.unusedSectionVars false
set_option linter.unusedVariables false
set_option linter.unusedSimpArgs false
set_option maxHeartbeats 4000000
def unR (n i : Nat) : List Int := tb (fun c => if c = i then 1 else 0) n
theorem unR_set {n i : Nat} (h : i < n) : (List.replicate n (0 : Int)).set i 1 = unR n i := by
  refine List.ext_getElem (by simp [unR]) fun c h1 h2 => ?_
  rw [List.getElem_set]
  simp only [unR, tb, List.getElem_map, List.getElem_range]
  by_cases e : i = c
  · subst e; simp
  · rw [if_neg e, if_neg (fun x => e x.symm)]; simp
end Go.Proofs.YtoeikpioonlmfaaGreat


namespace Go.Proofs.YtoeikpioonlmfaaGreat
open Go.Abs
set_option linter.unusedSectionVars false
set_option linter.unusedVariables false
set_option linter.unusedSimpArgs false
set_option maxHeartbeats 1000000
theorem dsum_split (f : Nat → Int) (n : Nat) : ∀ m, dsum f (n + m) = dsum f n + dsum (fun j => f (n + j)) m
  | 0 => by simp [dsum]
  | m + 1 => by
    have : n + (m + 1) = (n + m) + 1 := rfl
    rw [this, dsum, dsum_split f n m, dsum]; omega
def catL (n : Nat) (a : List (List Int)) : List (List Int) := (List.range n).map fun i => a[i]?.getD [] ++ unR n i
theorem unR_get {n i c : Nat} (h : c < n) : (unR n i)[c]?.getD 0 = if c = i then 1 else 0 := tb_get _ h
theorem unR_len (n i : Nat) : (unR n i).length = n := by simp [unR]
theorem unR_N (n i : Nat) : Ns (unR n i) := tb_N fun k _ => by split <;> exact ⟨by omega, by omega⟩
theorem catL_row {n : Nat} {a : List (List Int)} {i : Nat} (h : i < n) : (catL n a)[i]?.getD [] = a[i]?.getD [] ++ unR n i := by simp [catL, h]
theorem catL_ok {n : Nat} {a : List (List Int)} (hl : a.length = n) (hr : Rws n a) : (catL n a).length = n ∧ Rws (n + n) (catL n a) := by
  refine ⟨by simp [catL], fun x hx => ?_⟩
  obtain ⟨i, h, rfl⟩ := List.mem_map.1 hx
  have q := hr.at (show i < a.length by have : i < n := by simpa using h
                                        omega)
  refine ⟨by rw [List.length_append, q.1, unR_len], fun y hy => ?_⟩
  rcases List.mem_append.1 hy with h | h
  · exact q.2 y h
  · exact unR_N n i y h
theorem catL_mx {n : Nat} {a : List (List Int)} (hl : a.length = n) (hr : Rws n a) {r : Nat} (h : r < n) : (∀ c, c < n → mx (catL n a) r c = mx a r c) ∧ ∀ c, c < n → mx (catL n a) r (n + c) = idM r c := by
  have q := (hr.at (i := r) (by omega)).1
  have e := catL_row (a := a) h
  refine ⟨fun c hc => ?_, fun c hc => ?_⟩
  · show ((catL n a)[r]?.getD [])[c]?.getD 0 = (a[r]?.getD [])[c]?.getD 0
    rw [e, List.getElem?_append_left (by omega)]
  · show ((catL n a)[r]?.getD [])[n + c]?.getD 0 = _
    rw [e, List.getElem?_append_right (by omega), q, Nat.add_sub_cancel_left, unR_get hc]
    unfold idM
    by_cases e : c = r
    · subst e; simp
    · rw [if_neg e, if_neg (fun x => e x.symm)]
theorem cat_full {n : Nat} {a : List (List Int)} (hn : 0 < n) (hl : a.length = n) (hr : Rws n a) : (redR (n + n) 0 (catL n a, 1, 0)).2.2 = n := by
  have wo := catL_ok hl hr
  have wm := fun r h => catL_mx hl hr (r := r) h
  obtain ⟨k', h1, h2, h3⟩ := redR_GI (n + n) 0 (catL n a, 1, 0) (by omega) (GI.start wo.1 wo.2)
  rcases h2 with h2 | h2
  · subst h2
    have hd := h3.dle
    rcases Nat.lt_or_ge (redR (n + n) 0 (catL n a, 1, 0)).2.2 n with hlt | hge
    · exfalso
      have low := h3.low (n - 1) (by omega) (by omega)
      obtain ⟨s, t, k1, k2⟩ := h3.eqv
      have k3 := k2 (fun c => n + c) (fun c hc => by show n + c < n + n; omega)
      have e1 : det n (sel (mx (catL n a)) (fun c => n + c)) = 1 :=
        (det_congr (M := sel (mx (catL n a)) (fun c => n + c)) (N := idM) (fun r c hr hc => (wm r hr).2 c hc)).trans (det_one n)
      have e2 : det n (sel (mx (redR (n + n) 0 (catL n a, 1, 0)).1) (fun c => n + c)) = 0 := by
        rw [det_congr (N := updR (sel (mx (redR (n + n) 0 (catL n a, 1, 0)).1) (fun c => n + c)) (n - 1) (fun _ => 0)) (fun r c hr hc => by
          unfold updR
          by_cases e : r = n - 1
          · subst e; rw [if_pos rfl]; exact low (n + c) (by omega)
          · rw [if_neg e])]
        exact det_nil _ (show n - 1 < n by omega) (fun c => by rw [updR_at])
      rw [e1, e2, Int.one_mul] at k3
      rw [← mul_mod_l, k3] at k1
      simp at k1
    · omega
  · exact h2
def bckL (n : Nat) (R : List (List Int)) : List (List Int) := R.map fun r => r.drop n
theorem bckL_row (n : Nat) (R : List (List Int)) (i : Nat) : (bckL n R)[i]?.getD [] = (R[i]?.getD []).drop n := by
  simp only [bckL, List.getElem?_map]
  cases R[i]? <;> simp
theorem bckL_mx (n : Nat) (R : List (List Int)) (r c : Nat) : mx (bckL n R) r c = mx R r (n + c) := by
  show ((bckL n R)[r]?.getD [])[c]?.getD 0 = (R[r]?.getD [])[n + c]?.getD 0
  rw [bckL_row, List.getElem?_drop]
theorem bckL_ok {n : Nat} {R : List (List Int)} (hl : R.length = n) (hr : Rws (n + n) R) : (bckL n R).length = n ∧ Rws n (bckL n R) := by
  refine ⟨by simp [bckL, hl], fun x hx => ?_⟩
  obtain ⟨r, h, rfl⟩ := List.mem_map.1 hx
  have q := hr r h
  exact ⟨by simp [q.1], fun y hy => q.2 y (List.mem_of_mem_drop hy)⟩
theorem cat_none {n : Nat} {a : List (List Int)} (hn : 0 < n) (hl : a.length = n) (hr : Rws n a) {j : Nat} (hj : j < n) (hld : n ≤ leadL ((redR (n + n) 0 (catL n a, 1, 0)).1[j]?.getD [])) : ldet n a = 0 := by
  have wo := catL_ok hl hr
  have wm := fun r h => catL_mx hl hr (r := r) h
  obtain ⟨k', h1, h2, h3⟩ := redR_GI (n + n) 0 (catL n a, 1, 0) (by omega) (GI.start wo.1 wo.2)
  have := h3.eqv.sing (by omega) hj (fun c hc => by
    have : mx (redR (n + n) 0 (catL n a, 1, 0)).1 j c = 0 := ldF_zero _ _ 0 c (Nat.zero_le _) (Nat.lt_of_lt_of_le hc hld)
    rw [this]; rfl)
  rw [ldet_is n a hl hr, ← this]
  exact congrArg (· % 10007) (det_congr fun r c h1 h2 => ((wm r h1).1 c h2).symm)
theorem GI.oneW {n w : Nat} {W0 : Mx} {m : List (List Int)} {k : Nat} (h : GI n w W0 m n k) (hn : 0 < n) (hw : n ≤ w) (hl : leadL (m[n - 1]?.getD []) < n) : ∀ r c, r < n → c < n → mx m r c = idM r c := by
  obtain ⟨p, p1, p2, p3⟩ := h.piv
  have rl := (h.rws.at (i := n - 1) (by rw [h.len]; omega)).1
  have hl2 : ldF (m[n - 1]?.getD []) (m[n - 1]?.getD []).length 0 < n := hl
  have hl3 : n ≤ (m[n - 1]?.getD []).length := by rw [rl]; exact hw
  have hne := ldF_ne (m[n - 1]?.getD []) (m[n - 1]?.getD []).length 0 (by rw [Nat.zero_add]; exact Nat.lt_of_lt_of_le hl2 hl3)
  have hp : p (n - 1) ≤ n - 1 := by
    rcases Nat.lt_or_ge (leadL (m[n - 1]?.getD [])) (p (n - 1)) with hlt | hge
    · exact (hne (p3 (n - 1) (by omega) _ hlt)).elim
    · omega
  intro r c hr hc
  have g1 := piv_ge p2 c hc
  have g2 := piv_le p2 (n - 1 - c) c (by omega)
  have e : p c = c := by omega
  have := (p1 c hc).2 r hr
  rw [e] at this
  exact this
theorem cat_some {n : Nat} {a : List (List Int)} (hn : 0 < n) (hl : a.length = n) (hr : Rws n a) (hld : leadL ((redR (n + n) 0 (catL n a, 1, 0)).1[n - 1]?.getD []) < n) :
    ldet n a ≠ 0 ∧ ∀ v : Nat → Int, ∀ r, r < n → dsum (fun c => mx a r c * dsum (fun k => mx (bckL n (redR (n + n) 0 (catL n a, 1, 0)).1) c k * v k) n) n % 10007 = v r % 10007 := by
  have wo := catL_ok hl hr
  have wm := fun r h => catL_mx hl hr (r := r) h
  have cf := cat_full hn hl hr
  obtain ⟨k', h1, h2, h3⟩ := redR_GI (n + n) 0 (catL n a, 1, 0) (by omega) (GI.start wo.1 wo.2)
  have h3' := h3
  rw [cf] at h3'
  have hid := h3'.oneW hn (by omega) hld
  have wid := fun x => redR_unNul (x := x) (n + n) 0 (catL n a, 1, 0) (by omega) (GI.start wo.1 wo.2)
  generalize (redR (n + n) 0 (catL n a, 1, 0)).1 = R at *
  refine ⟨fun h0 => ?_, fun v r hrn => ?_⟩
  · obtain ⟨s, t, k1, k2⟩ := h3'.eqv
    have k3 := k2 id (fun c hc => by show c < n + n; omega)
    have e : ∀ X : Mx, sel X id = X := fun X => rfl
    rw [e, e, det_congr (N := mx a) (fun r c h1 h2 => (wm r h1).1 c h2), det_congr (N := idM) hid, det_one, ← mul_mod_l, ← ldet_is n a hl hr, h0] at k3
    simp at k3
  · have nr : Nul n (n + n) R (fun c => if c < n then dsum (fun k => mx (bckL n R) c k * v k) n else - v (c - n)) := fun k hk => by
      rw [dsum_split]
      have e1 : dsum (fun c => mx R k c * (if c < n then dsum (fun k => mx (bckL n R) c k * v k) n else - v (c - n))) n = dsum (fun j => mx (bckL n R) k j * v j) n := by
        rw [dsum_congr (g := fun c => idM k c * dsum (fun j => mx (bckL n R) c j * v j) n) (fun c hc => by rw [if_pos hc, hid k c hk hc]), dsum_id hk]
      have e2 : dsum (fun j => mx R k (n + j) * (if n + j < n then dsum (fun k => mx (bckL n R) (n + j) k * v k) n else - v (n + j - n))) n = (-1) * dsum (fun j => mx (bckL n R) k j * v j) n := by
        rw [dsum_mul]
        exact dsum_congr fun j hj => by
          rw [if_neg (by omega), Nat.add_sub_cancel_left, bckL_mx, Int.mul_neg]; omega
      rw [e1, e2]
      generalize dsum (fun j => mx (bckL n R) k j * v j) n = z
      have : z + -1 * z = 0 := by omega
      rw [this]; rfl
    have nu := wid _ nr r hrn
    rw [dsum_split] at nu
    have e1 : dsum (fun c => mx (catL n a) r c * (if c < n then dsum (fun k => mx (bckL n R) c k * v k) n else - v (c - n))) n = dsum (fun c => mx a r c * dsum (fun k => mx (bckL n R) c k * v k) n) n :=
      dsum_congr fun c hc => by rw [if_pos hc, (wm r hrn).1 c hc]
    have e2 : dsum (fun j => mx (catL n a) r (n + j) * (if n + j < n then dsum (fun k => mx (bckL n R) (n + j) k * v k) n else - v (n + j - n))) n = - v r := by
      rw [dsum_congr (g := fun j => idM r j * - v j) (fun j hj => by rw [if_neg (by omega), Nat.add_sub_cancel_left, (wm r hrn).2 j hj]), dsum_id hrn]
    rw [e1, e2] at nu
    generalize dsum (fun c => mx a r c * dsum (fun k => mx (bckL n R) c k * v k) n) n = z at *
    omega
end Go.Proofs.YtoeikpioonlmfaaGreat


namespace Go.Proofs.YtoeikpioonlmfaaGreat
open Go.Abs
set_option linter.unusedSectionVars false
set_option linter.unusedVariables false
set_option linter.unusedSimpArgs false
set_option maxHeartbeats 1000000
end Go.Proofs.YtoeikpioonlmfaaGreat


namespace Go.Proofs.YtoeikpioonlmfaaGreat
open Go.Abs
set_option linter.unusedSectionVars false
set_option linter.unusedVariables false
set_option linter.unusedSimpArgs false
set_option maxHeartbeats 4000000
theorem flL_two (a b : List Int) : flL [a, b] 2 = a ++ b := by simp [flL]
theorem omat_cat_succ (n : Nat) (a : List (List Int)) (i : Nat) (h : (a[i]?.getD []).length = n) : omat ((List.range (i + 1)).map fun i => a[i]?.getD [] ++ unR n i) = omat ((List.range i).map fun i => a[i]?.getD [] ++ unR n i) ++ [.own 2 (n + n) (avs (a[i]?.getD [] ++ unR n i))] := by
  have := omat_range_succ (fun i => a[i]?.getD [] ++ unR n i) i
  rw [List.length_append, h, unR_len] at this
  exact this
set_option maxRecDepth 100000 in
theorem inverse_w {n : Nat} (a : List (List Int)) (h0 : 0 < n) (hl : a.length = n) (hn : n ≤ 100) (hr : Rws n a) {R : List (List Int)} {dt : Int} (x : AV)
    (hst : redR (n + n) 0 (catL n a, 1, 0) = (R, dt, n)) (gl : R.length = n) (gr : Rws (n + n) R) (hf : freshOK x = true)
    (hA : leadL (R[n - 1]?.getD []) < n → x = .tup [.own 35 n (omat (bckL n R)), .bool true])
    (hB : ∀ j, j < n → n ≤ leadL (R[j]?.getD []) → x = .tup [.val (.slice none 0 0), .bool false]) :
    Con Tryz.prog 83 [.sl a.length (mat a)] x := by
  have wo := catL_ok (n := n) (a := a) hl hr
  have cR := reduce_c (w := n + n) (catL n a) (by omega) (by omega) (by omega) wo.2
  have hw : catL n a = (List.range n).map fun i => a[i]?.getD [] ++ unR n i := rfl
  have ne : ¬ a = [] := by rintro rfl; simp at hl; omega
  rw [wo.1, hst] at cR
  simp only at cR
  have ht : R.take n = R := List.take_of_length_le (by omega)
  rw [ht] at cR
  have rp := avs_repl n 0
  refine con_of_vc Tryz.mixed ⟨13, [36], [1000000 + 152], []⟩ Tryz.func83 (by decide) rfl (by simp) (by decide) hf ?_
  rw [Tryz.ntmps83]
  simp [go_sem]
  refine loop_inv ([4, 5, 6, 7] ++ List.range' 16 19) (fun i : Nat => [(4, .own 35 i (omat ((List.range i).map fun i => a[i]?.getD [] ++ unR n i))), (16, .int i)]) (fun i => i ≤ n) (fun i => n - i) 0 (by simp) (by simp [go_sem, omat]) (by simp [go_sem]) ?_
  intro i hi
  by_cases hin : i < n
  · have hii : (i : Int) < a.length := by omega
    have hia : i < a.length := by omega
    have ri := (hr.at hia).1
    have cC := Concat_c [a[i]?.getD [], unR n i] (by show 0 < (flL [_, _] 2).length; rw [flL_two, List.length_append, unR_len]; omega) (by show (flL [_, _] 2).length ≤ _; rw [flL_two, List.length_append, unR_len]; omega) (by simp)
    have cl2 : [a[i]?.getD [], unR n i].length = 2 := rfl
    rw [cl2, flL_two, List.length_append, unR_len, ri] at cC
    have ho := omat_cat_succ n a i ri
    have rs := unR_set hin
    have mm : mat [a[i]?.getD [], unR n i] = [.sl n (avs (a[i]?.getD [])), .sl n (avs (unR n i))] := by simp [mat, ri, unR_len]
    rw [mm] at cC
    have hrw : a[i]'hia = a[i]?.getD [] := by simp [hia]
    generalize hrow : a[i]?.getD [] = row at *
    simp [go_sem, hii, mat_drop hia, hrow, hrw, hl, ri, hin, rp, avs_set, rs]
    refine ⟨ne, ⟨by omega, by omega⟩, ?_⟩
    refine CallVC.of (cC) (by decide) ?_
    simp [go_sem]
    exact ⟨⟨by omega, by omega⟩, ⟨by omega, by omega⟩, i + 1, by omega, by omega, Off_reset _ _ _ (by simp), by rw [ho]; exact ⟨rfl, rfl⟩, by omega⟩
  · have e : i = n := by omega
    subst e
    have hii : ¬ (i : Int) < a.length := by omega
    rw [← hw]
    simp [go_sem, hii]
    refine ⟨_, _, cR, ?_⟩
    simp [go_sem]
    refine loop_inv ([2, 3, 10, 12] ++ List.range' 43 18) (fun j : Nat => [(10, .own 35 j (omat (bckL i (R.take j)))), (43, .int j)]) (fun j => j ≤ i ∧ ∀ t, t < j → leadL (R[t]?.getD []) < i) (fun j => i - j) 0 ⟨by omega, fun t ht => by omega⟩ (by simp [go_sem, bckL, omat]) (by simp [go_sem]) ?_
    rintro j ⟨hj, hp⟩
    by_cases hjn : j < i
    · have hji : (j : Int) < i := by omega
      have hR1 := rmat_get (A := R) (k := j) (by omega)
      have rr := gr.at (show j < R.length by omega)
      have hL := leadL_c (R[j]?.getD []) (by omega)
      have hne : ¬ R = [] := by rintro rfl; simp at gl; omega
      have hj2 : j < R.length := by omega
      have ha0 : a.length = i := hl
      have dc : Con Tryz.prog 117 [.sl ((R[j]?.getD []).drop i).length (avs ((R[j]?.getD []).drop i))] (.own 2 ((R[j]?.getD []).drop i).length (avs ((R[j]?.getD []).drop i))) := Clone_c _ (by rw [List.length_drop]; omega)
      have dl : ((R[j]?.getD []).drop i).length = i := by rw [List.length_drop, rr.1]; omega
      rw [dl] at dc
      by_cases hld : leadL (R[j]?.getD []) < i
      · have hld2 : ¬ i ≤ leadL (R[j]?.getD []) := by omega
        generalize hrow : R[j]?.getD [] = row at *
        have dl2 : row.length - i = i := by omega
        have dl3 : i ≤ row.length := by omega
        have hsl : List.take i (List.drop i (avs row)) = avs (row.drop i) := by
          rw [List.take_of_length_le (by simp [avs]; omega)]
          simp [avs, List.map_drop]
        have bt : bckL i (R.take (j + 1)) = bckL i (R.take j) ++ [row.drop i] := by
          unfold bckL
          rw [List.take_add_one, List.map_append, List.getElem?_eq_getElem hj2]
          rw [List.getElem?_eq_getElem hj2] at hrow
          simp at hrow
          simp [hrow]
        have ob : omat (bckL i (R.take (j + 1))) = omat (bckL i (R.take j)) ++ [.own 2 i (avs (row.drop i))] := by
          rw [bt]
          unfold omat
          rw [List.map_append]
          simp [dl2]
        simp [go_sem, hji, hR1]
        refine CallVC.of (hL) (by decide) ?_
        simp [go_sem]
        have bl : (bckL i (R.take j)).length = j := by simp [bckL, gl]; omega
        simp [go_sem, ha0, hld2, dl2, hsl]
        refine ⟨dl3, ?_⟩
        refine CallVC.of (dc) (by decide) ?_
        simp [go_sem]
        exact ⟨⟨by omega, by omega⟩, ⟨by omega, by omega⟩, j + 1, ⟨by omega, fun t ht => by rcases Nat.lt_or_ge t j with h | h; exact hp t h; obtain rfl : t = j := (by omega); rw [hrow]; exact hld⟩, by omega, Off_reset _ _ _ (by simp), by rw [ob]; exact ⟨rfl, rfl⟩, by omega⟩
      · have hx := hB j hjn (by omega)
        have hld2 : i ≤ leadL (R[j]?.getD []) := by omega
        subst hx
        generalize hrow : R[j]?.getD [] = row at *
        simp [go_sem, hji, hR1]
        refine CallVC.of (hL) (by decide) ?_
        simp [go_sem]
        simp [go_sem, ha0, hld2]
    · have e : j = i := by omega
      subst e
      have hji : ¬ (j : Int) < j := by omega
      have hx := hA (hp (j - 1) (by omega))
      have htk : R.take j = R := List.take_of_length_le (by omega)
      have ha0 : a.length = j := hl
      subst hx
      simp [go_sem, hji, htk, ha0]
def invL (n : Nat) (a : List (List Int)) : List (List Int) := bckL n (redR (n + n) 0 (catL n a, 1, 0)).1
def invB (n : Nat) (a : List (List Int)) : Bool := decide (leadL ((redR (n + n) 0 (catL n a, 1, 0)).1[n - 1]?.getD []) < n)
theorem invB_is {n : Nat} {a : List (List Int)} (h0 : 0 < n) (hl : a.length = n) (hr : Rws n a) : invB n a = decide (ldet n a ≠ 0) := by
  unfold invB
  by_cases h : leadL ((redR (n + n) 0 (catL n a, 1, 0)).1[n - 1]?.getD []) < n
  · have := (cat_some h0 hl hr h).1
    simp [h, this]
  · have := cat_none h0 hl hr (j := n - 1) (by omega) (by omega)
    simp [h, this]
theorem inverseOf_c {n : Nat} (a : List (List Int)) (h0 : 0 < n) (hl : a.length = n) (hn : n ≤ 100) (hr : Rws n a) :
    Con Tryz.prog 83 [.sl a.length (mat a)] (if invB n a = true then .tup [.own 35 n (omat (invL n a)), .bool true] else .tup [.val (.slice none 0 0), .bool false]) := by
  have wo := catL_ok (n := n) (a := a) hl hr
  have cf := cat_full h0 hl hr
  have cN : ∀ j, j < n → n ≤ leadL ((redR (n + n) 0 (catL n a, 1, 0)).1[j]?.getD []) → ldet n a = 0 := fun j hj => cat_none h0 hl hr hj
  have iB := invB_is h0 hl hr
  obtain ⟨k', g1, g2, g3⟩ := redR_GI (n + n) 0 (catL n a, 1, 0) (by omega) (GI.start wo.1 wo.2)
  have gl := g3.len
  have gr := g3.rws
  clear g3 g1 g2
  unfold invL
  have iB2 : invB n a = decide (leadL ((redR (n + n) 0 (catL n a, 1, 0)).1[n - 1]?.getD []) < n) := rfl
  generalize hst : redR (n + n) 0 (catL n a, 1, 0) = st at *
  obtain ⟨R, dt, dn⟩ := st
  simp only at cf cN gl gr iB2
  subst cf
  refine inverse_w a h0 hl hn hr _ hst gl gr (by split <;> simp [freshOK, freshL]) (fun h => ?_) (fun j hj h => ?_)
  · rw [iB2, decide_eq_true h]; rfl
  · rw [iB, if_neg (by simp [cN j hj h])]
end Go.Proofs.YtoeikpioonlmfaaGreat


namespace Go.Proofs.YtoeikpioonlmfaaGreat
open Go.Abs
set_option linter.unusedSectionVars false
set_option linter.unusedVariables false
set_option linter.unusedSimpArgs false
set_option maxHeartbeats 1000000
theorem invL_ok {n : Nat} {a : List (List Int)} (h0 : 0 < n) (hl : a.length = n) (hr : Rws n a) : (invL n a).length = n ∧ Rws n (invL n a) := by
  have wo := catL_ok (n := n) (a := a) hl hr
  obtain ⟨k', g1, g2, g3⟩ := redR_GI (n + n) 0 (catL n a, 1, 0) (by omega) (GI.start wo.1 wo.2)
  exact bckL_ok g3.len g3.rws
theorem inv_InvR {n : Nat} {a : List (List Int)} (h0 : 0 < n) (hl : a.length = n) (hr : Rws n a) (hd : ldet n a ≠ 0) : InvR n a (invL n a) := by
  have h := invB_is h0 hl hr
  rw [decide_eq_true hd] at h
  unfold invB at h
  exact fun v r hr2 => (cat_some h0 hl hr (by simpa using h)).2 v r hr2
theorem inv_sys {n : Nat} {a : List (List Int)} (h0 : 0 < n) (hl : a.length = n) (hr : Rws n a) (hd : ldet n a ≠ 0) {i k : Nat} (hi : i < n) (hk : k < n) : sysF n a (unR n k) i = mx (invL n a) i k := by
  have hI := inv_InvR h0 hl hr hd
  have hs := solve_uniq h0 hl hr (unR_N n k) hd (e := fun c => mx (invL n a) c k) (fun r hrn => by
    have h1 := hI (fun j => if j = k then 1 else 0) r hrn
    rw [unR_get hrn]
    have h2 : dsum (fun c => mx a r c * dsum (fun j => mx (invL n a) c j * if j = k then 1 else 0) n) n = dsum (fun c => mx a r c * mx (invL n a) c k) n := dsum_congr fun c hc => by
      rw [dsum_one hk (fun x _ hx => by rw [if_neg hx, Int.mul_zero]), if_pos rfl, Int.mul_one]
    rw [h2] at h1
    exact h1) i hi
  have ok := (invL_ok h0 hl hr).2.at (show i < (invL n a).length by rw [(invL_ok h0 hl hr).1]; exact hi)
  have hN : isN (mx (invL n a) i k) := ok.2.get k
  unfold sysF
  rw [hs]
  obtain ⟨a1, a2⟩ := hN
  exact Int.emod_eq_of_lt a1 (by omega)
def tfE (z : Int) (f : List (List Mon)) (m : List (List Int)) : Int := if fieldB z f = true then if sqB z m = true then if ldet m.length m = 0 then 5 else 0 else 1 else 1
def tfX (z : Int) (f : List (List Mon)) (m : List (List Int)) : List (List Mon) := if tfE z f m = 0 then trF m.length m f (invL m.length m) else []
def tfR (z : Int) (f : List (List Mon)) (m : List (List Int)) : AV := .tup [.agg [.int (if tfE z f m = 0 then z else 0), .own 92 (tfX z f m).length (oprt (tfX z f m))], .int (tfE z f m)]
theorem tfE_ok {z : Int} {f : List (List Mon)} {m : List (List Int)} (h : tfE z f m = 0) : fieldB z f = true ∧ sqB z m = true ∧ ldet m.length m ≠ 0 := by
  unfold tfE at h
  split at h
  · split at h
    · split at h
      · omega
      · exact ⟨by assumption, by assumption, by assumption⟩
    · omega
  · omega
structure TfOk (z : Int) (f : List (List Mon)) (m : List (List Int)) : Prop where
  hF : FieldOk z f
  n1 : 1 ≤ m.length
  n3 : m.length ≤ 3
  zm : (m.length : Int) = z
  fl : f.length = m.length
  hr : Rws m.length m
theorem TfOk.of {z : Int} {f : List (List Mon)} {m : List (List Int)} (h1 : fieldB z f = true) (h2 : sqB z m = true) : TfOk z f m := by
  have hF := fieldB_iff.1 h1
  obtain ⟨a, b, c⟩ := sqB_iff.1 h2
  have := hF.lo
  have := hF.hi
  have := hF.len
  exact ⟨hF, by omega, by omega, b, by omega, fun r hr => ⟨by have := (c r hr).1; omega, (c r hr).2⟩⟩
section
variable {z : Int} {f : List (List Mon)} {m : List (List Int)}
theorem TfOk.vok (h : TfOk z f m) : ∀ p ∈ f, ∀ a ∈ p, VOk m.length a := fun p hp a ha => by
  have := (partB_mem (h.hF.part p hp) ha)
  rw [← h.zm] at this
  exact this.vok
theorem TfOk.line (h : TfOk z f m) (i : Nat) (hi : i < m.length) : Rlt m.length 1 ((m.map fun r => polF (linL r))[i]?.getD mzero) ((linF m)[i]?.getD []) := by
  have q := h.hr.at hi
  rw [linF_get hi]
  have e : (m.map fun r => polF (linL r))[i]?.getD mzero = polF (linL (m[i]?.getD [])) := by simp [hi]
  rw [e]
  have := Rlt.line h.n3 q.1 q.2
  rw [q.1]; exact this
theorem TfOk.rows (h : TfOk z f m) (row : List Int) (k : Nat) (hk : k ≤ m.length) : Rlt m.length 9 (rwM (m.map fun r => polF (linL r)) f row k) (rwQ m.length (linF m) f row k) ∧ Srt (rwQ m.length (linF m) f row k) ∧ Nzl (rwQ m.length (linF m) f row k) :=
  ⟨Rlt.rows h.n3 (by simp) (linF_len m) h.line h.vok row k (by rw [h.fl]; exact hk), rwQ_srt h.n3 (by simp) (linF_len m) h.line h.vok row k (by rw [h.fl]; exact hk)⟩
theorem degB_of {z : Int} {p : List Mon} (h : partB z p = true) : ∀ a ∈ p, degL a.2 0 ≤ 3 := by
  have h2 := partB_deg (fun m hm => (partB_mem h hm).len) (partSrt h).1 (partSrt h).2
  rw [h] at h2
  exact fun a ha => by simpa using List.all_eq_true.1 h2.symm a ha
theorem linF_len3 (h : TfOk z f m) (i : Nat) : ((linF m)[i]?.getD []).length ≤ 3 := by
  rcases Nat.lt_or_ge i m.length with hi | hi
  · rw [linF_get hi]
    have q := h.hr.at hi
    have ok := linK_ok q.1 q.2 (m[i]?.getD []).length (by rw [q.1]; exact Nat.le_refl _)
    have := h.n3
    omega
  · have : (linF m)[i]?.getD [] = [] := by simp [linF, hi]
    rw [this]; simp
theorem TfOk.mv_len (h : TfOk z f m) {k : Nat} (hk : k < f.length) : (mvL m.length (linF m) (f[k]?.getD [])).length ≤ 540 := by
  have hp := h.hF.part _ (memD [] hk)
  have hd := degB_of (p := f[k]?.getD []) hp
  have h1 := mvL_len (z := z) (n := m.length) (linF_len3 h) (linF_len m) (p := f[k]?.getD []) (fun a ha => ⟨partB_mem hp ha, hd a ha, by have := (partB_mem hp ha).len; have := h.zm; omega⟩)
  have h2 := part20 h.hF.hi hp
  omega
theorem TfOk.rw_len (h : TfOk z f m) (row : List Int) : ∀ k, k ≤ f.length → (rwQ m.length (linF m) f row k).length ≤ 540 * k
  | 0, _ => by simp [rwQ]
  | k + 1, hk => by
    have h1 := TfOk.rw_len h row k (by omega)
    have h2 := h.mv_len (show k < f.length by omega)
    have h3 := plusL_len (row[k]?.getD 0) (mvL m.length (linF m) (f[k]?.getD [])) (rwQ m.length (linF m) f row k)
    rw [rwQ]
    omega
theorem TfOk.tiny (h : TfOk z f m) (B : List (List Int)) : Tiny (trF m.length m f B) := by
  have n3 := h.n3
  refine ⟨by simp; omega, fun p hp => ?_⟩
  obtain ⟨i, hi, rfl⟩ := List.mem_map.1 hp
  have h1 := h.rw_len (B[i]?.getD []) f.length (Nat.le_refl _)
  have h2 := (h.rows (B[i]?.getD []) m.length (Nat.le_refl _)).1.wok
  rw [h.fl] at h1
  exact ⟨by omega, fun a ha => by have := (h2 a ha).len; omega⟩
end
theorem tfX_tiny (z : Int) (f : List (List Mon)) (m : List (List Int)) : Tiny (tfX z f m) := by
  unfold tfX
  split
  · rename_i h
    obtain ⟨h1, h2, h3⟩ := tfE_ok h
    exact (TfOk.of h1 h2).tiny _
  · exact ⟨by simp, by simp⟩
end Go.Proofs.YtoeikpioonlmfaaGreat


namespace Go.Proofs.YtoeikpioonlmfaaGreat
open Go.Abs
set_option linter.unusedSectionVars false
set_option linter.unusedVariables false
set_option linter.unusedSimpArgs false
set_option maxHeartbeats 2000000
theorem chN_ok {Q : List (Key → Option Int)} {e : Key × Int} (he : isN e.2 ∧ ∀ i, 0 ≤ at3 i e.1 ∧ at3 i e.1 ≤ 3) (hM : ∀ i : Nat, i < Q.length → Mok 1 (Q[i]?.getD mzero)) : ∀ i : Nat, i ≤ Q.length → Mok (3 * (i : Int)) (chN Q e i)
  | 0, _ => Mok.one he.1
  | i + 1, hi => by
    have h := he.2 i
    exact (stN_ok (chN_ok he hM i (by omega)) (hM i (by omega)) _).le (by omega)
theorem foldl_mid {Q : List (Key → Option Int)} (o : Key → Option Int) (l1 l2 : List (Key × Int)) (e : Key × Int) :
    (l1 ++ e :: l2).foldl (fun o e => addM o (chN Q e Q.length) 1) o = (l1 ++ l2).foldl (fun o e => addM o (chN Q e Q.length) 1) (addM o (chN Q e Q.length) 1) := by
  have h : (l1 ++ e :: l2).Perm (e :: (l1 ++ l2)) := List.perm_middle
  rw [h.foldl_eq' (fun x _ y _ z => addM_swap z _ _) o]
  rfl
set_option maxRecDepth 100000 in
theorem substituted_c (c : Key → Option Int) (es0 : List (Key × Int)) (Q : List (Key → Option Int)) (hE : Enum c es0) (hc : ∀ e ∈ es0, isN e.2 ∧ ∀ i, 0 ≤ at3 i e.1 ∧ at3 i e.1 ≤ 3) (hQ : Q.length ≤ 3) (hM : ∀ i : Nat, i < Q.length → Mok 1 (Q[i]?.getD mzero)) :
    Con Tryz.prog 85 [.fmp c, .sl Q.length (Q.map AV.fmp)] (.mp (sbF Q es0)) := by
  refine con_of_vc Tryz.mixed ⟨11, [41], [62], []⟩ Tryz.func85 (by decide) rfl (by simp) (by decide) (by simp [freshOK, freshL, go_sem]) ?_
  rw [Tryz.ntmps85]
  simp [go_sem]
  intro es hes
  refine loop_inv (List.range' 5 6 ++ List.range' 13 30) (fun x : (Key → Option Int) × Option (Key × Int) × List (Key × Int) => [(5, .mp x.1), (13, .it x.2.1 x.2.2)]) (fun x => x.2.2.foldl (fun o e => addM o (chN Q e Q.length) 1) x.1 = sbF Q es0 ∧ (∀ e ∈ x.2.2, isN e.2 ∧ ∀ i, 0 ≤ at3 i e.1 ∧ at3 i e.1 ≤ 3) ∧ Mok 9 x.1) (fun x => x.2.2.length) (mzero, none, es) ⟨sbF_perm Q (enum_unique hes hE), fun e he => hc e ((enum_unique hes hE).mem_iff.1 he), Mok.zero 9⟩ (by simp [go_sem]) (by simp [go_sem]) ?_
  rintro ⟨o, l, rem⟩ ⟨h1, h2, h3⟩
  simp only at h1 h2 h3
  simp [go_sem, keyAV]
  refine ⟨fun hr => ?_, fun l1 k0 k1 k2 x l2 hr => ?_⟩
  · subst hr
    exact h1
  · subst hr
    have he := h2 ((k0, k1, k2), x) (by simp)
    have ok := fun i hi => chN_ok he hM i hi
    have g0 := he.2 0
    have g1 := he.2 1
    have g2 := he.2 2
    refine loop_inv (8 :: 9 :: 10 :: List.range' 25 15) (fun i : Nat => [(8, .mp (chN Q ((k0, k1, k2), x) i)), (25, .int i)]) (fun i => i ≤ Q.length) (fun i => Q.length - i) 0 (by simp) (by simp [go_sem, chN]) (by simp [go_sem]) ?_
    intro i hi
    by_cases hiQ : i < Q.length
    · have hii : (i : Int) < Q.length := by omega
      have ne : ¬ Q = [] := by rintro rfl; simp at hiQ
      have fd := fmps_drop hiQ
      have hm := hM i hiQ
      have okc := ok i (by omega)
      have eC : chN Q ((k0, k1, k2), x) (i + 1) = stN (Q[i]?.getD mzero) (chN Q ((k0, k1, k2), x) i) (at3 i (k0, k1, k2)).toNat := rfl
      have i3 : i = 0 ∨ i = 1 ∨ i = 2 := by omega
      have gi := he.2 i
      generalize hq : Q[i]?.getD mzero = q at *
      generalize hC : chN Q ((k0, k1, k2), x) i = C at *
      have key : ∀ k : Nat, at3 i (k0, k1, k2) = k → chN Q ((k0, k1, k2), x) (i + 1) = stN q C k := fun k hk => by rw [eC, hk]; rfl
      rcases i3 with rfl | rfl | rfl
      · have hkk : ∃ n : Nat, k0 = n := ⟨k0.toNat, by have := gi.1; simp only [at3] at this; simp at this; omega⟩
        obtain ⟨n, rfl⟩ := hkk
        have hn := key n rfl
        have n3 : (n : Int) ≤ 3 := by have := gi.2; simp only [at3] at this; simp at this; omega
        simp [go_sem, fd, hiQ]
        refine ⟨ne, ?_⟩
        refine loop_inv (8 :: List.range' 33 6) (fun k : Nat => [(8, .mp (stN q C k)), (33, .int k)]) (fun k => k ≤ n) (fun k => n - k) 0 (by simp) (by simp [go_sem, stN]) (by simp [go_sem]) ?_
        intro k hk
        have mk := stN_ok okc hm k
        have cP := product_c (enE_is mk.en) (enE_is hm.en) (mk.eok (by have := gi.2; simp only [at3] at this; simp at this; omega)) (hm.eok (by omega))
        have e1 : stN q C (k + 1) = mapT (prT (enE (stN q C k)) (enE q)) := rfl
        rw [← e1] at cP
        generalize hk1 : stN q C (k + 1) = C1 at *
        simp [go_sem]
        refine ⟨fun h => ?_, fun h => ?_⟩ <;> simp at h
        · simp [go_sem]
          refine CallVC.of (cP) (by decide) ?_
          simp [go_sem]
          exact ⟨⟨by omega, by omega⟩, k + 1, by omega, by omega, Off_reset _ _ _ (by simp), hk1.symm, by omega⟩
        · have e : k = n := by omega
          subst e
          simp [go_sem]
          exact ⟨1, by omega, by omega, (Off.reset (by intro x hx; simp at hx ⊢; omega) (by simp) (by simp [go_sem, Off_reset])), hn.symm, by simp⟩
      · have hkk : ∃ n : Nat, k1 = n := ⟨k1.toNat, by have := gi.1; simp only [at3] at this; simp at this; omega⟩
        obtain ⟨n, rfl⟩ := hkk
        have hn := key n rfl
        have n3 : (n : Int) ≤ 3 := by have := gi.2; simp only [at3] at this; simp at this; omega
        have hi1 : (1 : Int) < Q.length := by omega
        simp [go_sem, fd, hi1]
        refine ⟨ne, ?_⟩
        refine loop_inv (8 :: List.range' 33 6) (fun k : Nat => [(8, .mp (stN q C k)), (33, .int k)]) (fun k => k ≤ n) (fun k => n - k) 0 (by simp) (by simp [go_sem, stN]) (by simp [go_sem]) ?_
        intro k hk
        have mk := stN_ok okc hm k
        have cP := product_c (enE_is mk.en) (enE_is hm.en) (mk.eok (by have := gi.2; simp only [at3] at this; simp at this; omega)) (hm.eok (by omega))
        have e1 : stN q C (k + 1) = mapT (prT (enE (stN q C k)) (enE q)) := rfl
        rw [← e1] at cP
        generalize hk1 : stN q C (k + 1) = C1 at *
        simp [go_sem]
        refine ⟨fun h => ?_, fun h => ?_⟩ <;> simp at h
        · simp [go_sem]
          refine CallVC.of (cP) (by decide) ?_
          simp [go_sem]
          exact ⟨⟨by omega, by omega⟩, k + 1, by omega, by omega, Off_reset _ _ _ (by simp), hk1.symm, by omega⟩
        · have e : k = n := by omega
          subst e
          simp [go_sem]
          exact ⟨2, by omega, by omega, (Off.reset (by intro x hx; simp at hx ⊢; omega) (by simp) (by simp [go_sem, Off_reset])), hn.symm, by simp⟩
      · have hkk : ∃ n : Nat, k2 = n := ⟨k2.toNat, by have := gi.1; simp only [at3] at this; simp at this; omega⟩
        obtain ⟨n, rfl⟩ := hkk
        have hn := key n rfl
        have n3 : (n : Int) ≤ 3 := by have := gi.2; simp only [at3] at this; simp at this; omega
        have hi2 : (2 : Int) < Q.length := by omega
        simp [go_sem, fd, hi2]
        refine ⟨ne, ?_⟩
        refine loop_inv (8 :: List.range' 33 6) (fun k : Nat => [(8, .mp (stN q C k)), (33, .int k)]) (fun k => k ≤ n) (fun k => n - k) 0 (by simp) (by simp [go_sem, stN]) (by simp [go_sem]) ?_
        intro k hk
        have mk := stN_ok okc hm k
        have cP := product_c (enE_is mk.en) (enE_is hm.en) (mk.eok (by have := gi.2; simp only [at3] at this; simp at this; omega)) (hm.eok (by omega))
        have e1 : stN q C (k + 1) = mapT (prT (enE (stN q C k)) (enE q)) := rfl
        rw [← e1] at cP
        generalize hk1 : stN q C (k + 1) = C1 at *
        simp [go_sem]
        refine ⟨fun h => ?_, fun h => ?_⟩ <;> simp at h
        · simp [go_sem]
          refine CallVC.of (cP) (by decide) ?_
          simp [go_sem]
          exact ⟨⟨by omega, by omega⟩, k + 1, by omega, by omega, Off_reset _ _ _ (by simp), hk1.symm, by omega⟩
        · have e : k = n := by omega
          subst e
          simp [go_sem]
          exact ⟨3, by omega, by omega, (Off.reset (by intro x hx; simp at hx ⊢; omega) (by simp) (by simp [go_sem, Off_reset])), hn.symm, by simp⟩
    · have e : i = Q.length := by omega
      subst e
      have cA := add_c o (chN Q ((k0, k1, k2), x) Q.length) 1 h3.mapN (ok _ (Nat.le_refl _)).mapN ⟨by omega, by omega⟩
      simp [go_sem]
      refine ⟨_, _, cA, ?_⟩
      simp [go_sem]
      have hf := foldl_mid (Q := Q) o l1 l2 ((k0, k1, k2), x)
      rw [hf] at h1
      exact ⟨_, _, l1 ++ l2, ⟨h1, fun a b c d he => h2 ((a, b, c), d) (by rcases List.mem_append.1 he with h | h <;> simp [h]), h3.add ((ok _ (Nat.le_refl _)).le (by omega))⟩, by simp, (Off.reset (by intro x hx; simp at hx ⊢; omega) (by simp) (by simp [go_sem, Off_reset])), rfl, rfl, rfl⟩
end Go.Proofs.YtoeikpioonlmfaaGreat


namespace Go.Proofs.YtoeikpioonlmfaaGreat
open Go.Abs
set_option linter.unusedSectionVars false
set_option linter.unusedVariables false
set_option linter.unusedSimpArgs false
set_option maxHeartbeats 2000000
def plcL (m : List (List Int)) (i : Nat) : List AV := (m.take i).map fun r => AV.mp (polF (linL r))
theorem plcL_snoc {m : List (List Int)} {i : Nat} (h : i < m.length) : plcL m (i + 1) = plcL m i ++ [.mp (polF (linL (m[i]?.getD [])))] := by
  unfold plcL
  rw [List.take_add_one, List.map_append]; simp [h]
theorem plcL_all (m : List (List Int)) : frzL (plcL m m.length) = m.map (AV.fmp ∘ fun r => polF (linL r)) := by
  unfold plcL
  rw [List.take_length]
  have := mps_frz (m.map fun r => polF (linL r))
  rw [List.map_map, List.map_map] at this
  exact this
noncomputable def sumQ (m : List (List Int)) (f : List (List Mon)) (B : List (List Int)) (i : Nat) : List (Key → Option Int) := (List.range i).map fun j => rwM (m.map fun r => polF (linL r)) f (B[j]?.getD []) f.length
@[simp] theorem sumQ_len (m : List (List Int)) (f : List (List Mon)) (B : List (List Int)) (i : Nat) : (sumQ m f B i).length = i := by simp [sumQ]
theorem sumQ_snoc (m : List (List Int)) (f : List (List Mon)) (B : List (List Int)) (i : Nat) : (sumQ m f B (i + 1)).map AV.mp = (sumQ m f B i).map AV.mp ++ [.mp (rwM (m.map fun r => polF (linL r)) f (B[i]?.getD []) f.length)] := by simp [sumQ, List.range_succ]
theorem sumQ_at {m : List (List Int)} {f : List (List Mon)} {B : List (List Int)} {i n : Nat} (h : i < n) : (sumQ m f B n)[i]?.getD mzero = rwM (m.map fun r => polF (linL r)) f (B[i]?.getD []) f.length := by simp [sumQ, h]
set_option maxRecDepth 100000 in
theorem TransformField_c (z : Int) (f : List (List Mon)) (m : List (List Int)) (hs : Small f) (hm : m.length ≤ 1048576) (hr : ∀ r ∈ m, r.length ≤ 1048576) :
    Con Tryz.prog 28 [.agg [.int z, .sl f.length (prt f)], .sl m.length (mat m)] (tfR z f m) := by
  have cI := IsField_c z f hs
  have cQ := isFrame_c z f.length (prt f) m (by omega) (fun r h => by have := hr r h; omega)
  unfold tfR tfX
  cases h1 : fieldB z f with
  | false =>
    have e : tfE z f m = 1 := by unfold tfE; rw [h1]; rfl
    rw [h1] at cI
    rw [e]
    refine nF _ ?_
    refine con_of_vc Tryz.mixed ⟨17, [6, 57, 67], [62], []⟩ Tryz.func28 (by decide) rfl (by simp) (by decide) (by simp [freshOK, freshL, go_sem]) ?_
    rw [Tryz.ntmps28]
    simp [go_sem]
    refine CallVC.of (cI) (by decide) ?_
    simp [go_sem]
  | true =>
  cases h2 : sqB z m with
  | false =>
    have e : tfE z f m = 1 := by unfold tfE; rw [h1, h2]; rfl
    rw [h1] at cI
    rw [h2] at cQ
    rw [e]
    refine nF _ ?_
    refine con_of_vc Tryz.mixed ⟨17, [6, 57, 67], [62], []⟩ Tryz.func28 (by decide) rfl (by simp) (by decide) (by simp [freshOK, freshL, go_sem]) ?_
    rw [Tryz.ntmps28]
    simp [go_sem]
    refine CallVC.of (cI) (by decide) ?_
    simp [go_sem]
    refine CallVC.of (cQ) (by decide) ?_
    simp [go_sem]
  | true =>
  rw [h1] at cI
  rw [h2] at cQ
  have okk := TfOk.of h1 h2
  have hF := okk.hF
  have n1 := okk.n1
  have n3 := okk.n3
  have zm := okk.zm
  have fl := okk.fl
  have hR := okk.hr
  have cV := inverseOf_c m n1 rfl (by omega) hR
  rw [invB_is n1 rfl hR] at cV
  by_cases hd : ldet m.length m = 0
  · have e : tfE z f m = 5 := by unfold tfE; rw [h1, h2, hd]; rfl
    rw [hd] at cV
    rw [e]
    refine nF _ ?_
    refine con_of_vc Tryz.mixed ⟨17, [6, 57, 67], [62], []⟩ Tryz.func28 (by decide) rfl (by simp) (by decide) (by simp [freshOK, freshL, go_sem]) ?_
    rw [Tryz.ntmps28]
    simp [go_sem]
    refine CallVC.of (cI) (by decide) ?_
    simp [go_sem]
    refine CallVC.of (cQ) (by decide) ?_
    simp [go_sem]
    refine CallVC.of (cV) (by decide) ?_
    simp [go_sem]
  · have e : tfE z f m = 0 := by unfold tfE; rw [h1, h2, if_neg hd]; rfl
    rw [decide_eq_true hd] at cV
    rw [e]
    simp only [if_true]
    obtain ⟨bl, bR⟩ := invL_ok n1 rfl hR
    generalize hB : invL m.length m = B at *
    have cP := polynomials_c z f hF hs
    refine con_of_vc Tryz.mixed ⟨17, [6, 57, 67], [62], []⟩ Tryz.func28 (by decide) rfl (by simp) (by decide) (by simp [freshOK, freshL, go_sem]) ?_
    rw [Tryz.ntmps28]
    simp [go_sem]
    refine CallVC.of (cI) (by decide) ?_
    simp [go_sem]
    refine CallVC.of (cQ) (by decide) ?_
    simp [go_sem]
    refine CallVC.of (cV) (by decide) ?_
    simp [go_sem]
    refine loop_inv (8 :: 10 :: List.range' 38 10) (fun i : Nat => [(8, .own 87 i (plcL m i)), (38, .int i)]) (fun i => i ≤ m.length) (fun i => m.length - i) 0 (by simp) (by simp [go_sem, plcL]) (by simp [go_sem]) ?_
    intro i hi
    simp [go_sem]
    refine ⟨fun h => ?_, fun h => ?_⟩ <;> simp at h
    · have q := hR.at h
      have cL := linear_c (m[i]?.getD []) (by omega)
      have ps := plcL_snoc h
      simp [go_sem, mat_drop h]
      refine ⟨⟨h, fun e => by rw [e] at h; simp at h⟩, ?_⟩
      refine CallVC.of (cL) (by decide) ?_
      simp [go_sem]
      have pl : (plcL m i).length = i := by simp [plcL]; omega
      exact ⟨⟨pl, by omega, by omega⟩, ⟨by omega, by omega⟩, i + 1, by omega, by omega, Off_reset _ _ _ (by simp), ⟨rfl, ps.symm⟩, by omega⟩
    · have e : i = m.length := by omega
      subst e
      simp [go_sem]
      refine loop_inv (11 :: 13 :: 14 :: 15 :: 16 :: List.range' 51 28) (fun i : Nat => [(11, .own 87 i ((sumQ m f B i).map AV.mp)), (51, .int i)]) (fun i => i ≤ m.length) (fun i => m.length - i) 0 (by simp) (by simp [go_sem, sumQ]) (by simp [go_sem]) ?_
      intro i hi
      simp [go_sem]
      refine ⟨fun h => ?_, fun h => ?_⟩ <;> simp at h
      · have hiB : i < B.length := by omega
        have q := bR.at hiB
        have sn := sumQ_snoc m f B i
        generalize hrow : B[i]?.getD [] = row at *
        simp [go_sem, mat_drop hiB, hrow]
        refine ⟨⟨h, fun e => by rw [e] at hiB; simp at hiB⟩, ?_⟩
        refine CallVC.of (cP) (by decide) ?_
        simp [go_sem]
        refine loop_inv (14 :: 15 :: 16 :: List.range' 59 15) (fun k : Nat => [(14, .mp (rwM (m.map fun r => polF (linL r)) f row k)), (59, .int k)]) (fun k => k ≤ f.length) (fun k => f.length - k) 0 (by simp) (by simp [go_sem, rwM]) (by simp [go_sem]) ?_
        intro k hk
        simp [go_sem]
        refine ⟨fun h => ?_, fun h => ?_⟩ <;> simp at h
        · have hkm : k < m.length := by omega
          have hp := hF.part _ (memD [] h)
          have nd := keys_nd hF.hi hp
          have cS := substituted_c (polF (f[k]?.getD [])) ((f[k]?.getD []).map keyM) (m.map fun r => polF (linL r)) (polF_enum nd) (fun e he => by
            obtain ⟨a, ha, rfl⟩ := List.mem_map.1 he
            have mo := partB_mem hp ha
            have vo := okk.vok _ (memD [] h) a ha
            refine ⟨vo.num, fun t => ?_⟩
            have g := fun j => mo.get j
            show 0 ≤ at3 t (keyOf a.2) ∧ at3 t (keyOf a.2) ≤ 3
            unfold at3 keyOf
            split
            · exact g 0
            · split
              · exact g 1
              · exact g 2) (by simpa using n3) (fun j hj => (okk.line j (by simpa using hj)).ok)
          rw [List.length_map, List.map_map] at cS
          have r1 := (okk.rows row k (by omega)).1.ok.mapN
          have r2 := (Rlt.sub okk.n3 (by simp) (linF_len m) okk.line (okk.vok _ (memD [] h))).ok.mapN
          have q0 := q.2.get k
          have hA := add_c (rwM (m.map fun r => polF (linL r)) f row k) (sbF (m.map fun r => polF (linL r)) ((f[k]?.getD []).map keyM)) (row[k]?.getD 0) r1 r2 ⟨by have := q0.1; omega, by have := q0.2; omega⟩
          have e1 : rwM (m.map fun r => polF (linL r)) f row (k + 1) = addM (rwM (m.map fun r => polF (linL r)) f row k) (sbF (m.map fun r => polF (linL r)) ((f[k]?.getD []).map keyM)) (row[k]?.getD 0) := rfl
          have fd := fpols_drop h
          have hrk : k < row.length := by omega
          have rd := avs_drop hrk
          rw [← e1] at hA
          generalize hM1 : rwM (m.map fun r => polF (linL r)) f row (k + 1) = M1 at *
          generalize rwM (m.map fun r => polF (linL r)) f row k = M0 at *
          generalize sbF (m.map fun r => polF (linL r)) ((f[k]?.getD []).map keyM) = H at *
          simp [go_sem, fd]
          refine ⟨⟨h, fun e => by rw [e] at h; simp at h⟩, ?_⟩
          simp [go_sem, plcL_all, rd]
          refine ⟨by kernel_rfl, ?_⟩
          refine CallD.of (cS) (by simp [roots, rootsL, frz, frzL]) (by decide) ?_
          simp [go_sem]
          simp [go_sem, rd]
          refine ⟨⟨hrk, fun e => by rw [e] at hrk; simp at hrk⟩, ?_⟩
          refine ⟨_, _, hA.g, ?_⟩
          simp [go_sem]
          refine ⟨by kernel_rfl, ?_⟩
          simp [go_sem]
          exact ⟨⟨by omega, by omega⟩, k + 1, by omega, by omega, Off_reset _ _ _ (by simp), hM1.symm, by omega⟩
        · have e : k = f.length := by omega
          subst e
          simp [go_sem]
          exact ⟨⟨by omega, by omega⟩, ⟨by omega, by omega⟩, i + 1, by omega, by omega, (Off.reset (by intro x hx; simp at hx ⊢; omega) (by simp) (by simp [go_sem, Off_reset])), ⟨rfl, sn.symm⟩, by omega⟩
      · have e : i = m.length := by omega
        subst e
        simp [go_sem, mps_frz]
        rw [← zm] at *
        have cF := fieldOf_c m.length (sumQ m f B m.length) (trF m.length m f B) (by simp) (by simp; omega) (by simp; omega) (fun i hi => by
          have hi2 : i < m.length := by simpa using hi
          rw [sumQ_at hi2, trF_at hi2, fl]
          have ro := okk.rows (B[i]?.getD []) m.length (Nat.le_refl _)
          have rl := okk.rw_len (B[i]?.getD []) f.length (Nat.le_refl _)
          rw [fl] at rl
          exact part_c2 n1 n3 ro.1.ok.mapN ro.2.1 ro.2.2 (fun a ha => (ro.1.wok a ha).len) (by omega) ro.1.cf)
        rw [sumQ_len, trF_len] at cF
        refine CallVC.of (cF) (by decide) ?_
        simp [go_sem]
end Go.Proofs.YtoeikpioonlmfaaGreat


namespace Go.Proofs.YtoeikpioonlmfaaGreat
open Go.Abs
set_option linter.unusedSectionVars false
set_option linter.unusedVariables false
set_option linter.unusedSimpArgs false
set_option maxHeartbeats 2000000
theorem unR_one {n k : Nat} : unR n k = (List.replicate n 0).set k 1 := by
  refine List.ext_getElem (by simp [unR_len]) fun i hi hj => ?_
  have h : i < n := by simpa [unR_len] using hi
  have e := unR_get (i := k) h
  have e2 : (unR n k)[i]?.getD 0 = (unR n k)[i] := by simp [hi]
  rw [← e2, e, List.getElem_set]
  by_cases h2 : k = i
  · rw [if_pos h2, if_pos h2.symm]
  · rw [if_neg h2, if_neg (fun x => h2 x.symm)]; simp
def rwA : List Int → AV
  | [] => .val (.slice none 0 0)
  | x :: l => .own 2 (x :: l).length (avs (x :: l))
theorem rwA_pos {l : List Int} (h : 0 < l.length) : rwA l = .own 2 l.length (avs l) := by cases l with | nil => simp at h | cons x l => rfl
def ivC (n : Nat) (R : List (List Int)) (k i : Nat) : List AV := (List.range n).map fun j => rwA ((R[j]?.getD []).take (if j < i then k + 1 else k))
@[simp] theorem ivC_len (n : Nat) (R : List (List Int)) (k i : Nat) : (ivC n R k i).length = n := by simp [ivC]
theorem ivC_start (n : Nat) (R : List (List Int)) : ivC n R 0 0 = List.replicate n (.val (.slice none 0 0)) := by
  refine List.ext_getElem (by simp) fun i hi hj => ?_
  simp [ivC, rwA]
theorem ivC_col (n : Nat) (R : List (List Int)) (k : Nat) : ivC n R k n = ivC n R (k + 1) 0 := by
  refine List.ext_getElem (by simp) fun i hi hj => ?_
  have h : i < n := by simpa using hi
  simp [ivC, h]
theorem ivC_get {n : Nat} {R : List (List Int)} {k i : Nat} (h : i < n) : (ivC n R k i)[i]? = some (rwA ((R[i]?.getD []).take k)) := by simp [ivC, h]
theorem ivC_set {n : Nat} {R : List (List Int)} {k i : Nat} (h : i < n) (hk : k < (R[i]?.getD []).length) : (ivC n R k i).set i (.own 2 (k + 1) (avs ((R[i]?.getD []).take k) ++ [.val (.int .i64 (mx R i k))])) = ivC n R k (i + 1) := by
  refine List.ext_getElem (by simp) fun j h1 h2 => ?_
  have hj : j < n := by simpa using h2
  rw [List.getElem_set]
  by_cases e : i = j
  · subst e
    rw [if_pos rfl]
    have e1 : (R[i]?.getD []).take (k + 1) = (R[i]?.getD []).take k ++ [mx R i k] := by
      rw [List.take_add_one]; unfold mx; simp [hk]
    have e2 : ((R[i]?.getD []).take (k + 1)).length = k + 1 := by simp; omega
    simp only [ivC, List.getElem_map, List.getElem_range, show i < i + 1 by omega, if_true]
    rw [rwA_pos (by omega), e2, e1, avs_snoc]
  · rw [if_neg e]
    have : (j < i + 1) = (j < i) := by simp; omega
    simp [ivC, this]
theorem ivC_end {n : Nat} {R : List (List Int)} (hn : 0 < n) (hl : R.length = n) (hr : Rws n R) : ivC n R n 0 = omat R := by
  refine List.ext_getElem (by simp [omat, hl]) fun i hi hj => ?_
  have h : i < n := by simpa using hi
  have q := hr.at (show i < R.length by omega)
  have e : R[i]?.getD [] = R[i] := by simp [show i < R.length by omega]
  have e2 : (R[i]?.getD []).take n = R[i]?.getD [] := List.take_of_length_le (by omega)
  simp only [ivC, List.getElem_map, List.getElem_range, Nat.not_lt_zero, if_false, omat]
  rw [e2, rwA_pos (by omega), e]
set_option maxRecDepth 100000 in
theorem specInverse_c (a : List (List Int)) (h1 : 1 ≤ a.length) (h8 : a.length ≤ 8) (hr : Rws a.length a) :
    Con Tryz.prog 78 [.sl a.length (mat a)] (if ldet a.length a = 0 then .tup [.own 35 0 [], .int 5] else .tup [.own 35 a.length (omat (invL a.length a)), .int 0]) := by
  have r0 := hr.at (show 0 < a.length by omega)
  have cM := l01Matrix_c a (by omega) (fun r h => by have := (hr r h).1; omega)
  have hM : matB a = true := matB_iff.2 ⟨by omega, by omega, fun r h => ⟨by have := (hr r h).1; omega, (hr r h).2⟩⟩
  rw [if_pos hM] at cM
  have cD := l01Det_c a.length a rfl (by omega) hr
  have m0 := mat_drop (xss := a) (k := 0) (by omega)
  simp only [List.drop_zero] at m0
  have m1 : AV.sl (a[0]?.getD []).length (avs (a[0]?.getD [])) :: mat a.tail = mat a := by cases a with | nil => simp at h1 | cons x l => simp [mat]
  have ne : ¬ a = [] := by rintro rfl; simp at h1
  have r0l : (a[0]?.getD []).length = a.length := r0.1
  by_cases hd : ldet a.length a = 0
  · rw [hd] at cD
    rw [if_pos hd]
    refine Con.n1 _ ?_
    refine con_of_vc Tryz.mixed ⟨10, [], [], [1001511990014]⟩ Tryz.func78 (by decide) rfl (by simp) (by decide) (by simp [freshOK, freshL, go_sem]) ?_
    rw [Tryz.ntmps78]
    simp [go_sem]
    refine CallVC.of (cM) (by decide) ?_
    simp [go_sem]
    simp [go_sem, m0]
    simp only [m1]
    simp [go_sem, r0l, ne]
    refine ⟨by omega, ?_⟩
    refine CallVC.of (cD) (by decide) ?_
    simp [go_sem]
  · rw [if_neg hd]
    have io := invL_ok h1 rfl hr
    have sy := fun i k (hi : i < a.length) (hk : k < a.length) => inv_sys h1 rfl hr hd hi hk
    generalize invL a.length a = R at *
    refine con_of_vc Tryz.mixed ⟨10, [], [], [1001511990014]⟩ Tryz.func78 (by decide) rfl (by simp) (by decide) (by simp [freshOK, freshL, go_sem]) ?_
    rw [Tryz.ntmps78]
    simp [go_sem]
    refine CallVC.of (cM) (by decide) ?_
    simp [go_sem]
    simp [go_sem, m0]
    simp only [m1]
    simp [go_sem, r0l, ne]
    refine ⟨by omega, ?_⟩
    refine CallVC.of (cD) (by decide) ?_
    simp [go_sem]
    simp [go_sem, hd]
    refine ⟨by omega, ?_⟩
    refine loop_inv (List.range' 4 6 ++ List.range' 28 37) (fun k : Nat => [(4, .own 35 a.length (ivC a.length R k 0)), (5, .int k)]) (fun k => k ≤ a.length) (fun k => a.length - k) 0 (by simp) (by simp [go_sem, ivC_start]) (by simp [go_sem]) ?_
    intro k hk
    simp [go_sem]
    refine ⟨fun h => ?_, fun h => ?_⟩ <;> simp at h
    · have cS := l01Solve_c a (unR a.length k) rfl (by omega) hr (unR_N _ _) (by rw [unR_len]; omega)
      rw [unR_len] at cS
      have ue := unR_one (n := a.length) (k := k)
      unfold solR solX at cS
      rw [if_neg hd] at cS
      have hcol : ∀ i, i < a.length → (tb (sysF a.length a (unR a.length k)) a.length)[i]?.getD 0 = mx R i k := fun i hi => by rw [tb_get _ hi]; exact sy i k hi h
      have hcl : (tb (sysF a.length a (unR a.length k)) a.length).length = a.length := by simp
      rw [ue] at cS hcol hcl
      rw [hcl, decide_eq_true hd] at cS
      generalize tb (sysF a.length a ((List.replicate a.length 0).set k 1)) a.length = col at *
      simp [go_sem, avs_repl, avs_set]
      refine ⟨⟨by omega, by omega⟩, h, ?_⟩
      refine CallVC.of (cS) (by decide) ?_
      simp [go_sem]
      refine loop_inv (4 :: 9 :: List.range' 46 19) (fun i : Nat => [(4, .own 35 a.length (ivC a.length R k i)), (9, .int i)]) (fun i => i ≤ a.length) (fun i => a.length - i) 0 (by simp) (by simp [go_sem]) (by simp [go_sem]) ?_
      intro i hi
      by_cases hia : i < a.length
      · have hii : (i : Int) < a.length := by omega
        have gt := ivC_get (R := R) (k := k) hia
        have q := io.2.at (show i < R.length by rw [io.1]; exact hia)
        have st := ivC_set (R := R) (k := k) hia (by rw [q.1]; exact h)
        have hc := hcol i hia
        have hil : i < col.length := by omega
        have cdr := avs_drop hil
        rw [List.getD_eq_getElem?_getD, hc] at cdr
        have cg : (avs col)[i]? = some (.val (.int .i64 (mx R i k))) := by
          rw [← hc]; simp [avs, hil]
        have tk : ((R[i]?.getD []).take k).length = k := by simp; omega
        generalize mx R i k = x at *
        generalize (R[i]?.getD []).take k = l at *
        rcases k with _ | k
        · have l0 : l = [] := List.length_eq_zero_iff.1 tk
          subst l0
          simp [go_sem, hii, gt, cdr, cg, rwA]
          repeat' apply And.intro
          all_goals first
            | omega
            | exact ⟨i + 1, by omega, by omega, Off_reset _ _ _ (by simp), by simpa using st, by omega⟩
            | exact ⟨i + 1, by omega, by omega, Off_reset _ _ _ (by simp), st, by omega⟩
            | (intro e; rw [e] at hil; simp at hil; done)
            | kernel_rfl
            | skip
        · have lp := rwA_pos (l := l) (by omega)
          rw [lp, tk] at gt
          simp [go_sem, hii, gt, cdr, cg]
          repeat' apply And.intro
          all_goals first
            | omega
            | exact ⟨i + 1, by omega, by omega, Off_reset _ _ _ (by simp), by simpa using st, by omega⟩
            | exact ⟨i + 1, by omega, by omega, Off_reset _ _ _ (by simp), st, by omega⟩
            | (intro e; rw [e] at hil; simp at hil; done)
            | kernel_rfl
            | skip
      · have e : i = a.length := by omega
        subst e
        have hii : ¬ (a.length : Int) < a.length := by omega
        have ee := ivC_col a.length R k
        simp [go_sem, hii]
        exact ⟨⟨by omega, by omega⟩, k + 1, by omega, by omega, (Off.reset (by intro x hx; simp at hx ⊢; omega) (by simp) (by simp [go_sem, Off_reset])), ee, by omega⟩
    · have e : k = a.length := by omega
      subst e
      have ee := ivC_end h1 io.1 io.2
      simp [go_sem, ee]
end Go.Proofs.YtoeikpioonlmfaaGreat


namespace Go.Proofs.YtoeikpioonlmfaaGreat
open Go.Abs
set_option linter.unusedSectionVars false
set_option linter.unusedVariables false
set_option linter.unusedSimpArgs false
set_option maxHeartbeats 2000000
theorem sum_take (l : List Int) (j : Nat) : ((l.take j).map Int.toNat).sum ≤ (l.map Int.toNat).sum := by
  have h : l.map Int.toNat = (l.take j).map Int.toNat ++ (l.drop j).map Int.toNat := by rw [← List.map_append, List.take_append_drop]
  rw [h, List.sum_append]
  omega
theorem mvL_snoc (n : Nat) (A : List (List Mon)) {p : List Mon} {k : Nat} (h : k < p.length) : mvL n A (p.take (k + 1)) = plusL (mvL n A (p.take k)) 1 (chQ' n A (p[k]?.getD (0, [])) A.length) := by
  unfold mvL
  rw [List.take_add_one, List.foldl_append]; simp [h]
section
variable {z : Int} {f : List (List Mon)} {m : List (List Int)}
theorem TfOk.ch_len (h : TfOk z f m) {i : Nat} (hi : i < f.length) {a : Mon} (ha : a ∈ f[i]?.getD []) (j : Nat) : (chQ' m.length (linF m) a j).length ≤ 27 := by
  have hp := h.hF.part _ (memD [] hi)
  obtain ⟨h1, h2⟩ := degL_le (by omega) (degB_of hp a ha)
  have h3 := chQ_len (n := m.length) (linF_len3 h) j (m := a)
  have h4 := sum_toNat a.2 (fun x hx => (h1 x hx).1)
  have h5 := sum_take a.2 j
  have h6 := Nat.pow_le_pow_right (show 0 < 3 by omega) (show ((a.2.take j).map Int.toNat).sum ≤ 3 by omega)
  omega
theorem TfOk.mvk_len (h : TfOk z f m) {i : Nat} (hi : i < f.length) (k : Nat) : (mvL m.length (linF m) ((f[i]?.getD []).take k)).length ≤ 540 := by
  have hp := h.hF.part _ (memD [] hi)
  have hd := degB_of hp
  have h1 := mvL_len (z := z) (n := m.length) (linF_len3 h) (linF_len m) (p := (f[i]?.getD []).take k) (fun a ha => by
    have ha := List.mem_of_mem_take ha
    exact ⟨partB_mem hp ha, hd a ha, by have := (partB_mem hp ha).len; have := h.zm; omega⟩)
  have h2 := part20 h.hF.hi hp
  have h3 : ((f[i]?.getD []).take k).length ≤ (f[i]?.getD []).length := by rw [List.length_take]; omega
  omega
end
set_option maxRecDepth 100000 in
theorem specTransformField_c (z : Int) (f : List (List Mon)) (m : List (List Int)) (hs : Small f) (hm : m.length ≤ 1048576) (hr : ∀ r ∈ m, r.length ≤ 1048576) :
    Con Tryz.prog 25 [.agg [.int z, .sl f.length (prt f)], .sl m.length (mat m)] (tfR z f m) := by
  have cI := l13Is_c z f hs
  have cQ := l13Square_c z m (by omega) (fun r h => by have := hr r h; omega)
  unfold tfR tfX
  cases h1 : fieldB z f with
  | false =>
    have e : tfE z f m = 1 := by unfold tfE; rw [h1]; rfl
    rw [h1] at cI
    rw [e]
    refine nF _ ?_
    refine con_of_vc Tryz.mixed ⟨20, [6], [], []⟩ Tryz.func25 (by decide) rfl (by simp) (by decide) (by simp [freshOK, freshL, go_sem]) ?_
    rw [Tryz.ntmps25]
    simp [go_sem]
    refine CallVC.of (cI) (by decide) ?_
    simp [go_sem]
  | true =>
  cases h2 : sqB z m with
  | false =>
    have e : tfE z f m = 1 := by unfold tfE; rw [h1, h2]; rfl
    rw [h1] at cI
    rw [h2] at cQ
    rw [e]
    refine nF _ ?_
    refine con_of_vc Tryz.mixed ⟨20, [6], [], []⟩ Tryz.func25 (by decide) rfl (by simp) (by decide) (by simp [freshOK, freshL, go_sem]) ?_
    rw [Tryz.ntmps25]
    simp [go_sem]
    refine CallVC.of (cI) (by decide) ?_
    simp [go_sem]
    refine CallVC.of (cQ) (by decide) ?_
    simp [go_sem]
  | true =>
  rw [h1] at cI
  rw [h2] at cQ
  have okk := TfOk.of h1 h2
  have hF := okk.hF
  have n1 := okk.n1
  have n3 := okk.n3
  have zm := okk.zm
  have fl := okk.fl
  have hR := okk.hr
  have cV := specInverse_c m n1 (by omega) hR
  by_cases hd : ldet m.length m = 0
  · have e : tfE z f m = 5 := by unfold tfE; rw [h1, h2, hd]; rfl
    rw [if_pos hd] at cV
    rw [e]
    refine nF _ ?_
    refine con_of_vc Tryz.mixed ⟨20, [6], [], []⟩ Tryz.func25 (by decide) rfl (by simp) (by decide) (by simp [freshOK, freshL, go_sem]) ?_
    rw [Tryz.ntmps25]
    simp [go_sem]
    refine CallVC.of (cI) (by decide) ?_
    simp [go_sem]
    refine CallVC.of (cQ) (by decide) ?_
    simp [go_sem]
    refine CallVC.of (cV) (by decide) ?_
    simp [go_sem]
  · have e : tfE z f m = 0 := by unfold tfE; rw [h1, h2, if_neg hd]; rfl
    rw [if_neg hd] at cV
    rw [e]
    simp only [if_true]
    obtain ⟨bl, bR⟩ := invL_ok n1 rfl hR
    generalize hB : invL m.length m = B at *
    subst zm
    refine con_of_vc Tryz.mixed ⟨20, [6], [], []⟩ Tryz.func25 (by decide) rfl (by simp) (by decide) (by simp [freshOK, freshL, go_sem]) ?_
    rw [Tryz.ntmps25]
    simp [go_sem]
    refine CallVC.of (cI) (by decide) ?_
    simp [go_sem]
    refine CallVC.of (cQ) (by decide) ?_
    simp [go_sem]
    refine CallVC.of (cV) (by decide) ?_
    simp [go_sem]
    refine loop_inv (List.range' 8 8 ++ List.range' 40 63) (fun i : Nat => [(8, .own 92 i (oprt ((f.map (mvL m.length (linF m))).take i))), (9, .int i)]) (fun i => i ≤ f.length) (fun i => f.length - i) 0 (by simp) (by simp [go_sem, oprt]) (by simp [go_sem]) ?_
    intro i hi
    by_cases hif : i < f.length
    · have hii : (i : Int) < f.length := by omega
      have nf : ¬ f = [] := by rintro rfl; simp at hif
      have hp := hF.part _ (memD [] hif)
      have pd := prt_drop hif
      have sn := oprt_snoc (f.map (mvL m.length (linF m))) (i := i) (by simpa using hif)
      have se : (f.map (mvL m.length (linF m)))[i]?.getD [] = mvL m.length (linF m) (f[i]?.getD []) := by simp [hif]
      rw [se] at sn
      have mk := okk.mvk_len hif
      have hmem : ∀ a ∈ f[i]?.getD [], MonOk m.length a ∧ VOk m.length a := fun a ha => ⟨partB_mem hp ha, okk.vok _ (memD [] hif) a ha⟩
      have cl := fun a (ha : a ∈ f[i]?.getD []) j => okk.ch_len hif ha j
      have pl := (hs.2 _ (memD [] hif)).1
      have wk : ∀ k, ∀ a ∈ mvL m.length (linF m) ((f[i]?.getD []).take k), WOk m.length 9 a := fun k => (Rlt.sub okk.n3 (by simp) (linF_len m) okk.line (p := (f[i]?.getD []).take k) (fun a ha => (hmem a (List.mem_of_mem_take ha)).2)).wok
      generalize f[i]?.getD [] = p at *
      simp [go_sem, hii]
      refine loop_inv (List.range' 10 6 ++ List.range' 48 51) (fun k : Nat => [(10, .own 97 (mvL m.length (linF m) (p.take k)).length (omons (mvL m.length (linF m) (p.take k)))), (11, .int k)]) (fun k => k ≤ p.length) (fun k => p.length - k) 0 (by simp) (by simp [go_sem, mvL, omons]) (by simp [go_sem]) ?_
      intro k hk
      by_cases hkp : k < p.length
      · have hki : (k : Int) < p.length := by omega
        have np : ¬ p = [] := by rintro rfl; simp at hkp
        have md := mons_drop hkp
        have ms := mvL_snoc m.length (linF m) hkp
        obtain ⟨mo, vo⟩ := hmem _ (memD (0, []) hkp)
        have cla := cl _ (memD (0, []) hkp)
        have ch := Rlt.chain okk.n3 (by simp) (linF_len m) okk.line vo
        generalize p[k]?.getD (0, []) = a at *
        have al : a.2.length = m.length := by have := mo.len; omega
        have c0 : omons (chQ' m.length (linF m) a 0) = [.int a.1, .own 2 m.length (avs (List.replicate m.length 0))] := by simp [chQ', omons]
        have c0l : (chQ' m.length (linF m) a 0).length = 1 := rfl
        simp [go_sem, hii, hki, pd, md]
        refine ⟨nf, np, by kernel_rfl, ⟨by omega, by omega⟩, ?_⟩
        refine ⟨by kernel_rfl, ?_⟩
        simp [go_sem]
        simp [go_sem, avs_repl]
        refine loop_inv (List.range' 13 3 ++ List.range' 73 23) (fun j : Nat => [(13, .own 97 (chQ' m.length (linF m) a j).length (omons (chQ' m.length (linF m) a j))), (14, .int j)]) (fun j => j ≤ m.length) (fun j => m.length - j) 0 (by simp) (by simp [go_sem, c0, c0l]) (by simp [go_sem]) ?_
        intro j hj
        by_cases hjm : j < m.length
        · have hji : (j : Int) < a.2.length := by omega
          have hja : j < a.2.length := by omega
          have na : ¬ a.2 = [] := by intro e; rw [e] at hja; simp at hja
          have ad := avs_drop hja
          have gj := mo.get j
          have hA := okk.line j hjm
          have q := hR.at hjm
          have cL := l13Linear_c (m[j]?.getD []) (by omega) q.2
          rw [← linF_get hjm] at cL
          have l3 := linF_len3 okk j
          have chj := ch j (by omega)
          have lej := cla j
          have es : chQ' m.length (linF m) a (j + 1) = stL ((linF m)[j]?.getD []) (chQ' m.length (linF m) a j) (a.2[j]?.getD 0).toNat := rfl
          have rp := fun t => Rlt.pow okk.n3 chj hA t
          obtain ⟨x, hx⟩ : ∃ x : Nat, a.2[j]?.getD 0 = x := ⟨(a.2[j]?.getD 0).toNat, by omega⟩
          rw [List.getD_eq_getElem?_getD, hx] at ad
          rw [hx] at es gj
          rw [Int.toNat_natCast] at es
          have sl := fun t => stL_len (c := chQ' m.length (linF m) a j) l3 t
          have drw := mat_drop hjm
          generalize (linF m)[j]?.getD [] = Aj at *
          generalize m[j]?.getD [] = row at *
          generalize hC1 : chQ' m.length (linF m) a (j + 1) = C1 at *
          generalize chQ' m.length (linF m) a j = C at *
          simp [go_sem, hji]
          refine loop_inv (13 :: 15 :: List.range' 80 16) (fun t : Nat => [(13, .own 97 (stL Aj C t).length (omons (stL Aj C t))), (15, .int t)]) (fun t => t ≤ x) (fun t => x - t) 0 (by simp) (by simp [go_sem, stL]) (by simp [go_sem]) ?_
          intro t ht
          by_cases htx : t < x
          · have hti : (t : Int) < x := by omega
            have st3 : 3 ^ t ≤ 3 ^ 3 := Nat.pow_le_pow_right (by omega) (by omega)
            have slt := sl t
            have sle : (stL Aj C t).length ≤ 27 * 27 := Nat.le_trans slt (Nat.mul_le_mul lej st3)
            have cP := l13Product_c (stL Aj C t) Aj (n := m.length) (B := 3 * (j : Int) + (t : Int)) (C := 1) (by omega) (by omega) (by omega) (by omega) (by omega) (rp t).wok hA.wok (by omega) (by omega) (by have := Nat.mul_le_mul sle l3; omega)
            have e1 : stL Aj C (t + 1) = prodL (stL Aj C t) Aj := rfl
            rw [← e1] at cP
            generalize hS1 : stL Aj C (t + 1) = S1 at *
            simp [go_sem, hji, ad, hti, drw]
            refine ⟨na, ⟨hjm, fun e => by rw [e] at hjm; simp at hjm⟩, ?_⟩
            refine CallVC.of (cL) (by decide) ?_
            simp [go_sem]
            refine CallVC.of (cP) (by decide) ?_
            simp [go_sem]
            exact ⟨⟨by omega, by omega⟩, t + 1, by omega, by omega, Off_reset _ _ _ (by simp), by simp [hS1], by omega⟩
          · have e : t = x := by omega
            subst e
            have hti : ¬ (t : Int) < t := by omega
            simp [go_sem, hji, ad, hti]
            exact ⟨na, ⟨by omega, by omega⟩, j + 1, by omega, by omega, (Off.reset (by intro x hx; simp at hx ⊢; omega) (by simp) (by simp [go_sem, Off_reset])), by simp [hC1, es], by omega⟩
        · have e : j = m.length := by omega
          subst e
          have hji : ¬ (m.length : Int) < a.2.length := by omega
          have cP := l13Plus_c (mvL m.length (linF m) (p.take k)) (chQ' m.length (linF m) a m.length) (k := 1) (by omega) ⟨by omega, by omega⟩ (wk k) (fun x hx => ((ch m.length (Nat.le_refl _)).wok x hx).le (by omega)) (by have := mk k; have := cla m.length; omega)
          rw [linF_len] at ms
          rw [← ms] at cP
          simp [go_sem, hji]
          refine CallVC.of (cP) (by decide) ?_
          simp [go_sem]
          exact ⟨⟨by omega, by omega⟩, k + 1, by omega, by omega, (Off.reset (by intro x hx; simp at hx ⊢; omega) (by simp) (by simp [go_sem, Off_reset])), by simp, by omega⟩
      · have e : k = p.length := by omega
        subst e
        have hki : ¬ (p.length : Int) < p.length := by omega
        rw [List.take_length]
        simp [go_sem, hii, hki, pd]
        refine ⟨nf, ⟨by omega, by omega, by omega⟩, ⟨by omega, by omega⟩, i + 1, by omega, by omega, (Off.reset (by intro x hx; simp at hx ⊢; omega) (by simp) (by simp [go_sem, Off_reset])), ⟨by omega, sn.symm⟩, by omega⟩
    · have e : i = f.length := by omega
      subst e
      have hii : ¬ (f.length : Int) < f.length := by omega
      rw [List.take_of_length_le (by simp)]
      have ml : (f.map (mvL m.length (linF m))).length = m.length := by simp [fl]
      have mg : ∀ k, k < m.length → (f.map (mvL m.length (linF m)))[k]?.getD [] = mvL m.length (linF m) (f[k]?.getD []) := fun k hk => by simp [fl, hk]
      have tl := trF_len m.length m f B
      have ta := fun i (hi : i < m.length) => trF_at (m := m) (f := f) (B := B) hi
      generalize trF m.length m f B = G at *
      simp [go_sem, hii]
      refine loop_inv (List.range' 16 4 ++ List.range' 106 32) (fun i : Nat => [(16, .box 26 [.int m.length, ptA G i]), (17, .int i)]) (fun i => i ≤ m.length) (fun i => m.length - i) 0 (by simp) (by simp [go_sem, ptA_zero]) (by simp [go_sem]) ?_
      intro i hi
      by_cases him : i < m.length
      · have hii : (i : Int) < m.length := by omega
        have hiB : i < B.length := by omega
        have q := bR.at hiB
        have bd := mat_drop hiB
        have gi := ta i him
        have sn := oprt_snoc G (i := i) (by omega)
        rw [gi] at sn
        generalize hrow : B[i]?.getD [] = row at *
        simp [go_sem, hii]
        refine loop_inv (18 :: 19 :: List.range' 113 19) (fun k : Nat => [(18, .own 97 (rwQ m.length (linF m) f row k).length (omons (rwQ m.length (linF m) f row k))), (19, .int k)]) (fun k => k ≤ m.length) (fun k => m.length - k) 0 (by simp) (by simp [go_sem, rwQ, omons]) (by simp [go_sem]) ?_
        intro k hk
        by_cases hkm : k < m.length
        · have hki : (k : Int) < m.length := by omega
          have hkf : (k : Int) < f.length := by omega
          have og := oprt_get (T := f.map (mvL m.length (linF m))) (k := k) (by omega)
          rw [mg k hkm] at og
          have hkr : k < row.length := by omega
          have rd := avs_drop hkr
          have ro := okk.rows row k (by omega)
          have mw := (Rlt.sub okk.n3 (by simp) (linF_len m) okk.line (okk.vok _ (memD [] (show k < f.length by omega)))).wok
          have rl := okk.rw_len row k (by omega)
          have m5 := okk.mv_len (show k < f.length by omega)
          have cP := l13Plus_c (rwQ m.length (linF m) f row k) (mvL m.length (linF m) (f[k]?.getD [])) (k := row[k]?.getD 0) (by omega) (q.2.get k) ro.1.wok mw (by omega)
          have e1 : rwQ m.length (linF m) f row (k + 1) = plusL (rwQ m.length (linF m) f row k) (row[k]?.getD 0) (mvL m.length (linF m) (f[k]?.getD [])) := rfl
          rw [← e1] at cP
          generalize hR1 : rwQ m.length (linF m) f row (k + 1) = R1 at *
          generalize rwQ m.length (linF m) f row k = R0 at *
          generalize mvL m.length (linF m) (f[k]?.getD []) = Mk at *
          simp [go_sem, hki, hkf, og, bd, rd]
          refine ⟨by kernel_rfl, ⟨him, fun e => by rw [e] at hiB; simp at hiB⟩, ⟨hkr, fun e => by rw [e] at hkr; simp at hkr⟩, ?_⟩
          refine CallD.of (cP) (by simp [roots, rootsL]) (by decide) ?_
          simp [go_sem]
          refine ⟨by kernel_rfl, ?_⟩
          simp [go_sem]
          exact ⟨⟨by omega, by omega⟩, k + 1, by omega, by omega, Off_reset _ _ _ (by simp), by simp [hR1], by omega⟩
        · have e : k = m.length := by omega
          subst e
          have hki : ¬ (m.length : Int) < m.length := by omega
          have hkf : ¬ (m.length : Int) < f.length := by omega
          rcases i with _ | j
          · simp [go_sem, hki, hkf, ptA_zero]
            refine ⟨1, by omega, by omega, (Off.reset (by intro x hx; simp at hx ⊢; omega) (by simp) (by simp [go_sem, Off_reset])), ?_, by simp⟩
            rw [ptA_succ, sn]
            simp [oprt]
          · simp [go_sem, hki, hkf, ptA_succ]
            refine ⟨⟨by omega, by omega, by omega⟩, by omega, j + 1 + 1, by omega, by omega, (Off.reset (by intro x hx; simp at hx ⊢; omega) (by simp) (by simp [go_sem, Off_reset])), ?_, by omega⟩
            rw [ptA_succ, sn]
      · have e : i = m.length := by omega
        subst e
        have hii : ¬ (m.length : Int) < m.length := by omega
        obtain ⟨j, hj⟩ : ∃ j, m.length = j + 1 := ⟨m.length - 1, by omega⟩
        have pa : ptA G m.length = .own 92 m.length (oprt G) := by
          rw [hj, ptA, ← hj, List.take_of_length_le (by omega)]
        simp [go_sem, hii, pa]
end Go.Proofs.YtoeikpioonlmfaaGreat


namespace Go.Proofs.YtoeikpioonlmfaaGreat
open Go.Abs
set_option linter.unusedSectionVars false
set_option linter.unusedVariables false
set_option linter.unusedSimpArgs false
set_option maxHeartbeats 1000000
theorem inv_det {n : Nat} {a : List (List Int)} (h0 : 0 < n) (hl : a.length = n) (hr : Rws n a) (hd : ldet n a ≠ 0) : ldet n (invL n a) ≠ 0 := by
  have ok := invL_ok h0 hl hr
  have wo := catL_ok hl hr
  have wm := fun r h => catL_mx hl hr (r := r) h
  have cf := cat_full h0 hl hr
  obtain ⟨k', h1, h2, h3⟩ := redR_GI (n + n) 0 (catL n a, 1, 0) (by omega) (GI.start wo.1 wo.2)
  rw [cf] at h3
  obtain ⟨s, t, k1, k2⟩ := h3.eqv
  have k3 : det n (sel (mx (catL n a)) fun c => n + c) * s % 10007 = det n (sel (mx (redR (n + n) 0 (catL n a, 1, 0)).1) fun c => n + c) % 10007 := k2 (fun c => n + c) (fun c hc => by omega)
  intro hz
  rw [ldet_is n _ ok.1 ok.2] at hz
  have e1 : det n (sel (mx (catL n a)) fun c => n + c) = 1 := (det_congr (M := sel (mx (catL n a)) fun c => n + c) (N := idM) (fun r c h1 h2 => (wm r h1).2 c h2)).trans (det_one n)
  have e2 : det n (sel (mx (redR (n + n) 0 (catL n a, 1, 0)).1) fun c => n + c) = det n (mx (invL n a)) := det_congr fun r c h1 h2 => (bckL_mx n _ r c).symm
  rw [e1, e2, hz, Int.one_mul] at k3
  have : s * t % 10007 = 0 := by rw [Int.mul_emod, k3]; simp
  omega
def DgL (d : Int) (L : List Mon) : Prop := ∀ a ∈ L, a.2.sum ≤ d
theorem DgL.le {d e : Int} {L : List Mon} (h : DgL d L) (hde : d ≤ e) : DgL e L := fun a ha => by have := h a ha; omega
theorem putGo_dg {d x : Int} {e : List Int} {L : List Mon} (h : DgL d L) (he : e.sum ≤ d) (b : Bool) : DgL d (putGo x e L b) := fun a ha => by
  rcases putGo_keys L b a ha with ⟨m, hm, e1⟩ | ⟨_, e1⟩
  · rw [e1]; exact h m hm
  · rw [e1]; exact he
theorem plusL_dg {d k : Int} {L l : List Mon} (h : DgL d L) (h2 : DgL d l) : DgL d (plusL L k l) := fun a ha => by
  rcases plusL_keys l L a ha with ⟨m, hm, e1⟩ | ⟨m, hm, e1⟩
  · rw [e1]; exact h m hm
  · rw [e1]; exact h2 m hm
theorem addE_sum : ∀ {a b : List Int}, a.length = b.length → (addE a b).sum = a.sum + b.sum
  | [], [], _ => rfl
  | [], y :: b, h => by simp at h
  | x :: a, [], h => by simp at h
  | x :: a, y :: b, h => by
    have ih := addE_sum (a := a) (b := b) (by simpa using h)
    unfold addE at ih ⊢
    simp only [List.zipWith_cons_cons, List.sum_cons]
    omega
theorem prodL_dg {n : Nat} {d e : Int} {L l : List Mon} (h : DgL d L) (h2 : DgL e l) (hL : ∀ a ∈ L, a.2.length = n) (hl : ∀ a ∈ l, a.2.length = n) : DgL (d + e) (prodL L l) := by
  have row : ∀ (a : Mon), a.2.sum ≤ d → a.2.length = n → ∀ (q acc : List Mon), DgL e q → (∀ b ∈ q, b.2.length = n) → DgL (d + e) acc → DgL (d + e) (prodRow a acc q) := by
    intro a ha hal q
    induction q with
    | nil => intro acc _ _ h; exact h
    | cons b q ih =>
      intro acc hq hql h
      refine ih _ (fun x hx => hq x (by simp [hx])) (fun x hx => hql x (by simp [hx])) (putGo_dg h ?_ _)
      rw [addE_sum (by rw [hal, hql b (by simp)])]
      have := hq b (by simp)
      omega
  have all : ∀ (p acc : List Mon), DgL d p → (∀ b ∈ p, b.2.length = n) → DgL (d + e) acc → DgL (d + e) (prodGo acc l p) := by
    intro p
    induction p with
    | nil => intro acc _ _ h; exact h
    | cons a p ih =>
      intro acc hp hpl h
      exact ih _ (fun x hx => hp x (by simp [hx])) (fun x hx => hpl x (by simp [hx])) (row a (hp a (by simp)) (hpl a (by simp)) l acc h2 hl h)
  exact all L [] h hL (by intro a ha; simp at ha)
theorem oneE_sum (n k : Nat) : (oneE n k).sum ≤ 1 := by
  have gen : ∀ n k : Nat, ((List.replicate n (0 : Int)).set k 1).sum ≤ 1 ∧ (List.replicate n (0 : Int)).sum = 0 := by
    intro n
    induction n with
    | zero => intro k; simp
    | succ n ih =>
      intro k
      cases k with
      | zero => have := (ih 0).2; simp [List.replicate_succ, this]
      | succ k => have := (ih k).1; have := (ih k).2; simp [List.replicate_succ]; omega
  exact (gen n k).1
theorem linK_dg (row : List Int) : ∀ k, DgL 1 (linK row k)
  | 0 => by intro a ha; simp [linK] at ha
  | k + 1 => putGo_dg (linK_dg row k) (oneE_sum _ _) _
section
variable {z : Int} {f : List (List Mon)} {m : List (List Int)}
theorem TfOk.ch_dg (h : TfOk z f m) {a : Mon} (vo : VOk m.length a) : ∀ i : Nat, i ≤ m.length → DgL (((a.2.take i).map Int.toNat).sum : Nat) (chQ' m.length (linF m) a i)
  | 0, _ => by
    intro x hx
    simp [chQ'] at hx
    subst hx
    have : (List.replicate m.length (0 : Int)).sum = 0 := by
      generalize m.length = n
      induction n with
      | zero => rfl
      | succ n ih => rw [List.replicate_succ, List.sum_cons, ih]; rfl
    simp [this]
  | i + 1, hi => by
    have ih := TfOk.ch_dg h vo i (by omega)
    have hc := (Rlt.chain h.n3 (by simp) (linF_len m) h.line vo i (by omega)).wok
    have hl := (h.line i (by omega)).wok
    have dl : DgL 1 ((linF m)[i]?.getD []) := by rw [linF_get (by omega)]; exact linK_dg _ _
    have gen : ∀ t : Nat, DgL ((((a.2.take i).map Int.toNat).sum : Nat) + (t : Int)) (stL ((linF m)[i]?.getD []) (chQ' m.length (linF m) a i) t) ∧ ∀ x ∈ stL ((linF m)[i]?.getD []) (chQ' m.length (linF m) a i) t, x.2.length = m.length := by
      intro t
      have hp := (Rlt.pow h.n3 (Rlt.chain h.n3 (by simp) (linF_len m) h.line vo i (by omega)) (h.line i (by omega)) t).wok
      refine ⟨?_, fun x hx => (hp x hx).len⟩
      induction t with
      | zero => exact ih.le (by omega)
      | succ t iht =>
        have hp2 := (Rlt.pow h.n3 (Rlt.chain h.n3 (by simp) (linF_len m) h.line vo i (by omega)) (h.line i (by omega)) t).wok
        exact (prodL_dg (iht hp2) dl (fun x hx => (hp2 x hx).len) (fun x hx => (hl x hx).len)).le (by omega)
    have h4 : ((a.2.take (i + 1)).map Int.toNat).sum = ((a.2.take i).map Int.toNat).sum + (a.2[i]?.getD 0).toNat := by
      rw [List.take_add_one, List.map_append, List.sum_append]
      cases a.2[i]? <;> simp
    rw [chQ', h4]
    exact (gen _).1.le (by omega)
theorem TfOk.mv_dg (h : TfOk z f m) {k : Nat} (hk : k < f.length) : DgL 3 (mvL m.length (linF m) (f[k]?.getD [])) := by
  have hp := h.hF.part _ (memD [] hk)
  have hd := degB_of hp
  have gen : ∀ (p L : List Mon), (∀ a ∈ p, VOk m.length a ∧ degL a.2 0 ≤ 3) → DgL 3 L → DgL 3 (p.foldl (fun s a => plusL s 1 (chQ' m.length (linF m) a (linF m).length)) L) := by
    intro p
    induction p with
    | nil => intro L _ h; exact h
    | cons a p ih =>
      intro L hp hL
      obtain ⟨vo, hd⟩ := hp a (by simp)
      obtain ⟨g1, g2⟩ := degL_le (by omega) hd
      have h4 := sum_toNat a.2 (fun x hx => (g1 x hx).1)
      have h5 := sum_take a.2 m.length
      refine ih _ (fun b hb => hp b (by simp [hb])) (plusL_dg hL ?_)
      rw [linF_len]
      exact (h.ch_dg vo m.length (Nat.le_refl _)).le (by omega)
  exact gen _ [] (fun a ha => ⟨h.vok _ (memD [] hk) a ha, hd a ha⟩) (by intro a ha; simp at ha)
theorem TfOk.rw_dg (h : TfOk z f m) (row : List Int) : ∀ k, k ≤ f.length → DgL 3 (rwQ m.length (linF m) f row k)
  | 0, _ => by intro a ha; simp [rwQ] at ha
  | k + 1, hk => plusL_dg (TfOk.rw_dg h row k (by omega)) (h.mv_dg (by omega))
theorem degL_of : ∀ (xs : List Int) (s : Int), (∀ x ∈ xs, 0 ≤ x ∧ x ≤ 100) → degL xs s = s + xs.sum
  | [], s, _ => by simp [degL]
  | x :: xs, s, h => by
    have h1 := h x (by simp)
    rw [degL, if_neg (by omega), degL_of xs _ (fun y hy => h y (by simp [hy])), List.sum_cons]
    omega
theorem TfOk.fld (h : TfOk z f m) (B : List (List Int)) : fieldB z (trF m.length m f B) = true := by
  have zm := h.zm
  refine fieldB_iff.2 ⟨h.hF.lo, h.hF.hi, by simpa using zm, fun p hp => ?_⟩
  obtain ⟨i, hi, rfl⟩ := List.mem_map.1 hp
  have ro := h.rows (B[i]?.getD []) m.length (Nat.le_refl _)
  have dg := h.rw_dg (B[i]?.getD []) f.length (Nat.le_refl _)
  rw [h.fl] at dg
  rw [partB_deg (fun a ha => by have := (ro.1.wok a ha).len; omega) ro.2.1 ro.2.2]
  refine List.all_eq_true.2 fun a ha => ?_
  have w := ro.1.wok a ha
  rw [degL_of _ _ (fun x hx => ⟨(w.pw x hx).1, by have := (w.pw x hx).2; omega⟩)]
  have := dg a ha
  simp
  omega
theorem TfOk.lok (h : TfOk z f m) (k : Nat) : LOk m.length (f[k]?.getD []) := by
  rcases Nat.lt_or_ge k f.length with hk | hk
  · exact fun a ha => ⟨(h.vok _ (memD [] hk) a ha).len, fun x hx => ((h.vok _ (memD [] hk) a ha).pw x hx).1⟩
  · have : f[k]?.getD [] = [] := by simp [hk]
    rw [this]; intro a ha; simp at ha
theorem TfOk.back (h : TfOk z f m) (hd : ldet m.length m ≠ 0) : trF m.length (invL m.length m) (trF m.length m f (invL m.length m)) (invL m.length (invL m.length m)) = f := by
  have n1 := h.n1
  have n3 := h.n3
  have io := invL_ok n1 rfl h.hr
  have id := inv_det n1 rfl h.hr hd
  have hI := inv_InvR n1 rfl h.hr hd
  have hJ := inv_InvR n1 io.1 io.2 id
  have ok2 : TfOk z (trF m.length m f (invL m.length m)) (invL m.length m) := ⟨fieldB_iff.1 (h.fld _), by omega, by omega, by rw [io.1]; exact h.zm, by simp [io.1], by rw [io.1]; exact io.2⟩
  have cf := fun i (hi : i < m.length) K => trF_back n3 rfl h.hr io.1 io.2 h.fl h.lok hI hJ hi K
  generalize invL m.length (invL m.length m) = C at *
  refine List.ext_getElem (by simp [h.fl]) fun i hi hj => ?_
  have him : i < m.length := by simpa using hi
  have e1 : (trF m.length (invL m.length m) (trF m.length m f (invL m.length m)) C)[i] = (trF m.length (invL m.length m) (trF m.length m f (invL m.length m)) C)[i]?.getD [] := by simp [him]
  have e2 : f[i] = f[i]?.getD [] := by simp [hj]
  have hc := cf i him
  rw [e1, e2]
  rw [trF_at him] at hc ⊢
  have ro := ok2.rows (C[i]?.getD []) m.length (by rw [io.1]; exact Nat.le_refl _)
  rw [io.1] at ro
  have hp := h.hF.part _ (memD [] hj)
  exact list_unique n3 (fun a ha => (ro.1.wok a ha).len) (fun a ha => (h.lok i a ha).1) ro.2.1 (partSrt hp).1 ro.2.2 (partSrt hp).2 hc
end
theorem Lv_lvB {t : List Int} (h : Lv t) (h8 : t.length ≤ 8) : lvB t = true := by
  unfold lvB
  have h1 : lv0 t = true := lv0_yes h.1 h.2.1 (fun j h0 hj => by
    have := h.2.2 j h0 hj
    unfold okB
    rw [decide_eq_true this.1, decide_eq_true this.2]; rfl)
  rw [h1, decide_eq_true h8]; rfl
end Go.Proofs.YtoeikpioonlmfaaGreat


namespace Go.Proofs.YtoeikpioonlmfaaGreat
open Go.Abs
set_option linter.unusedSectionVars false
set_option linter.unusedVariables false
set_option linter.unusedSimpArgs false
set_option maxHeartbeats 1000000
theorem vec_mk {z : Int} {v : List Int} (h1 : (v.length : Int) = z) (h2 : Ns v) : vecB z v = true := vecB_iff.2 ⟨h1, h2⟩
theorem dot_sumTo (a b : List Int) (h : a.length = b.length) : dotI a b = sumTo (fun i => yat a i * yat b i) a.length := by
  have gen : ∀ k, k ≤ a.length → dotI (a.take k) (b.take k) = sumTo (fun i => yat a i * yat b i) k := by
    intro k
    induction k with
    | zero => intro _; simp [dotI, sumTo]
    | succ k ih =>
      intro hk
      rw [dotI_take (by omega) (by omega), ih (by omega)]
      rfl
  have := gen a.length (Nat.le_refl _)
  rw [List.take_length] at this
  rw [h, List.take_length] at this
  rw [this, h]
end Go.Proofs.YtoeikpioonlmfaaGreat


namespace Go.Proofs.YtoeikpioonlmfaaGreat
open Go.Abs
set_option linter.unusedSectionVars false
set_option linter.unusedVariables false
set_option linter.unusedSimpArgs false
set_option maxHeartbeats 4000000
theorem DrawTransformField_f (c : List Int) (hc : Byt c) :
    RCon Tryz.prog 34 [.sl c.length (bys c)] (fun r o => o = [.any] ∧ ∃ (z : Int) (f : List (List Mon)) (A : List (List Int)), DrS z f ∧ A.length ≤ 3 ∧ Rws A.length A ∧ r = .tup [.agg [.int z, .sl f.length (prt f)], .sl A.length (mat A)]) := by
  refine (RCon.fz (DrawTransformField_r c hc)).mono ?_
  rintro r o ⟨_, ⟨h1, z, f, A, x, y, h2, h3, h4, h5, h6, rfl⟩, rfl⟩
  refine ⟨h1, z, f, A, h2, h3, h4, ?_⟩
  simp [frz, frzL, h5, h6]
set_option maxRecDepth 100000 in
theorem InverseMatrix_c (a : List (List Int)) (h1 : 1 ≤ a.length) (h8 : a.length ≤ 8) (hr : Rws a.length a) (hd : ldet a.length a ≠ 0) :
    Con Tryz.prog 39 [.sl a.length (mat a)] (.tup [.own 35 a.length (omat (invL a.length a)), .int 0]) := by
  have r0 := hr.at (show 0 < a.length by omega)
  have cM := isMatrix_c a (by omega) (fun r h => by have := (hr r h).1; omega)
  have hM : matB a = true := matB_iff.2 ⟨by omega, by omega, fun r h => ⟨by have := (hr r h).1; omega, (hr r h).2⟩⟩
  rw [hM] at cM
  have cV := inverseOf_c a h1 rfl (by omega) hr
  rw [invB_is h1 rfl hr, decide_eq_true hd, if_pos rfl] at cV
  have m0 := mat_drop (xss := a) (k := 0) (by omega)
  simp only [List.drop_zero] at m0
  have m1 : AV.sl (a[0]?.getD []).length (avs (a[0]?.getD [])) :: mat a.tail = mat a := by cases a with | nil => simp at h1 | cons x l => simp [mat]
  have ne : ¬ a = [] := by rintro rfl; simp at h1
  have r0l : (a[0]?.getD []).length = a.length := r0.1
  refine con_of_vc Tryz.mixed ⟨6, [], [], []⟩ Tryz.func39 (by decide) rfl (by simp) (by decide) (by simp [freshOK, freshL, go_sem]) ?_
  rw [Tryz.ntmps39]
  simp [go_sem]
  refine CallVC.of (cM) (by decide) ?_
  simp [go_sem]
  simp [go_sem, m0]
  simp only [m1]
  simp [go_sem, r0l, ne]
  refine ⟨by omega, ?_⟩
  refine CallVC.of (cV) (by decide) ?_
  simp [go_sem]
set_option maxRecDepth 100000 in
theorem FnTransforms_c (c : List Int) (hl : c.length ≤ 9223372036854775807) (hb : ∀ x ∈ c, 0 ≤ x ∧ x ≤ 255) : Con Tryz.prog 5 [.sl c.length (bys c)] (.bool true) := by
  have cB := big_c c hl
  by_cases hc4 : 4096 < c.length
  · refine con_of_vc Tryz.mixed ⟨27, [10, 11, 16, 18, 23], [1000000 + 14, 2000000 + 34, 2000000 + 13, 2000000 + 35], []⟩ Tryz.func5 (by decide) rfl (by simp) (by decide) (by simp [freshOK, freshL, go_sem]) ?_
    rw [Tryz.ntmps5]
    simp [go_sem]
    refine CallVC.of (cB) (by decide) ?_
    simp [go_sem]
    simp [go_sem, hc4]
  · have hc : Byt c := ⟨by omega, hb⟩
    have cD := DrawTransformField_f c hc
    have cR := roll_r c 610 hc
    refine con_of_vc Tryz.mixed ⟨27, [10, 11, 16, 18, 23], [1000000 + 14, 2000000 + 34, 2000000 + 13, 2000000 + 35], []⟩ Tryz.func5 (by decide) rfl (by simp) (by decide) (by simp [freshOK, freshL, go_sem]) ?_
    rw [Tryz.ntmps5]
    simp [go_sem]
    refine CallVC.of (cB) (by decide) ?_
    simp [go_sem]
    simp [go_sem, hc4]
    refine ⟨_, cD, ?_⟩
    rintro _ _ ⟨rfl, z, f, m, hD, hm3, hR, rfl⟩
    have hS := hD.small
    have cA := TransformField_c z f m hS (by omega) (fun r h => by have := (hR r h).1; omega)
    have cS := specTransformField_c z f m hS (by omega) (fun r h => by have := (hR r h).1; omega)
    unfold tfR at cA cS
    have cL := likeField5_c (if tfE z f m = 0 then z else 0) (tfX z f m) (tfX_tiny z f m).small
    simp [go_sem]
    refine CallVC.of (cA) (by decide) ?_
    simp [go_sem]
    refine CallVC.of (cS) (by decide) ?_
    simp [go_sem]
    refine CallVC.of (cL) (by decide) ?_
    simp [go_sem]
    by_cases hE : tfE z f m = 0
    · obtain ⟨hT, hQ, hd⟩ := tfE_ok hE
      have okk := TfOk.of hT hQ
      have hX : tfX z f m = trF m.length m f (invL m.length m) := by unfold tfX; rw [if_pos hE]
      have n1 := okk.n1
      have zm := okk.zm
      have fl := okk.fl
      subst zm
      simp [go_sem, hE, hX]
      refine ⟨_, cR, ?_⟩
      rintro _ _ ⟨rfl, h, rfl⟩
      have s0 : SOk ((0, h) : Src) := by unfold SOk; simp
      have cLs := list5_c c (0, h) m.length hc s0 (by omega)
      have hL := lsV_ok (f := n5V c) (fun σ h => n5V_ok hc h) m.length (0, h) s0
      generalize lsV (n5V c) m.length (0, h) = u at *
      have hyl := hL.1
      have hyN := hL.2.1
      have hs2 := hL.2.2
      clear hL
      generalize u.1 = y at *
      generalize u.2 = u2 at *
      have cT := tree5_r c u2 6 hc hs2 (by omega) (by omega)
      unfold dicA at *
      simp [go_sem]
      refine ⟨_, _, cLs, ?_⟩
      simp [go_sem]
      refine ⟨_, cT, ?_⟩
      rintro _ _ ⟨τ, t, hτ, rfl, hLv, ht6, rfl⟩
      have yl : (tim m y).length = m.length := by simp
      have n3 := okk.n3
      have io := invL_ok n1 rfl hR
      have hI := inv_InvR n1 rfl hR hd
      have hdB := inv_det n1 rfl hR hd
      have bk := okk.back hd
      have gF := okk.fld (invL m.length m)
      have gS := (okk.tiny (invL m.length m)).small
      have gl := trF_len m.length m f (invL m.length m)
      have hyz : ∀ j, j < m.length → yat (tim m y) j % 10007 = sT (fun k => mx m j k * yat y k) m.length % 10007 := fun j hj => by
        have e : yat (tim m y) j = dotI (m[j]?.getD []) y % 10007 := by unfold yat tim; simp [hj]
        rw [e, Int.emod_emod_of_dvd _ (Int.dvd_refl _), dot_sumTo _ _ (by rw [(hR.at hj).1, hyl]), sT_sumTo, (hR.at hj).1]
        rfl
      have em := fun l (hl : l < m.length) => edF_moved rfl hR fl hyl yl okk.lok hyz hI t.length t l hl
      have cIM := InverseMatrix_c m n1 (by omega) hR hd
      have cIF := IsField_c m.length (trF m.length m f (invL m.length m)) gS
      rw [gF] at cIF
      have hlv := Lv_lvB hLv (by omega)
      have yB : vecB m.length y = true := vec_mk (by omega) hyN
      have YB : vecB m.length (tim m y) = true := vec_mk (by omega) (tim_N m y)
      have cE1 := ElementaryDifferential_c m.length (trF m.length m f (invL m.length m)) t y gS (by omega) (by omega)
      have cE2 := ElementaryDifferential_c m.length f t (tim m y) hS (by omega) (by omega)
      have t0 := hLv.1
      have x1 : elX m.length (trF m.length m f (invL m.length m)) t y = edF (trF m.length m f (invL m.length m)) y t.length t := by unfold elX; rw [if_pos ⟨by rw [gF, hlv]; rfl, yB⟩]
      have x2 : elX m.length f t (tim m y) = edF f (tim m y) t.length t := by unfold elX; rw [if_pos ⟨by rw [hT, hlv]; rfl, YB⟩]
      have x3 : elE m.length (trF m.length m f (invL m.length m)) t y = 0 := by unfold elE; rw [if_pos (by rw [gF, hlv]; rfl), if_pos yB]
      have x4 : elE m.length f t (tim m y) = 0 := by unfold elE; rw [if_pos (by rw [hT, hlv]; rfl), if_pos YB]
      unfold elR at cE1 cE2
      rw [x1, x3, edF_len t0] at cE1
      rw [x2, x4, edF_len t0] at cE2
      have dN : Ns (edF f (tim m y) t.length t) := edF_N t
      have lN : Ns (edF (trF m.length m f (invL m.length m)) y t.length t) := edF_N t
      have ll : (edF (trF m.length m f (invL m.length m)) y t.length t).length = m.length := by rw [edF_len t0, gl]
      have lr : (edF f (tim m y) t.length t).length = m.length := by rw [edF_len t0, fl]
      have hRL : ∀ i, i < m.length → dotI (m[i]?.getD []) (edF (trF m.length m f (invL m.length m)) y t.length t) % 10007 = (edF f (tim m y) t.length t)[i]?.getD 0 := fun i hi => by
        have e := em i hi
        have g := dN.get i
        rw [Int.emod_eq_of_lt g.1 g.2] at e
        rw [e, dot_sumTo _ _ (by rw [(hR.at hi).1, ll]), sT_sumTo, (hR.at hi).1]
        rfl
      have cA2 := TransformField_c m.length (trF m.length m f (invL m.length m)) (invL m.length m) gS (by rw [io.1]; omega) (fun r h => by have := (io.2 r h).1; omega)
      have sB : sqB m.length (invL m.length m) = true := sqB_iff.2 ⟨⟨by rw [io.1]; omega, by rw [io.1]; omega⟩, by rw [io.1], fun r h => ⟨by have := (io.2 r h).1; omega, (io.2 r h).2⟩⟩
      have tE : tfE m.length (trF m.length m f (invL m.length m)) (invL m.length m) = 0 := by
        unfold tfE; rw [if_pos gF, if_pos sB, io.1, if_neg hdB]
      unfold tfR tfX at cA2
      rw [tE, if_pos rfl, if_pos rfl, io.1, bk] at cA2
      have cL2 := likeField5_c m.length f hS
      generalize edF (trF m.length m f (invL m.length m)) y t.length t = L at *
      generalize edF f (tim m y) t.length t = R at *
      clear em hyz bk x1 x2 x3 x4 hX
      generalize trF m.length m f (invL m.length m) = g at *
      generalize invL m.length m = B at *
      rw [gl, hyl] at cE1
      rw [gl] at cIF cA2
      rw [yl] at cE2
      have ne : ¬ m = [] := by rintro rfl; simp at n1
      simp [go_sem]
      refine loop_inv (2 :: 12 :: 13 :: 14 :: 15 :: List.range' 66 21) (fun i : Nat => [(12, .own 2 i (avs (tim (m.take i) y))), (13, .int i)]) (fun i => i ≤ m.length) (fun i => m.length - i) 0 (by simp) (by simp [go_sem, tim, avs]) (by simp [go_sem]) ?_
      intro i hi
      by_cases him : i < m.length
      · have hii : (i : Int) < m.length := by omega
        have q := hR.at him
        have cDt := DotOf_c (m[i]?.getD []) y (by omega) (by omega) q.2 hyN
        have tk := tim_take (v := y) him
        have md := mat_drop him
        rw [hyl] at cDt
        generalize m[i]?.getD [] = row at *
        simp [go_sem, hii, md]
        refine ⟨ne, ?_⟩
        refine CallVC.of (cDt) (by decide) ?_
        simp [go_sem]
        exact ⟨⟨by omega, by omega, by omega⟩, ⟨by omega, by omega⟩, i + 1, by omega, by omega, Off_reset _ _ _ (by simp), ⟨by omega, by rw [tk, avs_snoc]⟩, by omega⟩
      · have e : i = m.length := by omega
        subst e
        have hii : ¬ (m.length : Int) < m.length := by omega
        rw [List.take_length]
        simp [go_sem, hii]
        refine CallVC.of (cE1) (by decide) ?_
        simp [go_sem]
        refine CallVC.of (cE2) (by decide) ?_
        simp [go_sem]
        refine CallVC.of (cIF) (by decide) ?_
        simp [go_sem]
        have flI : (f.length : Int) = m.length := by omega
        simp [go_sem, flI]
        refine loop_inv (2 :: 20 :: 21 :: 22 :: List.range' 119 25) (fun i : Nat => [(20, .int i)]) (fun i => i ≤ m.length) (fun i => m.length - i) 0 (by simp) (by simp [go_sem]) (by simp [go_sem]) ?_
        intro i hi
        by_cases him : i < m.length
        · have hii : (i : Int) < m.length := by omega
          have q := hR.at him
          have cDt := DotOf_c (m[i]?.getD []) L (by omega) (by omega) q.2 lN
          have md := mat_drop him
          have hiR : i < R.length := by omega
          have rd := avs_drop hiR
          rw [hRL i him, ll] at cDt
          generalize m[i]?.getD [] = row at *
          rw [List.getD_eq_getElem?_getD] at rd
          generalize R[i]?.getD 0 = x at *
          simp [go_sem, hii, md]
          refine ⟨ne, ?_⟩
          refine CallVC.of (cDt) (by decide) ?_
          simp [go_sem]
          simp [go_sem, rd]
          exact ⟨⟨by omega, fun e => by rw [e] at hiR; simp at hiR⟩, ⟨by omega, by omega⟩, i + 1, by omega, by omega, Off_reset _ _ _ (by simp), by omega⟩
        · have e : i = m.length := by omega
          subst e
          have hii : ¬ (m.length : Int) < m.length := by omega
          simp [go_sem, hii]
          refine CallVC.of (cIM) (by decide) ?_
          simp [go_sem]
          refine CallVC.of (cA2) (by decide) ?_
          simp [go_sem]
          refine CallVC.of (cL2) (by decide) ?_
          simp [go_sem]
    · simp [go_sem, hE]
end Go.Proofs.YtoeikpioonlmfaaGreat

