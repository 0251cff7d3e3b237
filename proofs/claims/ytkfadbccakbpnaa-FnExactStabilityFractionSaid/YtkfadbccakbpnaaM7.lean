/- Texts of the own layer and contracts, part 7: R1 R2 R3 R7 R8 R9 LK L7. -/
import Derived.Test.YtkfadbccakbpnaaM6
/- Contracts: Gauss's elimination, the program's. -/
namespace Go.Proofs.Ytkfadbccakbpnaa
open Go.Abs
set_option linter.unusedVariables false
set_option linter.unusedSimpArgs false
set_option maxHeartbeats 4000000
theorem rmat_len (A : List (List Int)) : (mat A).length = A.length := by simp [mat]
theorem rmat_get {A : List (List Int)} {k : Nat} (h : k < A.length) : (mat A)[k]? = some (.sl (A[k]?.getD []).length (avs (A[k]?.getD []))) := by simp [mat, h]
theorem rmat_set (A : List (List Int)) (k : Nat) (l : List Int) : (mat A).set k (.sl l.length (avs l)) = mat (A.set k l) := by simp [mat, List.map_set]
theorem rmat_take (A : List (List Int)) (k : Nat) : (mat A).take k = mat (A.take k) := by simp [mat, List.map_take]
theorem rmat_no : ∀ A : List (List Int), hasOwnL (mat A) = false
  | [] => rfl
  | r :: A => by
    have := rmat_no A
    simp only [mat, List.map_cons] at this ⊢
    rw [hasOwnL, this]; rfl
theorem rmat_kl (W : List Nat) (A : List (List Int)) : klL W (mat A) = mat A := by
  induction A with
  | nil => rfl
  | cons r A ih => simp only [mat, List.map_cons] at ih ⊢; rw [klL, ih]; rfl
theorem redR_len {w : Nat} : ∀ (f k : Nat) (st : List (List Int) × Int × Nat), (redR f k st).1.length = st.1.length
  | 0, _, _ => rfl
  | f + 1, k, st => by
    rw [redR]
    split
    · rw [redR_len (w := w) f]
      unfold stepR
      split
      · rfl
      · simp
    · rfl
/-- The first i of one list, the rest of another. -/
def mxR {α : Type} (A C : List α) (i : Nat) : List α := C.take i ++ A.drop i
theorem mxR_zero {α : Type} (A C : List α) : mxR A C 0 = A := by simp [mxR]
theorem mxR_all {α : Type} {A C : List α} (h : C.length = A.length) : mxR A C A.length = C := by simp [mxR, ← h]
theorem mxR_len {α : Type} {A C : List α} (h : C.length = A.length) {i : Nat} (hi : i ≤ A.length) : (mxR A C i).length = A.length := by simp [mxR]; omega
theorem mxR_get {α : Type} {A C : List α} (h : C.length = A.length) {i j : Nat} (hi : i ≤ A.length) (d : α) : (mxR A C i)[j]?.getD d = if j < i then C[j]?.getD d else A[j]?.getD d := by
  unfold mxR
  split
  · rename_i hj
    rw [List.getElem?_append_left (by simp; omega), List.getElem?_take_of_lt hj]
  · rename_i hj
    rw [List.getElem?_append_right (by simp; omega), List.getElem?_drop]
    congr 2
    simp; omega
theorem mxR_set {α : Type} {A C : List α} (h : C.length = A.length) {i : Nat} (hi : i < A.length) (d : α) : (mxR A C i).set i (C[i]?.getD d) = mxR A C (i + 1) := by
  unfold mxR
  have hc : i < C.length := by omega
  rw [List.set_append_right _ _ (by simp; omega)]
  have e1 : (C.take i).length = i := by simp; omega
  have e2 : C.take (i + 1) = C.take i ++ [C[i]] := by rw [List.take_add_one, List.getElem?_eq_getElem hc]; rfl
  rw [e1, Nat.sub_self, List.drop_eq_getElem_cons hi, List.set_cons_zero, e2, List.getElem?_eq_getElem hc, List.append_assoc]
  rfl
theorem mxR_mem {α : Type} {A C : List α} {i : Nat} {p : α → Prop} (h1 : ∀ x ∈ A, p x) (h2 : ∀ x ∈ C, p x) : ∀ x ∈ mxR A C i, p x := fun x hx => by
  rcases List.mem_append.1 hx with hx | hx
  · exact h2 x (List.mem_of_mem_take hx)
  · exact h1 x (List.mem_of_mem_drop hx)
theorem elD_row {m : List (List Int)} {d k r : Nat} (hr : r < m.length) : (elD m d k)[r]?.getD [] = if r = d then m[d]?.getD [] else plusS (m[r]?.getD []) (m[d]?.getD []) (- mx m r k) := by
  simp [elD, hr]
set_option maxRecDepth 100000 in
theorem reduce_c {w : Nat} (a : List (List Int)) (h0 : 0 < a.length) (hl : a.length ≤ 1000) (hw : w ≤ 1000) (hr : Rws w a) :
    GCon Try.prog 145 [.sl a.length (mat a)] (.tup [.own 22 (redR w 0 (a, 1, 0)).2.2 (mat ((redR w 0 (a, 1, 0)).1.take (redR w 0 (a, 1, 0)).2.2)), .int (redR w 0 (a, 1, 0)).2.1]) [.any] := by
  have cC := Con.gfz (cloneRows_c a (by omega) (fun r h => by have := (hr r h).1; omega)) (by simp [hasOwnL, hasOwn]) (omat_frz a)
  refine gcon_of_vc Try.mixed ⟨10, [96, 124], [1000000 + 196], [131, 1001113990216]⟩ [2, 3] [] Try.func145 (by decide) rfl rfl (by simp) (by simp) (by decide) ?_
  rw [Try.ntmps145]
  simp [go_sem]
  refine ⟨_, _, cC, ?_⟩
  simp [go_sem]
  refine loop_inv ([5, 6, 7, 8, 9] ++ List.range' 12 117 ++ [4]) (fun x : Nat × List (List Int) × Int × Nat => [(4, .own 22 x.2.1.length (mat x.2.1)), (5, .int x.2.2.1), (6, .int x.2.2.2), (7, .int x.1)])
    (fun x => x.1 ≤ w ∧ x.2.1.length = a.length ∧ Rws w x.2.1 ∧ isN x.2.2.1 ∧ x.2.2.2 ≤ a.length ∧ redR (w - x.1) x.1 x.2 = redR w 0 (a, 1, 0)) (fun x => w - x.1) (0, a, 1, 0) ⟨by simp, rfl, hr, ⟨by simp, by simp⟩, by simp, rfl⟩ (by simp [go_sem]) (by simp [go_sem, rmat_kl]) ?_
  rintro ⟨k, m, det, done⟩ ⟨hk, hm, hmr, hd, hdn, he⟩
  simp only at hk hm hmr hd hdn he
  have m0 : 0 < m.length := by omega
  have g0 := rmat_get m0
  have r0 := (hmr.at m0).1
  have fin : ¬ (k < w ∧ done < m.length) → redR w 0 (a, 1, 0) = (m, det, done) := fun h => by
    rw [← he]
    rcases Nat.lt_or_ge k w with h1 | h1
    · obtain ⟨f, hf⟩ : ∃ f, w - k = f + 1 := ⟨w - k - 1, by omega⟩
      rw [hf, redR, if_neg (by simp only; omega)]
    · rw [show w - k = 0 by omega, redR]
  by_cases hkw : k < w
  · by_cases hdl : done < m.length
    · clear fin
      have hst : redR (w - (k + 1)) (k + 1) (stepR m det done k) = redR w 0 (a, 1, 0) := by
        rw [← he, show w - k = (w - (k + 1)) + 1 by omega, redR, if_pos hdl]
      clear he
      simp [go_sem, g0, m0, r0, hkw, hdl, -getElem?_pos]
      have fl := fndR_le m k (m.length - done) done
      refine loop_inv ([8] ++ List.range' 32 16) (fun i : Nat => [(8, .int i)]) (fun i => done ≤ i ∧ i ≤ m.length ∧ fndR m k (m.length - i) i = fndR m k (m.length - done) done) (fun i => m.length - i) done ⟨Nat.le_refl _, by omega, rfl⟩ (by simp [go_sem]) (by simp [go_sem]) ?_
      rintro i ⟨hi1, hi2, hi3⟩
      by_cases hil : i < m.length
      · have gi := rmat_get hil
        have ri := (hmr.at hil).1
        have hin : ((i : Nat) : Int).toNat = i := by omega
        have hfi : fndR m k (m.length - i) i = if mx m i k = 0 then fndR m k (m.length - (i + 1)) (i + 1) else i := by
          rw [show m.length - i = (m.length - (i + 1)) + 1 by omega, fndR]
        have mxi : (m[i]?.getD [])[k]?.getD 0 = mx m i k := rfl
        have kr : k < (m[i]?.getD []).length := by omega
        simp [go_sem, hil, gi, avs_drop kr, mxi, -getElem?_pos]
        by_cases hz : mx m i k = 0
        · rw [if_pos hz] at hfi
          simp [go_sem, hz]
          refine ⟨⟨by omega, fun e => by rw [e] at kr; simp at kr⟩, ⟨by omega, by omega⟩, i + 1, ⟨by omega, by omega, by rw [← hi3, hfi]⟩, by omega, Off_reset _ _ _ (by simp), by omega⟩
        · rw [if_neg hz, hi3] at hfi
          subst hfi
          clear hi3
          generalize hI : fndR m k (m.length - done) done = I at *
          have hsr : stepR m det done k = (elD (scl (swp m I done) done k) done k, (if I = done then det else (- det) % 10007) * mx (swp m I done) done k % 10007, done + 1) := by
            unfold stepR
            rw [hI, if_neg (by omega)]
          rw [hsr] at hst
          clear hsr hI
          have hIl : ¬ ((I : Nat) : Int) = m.length := by omega
          simp [go_sem, hz, hil, hIl, -getElem?_pos]
          refine ⟨⟨kr, fun e => by rw [e] at kr; simp at kr⟩, ?_⟩
          by_cases hID : I = done
          · have hsw : swp m I done = m := by unfold swp; rw [if_pos hID]
            rw [hsw, if_pos hID] at hst
            have hMl := hm
            have hMr := hmr
            have hDN := hd
            simp [go_sem, hID]
            generalize m = M at *
            generalize det = D at *
            have nd := mx_N hMr (show done < M.length by omega) k
            have gd := rmat_get (show done < M.length by omega)
            have rd := hMr.at (show done < M.length by omega)
            have kd : k < (M[done]?.getD []).length := by omega
            have mxd : (M[done]?.getD [])[k]?.getD 0 = mx M done k := rfl
            have f1 := mul_fits hDN nd
            have set1 := rmat_set M done (scalS (M[done]?.getD []) (pw (mx M done k) 10005))
            rw [scalS_len] at set1
            have hsc : M.set done (scalS (M[done]?.getD []) (pw (mx M done k) 10005)) = scl M done k := rfl
            rw [hsc] at set1
            have bl := scl_len M done k
            have br := scl_ok hMr (k := k) (show done < M.length by omega)
            have cI := inv_c (mx M done k) nd
            have pb : fits (pw (mx M done k) 10005) := by have := isN_mod ((mx M done k) ^ (10005 : Int).toNat); exact ⟨by have := this.1; show _ ≤ _ % _; omega, by have := this.2; show _ % _ ≤ _; omega⟩
            have cS := scaled_c (M[done]?.getD []) (pw (mx M done k) 10005) rd.2 pb (by omega)
            clear hsc
            generalize hb : scl M done k = b at *
            simp [go_sem, gd, avs_drop kd, mxd]
            have kne : ¬ M[done]?.getD [] = [] := fun e => by rw [e] at kd; simp at kd
            refine ⟨by omega, ⟨kd, kne⟩, f1, ?_⟩
            refine CallVC.of (num_c _ f1.1 f1.2) (by decide) ?_
            simp [go_sem]
            simp [go_sem, gd, avs_drop kd, mxd]
            refine ⟨by kernel_rfl, by omega, ⟨kd, kne⟩, ?_⟩
            refine CallD.of (cI) (by simp [roots, rootsL]) (by decide) ?_
            simp [go_sem]
            refine CallD.of cS (by simp [go_sem, roots, rootsL]) (by decide) ?_
            simp [go_sem, gd, set1]
            refine ⟨by omega, ?_⟩
            refine ⟨by kernel_rfl, ?_⟩
            simp [go_sem]
            have ce : ∀ r, r < b.length → (elD b done k)[r]?.getD [] = if r = done then b[done]?.getD [] else plusS (b[r]?.getD []) (b[done]?.getD []) (- mx b r k) := fun r hr => elD_row hr
            have cl := elD_len b done k
            have cr := elD_ok br (k := k) (show done < b.length by omega)
            generalize elD b done k = C at *
            refine loop_inv ([9] ++ List.range' 100 27 ++ [4]) (fun r : Nat => [(4, .own 22 M.length (mat (mxR b C r))), (100, .int r)]) (fun r => r ≤ M.length) (fun r => M.length - r) 0 (by simp) (by simp [go_sem, mxR_zero]) (by simp [go_sem, rmat_kl]) ?_
            intro r hr1
            by_cases hrl : r < M.length
            · have Zl := mxR_len (A := b) (C := C) (by omega) (show r ≤ b.length by omega)
              have gd2 : done < (mxR b C r).length := by omega
              have gr2 : r < (mxR b C r).length := by omega
              have gd3 := rmat_get gd2
              have gr3 := rmat_get gr2
              have zr : (mxR b C r)[r]?.getD [] = b[r]?.getD [] := by rw [mxR_get (by omega) (by omega), if_neg (by omega)]
              have zd : (mxR b C r)[done]?.getD [] = b[done]?.getD [] := by
                rw [mxR_get (by omega) (by omega)]
                split
                · rw [ce done (by omega), if_pos rfl]
                · rfl
              have sr := mxR_set (A := b) (C := C) (by omega) (show r < b.length by omega) []
              have sr0 : r = done → mxR b C (r + 1) = mxR b C r := fun e => by
                rw [← sr, ce r (by omega), if_pos e, ← zd, ← e]
                refine List.ext_getElem? fun j => ?_
                rw [List.getElem?_set]
                split
                · rename_i ej; subst ej; simp [gr2]
                · rfl
              rw [zr] at gr3
              rw [zd] at gd3
              have br1 := br.at (show r < b.length by omega)
              have bd1 := br.at (show done < b.length by omega)
              have nr := mx_N br (show r < b.length by omega) k
              have mr : (b[r]?.getD [])[k]?.getD 0 = mx b r k := rfl
              have kr1 : k < (b[r]?.getD []).length := by omega
              have fr : fits (- mx b r k) := ⟨by have := nr.2; omega, by have := nr.1; omega⟩
              have cP := plus_c (b[r]?.getD []) (b[done]?.getD []) (- mx b r k) br1.2 bd1.2 fr (by omega) (by omega)
              have setr := rmat_set (mxR b C r) r (plusS (b[r]?.getD []) (b[done]?.getD []) (- mx b r k))
              rw [plusS_len] at setr
              generalize hZ : mxR b C r = Z at *
              generalize hZ2 : mxR b C (r + 1) = Z2 at *
              have kne1 : ¬ b[r]?.getD [] = [] := fun e => by rw [e] at kr1; simp at kr1
              by_cases hrd : r = done
              · have h2 := sr0 hrd
                have hdM : done < M.length := by omega
                simp [go_sem, hrd, hdM]
                exact ⟨by omega, r + 1, by omega, by omega, Off_reset _ _ _ (by simp), by rw [hZ2, h2], by omega⟩
              · have hcr := ce r (by omega)
                rw [if_neg hrd] at hcr
                rw [hcr] at sr
                rw [sr] at setr
                have hri : ¬ ((r : Nat) : Int) = done := by omega
                simp [go_sem, hrl, hrd, hri, gd3, gr3, avs_drop kr1, mr, -getElem?_pos]
                refine ⟨by kernel_rfl, by omega, ⟨kr1, kne1⟩, ⟨by have := nr.2; omega, by have := nr.1; omega⟩, ?_⟩
                refine CallD.of cP (by simp [go_sem, roots, rootsL]) (by decide) ?_
                simp [go_sem, setr]
                refine ⟨by omega, by omega, ?_⟩
                refine ⟨by kernel_rfl, ?_⟩
                simp [go_sem]
                exact ⟨by omega, r + 1, by omega, by omega, Off_reset _ _ _ (by simp), by rw [hZ2], by omega⟩
            · have e2 : r = M.length := by omega
              subst e2
              have eC : mxR b C M.length = C := by rw [← bl]; exact mxR_all (by omega)
              rw [eC]
              simp [go_sem]
              refine ⟨⟨by omega, by omega⟩, ⟨by omega, by omega⟩, k + 1, C, D * mx M done k % 10007, done + 1, ⟨by omega, by omega, cr, isN_mod _, by omega, hst⟩, by omega, (by repeat (first | exact Off_reset _ _ _ (by simp) | (refine Off.reset (by intro x hx; simp at hx ⊢; omega) (by simp) ?_; simp -failIfUnchanged [go_sem, Off_reset]))), ⟨by omega, rfl⟩, rfl, by omega, by omega⟩
          · have hsw : swp m I done = (m.set I (m[done]?.getD [])).set done (m[I]?.getD []) := by unfold swp; rw [if_neg hID]
            have hIDi : ¬ ((I : Nat) : Int) = done := by omega
            rw [if_neg hID] at hst
            have gdd := rmat_get hdl
            have hMl : (swp m I done).length = a.length := by rw [swp_len]; exact hm
            have hMr := swp_ok hmr hil hdl
            have hDN := isN_mod (- det)
            have s1 := rmat_set m I (m[done]?.getD [])
            have s2 := rmat_set (m.set I (m[done]?.getD [])) done (m[I]?.getD [])
            rw [← hsw] at s2
            have ml : m.length = (swp m I done).length := by rw [swp_len]
            generalize swp m I done = M at *
            simp [go_sem, hIDi, gi, gdd, s1, s2, hil, hdl, -getElem?_pos]
            refine ⟨by kernel_rfl, ?_, ?_⟩
            · refine ⟨by kernel_rfl, ⟨by have := hd.2; omega, by have := hd.1; omega⟩, ?_⟩
              refine CallVC.of (num_c _ (by have := hd.2; omega) (by have := hd.1; omega)) (by decide) ?_
              simp [go_sem]
              generalize (- det) % 10007 = D at *
              rw [ml]
              have nd := mx_N hMr (show done < M.length by omega) k
              have gd := rmat_get (show done < M.length by omega)
              have rd := hMr.at (show done < M.length by omega)
              have kd : k < (M[done]?.getD []).length := by omega
              have mxd : (M[done]?.getD [])[k]?.getD 0 = mx M done k := rfl
              have f1 := mul_fits hDN nd
              have set1 := rmat_set M done (scalS (M[done]?.getD []) (pw (mx M done k) 10005))
              rw [scalS_len] at set1
              have hsc : M.set done (scalS (M[done]?.getD []) (pw (mx M done k) 10005)) = scl M done k := rfl
              rw [hsc] at set1
              have bl := scl_len M done k
              have br := scl_ok hMr (k := k) (show done < M.length by omega)
              have cI := inv_c (mx M done k) nd
              have pb : fits (pw (mx M done k) 10005) := by have := isN_mod ((mx M done k) ^ (10005 : Int).toNat); exact ⟨by have := this.1; show _ ≤ _ % _; omega, by have := this.2; show _ % _ ≤ _; omega⟩
              have cS := scaled_c (M[done]?.getD []) (pw (mx M done k) 10005) rd.2 pb (by omega)
              clear hsc
              generalize hb : scl M done k = b at *
              simp [go_sem, gd, avs_drop kd, mxd]
              have kne : ¬ M[done]?.getD [] = [] := fun e => by rw [e] at kd; simp at kd
              refine ⟨by omega, ⟨kd, kne⟩, f1, ?_⟩
              refine CallVC.of (num_c _ f1.1 f1.2) (by decide) ?_
              simp [go_sem]
              simp [go_sem, gd, avs_drop kd, mxd]
              refine ⟨by kernel_rfl, by omega, ⟨kd, kne⟩, ?_⟩
              refine CallD.of (cI) (by simp [roots, rootsL]) (by decide) ?_
              simp [go_sem]
              refine CallD.of cS (by simp [go_sem, roots, rootsL]) (by decide) ?_
              simp [go_sem, gd, set1]
              refine ⟨by omega, ?_⟩
              refine ⟨by kernel_rfl, ?_⟩
              simp [go_sem]
              have ce : ∀ r, r < b.length → (elD b done k)[r]?.getD [] = if r = done then b[done]?.getD [] else plusS (b[r]?.getD []) (b[done]?.getD []) (- mx b r k) := fun r hr => elD_row hr
              have cl := elD_len b done k
              have cr := elD_ok br (k := k) (show done < b.length by omega)
              generalize elD b done k = C at *
              refine loop_inv ([9] ++ List.range' 100 27 ++ [4]) (fun r : Nat => [(4, .own 22 M.length (mat (mxR b C r))), (100, .int r)]) (fun r => r ≤ M.length) (fun r => M.length - r) 0 (by simp) (by simp [go_sem, mxR_zero]) (by simp [go_sem, rmat_kl]) ?_
              intro r hr1
              by_cases hrl : r < M.length
              · have Zl := mxR_len (A := b) (C := C) (by omega) (show r ≤ b.length by omega)
                have gd2 : done < (mxR b C r).length := by omega
                have gr2 : r < (mxR b C r).length := by omega
                have gd3 := rmat_get gd2
                have gr3 := rmat_get gr2
                have zr : (mxR b C r)[r]?.getD [] = b[r]?.getD [] := by rw [mxR_get (by omega) (by omega), if_neg (by omega)]
                have zd : (mxR b C r)[done]?.getD [] = b[done]?.getD [] := by
                  rw [mxR_get (by omega) (by omega)]
                  split
                  · rw [ce done (by omega), if_pos rfl]
                  · rfl
                have sr := mxR_set (A := b) (C := C) (by omega) (show r < b.length by omega) []
                have sr0 : r = done → mxR b C (r + 1) = mxR b C r := fun e => by
                  rw [← sr, ce r (by omega), if_pos e, ← zd, ← e]
                  refine List.ext_getElem? fun j => ?_
                  rw [List.getElem?_set]
                  split
                  · rename_i ej; subst ej; simp [gr2]
                  · rfl
                rw [zr] at gr3
                rw [zd] at gd3
                have br1 := br.at (show r < b.length by omega)
                have bd1 := br.at (show done < b.length by omega)
                have nr := mx_N br (show r < b.length by omega) k
                have mr : (b[r]?.getD [])[k]?.getD 0 = mx b r k := rfl
                have kr1 : k < (b[r]?.getD []).length := by omega
                have fr : fits (- mx b r k) := ⟨by have := nr.2; omega, by have := nr.1; omega⟩
                have cP := plus_c (b[r]?.getD []) (b[done]?.getD []) (- mx b r k) br1.2 bd1.2 fr (by omega) (by omega)
                have setr := rmat_set (mxR b C r) r (plusS (b[r]?.getD []) (b[done]?.getD []) (- mx b r k))
                rw [plusS_len] at setr
                generalize hZ : mxR b C r = Z at *
                generalize hZ2 : mxR b C (r + 1) = Z2 at *
                have kne1 : ¬ b[r]?.getD [] = [] := fun e => by rw [e] at kr1; simp at kr1
                by_cases hrd : r = done
                · have h2 := sr0 hrd
                  have hdM : done < M.length := by omega
                  simp [go_sem, hrd, hdM]
                  exact ⟨by omega, r + 1, by omega, by omega, Off_reset _ _ _ (by simp), by rw [hZ2, h2], by omega⟩
                · have hcr := ce r (by omega)
                  rw [if_neg hrd] at hcr
                  rw [hcr] at sr
                  rw [sr] at setr
                  have hri : ¬ ((r : Nat) : Int) = done := by omega
                  simp [go_sem, hrl, hrd, hri, gd3, gr3, avs_drop kr1, mr, -getElem?_pos]
                  refine ⟨by kernel_rfl, by omega, ⟨kr1, kne1⟩, ⟨by have := nr.2; omega, by have := nr.1; omega⟩, ?_⟩
                  refine CallD.of cP (by simp [go_sem, roots, rootsL]) (by decide) ?_
                  simp [go_sem, setr]
                  refine ⟨by omega, by omega, ?_⟩
                  refine ⟨by kernel_rfl, ?_⟩
                  simp [go_sem]
                  exact ⟨by omega, r + 1, by omega, by omega, Off_reset _ _ _ (by simp), by rw [hZ2], by omega⟩
              · have e2 : r = M.length := by omega
                subst e2
                have eC : mxR b C M.length = C := by rw [← bl]; exact mxR_all (by omega)
                rw [eC]
                simp [go_sem]
                refine ⟨⟨by omega, by omega⟩, ⟨by omega, by omega⟩, k + 1, C, D * mx M done k % 10007, done + 1, ⟨by omega, by omega, cr, isN_mod _, by omega, hst⟩, by omega, (by repeat (first | exact Off_reset _ _ _ (by simp) | (refine Off.reset (by intro x hx; simp at hx ⊢; omega) (by simp) ?_; simp -failIfUnchanged [go_sem, Off_reset]))), ⟨by omega, rfl⟩, rfl, by omega, by omega⟩
            · refine ⟨by kernel_rfl, ⟨by have := hd.2; omega, by have := hd.1; omega⟩, ?_⟩
              refine CallVC.of (num_c _ (by have := hd.2; omega) (by have := hd.1; omega)) (by decide) ?_
              simp [go_sem]
              generalize (- det) % 10007 = D at *
              rw [ml]
              have nd := mx_N hMr (show done < M.length by omega) k
              have gd := rmat_get (show done < M.length by omega)
              have rd := hMr.at (show done < M.length by omega)
              have kd : k < (M[done]?.getD []).length := by omega
              have mxd : (M[done]?.getD [])[k]?.getD 0 = mx M done k := rfl
              have f1 := mul_fits hDN nd
              have set1 := rmat_set M done (scalS (M[done]?.getD []) (pw (mx M done k) 10005))
              rw [scalS_len] at set1
              have hsc : M.set done (scalS (M[done]?.getD []) (pw (mx M done k) 10005)) = scl M done k := rfl
              rw [hsc] at set1
              have bl := scl_len M done k
              have br := scl_ok hMr (k := k) (show done < M.length by omega)
              have cI := inv_c (mx M done k) nd
              have pb : fits (pw (mx M done k) 10005) := by have := isN_mod ((mx M done k) ^ (10005 : Int).toNat); exact ⟨by have := this.1; show _ ≤ _ % _; omega, by have := this.2; show _ % _ ≤ _; omega⟩
              have cS := scaled_c (M[done]?.getD []) (pw (mx M done k) 10005) rd.2 pb (by omega)
              clear hsc
              generalize hb : scl M done k = b at *
              simp [go_sem, gd, avs_drop kd, mxd]
              have kne : ¬ M[done]?.getD [] = [] := fun e => by rw [e] at kd; simp at kd
              refine ⟨by omega, ⟨kd, kne⟩, f1, ?_⟩
              refine CallVC.of (num_c _ f1.1 f1.2) (by decide) ?_
              simp [go_sem]
              simp [go_sem, gd, avs_drop kd, mxd]
              refine ⟨by kernel_rfl, by omega, ⟨kd, kne⟩, ?_⟩
              refine CallD.of (cI) (by simp [roots, rootsL]) (by decide) ?_
              simp [go_sem]
              refine CallD.of cS (by simp [go_sem, roots, rootsL]) (by decide) ?_
              simp [go_sem, gd, set1]
              refine ⟨by omega, ?_⟩
              refine ⟨by kernel_rfl, ?_⟩
              simp [go_sem]
              have ce : ∀ r, r < b.length → (elD b done k)[r]?.getD [] = if r = done then b[done]?.getD [] else plusS (b[r]?.getD []) (b[done]?.getD []) (- mx b r k) := fun r hr => elD_row hr
              have cl := elD_len b done k
              have cr := elD_ok br (k := k) (show done < b.length by omega)
              generalize elD b done k = C at *
              refine loop_inv ([9] ++ List.range' 100 27 ++ [4]) (fun r : Nat => [(4, .own 22 M.length (mat (mxR b C r))), (100, .int r)]) (fun r => r ≤ M.length) (fun r => M.length - r) 0 (by simp) (by simp [go_sem, mxR_zero]) (by simp [go_sem, rmat_kl]) ?_
              intro r hr1
              by_cases hrl : r < M.length
              · have Zl := mxR_len (A := b) (C := C) (by omega) (show r ≤ b.length by omega)
                have gd2 : done < (mxR b C r).length := by omega
                have gr2 : r < (mxR b C r).length := by omega
                have gd3 := rmat_get gd2
                have gr3 := rmat_get gr2
                have zr : (mxR b C r)[r]?.getD [] = b[r]?.getD [] := by rw [mxR_get (by omega) (by omega), if_neg (by omega)]
                have zd : (mxR b C r)[done]?.getD [] = b[done]?.getD [] := by
                  rw [mxR_get (by omega) (by omega)]
                  split
                  · rw [ce done (by omega), if_pos rfl]
                  · rfl
                have sr := mxR_set (A := b) (C := C) (by omega) (show r < b.length by omega) []
                have sr0 : r = done → mxR b C (r + 1) = mxR b C r := fun e => by
                  rw [← sr, ce r (by omega), if_pos e, ← zd, ← e]
                  refine List.ext_getElem? fun j => ?_
                  rw [List.getElem?_set]
                  split
                  · rename_i ej; subst ej; simp [gr2]
                  · rfl
                rw [zr] at gr3
                rw [zd] at gd3
                have br1 := br.at (show r < b.length by omega)
                have bd1 := br.at (show done < b.length by omega)
                have nr := mx_N br (show r < b.length by omega) k
                have mr : (b[r]?.getD [])[k]?.getD 0 = mx b r k := rfl
                have kr1 : k < (b[r]?.getD []).length := by omega
                have fr : fits (- mx b r k) := ⟨by have := nr.2; omega, by have := nr.1; omega⟩
                have cP := plus_c (b[r]?.getD []) (b[done]?.getD []) (- mx b r k) br1.2 bd1.2 fr (by omega) (by omega)
                have setr := rmat_set (mxR b C r) r (plusS (b[r]?.getD []) (b[done]?.getD []) (- mx b r k))
                rw [plusS_len] at setr
                generalize hZ : mxR b C r = Z at *
                generalize hZ2 : mxR b C (r + 1) = Z2 at *
                have kne1 : ¬ b[r]?.getD [] = [] := fun e => by rw [e] at kr1; simp at kr1
                by_cases hrd : r = done
                · have h2 := sr0 hrd
                  have hdM : done < M.length := by omega
                  simp [go_sem, hrd, hdM]
                  exact ⟨by omega, r + 1, by omega, by omega, Off_reset _ _ _ (by simp), by rw [hZ2, h2], by omega⟩
                · have hcr := ce r (by omega)
                  rw [if_neg hrd] at hcr
                  rw [hcr] at sr
                  rw [sr] at setr
                  have hri : ¬ ((r : Nat) : Int) = done := by omega
                  simp [go_sem, hrl, hrd, hri, gd3, gr3, avs_drop kr1, mr, -getElem?_pos]
                  refine ⟨by kernel_rfl, by omega, ⟨kr1, kne1⟩, ⟨by have := nr.2; omega, by have := nr.1; omega⟩, ?_⟩
                  refine CallD.of cP (by simp [go_sem, roots, rootsL]) (by decide) ?_
                  simp [go_sem, setr]
                  refine ⟨by omega, by omega, ?_⟩
                  refine ⟨by kernel_rfl, ?_⟩
                  simp [go_sem]
                  exact ⟨by omega, r + 1, by omega, by omega, Off_reset _ _ _ (by simp), by rw [hZ2], by omega⟩
              · have e2 : r = M.length := by omega
                subst e2
                have eC : mxR b C M.length = C := by rw [← bl]; exact mxR_all (by omega)
                rw [eC]
                simp [go_sem]
                refine ⟨⟨by omega, by omega⟩, ⟨by omega, by omega⟩, k + 1, C, D * mx M done k % 10007, done + 1, ⟨by omega, by omega, cr, isN_mod _, by omega, hst⟩, by omega, (by repeat (first | exact Off_reset _ _ _ (by simp) | (refine Off.reset (by intro x hx; simp at hx ⊢; omega) (by simp) ?_; simp -failIfUnchanged [go_sem, Off_reset]))), ⟨by omega, rfl⟩, rfl, by omega, by omega⟩
      · have e0 : i = m.length := by omega
        subst e0
        rw [Nat.sub_self, fndR] at hi3
        have hsr : stepR m det done k = (m, 0, done) := by unfold stepR; rw [if_pos hi3.symm]
        rw [hsr] at hst
        simp [go_sem]
        exact ⟨by omega, k + 1, m, 0, done, ⟨by omega, hm, hmr, ⟨by omega, by omega⟩, hdn, hst⟩, by omega, (Off.reset (by intro x hx; simp at hx ⊢; omega) (by simp) (by simp [go_sem, Off_reset])), ⟨rfl, rfl⟩, by omega⟩
    · have hf := fin (by omega)
      have hed : done = m.length := by omega
      rw [hf]
      simp [go_sem, g0, m0, r0, hkw, hdl, -getElem?_pos]
      exact ⟨by omega, rmat_take _ _⟩
  · have hf := fin (by omega)
    rw [hf]
    simp [go_sem, g0, m0, r0, hkw, -getElem?_pos]
    exact ⟨by omega, rmat_take _ _⟩
end Go.Proofs.Ytkfadbccakbpnaa

/- Contracts: the reference's determinant, systems solved by it. -/
namespace Go.Proofs.Ytkfadbccakbpnaa
open Go.Abs
set_option linter.unusedVariables false
set_option linter.unusedSimpArgs false
set_option maxHeartbeats 4000000
theorem memR {α : Type} {l : List α} {i : Nat} (d : α) (h : i < l.length) : l[i]?.getD d ∈ l := by simp [h]
theorem avs_tk (xs : List Int) (k : Nat) : (avs xs).take k = avs (xs.take k) := by simp [avs, List.map_take]
theorem avs_dp (xs : List Int) (k : Nat) : (avs xs).drop k = avs (xs.drop k) := by simp [avs, List.map_drop]
/-- A row without a number. -/
def outL (r : List Int) (k : Nat) : List Int := r.take k ++ r.drop (k + 1)
theorem outL_len {r : List Int} {k : Nat} (h : k < r.length) : (outL r k).length = r.length - 1 := by simp [outL]; omega
theorem minL_succ {a : List (List Int)} {k i : Nat} (h : i + 1 < a.length) : ((List.range (i + 1)).map fun r => outL (a[r + 1]?.getD []) k) = ((List.range i).map fun r => outL (a[r + 1]?.getD []) k) ++ [outL (a[i + 1]?.getD []) k] := by
  rw [List.range_succ, List.map_append]; rfl
set_option maxRecDepth 100000 in
theorem l01Minor_c (a : List (List Int)) (k : Nat) (h0 : 0 < a.length) (hl : a.length ≤ 1000) (hr : ∀ r ∈ a, r.length = a.length) (hk : k < a.length) :
    Con Try.prog 195 [.sl a.length (mat a), .int k] (.own 22 (a.length - 1) (omat (minL a k))) := by
  have hm : minL a k = (List.range (a.length - 1)).map fun r => outL (a[r + 1]?.getD []) k := rfl
  rw [hm]
  refine con_of_vc Try.mixed ⟨8, [], [], []⟩ Try.func195 (by decide) rfl (by simp) (by decide) (by simp [freshOK, freshL, go_sem]) ?_
  rw [Try.ntmps195]
  simp [go_sem]
  refine loop_inv (5 :: 6 :: 7 :: List.range' 9 25) (fun i : Nat => [(5, .own 22 i (omat ((List.range i).map fun r => outL (a[r + 1]?.getD []) k))), (6, .int (i + 1))]) (fun i => i + 1 ≤ a.length) (fun i => a.length - i) 0 (by simp; omega) (by simp [go_sem, omat]) (by simp [go_sem]) ?_
  intro i hi
  simp [go_sem]
  refine ⟨fun h => ?_, fun h => ?_⟩ <;> simp at h
  · have hif : i + 1 < a.length := by omega
    have hx := hr _ (memR [] hif)
    have ii : ((i : Int) + 1).toNat = i + 1 := by omega
    have ol := outL_len (r := a[i + 1]?.getD []) (k := k) (by omega)
    have hs := minL_succ (k := k) hif
    have hdr := mat_drop hif
    have hoo : outL (a[i + 1]?.getD []) k = (a[i + 1]?.getD []).take k ++ (a[i + 1]?.getD []).drop (k + 1) := rfl
    generalize a[i + 1]?.getD [] = row at *
    have cO := l01Own_c (row.take k) (by simp; omega)
    have tl : (row.take k).length = k := by simp; omega
    rw [tl] at cO
    simp [go_sem, ii, hdr, avs_tk, avs_dp]
    have kk : ((k : Int) + 1).toNat = k + 1 := by omega
    refine ⟨⟨by omega, by omega, by rintro rfl; simp at hif⟩, by omega, ?_⟩
    refine CallVC.of (cO) (by decide) ?_
    simp [go_sem]
    simp [go_sem, ii, hdr, kk, avs_tk, avs_dp]
    have n1 : k + ((row.length : Int) - ((k : Int) + 1)).toNat = (outL row k).length := by omega
    have n2 : avs (row.take k) ++ avs ((row.drop (k + 1)).take ((row.length : Int) - ((k : Int) + 1)).toNat) = avs (outL row k) := by
      have n3 : (row.drop (k + 1)).take ((row.length : Int) - ((k : Int) + 1)).toNat = row.drop (k + 1) := List.take_of_length_le (by simp; omega)
      rw [n3, ← avs_app, hoo]
    refine ⟨⟨by omega, by omega, by rintro rfl; simp at hif⟩, ⟨by omega, by omega⟩, ⟨by omega, by omega⟩, ⟨by omega, by omega, by omega, by omega⟩, ⟨by omega, by omega⟩, ⟨by omega, by omega⟩, i + 1, by omega, by omega, Off_reset _ _ _ (by simp), ⟨rfl, ?_⟩, by omega⟩
    rw [n1, n2, hs]
    simp [omat]
  · have e : i = a.length - 1 := by omega
    subst e
    simp [go_sem]
theorem lsum_N {t : Nat → Int} : ∀ n, isN (lsum t n)
  | 0 => ⟨by simp [lsum], by simp [lsum]⟩
  | n + 1 => by rw [lsum]; split <;> exact isN_mod _
theorem ldet_isN (n : Nat) (a : List (List Int)) (hl : a.length = n) (hr : Rws n a) : isN (ldet n a) := by
  cases n with
  | zero => exact ⟨by simp [ldet], by simp [ldet]⟩
  | succ n => rw [ldet_is _ a hl hr]; exact isN_mod _
/-- A row cleared by another one. -/
def clrE (a : List (List Int)) (i : Nat) (q : Int) (k j : Nat) : Int := (mx a k (j + 1) - mx a k 0 * q % 10007 * mx a i (j + 1) % 10007) % 10007
theorem clrE_is (a : List (List Int)) (i : Nat) (q : Int) (k j : Nat) : (mx a k (j + 1) - mx a k 0 * q % 10007 * mx a i (j + 1)) % 10007 = clrE a i q k j := by unfold clrE; simp
def rowR (a : List (List Int)) (i : Nat) (q : Int) (k : Nat) : List Int := tb (clrE a i q k) (a.length - 1)
def skp (i r : Nat) : Nat := if r < i then r else r + 1
def cnt (i k : Nat) : Nat := if k ≤ i then k else k - 1
theorem restL_eq (a : List (List Int)) (i : Nat) (q : Int) : restL a i q = (List.range (a.length - 1)).map fun r => rowR a i q (skp i r) := rfl
theorem cnt_same {i k : Nat} (h : k = i) : cnt i (k + 1) = cnt i k := by unfold cnt; rw [if_neg (by omega), if_pos (by omega)]; omega
theorem cnt_next {i k : Nat} (h : k ≠ i) : cnt i (k + 1) = cnt i k + 1 ∧ skp i (cnt i k) = k := by
  unfold cnt skp
  by_cases h1 : k < i
  · rw [if_pos (by omega), if_pos (by omega), if_pos h1]; exact ⟨rfl, rfl⟩
  · rw [if_neg (by omega), if_neg (show ¬ k ≤ i by omega), if_neg (by omega)]; exact ⟨by omega, by omega⟩
set_option maxRecDepth 100000 in
theorem l01Det_c : ∀ (n : Nat) (a : List (List Int)), a.length = n → n ≤ 100 → Rws n a → Con Try.prog 142 [.sl a.length (mat a)] (.int (ldet n a))
  | 0, a, hl, hn, hr => by
    have h0 : a = [] := List.length_eq_zero_iff.1 hl
    subst h0
    refine con_of_vc Try.mixed ⟨13, [], [], []⟩ Try.func142 (by decide) rfl (by simp) (by decide) (by simp [freshOK, freshL, go_sem]) ?_
    rw [Try.ntmps142]
    simp [go_sem]
    rfl
  | n + 1, a, hl, hn, hr => by
    have ih := fun b hb hbr => l01Det_c n b hb (by omega) hbr
    have h0 : ¬ a.length = 0 := by omega
    have ne : ¬ a = [] := by rintro rfl; simp at hl
    have rl : ∀ r ∈ a, r.length = a.length := fun r h => by rw [(hr r h).1, hl]
    have m0 := mat_drop (xss := a) (k := 0) (by omega)
    simp only [List.drop_zero] at m0
    have m1 : AV.sl (a[0]?.getD []).length (avs (a[0]?.getD [])) :: mat a.tail = mat a := by cases a with | nil => simp at hl | cons x l => simp [mat]
    have r0 := hr.at (show 0 < a.length by omega)
    by_cases h4 : n + 1 ≤ 4
    · have h4' : (a.length : Int) ≤ 4 := by omega
      have e0 : ldet (n + 1) a = lsum (fun k => mx a 0 k * ldet n (minL a k) % 10007) (n + 1) := by rw [ldet, if_pos h4]
      rw [e0]
      refine con_of_vc Try.mixed ⟨13, [], [], []⟩ Try.func142 (by decide) rfl (by simp) (by decide) (by simp [freshOK, freshL, go_sem]) ?_
      rw [Try.ntmps142]
      simp [go_sem]
      simp [go_sem, h0, h4', ne]
      refine loop_inv (3 :: 4 :: 5 :: List.range' 19 26) (fun k : Nat => [(3, .int (lsum (fun k => mx a 0 k * ldet n (minL a k) % 10007) k)), (4, .int k)]) (fun k => k ≤ n + 1) (fun k => n + 1 - k) 0 (by simp) (by simp [go_sem, lsum]) (by simp [go_sem]) ?_
      intro k hk
      by_cases hkn : k < n + 1
      · have hki : (k : Int) < a.length := by omega
        have kr : k < (a[0]?.getD []).length := by omega
        have mm : (a[0]?.getD [])[k]?.getD 0 = mx a 0 k := rfl
        have cM := l01Minor_c a k (by omega) (by omega) rl (by omega)
        have ml := minL_len a k
        have mr := minL_ok hl hr hkn
        have cD := ih (minL a k) (by omega) mr
        rw [ml] at cD
        have dN := ldet_isN n (minL a k) (by omega) mr
        have f1 := mul_fits (r0.2.get k) dN
        have ls : lsum (fun k => mx a 0 k * ldet n (minL a k) % 10007) (k + 1) = if k % 2 = 0 then (lsum (fun k => mx a 0 k * ldet n (minL a k) % 10007) k + mx a 0 k * ldet n (minL a k) % 10007) % 10007 else (lsum (fun k => mx a 0 k * ldet n (minL a k) % 10007) k - mx a 0 k * ldet n (minL a k) % 10007) % 10007 := rfl
        have lN := lsum_N (t := fun k => mx a 0 k * ldet n (minL a k) % 10007) k
        have pN := isN_mod (mx a 0 k * ldet n (minL a k))
        simp [go_sem, hki, m0, avs_drop kr, mm]
        simp only [m1]
        have krn : ¬ a[0]?.getD [] = [] := fun e => by rw [e] at kr; simp at kr
        rw [mm] at f1
        refine ⟨by kernel_rfl, by omega, ⟨kr, krn⟩, ?_⟩
        refine CallD.of (cM) (by simp [roots, rootsL]) (by decide) ?_
        simp [go_sem]
        refine CallD.of (cD) (by simp [roots, rootsL]) (by decide) ?_
        simp [go_sem]
        refine CallD.of (l01Mul_c _ _ f1) (by simp [roots, rootsL]) (by decide) ?_
        simp [go_sem]
        refine ⟨by kernel_rfl, ?_⟩
        simp [go_sem]
        have kt : ((k : Nat) : Int).tmod 2 = ((k % 2 : Nat) : Int) := bit_cast k
        simp [go_sem, kt]
        generalize lsum (fun k => mx a 0 k * ldet n (minL a k) % 10007) k = L at *
        generalize mx a 0 k * ldet n (minL a k) % 10007 = p at *
        have fa := add_fits lN pN
        have fs := sub_fits lN pN
        refine ⟨fun h => ?_, fun h => ?_⟩ <;> simp at h
        · have h2 : k % 2 = 0 := by omega
          rw [if_pos h2] at ls
          simp [go_sem]
          refine CallVC.of (l01Add_c _ _ fa) (by decide) ?_
          simp [go_sem]
          exact ⟨by omega, k + 1, by omega, by omega, Off_reset _ _ _ (by simp), by rw [ls], by omega⟩
        · have h2 : ¬ k % 2 = 0 := by omega
          rw [if_neg h2] at ls
          simp [go_sem]
          refine CallVC.of (l01Sub_c _ _ fs) (by decide) ?_
          simp [go_sem]
          exact ⟨by omega, k + 1, by omega, by omega, Off_reset _ _ _ (by simp), by rw [ls], by omega⟩
      · have : k = n + 1 := by omega
        subst this
        have hki : ¬ (n : Int) + 1 < a.length := by omega
        simp [go_sem, hki]
    · have h4' : ¬ (a.length : Int) ≤ 4 := by omega
      have fl := fndR_le a 0 (n + 1) 0
      refine con_of_vc Try.mixed ⟨13, [], [], []⟩ Try.func142 (by decide) rfl (by simp) (by decide) (by simp [freshOK, freshL, go_sem]) ?_
      rw [Try.ntmps142]
      simp [go_sem]
      simp [go_sem, h0, h4', ne]
      refine loop_inv ([2] ++ List.range' 6 7 ++ List.range' 46 83) (fun i : Nat => [(6, .int i)]) (fun i => i ≤ n + 1 ∧ fndR a 0 (n + 1 - i) i = fndR a 0 (n + 1) 0) (fun i => n + 1 - i) 0 (by simp) (by simp [go_sem]) (by simp [go_sem]) ?_
      rintro i ⟨hi, hi2⟩
      by_cases hin : i < n + 1
      · have hii : (i : Int) < a.length := by omega
        have hia : i < a.length := by omega
        have ri := hr.at hia
        have k0 : 0 < (a[i]?.getD []).length := by omega
        have mm : (a[i]?.getD [])[0]?.getD 0 = mx a i 0 := rfl
        have di := avs_drop k0
        simp only [List.drop_zero] at di
        have hfi : fndR a 0 (n + 1 - i) i = if mx a i 0 = 0 then fndR a 0 (n + 1 - (i + 1)) (i + 1) else i := by
          rw [show n + 1 - i = (n + 1 - (i + 1)) + 1 by omega, fndR]
        have kne : ¬ a[i]?.getD [] = [] := fun e => by rw [e] at k0; simp at k0
        simp [go_sem, hii, mat_drop hia, di, mm]
        refine ⟨ne, k0, ?_⟩
        by_cases hz : mx a i 0 = 0
        · rw [if_pos hz] at hfi
          simp [go_sem, hz]
          exact ⟨by omega, i + 1, ⟨by omega, by rw [← hi2, hfi]⟩, by omega, Off_reset _ _ _ (by simp), by omega⟩
        · rw [if_neg hz, hi2] at hfi
          have xN := mx_N hr hia 0
          have e0 : ldet (n + 1) a = if i % 2 = 1 then (0 - mx a i 0 * ldet n (restL a i (pw (mx a i 0) 10005)) % 10007) % 10007 else mx a i 0 * ldet n (restL a i (pw (mx a i 0) 10005)) % 10007 := by
            rw [ldet, if_neg h4, hfi, if_neg (by omega)]
          rw [e0]
          clear e0 hi2
          have qN : isN (pw (mx a i 0) 10005) := isN_mod _
          simp [go_sem, hz, mat_drop hia, di, mm]
          refine ⟨⟨hia, ne⟩, k0, ?_⟩
          refine CallVC.of (l01Inv_c _ xN) (by decide) ?_
          simp [go_sem]
          generalize pw (mx a i 0) 10005 = q at *
          refine loop_inv ([7, 9, 10, 11] ++ List.range' 67 47) (fun k : Nat => [(7, .own 22 (cnt i k) (omat ((List.range (cnt i k)).map fun r => rowR a i q (skp i r)))), (9, .int k)]) (fun k => k ≤ n + 1) (fun k => n + 1 - k) 0 (by simp) (by simp [go_sem, cnt, omat]) (by simp [go_sem]) ?_
          intro k hk
          by_cases hkn : k < n + 1
          · have hkl : (k : Int) < a.length := by omega
            have hka : k < a.length := by omega
            by_cases hki : k = i
            · have hkii : (k : Int) = i := by omega
              have cs := cnt_same hki
              simp [go_sem, hkl, hkii, hii]
              exact ⟨by omega, k + 1, by omega, by omega, Off_reset _ _ _ (by simp), by rw [cs]; exact ⟨rfl, rfl⟩, by omega⟩
            · have hkii : ¬ (k : Int) = i := by omega
              have cs := cnt_next hki
              have rk := hr.at hka
              have kk0 : 0 < (a[k]?.getD []).length := by omega
              simp [go_sem, hkl, hkii]
              refine loop_inv ([10, 11] ++ List.range' 77 33) (fun j : Nat => [(10, .own 2 j (avs (tb (clrE a i q k) j))), (11, .int (j + 1))]) (fun j => j ≤ n) (fun j => n - j) 0 (by simp) (by simp [go_sem]) (by simp [go_sem]) ?_
              intro j hj
              by_cases hjn : j < n
              · have hjl : (j : Int) + 1 < a.length := by omega
                have jj : ((j : Int) + 1).toNat = j + 1 := by omega
                have dk0 : avs (a[k]?.getD []) = .val (.int .i64 (mx a k 0)) :: avs (a[k]?.getD []).tail := by
                  have := avs_drop kk0
                  rw [List.drop_zero, List.drop_one] at this
                  rw [this]; rfl
                have dk1 : (avs (a[k]?.getD []).tail).drop j = .val (.int .i64 (mx a k (j + 1))) :: avs ((a[k]?.getD []).drop (j + 2)) := by
                  rw [← List.drop_one, avs_drop (by simp; omega)]
                  congr 1
                  · simp [mx, Nat.add_comm]
                  · rw [List.drop_drop]; congr 2; omega
                have di1 : (avs (a[i]?.getD [])).drop (j + 1) = .val (.int .i64 (mx a i (j + 1))) :: avs ((a[i]?.getD []).drop (j + 2)) := by
                  rw [avs_drop (by omega)]; rfl
                have n1 := mx_N hr hka (j + 1)
                have n2 := mx_N hr hka 0
                have n3 := mx_N hr hia (j + 1)
                have f1 := mul_fits n2 qN
                have f2 := mul_fits (isN_mod (mx a k 0 * q)) n3
                have f3 := sub_fits n1 (isN_mod (mx a k 0 * q % 10007 * mx a i (j + 1)))
                have ts := tb_succ (clrE a i q k) j
                simp [go_sem, hjl, jj, mat_drop hka, mat_drop hia, dk0, dk1, di1]
                refine ⟨by kernel_rfl, ⟨hka, ne⟩, ⟨by omega, by omega⟩, ⟨hka, ne⟩, kk0, ?_⟩
                refine CallD.of (l01Mul_c _ _ f1) (by simp [roots, rootsL]) (by decide) ?_
                simp [go_sem]
                simp [go_sem, jj, mat_drop hia, di1]
                refine ⟨⟨hia, ne⟩, ⟨by omega, by omega, kne⟩, ?_⟩
                refine CallD.of (l01Mul_c _ _ f2) (by simp [roots, rootsL]) (by decide) ?_
                simp [go_sem]
                refine CallD.of (l01Sub_c _ _ f3) (by simp [roots, rootsL]) (by decide) ?_
                simp [go_sem]
                refine ⟨by omega, ?_⟩
                refine ⟨by kernel_rfl, ?_⟩
                simp [go_sem]
                exact ⟨⟨by omega, by omega⟩, j + 1, by omega, by omega, Off_reset _ _ _ (by simp), by rw [ts, avs_snoc, clrE_is]; exact ⟨rfl, rfl⟩, by omega⟩
              · have e2 : j = n := by omega
                subst e2
                have hjl : ¬ (j : Int) + 1 < a.length := by omega
                have e4 : tb (clrE a i q k) j = rowR a i q k := by unfold rowR; rw [hl, Nat.add_sub_cancel]
                have e5 : omat ((List.range (cnt i k + 1)).map fun r => rowR a i q (skp i r)) = omat ((List.range (cnt i k)).map fun r => rowR a i q (skp i r)) ++ [.own 2 j (avs (rowR a i q k))] := by
                  have rl2 : (rowR a i q k).length = j := by unfold rowR; simp; omega
                  rw [omat_range_succ, cs.2, rl2]
                have cb : cnt i k ≤ k := by unfold cnt; split <;> omega
                simp [go_sem, hjl]
                exact ⟨by omega, by omega, k + 1, by omega, by omega, (Off.reset (by intro x hx; simp at hx ⊢; omega) (by simp) (by simp [go_sem, Off_reset])), by rw [cs.1, e5, e4]; exact ⟨rfl, rfl⟩, by omega⟩
          · have e1 : k = n + 1 := by omega
            subst e1
            have hki : ¬ (n : Int) + 1 < a.length := by omega
            have ec : cnt i (n + 1) = n := by unfold cnt; split <;> omega
            have er := restL_eq a i q
            rw [hl, Nat.add_sub_cancel] at er
            have ro := restL_ok hl i q
            have cD := ih (restL a i q) ro.1 ro.2
            rw [ro.1] at cD
            have dN := ldet_isN n (restL a i q) ro.1 ro.2
            rw [ec, ← er]
            have f1 := mul_fits xN dN
            have f2 := sub_fits (show isN 0 from ⟨by omega, by omega⟩) (isN_mod (mx a i 0 * ldet n (restL a i q)))
            simp [go_sem, hki, mat_drop hia, di, mm]
            refine ⟨by kernel_rfl, ⟨hia, ne⟩, k0, ?_⟩
            refine CallD.of (cD) (by simp [roots, rootsL]) (by decide) ?_
            simp [go_sem]
            refine CallD.of (l01Mul_c _ _ f1) (by simp [roots, rootsL]) (by decide) ?_
            simp [go_sem]
            refine ⟨by kernel_rfl, ?_⟩
            simp [go_sem]
            refine ⟨fun h => ?_, fun h => ?_⟩ <;> simp at h
            · have h2 : i % 2 = 1 := by have := bit_cast i; omega
              rw [if_pos h2]
              simp [go_sem]
              refine CallVC.of (l01Sub_c _ _ f2) (by decide) ?_
              simp [go_sem]
            · have h2 : ¬ i % 2 = 1 := by have := bit_cast i; omega
              rw [if_neg h2]
              simp [go_sem]
      · have : i = n + 1 := by omega
        subst this
        have hki : ¬ (n : Int) + 1 < a.length := by omega
        rw [Nat.sub_self, fndR] at hi2
        have e0 : ldet (n + 1) a = 0 := by rw [ldet, if_neg h4, if_pos hi2.symm]
        rw [e0]
        simp [go_sem, hki]
end Go.Proofs.Ytkfadbccakbpnaa

/- Contracts: linear systems, solved by the reference and by the program. -/
namespace Go.Proofs.Ytkfadbccakbpnaa
open Go.Abs
set_option linter.unusedVariables false
set_option linter.unusedSimpArgs false
set_option maxHeartbeats 4000000
theorem omat_kl (W : List Nat) (A : List (List Int)) : klL W (omat A) = omat A := by
  induction A with
  | nil => rfl
  | cons r A ih => simp only [omat, List.map_cons] at ih ⊢; rw [klL, ih]; rfl
/-- The solution, by determinants. -/
def sysF (n : Nat) (a : List (List Int)) (b : List Int) (k : Nat) : Int := ldet n (repL a k b) * pw (ldet n a) 10005 % 10007
def solX (n : Nat) (a : List (List Int)) (b : List Int) : List Int := if ldet n a = 0 then [] else tb (sysF n a b) n
def solR (n : Nat) (a : List (List Int)) (b : List Int) : AV := .tup [.own 2 (solX n a b).length (avs (solX n a b)), .bool (decide (ldet n a ≠ 0))]
theorem solX_N (n : Nat) (a : List (List Int)) (b : List Int) : Ns (solX n a b) := by
  unfold solX
  split
  · exact Ns.nil
  · exact tb_N fun k _ => isN_mod _
theorem solX_len {n : Nat} {a : List (List Int)} {b : List Int} (h : ldet n a ≠ 0) : (solX n a b).length = n := by unfold solX; rw [if_neg h]; simp
theorem repL_row {a : List (List Int)} {k i : Nat} {b : List Int} (hi : i < a.length) : (repL a k b)[i]?.getD [] = (a[i]?.getD []).set k (b[i]?.getD 0) := by simp [repL, hi]
set_option maxRecDepth 100000 in
theorem l01Solve_c {n : Nat} (a : List (List Int)) (b : List Int) (hl : a.length = n) (hn : n ≤ 100) (hr : Rws n a) (hb : Ns b) (hbl : n ≤ b.length) :
    Con Try.prog 68 [.sl a.length (mat a), .sl b.length (avs b)] (solR n a b) := by
  have cD := l01Det_c n a hl hn hr
  have dN := ldet_isN n a hl hr
  unfold solR solX
  by_cases h0 : ldet n a = 0
  · rw [if_pos h0]
    simp only [h0, ne_eq, not_true_eq_false, decide_false]
    refine Con.n1 _ ?_
    rw [h0] at cD
    refine con_of_vc Try.mixed ⟨11, [], [], []⟩ Try.func68 (by decide) rfl (by simp) (by decide) (by simp [freshOK, freshL, go_sem]) ?_
    rw [Try.ntmps68]
    simp [go_sem]
    refine CallVC.of (cD) (by decide) ?_
    simp [go_sem]
  · rw [if_neg h0]
    simp only [h0, ne_eq, not_false_eq_true, decide_true, tb_len]
    have sF : ∀ k, sysF n a b k = ldet n (repL a k b) * pw (ldet n a) 10005 % 10007 := fun k => rfl
    generalize ldet n a = d at *
    refine con_of_vc Try.mixed ⟨11, [], [], []⟩ Try.func68 (by decide) rfl (by simp) (by decide) (by simp [freshOK, freshL, go_sem]) ?_
    rw [Try.ntmps68]
    simp [go_sem]
    refine CallVC.of (cD) (by decide) ?_
    simp [go_sem]
    simp [go_sem, h0]
    refine loop_inv ([7, 8, 9, 10] ++ List.range' 16 32) (fun k : Nat => [(7, .own 2 k (avs (tb (sysF n a b) k))), (8, .int k)]) (fun k => k ≤ n) (fun k => n - k) 0 (by simp) (by simp [go_sem]) (by simp [go_sem]) ?_
    intro k hk
    by_cases hkn : k < n
    · have hki : (k : Int) < a.length := by omega
      have rl : ∀ r ∈ a, r.length ≤ 1048576 := fun r h => by have := (hr r h).1; omega
      have cO := l01Own2_c a (by omega) rl
      have ro := repL_ok (b := b) hl hr hb k
      have rw' : ∀ i, i < a.length → (repL a k b)[i]?.getD [] = (a[i]?.getD []).set k (b[i]?.getD 0) := fun i hi => repL_row hi
      have cR := l01Det_c n (repL a k b) ro.1 hn ro.2
      have cR : Con Try.prog 142 [.sl a.length (mat (repL a k b))] (.int (ldet n (repL a k b))) := by rw [ro.1] at cR; rw [hl]; exact cR
      have rN := ldet_isN n (repL a k b) ro.1 ro.2
      have hsf := sF k
      generalize repL a k b = B at *
      simp [go_sem, hki]
      refine CallVC.of (cO) (by decide) ?_
      simp [go_sem]
      refine loop_inv ([10] ++ List.range' 24 16 ++ [9]) (fun i : Nat => [(9, .own 22 a.length (omat (mxR a B i))), (10, .int i)]) (fun i => i ≤ n) (fun i => n - i) 0 (by simp) (by simp [go_sem, mxR_zero]) (by simp [go_sem, omat_kl]) ?_
      intro i hi
      by_cases hin : i < n
      · have hii : (i : Int) < a.length := by omega
        have hia : i < a.length := by omega
        have Ml := mxR_len (A := a) (C := B) (by omega) (show i ≤ a.length by omega)
        have hg := omat_get (A := mxR a B i) (k := i) (by omega)
        have hgi : (mxR a B i)[i]?.getD [] = a[i]?.getD [] := by rw [mxR_get (by omega) (by omega), if_neg (by omega)]
        rw [hgi] at hg
        have hset := omat_set (mxR a B i) i (B[i]?.getD [])
        rw [mxR_set (by omega) hia] at hset
        have hnew := rw' i hia
        have ri := hr.at hia
        have hkr : k < (a[i]?.getD []).length := by omega
        have hib : i < b.length := by omega
        generalize mxR a B i = M at *
        generalize B[i]?.getD [] = new at *
        generalize a[i]?.getD [] = old at *
        have bne : ¬ b = [] := by rintro rfl; simp at hib
        simp [go_sem, hii, hg, avs_drop hib]
        refine ⟨by kernel_rfl, ⟨hib, bne⟩, hkr, ?_⟩
        refine ⟨by kernel_rfl, ?_⟩
        simp [go_sem]
        exact ⟨by omega, i + 1, by omega, by omega, Off_reset _ _ _ (by simp), by rw [← hset, hnew, List.length_set, avs_set], by omega⟩
      · have e : i = n := by omega
        subst e
        have hii : ¬ (i : Int) < a.length := by omega
        have hall := mxR_all (A := a) (C := B) (by omega)
        rw [hl] at hall
        rw [hall]
        have ts := tb_succ (sysF i a b) k
        have f1 : fits (ldet i B * pw d 10005) := mul_fits rN (isN_mod _)
        simp [go_sem, hii]
        refine CallVC.of (cR) (by decide) ?_
        simp [go_sem]
        refine CallVC.of (l01Inv_c _ dN) (by decide) ?_
        simp [go_sem]
        refine CallVC.of (l01Mul_c _ _ f1) (by decide) ?_
        simp [go_sem]
        rw [← hsf]
        exact ⟨by omega, by omega, k + 1, by omega, by omega, (Off.reset (by intro x hx; simp at hx ⊢; omega) (by simp) (by simp [go_sem, Off_reset])), by rw [ts, avs_snoc]; exact ⟨rfl, rfl⟩, by omega⟩
    · have e : k = n := by omega
      subst e
      have hki : ¬ (k : Int) < a.length := by omega
      simp [go_sem, hki]
theorem leadL_c (a : List Int) (hl : a.length ≤ 1048576) : Con Try.prog 146 [.sl a.length (avs a)] (.int (leadL a)) := by
  refine con_of_vc Try.mixed ⟨4, [], [], []⟩ Try.func146 (by decide) rfl (by simp) (by decide) (by simp [freshOK, freshL, go_sem]) ?_
  rw [Try.ntmps146]
  simp [go_sem]
  refine loop_inv (3 :: List.range' 4 13) (fun i : Nat => [(3, .int i)]) (fun i => i ≤ a.length ∧ ldF a (a.length - i) i = leadL a) (fun i => a.length - i) 0 ⟨by omega, by simp [leadL]⟩ (by simp [go_sem]) (by simp [go_sem]) ?_
  rintro i ⟨hi, he⟩
  by_cases h : i < a.length
  · have hf : ldF a (a.length - i) i = if a[i]?.getD 0 = 0 then ldF a (a.length - (i + 1)) (i + 1) else i := by
      rw [show a.length - i = (a.length - (i + 1)) + 1 by omega, ldF]
    have ne : ¬ a = [] := by rintro rfl; simp at h
    have hii : (i : Int) < a.length := by omega
    by_cases hz : a[i]?.getD 0 = 0
    · rw [if_pos hz] at hf
      simp [go_sem, hii, avs_drop h, hz]
      exact ⟨ne, by omega, i + 1, ⟨by omega, by rw [← he, hf]⟩, by omega, Off_reset _ _ _ (by simp), by omega⟩
    · rw [if_neg hz, he] at hf
      simp [go_sem, hii, avs_drop h, hz]
      exact ⟨ne, by omega⟩
  · have e : i = a.length := by omega
    subst e
    rw [Nat.sub_self, ldF] at he
    simp [go_sem]
    omega
theorem widL_take {a : List (List Int)} {b : List Int} {i : Nat} (h : i < a.length) : ((List.range (i + 1)).map fun i => a[i]?.getD [] ++ [b[i]?.getD 0]) = ((List.range i).map fun i => a[i]?.getD [] ++ [b[i]?.getD 0]) ++ [a[i]?.getD [] ++ [b[i]?.getD 0]] := by
  rw [List.range_succ, List.map_append]; rfl
set_option maxRecDepth 100000 in
theorem solve_w {n : Nat} (a : List (List Int)) (b : List Int) (h0 : 0 < n) (hl : a.length = n) (hn : n ≤ 100) (hr : Rws n a) (hb : Ns b) (hbl : n ≤ b.length) {R : List (List Int)} {dt : Int} {dn : Nat} (x : AV)
    (hst : redR (n + 1) 0 (widL a b, 1, 0) = (R, dt, dn)) (gl : R.length = n) (gr : Rws (n + 1) R) (gd : dn ≤ n) (hf : freshOK x = true)
    (hA : dn = n → leadL (R[n - 1]?.getD []) = n - 1 → x = .tup [.own 2 R.length (avs (colS R n)), .bool true])
    (hB : ¬ (dn = n ∧ leadL (R[n - 1]?.getD []) = n - 1) → x = .tup [.val (.slice none 0 0), .bool false]) :
    Con Try.prog 76 [.sl a.length (mat a), .sl b.length (avs b)] x := by
  have wo := widL_ok (a := a) (b := b) hl hr hb
  have cR := reduce_c (w := n + 1) (widL a b) (by omega) (by omega) (by omega) wo.2
  have m0 := mat_drop (xss := a) (k := 0) (by omega)
  simp only [List.drop_zero] at m0
  have m1 : AV.sl (a[0]?.getD []).length (avs (a[0]?.getD [])) :: mat a.tail = mat a := by cases a with | nil => simp at hl; omega | cons x l => simp [mat]
  have r0 := hr.at (show 0 < a.length by omega)
  have hw : widL a b = (List.range a.length).map fun i => a[i]?.getD [] ++ [b[i]?.getD 0] := rfl
  have ne : ¬ a = [] := by rintro rfl; simp at hl; omega
  have wl : (widL a b).length = a.length := by simp [widL]
  rw [wl, hst] at cR
  simp only at cR
  refine con_of_vc Try.mixed ⟨12, [37], [1000000 + 145], []⟩ Try.func76 (by decide) rfl (by simp) (by decide) hf ?_
  rw [Try.ntmps76]
  simp [go_sem]
  simp [go_sem, m0]
  simp only [m1]
  refine ⟨by kernel_rfl, ⟨by omega, ne⟩, ?_⟩
  refine ⟨by kernel_rfl, ?_⟩
  simp [go_sem]
  refine loop_inv ([6, 8, 9] ++ List.range' 19 17) (fun i : Nat => [(6, .own 22 i (omat ((List.range i).map fun i => a[i]?.getD [] ++ [b[i]?.getD 0]))), (19, .int i)]) (fun i => i ≤ n) (fun i => n - i) 0 (by simp) (by simp [go_sem, omat]) (by simp [go_sem]) ?_
  intro i hi
  by_cases hin : i < n
  · have hii : (i : Int) < a.length := by omega
    have hia : i < a.length := by omega
    have hib : i < b.length := by omega
    have bne : ¬ b = [] := by rintro rfl; simp at hib
    have ri := (hr.at hia).1
    have cC := Clone_c (a[i]?.getD []) (by omega)
    have ho := omat_range_succ (fun i => a[i]?.getD [] ++ [b[i]?.getD 0]) i
    simp [go_sem, hii, mat_drop hia, avs_drop hib]
    refine ⟨ne, by kernel_rfl, ?_⟩
    refine CallD.of (cC) (by simp [roots, rootsL]) (by decide) ?_
    simp [go_sem]
    simp [go_sem, avs_drop hib]
    refine ⟨⟨hib, bne⟩, ⟨by omega, by omega⟩, ⟨by omega, by omega⟩, ?_⟩
    refine ⟨by kernel_rfl, ?_⟩
    simp [go_sem]
    refine ⟨by omega, i + 1, by omega, by omega, Off_reset _ _ _ (by simp), ?_, by omega⟩
    rw [ho, List.length_append, List.length_singleton, avs_snoc]
    exact ⟨rfl, rfl⟩
  · have e : i = a.length := by omega
    subst e
    rw [← hw]
    simp [go_sem]
    refine ⟨_, _, cR, ?_⟩
    simp [go_sem]
    have hd3 : (((a[0]?.getD []).length : Int) - 1) = ((n - 1 : Nat) : Int) := by omega
    by_cases hdn : dn = n
    · have hdR : dn = R.length := by omega
      subst hdR
      have hd0 : ((R.length : Nat) : Int) = (a[0]?.getD []).length := by omega
      have ht : R.take R.length = R := List.take_of_length_le (by omega)
      have hR1 := rmat_get (A := R) (k := n - 1) (by omega)
      have rr := (gr.at (show n - 1 < R.length by omega)).1
      have hL := leadL_c (R[n - 1]?.getD []) (by omega)
      rw [ht]
      have hk : n ≤ R.length := by omega
      have cC := column_c R n (by omega) (fun r h => by have := (gr r h).1; omega) (by omega)
      have hd4 : R.length = (a[0]?.getD []).length := by omega
      simp [go_sem, hd0, hd3, hR1]
      refine ⟨by omega, by omega, ?_⟩
      refine CallVC.of (hL) (by decide) ?_
      simp [go_sem]
      by_cases hld : leadL (R[n - 1]?.getD []) = n - 1
      · have hx := hA hdn hld
        have hlt : ¬ (leadL (R[n - 1]?.getD []) : Int) ≠ (((a[0]?.getD []).length : Int) - 1) := by omega
        subst hx
        simp [go_sem, hd3, hld]
        refine ⟨by omega, ?_⟩
        have hr0 : ((a[0]?.getD []).length : Int) = (n : Int) := by omega
        simp [go_sem, hr0]
        refine CallVC.of (cC) (by decide) ?_
        simp [go_sem]
      · have hx := hB (fun h => hld h.2)
        have hlt : ¬ (leadL (R[n - 1]?.getD []) : Int) = (((n - 1 : Nat) : Int)) := by omega
        subst hx
        simp [go_sem, hd3, hld, hlt]
        omega
    · have hx := hB (fun h => hdn h.1)
      have hd0 : ¬ ((dn : Nat) : Int) = (a[0]?.getD []).length := by omega
      subst hx
      simp [go_sem, hd0]
theorem solve_c {n : Nat} (a : List (List Int)) (b : List Int) (h0 : 0 < n) (hl : a.length = n) (hn : n ≤ 100) (hr : Rws n a) (hb : Ns b) (hbl : n ≤ b.length) :
    Con Try.prog 76 [.sl a.length (mat a), .sl b.length (avs b)] (solR n a b) := by
  have wo := widL_ok (a := a) (b := b) hl hr hb
  have sv := solve_is h0 hl hr hb
  obtain ⟨k', g1, g2, g3⟩ := redR_GI (n + 1) 0 (widL a b, 1, 0) (by omega) (GI.start wo.1 wo.2)
  have gl := g3.len
  have gr := g3.rws
  have gd := g3.dle
  clear g3 g1 g2
  generalize hst : redR (n + 1) 0 (widL a b, 1, 0) = st at *
  obtain ⟨R, dt, dn⟩ := st
  simp only at sv gl gr gd
  unfold oneB at sv
  have sv2 : ldet n a ≠ 0 → colS R n = tb (sysF n a b) n := fun h => by
    unfold colS tb
    rw [gl]
    refine List.map_congr_left fun k hk => ?_
    have hk : k < n := by simpa using hk
    exact sv.2 h k hk
  unfold solR solX
  by_cases hz : ldet n a = 0
  · rw [if_pos hz]
    have h1 := sv.1
    simp only [hz, ne_eq, not_true_eq_false, decide_false] at h1 ⊢
    refine Con.n1 _ (solve_w a b h0 hl hn hr hb hbl _ hst gl gr gd (by simp [freshOK, freshL]) (fun h2 h3 => ?_) (fun _ => rfl))
    rw [h2, h3] at h1
    simp at h1
  · rw [if_neg hz]
    have h1 := sv.1
    simp only [hz, ne_eq, not_false_eq_true, decide_true, Bool.and_eq_true, decide_eq_true_eq] at h1 ⊢
    refine solve_w a b h0 hl hn hr hb hbl _ hst gl gr gd (by simp [freshOK, freshL]) (fun h2 h3 => ?_) (fun h => (h h1).elim)
    rw [sv2 hz, tb_len, gl]
end Go.Proofs.Ytkfadbccakbpnaa

/- Contracts: products of matrices, the unit matrix, the coefficients of a determinant, the program's. -/
namespace Go.Proofs.Ytkfadbccakbpnaa
open Go.Abs
set_option linter.unusedVariables false
set_option linter.unusedSimpArgs false
set_option maxHeartbeats 4000000
theorem colS_is {n : Nat} {b : List (List Int)} (hr : Rws n b) (k : Nat) : Ns (colS b k) := tb_N fun i hi => (hr.at hi).2.get k
set_option maxRecDepth 100000 in
theorem timesMatrix_c {n : Nat} (a b : List (List Int)) (ha : a.length ≤ 64) (hn : n ≤ 64) (hr : Rws n a) (h0 : 0 < b.length) (hb : b.length = n) {w : Nat} (hw : w ≤ 64) (hrb : Rws w b) :
    Con Try.prog 103 [.sl a.length (mat a), .sl b.length (mat b)] (.own 22 a.length (omat (tmM a b))) := by
  have q0 := (hrb.at h0).1
  have m0 := mat_drop (xss := b) (k := 0) h0
  simp only [List.drop_zero] at m0
  have m1 : AV.sl (b[0]?.getD []).length (avs (b[0]?.getD [])) :: mat b.tail = mat b := by cases b with | nil => simp at h0 | cons x l => simp [mat]
  have hd : tmM a b = (List.range a.length).map fun i => tb (fun k => dotI (a[i]?.getD []) (colS b k) % 10007) w := by unfold tmM; rw [q0]
  have bne : ¬ b = [] := by rintro rfl; simp at h0
  rw [hd]
  refine con_of_vc Try.mixed ⟨10, [], [], []⟩ Try.func103 (by decide) rfl (by simp) (by decide) (by simp [freshOK, freshL, go_sem]) ?_
  rw [Try.ntmps103]
  simp [go_sem]
  refine loop_inv ([5, 7, 8, 9] ++ List.range' 13 26) (fun i : Nat => [(5, .own 22 i (omat ((List.range i).map fun i => tb (fun k => dotI (a[i]?.getD []) (colS b k) % 10007) w))), (13, .int i)]) (fun i => i ≤ a.length) (fun i => a.length - i) 0 (by simp) (by simp [go_sem, omat]) (by simp [go_sem]) ?_
  intro i hi
  by_cases hin : i < a.length
  · have hii : (i : Int) < a.length := by omega
    have ri := hr.at hin
    have os := omat_range_succ (fun i => tb (fun k => dotI (a[i]?.getD []) (colS b k) % 10007) w) i
    have ane : ¬ a = [] := by rintro rfl; simp at hin
    rw [tb_len] at os
    generalize hrow : a[i]?.getD [] = row at *
    simp [go_sem, hii, mat_drop hin, hrow, m0]
    simp only [m1]
    refine ⟨ane, h0, ?_⟩
    have ex : ∀ k, tb (fun k => dotI row (colS b k) % 10007) (k + 1) = tb (fun k => dotI row (colS b k) % 10007) k ++ [dotI row (colS b k) % 10007] := fun k => tb_succ _ k
    refine loop_inv ([8, 9] ++ List.range' 22 12) (fun k : Nat => [(8, .own 2 k (avs (tb (fun k => dotI row (colS b k) % 10007) k))), (22, .int k)]) (fun k => k ≤ w) (fun k => w - k) 0 (by simp) (by simp [go_sem]) (by simp [go_sem]) ?_
    intro k hk
    by_cases hkw : k < w
    · have hki : (k : Int) < (b[0]?.getD []).length := by omega
      have cC := column_c b k (by omega) (fun r h => by have := (hrb r h).1; omega) (by omega)
      have cD := dot_c row (colS b k) (by rw [colS_len]; omega) (by omega) ri.2 (colS_is hrb k)
      rw [colS_len] at cD
      simp [go_sem, hki]
      refine CallVC.of (cC) (by decide) ?_
      simp [go_sem]
      refine CallVC.of (cD) (by decide) ?_
      simp [go_sem]
      exact ⟨⟨by omega, by omega⟩, by omega, k + 1, by omega, by omega, Off_reset _ _ _ (by simp), by rw [ex, avs_snoc]; exact ⟨rfl, rfl⟩, by omega⟩
    · have e : k = w := by omega
      subst e
      have hki : ¬ (k : Int) < (b[0]?.getD []).length := by omega
      simp [go_sem, hki]
      exact ⟨⟨by omega, by omega⟩, by omega, i + 1, by omega, by omega, (Off.reset (by intro x hx; simp at hx ⊢; omega) (by simp) (by simp [go_sem, Off_reset])), by rw [os]; exact ⟨rfl, rfl⟩, by omega⟩
  · have e : i = a.length := by omega
    subst e
    simp [go_sem]
theorem zeroMatrix_c (n : Nat) (hn : n ≤ 64) : Con Try.prog 168 [.int n] (.own 22 n (omat (zeM n))) := by
  have hd : zeM n = (List.range n).map fun _ => List.replicate n 0 := rfl
  rw [hd]
  refine con_of_vc Try.mixed ⟨4, [], [], []⟩ Try.func168 (by decide) rfl (by simp) (by decide) (by simp [freshOK, freshL, go_sem]) ?_
  rw [Try.ntmps168]
  simp [go_sem]
  refine loop_inv ([3] ++ List.range' 6 8) (fun i : Nat => [(3, .own 22 i (omat ((List.range i).map fun _ => List.replicate n 0))), (6, .int i)]) (fun i => i ≤ n) (fun i => n - i) 0 (by simp) (by simp [go_sem, omat]) (by simp [go_sem]) ?_
  intro i hi
  by_cases hin : i < n
  · have hii : (i : Int) < n := by omega
    have os := omat_range_succ (fun _ => List.replicate n 0) i
    have rp := avs_repl n 0
    rw [List.length_replicate] at os
    simp [go_sem, hii, hin]
    exact ⟨⟨by omega, by omega⟩, ⟨by omega, by omega⟩, ⟨by omega, by omega⟩, i + 1, by omega, by omega, Off_reset _ _ _ (by simp), by rw [os, rp]; exact ⟨rfl, rfl⟩, by omega⟩
  · have e : i = n := by omega
    subst e
    simp [go_sem]
set_option maxRecDepth 100000 in
theorem addUnit_c {n : Nat} (a : List (List Int)) (k : Int) (hl : a.length = n) (hn : n ≤ 64) (hr : Rws n a) (hk : isN k) : Con Try.prog 169 [.sl a.length (mat a), .int k] (.own 22 a.length (omat (adU a k))) := by
  have cC := cloneRows_c a (by omega) (fun r h => by have := (hr r h).1; omega)
  have al := adU_len a k
  refine con_of_vc Try.mixed ⟨7, [], [], []⟩ Try.func169 (by decide) rfl (by simp) (by decide) (by simp [freshOK, freshL, go_sem]) ?_
  rw [Try.ntmps169]
  simp [go_sem]
  refine CallVC.of (cC) (by decide) ?_
  simp [go_sem]
  refine loop_inv ([5, 6] ++ List.range' 11 20) (fun i : Nat => [(5, .own 22 a.length (omat (mxR a (adU a k) i))), (11, .int i)]) (fun i => i ≤ a.length) (fun i => a.length - i) 0 (by simp) (by simp [go_sem, mxR_zero]) (by simp [go_sem, omat_kl]) ?_
  intro i hi
  by_cases hin : i < a.length
  · have hii : (i : Int) < a.length := by omega
    have hg := omat_get (A := mxR a (adU a k) i) (k := i) (by rw [mxR_len al hi]; exact hin)
    have hgi : (mxR a (adU a k) i)[i]?.getD [] = a[i]?.getD [] := by rw [mxR_get al hi, if_neg (by omega)]
    rw [hgi] at hg
    have hset := omat_set (mxR a (adU a k) i) i ((adU a k)[i]?.getD [])
    rw [mxR_set al hin] at hset
    have hnew := adU_row (k := k) hin
    have ri := hr.at hin
    have hkr : i < (a[i]?.getD []).length := by omega
    have nN := ri.2.get i
    have f1 := add_fits nN hk
    generalize mxR a (adU a k) i = M at *
    generalize (adU a k)[i]?.getD [] = new at *
    generalize a[i]?.getD [] = old at *
    simp [go_sem, hii, hg, avs_at hkr, avs_drop hkr]
    refine ⟨by kernel_rfl, hkr, f1, ?_⟩
    refine CallD.of (num_c _ f1.1 f1.2) (by simp [roots, rootsL]) (by decide) ?_
    simp [go_sem]
    simp [go_sem, hg]
    refine ⟨hkr, ?_⟩
    refine ⟨by kernel_rfl, ?_⟩
    simp [go_sem]
    exact ⟨by omega, i + 1, by omega, by omega, Off_reset _ _ _ (by simp), by rw [← hset, hnew, List.length_set, avs_set], by omega⟩
  · have e : i = a.length := by omega
    subst e
    rw [mxR_all al]
    simp [go_sem]
theorem lengthM_c (n : Nat) (cs : List AV) (hn : n ≤ 9223372036854775807) : Con Try.prog 164 [.sl n cs] (.int n) := by
  refine con_of_vc Try.mixed ⟨3, [], [], []⟩ Try.func164 (by decide) rfl (by simp) (by decide) (by simp [freshOK, freshL, go_sem]) ?_
  rw [Try.ntmps164]
  simp [go_sem]
set_option maxRecDepth 100000 in
theorem unitLess_c {n : Nat} (a : List (List Int)) (h0 : 0 < n) (h8 : n ≤ 8) (hl : a.length = n) (hr : Rws n a) : Con Try.prog 153 [.sl a.length (mat a)] (.own 2 (n + 1) (avs (chL n a))) := by
  have cZ := zeroMatrix_c n (by omega)
  have z := zeM_ok n
  have cU := addUnit_c (n := n) (zeM n) 1 z.1 (by omega) z.2 ⟨by omega, by omega⟩
  rw [z.1, fl_start n (mx a)] at cU
  have ad := adM_ok n (mx a)
  have cd : chL n a = tb (fun k => chS n (mx a) k % 10007) (n + 1) := rfl
  have c0 : tb (fun k => chS n (mx a) k % 10007) (0 + 1) = [1] := by rw [tb_succ]; simp [ch_0]
  have tl : ∀ k, (tmM a (adM n (mx a) k)).length = n := fun k => by rw [tmM_len]; exact hl
  have tr : ∀ k, Rws n (tmM a (adM n (mx a) k)) := fun k => by
    have := tmM_ok a (adM n (mx a) k)
    rwa [((ad k).2.at (show 0 < (adM n (mx a) k).length by rw [(ad k).1]; exact h0)).1] at this
  rw [cd]
  refine con_of_vc Try.mixed ⟨9, [], [], []⟩ Try.func153 (by decide) rfl (by simp) (by decide) (by simp [freshOK, freshL, go_sem]) ?_
  rw [Try.ntmps153]
  simp [go_sem]
  simp [go_sem, hl]
  refine CallVC.of (cZ) (by decide) ?_
  simp [go_sem]
  refine CallVC.of (cU) (by decide) ?_
  simp [go_sem]
  refine loop_inv ([3, 4, 5, 6, 7, 8] ++ List.range' 14 38) (fun k : Nat => [(3, .own 2 (k + 1) (avs (tb (fun k => chS n (mx a) k % 10007) (k + 1)))), (4, .own 22 n (omat (adM n (mx a) k))), (5, .int (k + 1))]) (fun k => k ≤ n) (fun k => n - k) 0 (by simp) (by simp [go_sem, c0]; rfl) (by simp [go_sem, omat_kl]) ?_
  intro k hk
  have cL := lengthM_c a.length (mat a) (by omega)
  simp [go_sem, hl]
  rw [hl] at cL
  refine CallVC.of (cL) (by decide) ?_
  simp [go_sem]
  by_cases hkn : k < n
  · have hki : (k : Int) + 1 ≤ n := by omega
    have cT := timesMatrix_c a (adM n (mx a) k) (by omega) (show n ≤ 64 by omega) hr (by rw [(ad k).1]; exact h0) (ad k).1 (show n ≤ 64 by omega) (ad k).2
    rw [(ad k).1, hl] at cT
    have tb' := trS_bound (tl k) (tr k) n (Nat.le_refl _)
    have fc := fl_coef h8 hl hr k hkn
    have fn := fl_next h0 hl hr k
    have cA := addUnit_c (n := n) (tmM a (adM n (mx a) k)) (chS n (mx a) (k + 1) % 10007) (tl k) (by omega) (tr k) (isN_mod _)
    rw [fn, tl k] at cA
    have ts := tb_succ (fun k => chS n (mx a) k % 10007) (k + 1)
    have trN := fun i hi => trS_bound (tl k) (tr k) i hi
    have mN := fun i (hi : i < n) => mx_N (tr k) (show i < (tmM a (adM n (mx a) k)).length by rw [tl k]; exact hi) i
    have tlk := tl k
    have trk := tr k
    generalize tmM a (adM n (mx a) k) = T at *
    have cI := inv_c ((k : Int) + 1) ⟨by omega, by omega⟩
    simp [go_sem, hki]
    refine CallVC.of (cT) (by decide) ?_
    simp [go_sem]
    refine loop_inv ([6, 7] ++ List.range' 25 13) (fun i : Nat => [(6, .int (trS T i)), (25, .int i)]) (fun i => i ≤ n) (fun i => n - i) 0 (by simp) (by simp [go_sem, trS]) (by simp [go_sem]) ?_
    intro i hi
    by_cases hin : i < n
    · have hii : (i : Int) < n := by omega
      have ri := trk.at (show i < T.length by omega)
      have hkr : i < (T[i]?.getD []).length := by omega
      have hg := omat_get (A := T) (k := i) (by omega)
      have mm : (T[i]?.getD [])[i]?.getD 0 = mx T i i := rfl
      have b1 := trN i hi
      have b2 := mN i hin
      obtain ⟨b3, b4⟩ := b2
      have ps : trS T (i + 1) = trS T i + mx T i i := rfl
      simp [go_sem, hii, hg, avs_at hkr, avs_drop hkr, mm]
      exact ⟨hkr, ⟨by omega, by omega⟩, ⟨by omega, by omega⟩, i + 1, by omega, by omega, Off_reset _ _ _ (by simp), by rw [ps], by omega⟩
    · have e : i = n := by omega
      subst e
      have hii : ¬ (i : Int) < i := by omega
      have hb := mul_bound (isN_mod (trS T i)) (show isN (pw ((k : Int) + 1) 10005) from isN_mod _)
      have f1 : fits (-(trS T i % 10007) * pw ((k : Int) + 1) 10005) := by
        rw [Int.neg_mul]
        exact ⟨by omega, by omega⟩
      have tn := isN_mod (trS T i)
      simp [go_sem, hii]
      refine CallVC.of (num_c _ (by omega) (by omega)) (by decide) ?_
      simp [go_sem]
      refine ⟨⟨by have := tn.2; omega, by have := tn.1; omega⟩, ?_⟩
      refine CallVC.of (cI) (by decide) ?_
      simp [go_sem]
      refine ⟨f1, ?_⟩
      refine CallVC.of (num_c _ f1.1 f1.2) (by decide) ?_
      simp [go_sem]
      rw [fc]
      refine ⟨⟨by omega, by omega⟩, ?_⟩
      refine CallVC.of (cA) (by decide) ?_
      simp [go_sem]
      exact ⟨⟨by omega, by omega⟩, k + 1, by omega, by omega, (Off.reset (by intro x hx; simp at hx ⊢; omega) (by simp) (by simp [go_sem, Off_reset])), by rw [ts, avs_snoc]; exact ⟨rfl, rfl⟩, rfl, by omega⟩
  · have e : k = n := by omega
    subst e
    have hki : ¬ (k : Int) + 1 ≤ k := by omega
    simp [go_sem, hki]
end Go.Proofs.Ytkfadbccakbpnaa

/- Contracts: the coefficients of a determinant, the reference's. -/
namespace Go.Proofs.Ytkfadbccakbpnaa
open Go.Abs
set_option linter.unusedVariables false
set_option linter.unusedSimpArgs false
set_option maxHeartbeats 4000000
def unR (n i : Nat) : List Int := tb (fun c => if c = i then 1 else 0) n
def unM (n : Nat) : List (List Int) := (List.range n).map (unR n)
theorem unR_set {n i : Nat} (h : i < n) : (List.replicate n (0 : Int)).set i 1 = unR n i := by
  refine List.ext_getElem (by simp [unR]) fun c h1 h2 => ?_
  rw [List.getElem_set]
  simp only [unR, tb, List.getElem_map, List.getElem_range]
  by_cases e : i = c
  · subst e; simp
  · rw [if_neg e, if_neg (fun x => e x.symm)]; simp
theorem unM_ok (n : Nat) : (unM n).length = n ∧ Rws n (unM n) := by
  refine ⟨by simp [unM], fun x hx => ?_⟩
  obtain ⟨i, _, rfl⟩ := List.mem_map.1 hx
  exact ⟨by simp [unR], tb_N fun k _ => by split <;> exact ⟨by omega, by omega⟩⟩
theorem unM_row {n i : Nat} (h : i < n) : (unM n)[i]?.getD [] = unR n i := by simp [unM, h]
theorem l19Unit_c (n : Nat) (hn : n ≤ 64) : Con Try.prog 95 [.int n] (.own 22 n (omat (unM n))) := by
  have hd : unM n = (List.range n).map (unR n) := rfl
  rw [hd]
  refine con_of_vc Try.mixed ⟨6, [], [], []⟩ Try.func95 (by decide) rfl (by simp) (by decide) (by simp [freshOK, freshL, go_sem]) ?_
  rw [Try.ntmps95]
  simp [go_sem]
  refine loop_inv ([3, 4, 5] ++ List.range' 7 14) (fun i : Nat => [(3, .own 22 i (omat ((List.range i).map (unR n)))), (4, .int i)]) (fun i => i ≤ n) (fun i => n - i) 0 (by simp) (by simp [go_sem, omat]) (by simp [go_sem]) ?_
  intro i hi
  by_cases hin : i < n
  · have hii : (i : Int) < n := by omega
    have os := omat_range_succ (unR n) i
    have rp := avs_repl n 0
    have rs := unR_set hin
    have ul : (unR n i).length = n := by simp [unR]
    rw [ul] at os
    simp [go_sem, hii, hin, rp]
    exact ⟨⟨by omega, by omega⟩, ⟨by omega, by omega⟩, ⟨by omega, by omega⟩, i + 1, by omega, by omega, Off_reset _ _ _ (by simp), by rw [os, avs_set, rs]; exact ⟨rfl, rfl⟩, by omega⟩
  · have e : i = n := by omega
    subst e
    simp [go_sem]
theorem unlR_is {n : Nat} {a : List (List Int)} {i : Nat} (ha : (a[i]?.getD []).length = n) (z : Nat) :
    tb (fun c => ((unR n i)[c]?.getD 0 + (tb (fun c => (a[i]?.getD [])[c]?.getD 0 * ((0 - (z : Int)) % 10007) % 10007) n)[c]?.getD 0) % 10007) n = unlR n a z i := by
  unfold unlR tb
  refine List.map_congr_left fun c hc => ?_
  have hc : c < n := by simpa using hc
  have e1 : (unR n i)[c]?.getD 0 = if c = i then 1 else 0 := tb_get (fun c => if c = i then 1 else 0) hc
  have e2 := tb_get (fun c => (a[i]?.getD [])[c]?.getD 0 * ((0 - (z : Int)) % 10007) % 10007) hc
  unfold tb at e2
  rw [e1, e2]
theorem unlL_row {n : Nat} {a : List (List Int)} {z i : Nat} (h : i < n) : (unlL n a z)[i]?.getD [] = unlR n a z i := by simp [unlL, h]
theorem interp_X {n : Nat} (h8 : n ≤ 8) (a : List (List Int)) : solX (n + 1) (vanL n) (valL n a) = chL n a := by
  unfold solX
  rw [if_neg (van_ne h8)]
  refine List.ext_getElem (by simp) fun k h1 h2 => ?_
  have hk : k < n + 1 := by simpa using h2
  have e := interp_is h8 a k hk
  simp only [tb, List.getElem_map, List.getElem_range]
  show sysF (n + 1) (vanL n) (valL n a) k = _
  unfold sysF
  rw [e, List.getElem?_eq_getElem h2]; rfl
set_option maxRecDepth 100000 in
theorem l19Det_c {n : Nat} (a : List (List Int)) (h8 : n ≤ 8) (hl : a.length = n) (hr : Rws n a) : Con Try.prog 148 [.sl a.length (mat a)] (.own 2 (n + 1) (avs (chL n a))) := by
  have cU := l19Unit_c n (by omega)
  have cS := l01Solve_c (n := n + 1) (vanL n) (valL n a) (vanL_len n) (by omega) (vanL_ok n) (valL_N n a) (by simp [valL])
  have vl : (valL n a).length = n + 1 := by simp [valL]
  have ie := interp_X h8 a
  unfold solR at cS
  rw [ie, vanL_len, vl, chL_len] at cS
  have hv : vanL n = (List.range (n + 1)).map fun (z : Nat) => tb (fun k => pw (z : Int) (k : Int)) (n + 1) := rfl
  have hw : valL n a = tb (fun z => ldet n (unlL n a z)) (n + 1) := rfl
  refine con_of_vc Try.mixed ⟨13, [], [], []⟩ Try.func148 (by decide) rfl (by simp) (by decide) (by simp [freshOK, freshL, go_sem]) ?_
  rw [Try.ntmps148]
  simp [go_sem]
  simp [go_sem, hl]
  refine loop_inv ([4, 5, 6, 7, 8, 9, 10] ++ List.range' 17 48) (fun z : Nat => [(4, .own 22 z (omat ((List.range z).map fun (z : Nat) => tb (fun k => pw (z : Int) (k : Int)) (n + 1)))), (5, .own 2 z (avs (tb (fun z => ldet n (unlL n a z)) z))), (6, .int z)]) (fun z => z ≤ n + 1) (fun z => n + 1 - z) 0 (by simp) (by simp [go_sem, omat]) (by simp [go_sem]) ?_
  intro z hz
  by_cases hzn : z ≤ n
  · have hzi : (z : Int) ≤ n := by omega
    have uo := unlL_ok n a z
    have cD := l01Det_c n (unlL n a z) uo.1 (by omega) uo.2
    rw [uo.1] at cD
    have dN := ldet_isN n (unlL n a z) uo.1 uo.2
    have ts := tb_succ (fun z => ldet n (unlL n a z)) z
    have os := omat_range_succ (fun (z : Nat) => tb (fun k => pw (z : Int) (k : Int)) (n + 1)) z
    rw [tb_len] at os
    have uM := unM_ok n
    have ur := fun i (h : i < n) => unlL_row (a := a) (z := z) h
    generalize hU : unlL n a z = U at *
    simp [go_sem, hzi, hzn]
    refine CallVC.of (cU) (by decide) ?_
    simp [go_sem]
    refine loop_inv ([8] ++ List.range' 24 20 ++ [7]) (fun i : Nat => [(7, .own 22 n (omat (mxR (unM n) U i))), (8, .int i)]) (fun i => i ≤ n) (fun i => n - i) 0 (by simp) (by simp [go_sem, mxR_zero]) (by simp [go_sem, omat_kl]) ?_
    intro i hi
    by_cases hin : i < n
    · have hii : (i : Int) < n := by omega
      have hia : i < a.length := by omega
      have ane : ¬ a = [] := by rintro rfl; simp at hia
      have hg := omat_get (A := mxR (unM n) U i) (k := i) (by rw [mxR_len (by omega) (by omega)]; omega)
      have Ml := mxR_len (A := unM n) (C := U) (by omega) (show i ≤ (unM n).length by omega)
      have hgi : (mxR (unM n) U i)[i]?.getD [] = unR n i := by rw [mxR_get (by omega) (by omega), if_neg (by omega), unM_row hin]
      rw [hgi] at hg
      have hset := omat_set (mxR (unM n) U i) i (U[i]?.getD [])
      rw [mxR_set (by omega) (by omega), ur i hin] at hset
      have ul : (unR n i).length = n := by simp [unR]
      have rl : (unlR n a z i).length = n := by simp [unlR]
      have ri := hr.at hia
      have uN : Ns (unR n i) := by rw [← unM_row hin]; exact (uM.2.at (by omega)).2
      have hRi := unlR_is ri.1 z
      have cT := l02Times_c (a[i]?.getD []) ((0 - (z : Int)) % 10007) ri.2 (isN_mod _) (by omega)
      have cA := l02Add_c (unR n i) (tb (fun c => (a[i]?.getD [])[c]?.getD 0 * ((0 - (z : Int)) % 10007) % 10007) n) uN (tb_N fun k _ => isN_mod _) (by omega) (by rw [ul, tb_len]; omega)
      rw [ri.1] at cT
      rw [ul, tb_len, hRi] at cA
      rw [rl] at hset
      generalize tb (fun c => (a[i]?.getD [])[c]?.getD 0 * ((0 - (z : Int)) % 10007) % 10007) n = tt at *
      generalize mxR (unM n) U i = M at *
      generalize unlR n a z i = new at *
      generalize unR n i = old at *
      have f1 := sub_fits (show isN 0 from ⟨by omega, by omega⟩) (show isN (z : Int) from ⟨by omega, by omega⟩)
      rw [ul] at hg
      rw [Int.zero_sub] at cT
      rw [← ri.1] at cT
      simp [go_sem, hii, hg, mat_drop hia]
      refine ⟨by kernel_rfl, ane, ?_⟩
      have cA2 : Con Try.prog 161 [.sl n (avs old), .sl (a[i]?.getD []).length (avs tt)] (.own 2 n (avs new)) := by rw [ri.1]; exact cA
      refine CallD.of (l01Sub_c _ _ f1) (by simp [roots, rootsL]) (by decide) ?_
      simp [go_sem]
      refine CallD.of (cT) (by simp [roots, rootsL]) (by decide) ?_
      simp [go_sem]
      simp [go_sem, hg]
      refine CallD.of (cA2) (by simp [roots, rootsL]) (by decide) ?_
      simp [go_sem]
      refine ⟨by omega, by omega, ?_⟩
      refine ⟨by kernel_rfl, ?_⟩
      simp [go_sem]
      exact ⟨by omega, i + 1, by omega, by omega, Off_reset _ _ _ (by simp), by rw [← hset], by omega⟩
    · have e : n = i := by omega
      subst e
      have hii : ¬ (n : Int) < n := by omega
      have hall := mxR_all (A := unM n) (C := U) (by omega)
      rw [uM.1] at hall
      rw [hall]
      simp [go_sem, hii]
      refine CallVC.of (cD) (by decide) ?_
      simp [go_sem]
      refine ⟨⟨by omega, by omega⟩, ?_⟩
      have zN : isN (z : Int) := ⟨by omega, by omega⟩
      refine loop_inv ([9, 10] ++ List.range' 50 11) (fun k : Nat => [(9, .own 2 k (avs (tb (fun k => pw (z : Int) (k : Int)) k))), (10, .int k)]) (fun k => k ≤ n + 1) (fun k => n + 1 - k) 0 (by simp) (by simp [go_sem]) (by simp [go_sem]) ?_
      intro k hk
      by_cases hkn : k ≤ n
      · have hki : (k : Int) ≤ n := by omega
        have ps := tb_succ (fun k => pw (z : Int) (k : Int)) k
        simp [go_sem, hki, hkn]
        refine CallVC.of (l01Pow_c _ _ zN (by omega) (by omega)) (by decide) ?_
        simp [go_sem]
        exact ⟨⟨by omega, by omega⟩, ⟨by omega, by omega⟩, k + 1, by omega, by omega, Off_reset _ _ _ (by simp), by rw [ps, avs_snoc]; exact ⟨rfl, rfl⟩, by omega⟩
      · have e : k = n + 1 := by omega
        subst e
        have hki : ¬ ((n : Int) + 1) ≤ n := by omega
        simp [go_sem, hki]
        exact ⟨⟨by omega, by omega⟩, ⟨by omega, by omega⟩, z + 1, by omega, by omega, (by repeat (first | exact Off_reset _ _ _ (by simp) | (refine Off.reset (by intro x hx; simp at hx ⊢; omega) (by simp) ?_; simp -failIfUnchanged [go_sem, Off_reset]))), by rw [os]; exact ⟨rfl, rfl⟩, by rw [ts, avs_snoc]; exact ⟨rfl, rfl⟩, by omega⟩
  · have e : z = n + 1 := by omega
    subst e
    have hzi : ¬ ((n : Int) + 1) ≤ n := by omega
    rw [← hv, ← hw]
    simp [go_sem, hzi]
    refine CallVC.of (cS) (by decide) ?_
    simp [go_sem]
end Go.Proofs.Ytkfadbccakbpnaa

/- Contracts: stability fractions. -/
namespace Go.Proofs.Ytkfadbccakbpnaa
open Go.Abs
set_option linter.unusedVariables false
set_option linter.unusedSimpArgs false
set_option maxHeartbeats 4000000
/-- The rows less the weights. -/
def lesM (A : List (List Int)) (B : List Int) : List (List Int) := (List.range A.length).map fun i => plusS (A[i]?.getD []) B (-1)
theorem Tab.rws {A : List (List Int)} {B : List Int} (h : Tab A B) : Rws B.length A := h.a
theorem lesM_ok {A : List (List Int)} {B : List Int} (h : Tab A B) : (lesM A B).length = B.length ∧ Rws B.length (lesM A B) := by
  refine ⟨by simp [lesM, h.len], fun x hx => ?_⟩
  obtain ⟨i, hi, rfl⟩ := List.mem_map.1 hx
  exact ⟨by rw [plusS_len]; exact (h.rws.at (show i < A.length by simpa using hi)).1, plusS_N _ _ _⟩
theorem les_row {a b : List Int} (hl : a.length = b.length) : tb (fun i => (a[i]?.getD 0 + (tb (fun i => b[i]?.getD 0 * 10006 % 10007) b.length)[i]?.getD 0) % 10007) a.length = plusS a b (-1) := by
  unfold plusS
  rw [show (-1 : Int) % 10007 = 10006 by decide]
  have : ∀ i, i < a.length → (a[i]?.getD 0 + (tb (fun i => b[i]?.getD 0 * 10006 % 10007) b.length)[i]?.getD 0) % 10007 = (a[i]?.getD 0 + 10006 * b[i]?.getD 0) % 10007 := fun i hi => by
    rw [tb_get _ (show i < b.length by omega), Int.mul_comm 10006]
    omega
  unfold tb at this ⊢
  exact List.map_congr_left fun i hi => this i (by simpa using hi)
set_option maxRecDepth 100000 in
theorem fraction_c (A : List (List Int)) (B : List Int) (h : Tab A B) : Con Try.prog 81 [.agg [.sl A.length (mat A), .sl B.length (avs B)]]
    (.tup [.own 2 (B.length + 1) (avs (chL B.length (lesM A B))), .own 2 (B.length + 1) (avs (chL B.length A))]) := by
  have b1 := h.pos
  have b8 := h.le
  have ab := h.len
  have rw1 := h.rws
  have lo := lesM_ok h
  have c1 := unitLess_c (n := B.length) (lesM A B) (by omega) b8 lo.1 lo.2
  have c2 := unitLess_c (n := B.length) A (by omega) b8 ab rw1
  have c1 : Con Try.prog 153 [.sl A.length (mat (lesM A B))] (.own 2 (B.length + 1) (avs (chL B.length (lesM A B)))) := by rw [lo.1] at c1; rw [ab]; exact c1
  have hd : lesM A B = (List.range A.length).map fun i => plusS (A[i]?.getD []) B (-1) := rfl
  have bN := h.b
  refine con_of_vc Try.mixed ⟨7, [], [], []⟩ Try.func81 (by decide) rfl (by simp) (by decide) (by simp [freshOK, freshL, go_sem]) ?_
  rw [Try.ntmps81]
  simp [go_sem]
  refine loop_inv ([4, 6] ++ List.range' 11 12) (fun i : Nat => [(4, .own 22 i (omat ((List.range i).map fun i => plusS (A[i]?.getD []) B (-1)))), (11, .int i)]) (fun i => i ≤ A.length) (fun i => A.length - i) 0 (by simp) (by simp [go_sem, omat]) (by simp [go_sem]) ?_
  intro i hi
  by_cases hin : i < A.length
  · have hii : (i : Int) < A.length := by omega
    have ri := rw1.at hin
    have ane : ¬ A = [] := by rintro rfl; simp at hin
    have cP := plus_c (A[i]?.getD []) B (-1) ri.2 bN ⟨by omega, by omega⟩ (by omega) (by omega)
    have os := omat_range_succ (fun i => plusS (A[i]?.getD []) B (-1)) i
    rw [plusS_len] at os
    simp [go_sem, hii, mat_drop hin]
    refine ⟨ane, ?_⟩
    refine CallVC.of (cP) (by decide) ?_
    simp [go_sem]
    exact ⟨⟨by omega, by omega⟩, by omega, i + 1, by omega, by omega, Off_reset _ _ _ (by simp), by rw [os]; exact ⟨rfl, rfl⟩, by omega⟩
  · have e : i = A.length := by omega
    subst e
    rw [← hd]
    simp [go_sem]
    refine ⟨by kernel_rfl, ?_⟩
    refine CallD.of (c1) (by simp [roots, rootsL]) (by decide) ?_
    simp [go_sem]
    refine CallD.of (c2) (by simp [roots, rootsL]) (by decide) ?_
    simp [go_sem]
    refine ⟨by kernel_rfl, ?_⟩
    simp [go_sem]
set_option maxRecDepth 100000 in
theorem l10Inverse_c (A : List (List Int)) (B : List Int) (h : Tab A B) : Con Try.prog 149 [.agg [.sl A.length (mat A), .sl B.length (avs B)]]
    (.agg [.own 22 B.length (omat (lesM A B)), .own 2 B.length (avs (tb (fun i => B[i]?.getD 0 * 10006 % 10007) B.length))]) := by
  have b1 := h.pos
  have b8 := h.le
  have ab := h.len
  have rw1 := h.rws
  have hd : lesM A B = (List.range A.length).map fun i => plusS (A[i]?.getD []) B (-1) := rfl
  have bN := h.b
  have cT := l02Times_c B 10006 bN ⟨by omega, by omega⟩ (by omega)
  have les := fun (a : List Int) (hl : a.length = B.length) => les_row (a := a) (b := B) hl
  have zN : Ns (tb (fun i => B[i]?.getD 0 * 10006 % 10007) B.length) := tb_N fun k _ => isN_mod _
  have zl : (tb (fun i => B[i]?.getD 0 * 10006 % 10007) B.length).length = B.length := by simp
  generalize tb (fun i => B[i]?.getD 0 * 10006 % 10007) B.length = Z at *
  refine con_of_vc Try.mixed ⟨5, [], [], []⟩ Try.func149 (by decide) rfl (by simp) (by decide) (by simp [freshOK, freshL, go_sem]) ?_
  rw [Try.ntmps149]
  simp [go_sem]
  refine CallVC.of (cT) (by decide) ?_
  simp [go_sem]
  refine loop_inv ([3, 4] ++ List.range' 9 20) (fun i : Nat => [(3, .box 34 [if i = 0 then .val (.slice none 0 0) else .own 22 i (omat ((List.range i).map fun i => plusS (A[i]?.getD []) B (-1))), .own 2 B.length (avs Z)]), (4, .int i)]) (fun i => i ≤ A.length) (fun i => A.length - i) 0 (by simp) (by simp [go_sem]) (by simp [go_sem]) ?_
  intro i hi
  by_cases hin : i < A.length
  · have hii : (i : Int) < A.length := by omega
    have ri := rw1.at hin
    have ane : ¬ A = [] := by rintro rfl; simp at hin
    have cA := l02Add_c (A[i]?.getD []) Z ri.2 zN (by omega) (by omega)
    rw [les _ ri.1, zl] at cA
    have os := omat_range_succ (fun i => plusS (A[i]?.getD []) B (-1)) i
    rw [plusS_len] at os
    by_cases h0 : i = 0
    · have ox : omat ((List.range (i + 1)).map fun i => plusS (A[i]?.getD []) B (-1)) = [.own 2 (A[i]?.getD []).length (avs (plusS (A[i]?.getD []) B (-1)))] := by rw [os, h0]; simp [omat]
      rw [if_pos h0]
      simp [go_sem, hii, mat_drop hin]
      refine ⟨by kernel_rfl, ane, ?_⟩
      refine CallD.of (cA) (by simp [roots, rootsL]) (by decide) ?_
      simp [go_sem]
      refine ⟨by kernel_rfl, ?_⟩
      simp [go_sem]
      exact ⟨by omega, i + 1, by omega, by omega, Off_reset _ _ _ (by simp), by rw [if_neg (by omega), ox, h0], by omega⟩
    · rw [if_neg h0]
      simp [go_sem, hii, mat_drop hin]
      refine ⟨by kernel_rfl, ane, ?_⟩
      refine CallD.of (cA) (by simp [roots, rootsL]) (by decide) ?_
      simp [go_sem]
      refine ⟨⟨by omega, by omega⟩, ?_⟩
      refine ⟨by kernel_rfl, ?_⟩
      simp [go_sem]
      exact ⟨by omega, i + 1, by omega, by omega, Off_reset _ _ _ (by simp), by rw [if_neg (by omega), os], by omega⟩
  · have e : i = A.length := by omega
    subst e
    rw [← hd, if_neg (show ¬ A.length = 0 by omega)]
    simp [go_sem]
    exact ab
set_option maxRecDepth 100000 in
theorem l19Fraction_c (A : List (List Int)) (B : List Int) (h : Tab A B) : Con Try.prog 79 [.agg [.sl A.length (mat A), .sl B.length (avs B)]]
    (.tup [.own 2 (B.length + 1) (avs (chL B.length (lesM A B))), .own 2 (B.length + 1) (avs (chL B.length A))]) := by
  have lo := lesM_ok h
  have c0 := l10Inverse_c A B h
  have c1 := l19Det_c (n := B.length) (lesM A B) h.le lo.1 lo.2
  have c2 := l19Det_c (n := B.length) A h.le h.len h.rws
  rw [lo.1] at c1
  generalize tb (fun i => B[i]?.getD 0 * 10006 % 10007) B.length = Z at *
  refine con_of_vc Try.mixed ⟨4, [], [], []⟩ Try.func79 (by decide) rfl (by simp) (by decide) (by simp [freshOK, freshL, go_sem]) ?_
  rw [Try.ntmps79]
  simp [go_sem]
  refine ⟨by kernel_rfl, ?_⟩
  refine CallD.of (c0) (by simp [roots, rootsL]) (by decide) ?_
  simp [go_sem]
  refine CallD.of (c1) (by simp [roots, rootsL]) (by decide) ?_
  simp [go_sem]
  refine CallD.of (c2) (by simp [roots, rootsL]) (by decide) ?_
  simp [go_sem]
  refine ⟨by kernel_rfl, ?_⟩
  simp [go_sem]
def sfE (A : List (List Int)) (B : List Int) : Int := if tabB A B = true then 0 else 1
def sfP (A : List (List Int)) (B : List Int) : List Int := if tabB A B = true then chL B.length (lesM A B) else []
def sfQ (A : List (List Int)) (B : List Int) : List Int := if tabB A B = true then chL B.length A else []
def sfR (A : List (List Int)) (B : List Int) : AV := .tup [.own 2 (sfP A B).length (avs (sfP A B)), .own 2 (sfQ A B).length (avs (sfQ A B)), .int (sfE A B)]
theorem sfP_len (A : List (List Int)) (B : List Int) : (sfP A B).length ≤ 9 ∧ (sfQ A B).length ≤ 9 := by
  unfold sfP sfQ
  by_cases h : tabB A B = true
  · have := (tabB_iff.1 h).le
    rw [if_pos h, if_pos h, chL_len, chL_len]; omega
  · rw [if_neg h, if_neg h]; simp
theorem specStabilityFraction_c (A : List (List Int)) (B : List Int) (hA : A.length ≤ 1048576) (hr : ∀ r ∈ A, r.length ≤ 1048576) (hB : B.length ≤ 1048576) :
    Con Try.prog 20 [.agg [.sl A.length (mat A), .sl B.length (avs B)]] (sfR A B) := by
  have cI := l09Is_c A B (by omega) (by omega) (fun r h => by have := hr r h; omega)
  unfold sfR sfP sfQ sfE
  by_cases h : tabB A B = true
  · have cF := l19Fraction_c A B (tabB_iff.1 h)
    rw [h] at cI
    rw [if_pos h, if_pos h, if_pos h, chL_len, chL_len]
    refine con_of_vc Try.mixed ⟨6, [], [], []⟩ Try.func20 (by decide) rfl (by simp) (by decide) (by simp [freshOK, freshL, go_sem]) ?_
    rw [Try.ntmps20]
    simp [go_sem]
    refine CallVC.of (cI) (by decide) ?_
    simp [go_sem]
    refine CallVC.of (cF) (by decide) ?_
    simp [go_sem]
  · rw [if_neg h, if_neg h, if_neg h]
    have hf : tabB A B = false := by simpa using h
    rw [hf] at cI
    refine Con.n2 _ _ ?_
    refine con_of_vc Try.mixed ⟨6, [], [], []⟩ Try.func20 (by decide) rfl (by simp) (by decide) (by simp [freshOK, freshL, go_sem]) ?_
    rw [Try.ntmps20]
    simp [go_sem]
    refine CallVC.of (cI) (by decide) ?_
    simp [go_sem]
theorem StabilityFraction_c (A : List (List Int)) (B : List Int) (hA : A.length ≤ 1048576) (hr : ∀ r ∈ A, r.length ≤ 1048576) (hB : B.length ≤ 1048576) :
    Con Try.prog 22 [.agg [.sl A.length (mat A), .sl B.length (avs B)]] (sfR A B) := by
  have cI := IsTableau_c A B (by omega) (by omega) (fun r h => by have := hr r h; omega)
  unfold sfR sfP sfQ sfE
  by_cases h : tabB A B = true
  · have cF := fraction_c A B (tabB_iff.1 h)
    rw [h] at cI
    rw [if_pos h, if_pos h, if_pos h, chL_len, chL_len]
    refine con_of_vc Try.mixed ⟨6, [], [], []⟩ Try.func22 (by decide) rfl (by simp) (by decide) (by simp [freshOK, freshL, go_sem]) ?_
    rw [Try.ntmps22]
    simp [go_sem]
    refine CallVC.of (cI) (by decide) ?_
    simp [go_sem]
    refine CallVC.of (cF) (by decide) ?_
    simp [go_sem]
  · rw [if_neg h, if_neg h, if_neg h]
    have hf : tabB A B = false := by simpa using h
    rw [hf] at cI
    refine Con.n2 _ _ ?_
    refine con_of_vc Try.mixed ⟨6, [], [], []⟩ Try.func22 (by decide) rfl (by simp) (by decide) (by simp [freshOK, freshL, go_sem]) ?_
    rw [Try.ntmps22]
    simp [go_sem]
    refine CallVC.of (cI) (by decide) ?_
    simp [go_sem]
end Go.Proofs.Ytkfadbccakbpnaa

/- What the statements' walks share: sizes. -/
namespace Go.Proofs.Ytkfadbccakbpnaa
open Go.Abs
set_option linter.unusedVariables false
theorem small_of {f : List (List Mon)} (h : (cF f : Int) ≤ 1048576) : Small f := by
  unfold cF at h
  refine ⟨by omega, fun p hp => ?_⟩
  have h1 : p.length + sumC cM p ≤ sumC cP f := sumC_mem cP hp
  refine ⟨by omega, fun q hq => ?_⟩
  have h2 : q.2.length ≤ sumC cM p := sumC_mem cM hq
  omega
theorem sumL_bound {A : List (List Int)} {n : Nat} (h : ∀ r ∈ A, r.length ≤ n) : sumL A ≤ A.length * n := by
  induction A with
  | nil => simp [sumL]
  | cons r A ih =>
    have h1 := h r (by simp)
    have h2 := ih (fun q hq => h q (by simp [hq]))
    simp only [sumL, List.length_cons, Nat.add_mul, Nat.one_mul]; omega
theorem szT_hi {A : List (List Int)} {B : List Int} {left : Int} (h0 : 0 ≤ left) : szT A B left ≤ left := by
  unfold szT
  split
  · omega
  · rename_i h
    have := (szM_ok h0 (by omega : 0 ≤ szM left A)).2.1
    have := szR_le (left := szM left A) (n := (B.length : Int)) (by omega) (by omega)
    omega
end Go.Proofs.Ytkfadbccakbpnaa

/- The statement's function FnExactStabilityFraction, walked: it answers true. -/
namespace Go.Proofs.Ytkfadbccakbpnaa
open Go.Abs
set_option linter.unusedVariables false
set_option linter.unusedSimpArgs false
set_option maxHeartbeats 4000000
set_option maxRecDepth 100000 in
theorem law7_c (A0 : List (List Int)) (B0 : List Int) (hA0 : A0.length ≤ 9223372036854775807) (hr0 : ∀ r ∈ A0, r.length ≤ 9223372036854775807) (hB0 : B0.length ≤ 9223372036854775807) :
    Con Try.prog 4 [.agg [.sl A0.length (mat A0), .sl B0.length (avs B0)]] (.bool true) := by
  refine con_of_vc Try.mixed ⟨17, [], [24, 17], []⟩ Try.func4 (by decide) rfl (by simp) (by decide) (by simp [freshOK, freshL, go_sem]) ?_
  rw [Try.ntmps4]
  simp [go_sem]
  have cS0 := szTableau_c A0 B0 (1048576) hA0 hr0 hB0 (by omega) (by omega)
  refine CallVC.of (cS0) (by decide) ?_
  simp [go_sem]
  by_cases hs0 : szT A0 B0 (1048576) < 0
  · simp [go_sem, hs0]
  simp [go_sem, hs0]
  have hc0 := szT_ok (A := A0) (B := B0) (left := 1048576) (by omega) (by omega)
  have hh0 := szT_hi (A := A0) (B := B0) (left := 1048576) (by omega)
  generalize hL0 : szT A0 B0 (1048576) = L0 at *
  have A0l : A0.length ≤ 1048576 := by omega
  have A0r : ∀ r ∈ A0, r.length ≤ 1048576 := fun r hr => by have := hc0.2 r hr; omega
  have B0l : B0.length ≤ 1048576 := by omega
  have cT0 := toTableau_c A0 B0 A0l A0r B0l
  have cQ0 := eqTableau_c A0 A0 B0 B0 hA0 hr0 hB0
  simp at cQ0
  have cSp := specStabilityFraction_c A0 B0 A0l A0r B0l
  have cIm := StabilityFraction_c A0 B0 A0l A0r B0l
  have xl := (sfP_len A0 B0)
  unfold sfR at cSp cIm
  generalize sfP A0 B0 = xs at cSp cIm xl
  generalize sfQ A0 B0 = ys at cSp cIm xl
  generalize sfE A0 B0 = e at cSp cIm
  have cM0 := markTableau_c A0 B0 (1) A0l A0r (by omega) (by omega)
  have p2 : ¬ (1 + (sumL A0 : Int) + (B0.length : Int) < 0) := by omega
  have cE := eqInt64S_c xs xs (by omega)
  have cF := eqInt64S_c ys ys (by omega)
  have cN := markInt64S_c 2 xs 1 (by omega) (by omega)
  have cO := markInt64S_c 2 ys (1 + xs.length) (by omega) (by omega)
  have cH := heldInt64S_c ((List.range xs.length).map (fun (i : Nat) => 1 + (i : Int))) 1 (by omega) (by simp; omega)
  have cI := heldInt64S_c ((List.range ys.length).map (fun (i : Nat) => 1 + (xs.length : Int) + i)) (1 + xs.length) (by omega) (by simp; omega)
  rw [held_mark, List.length_map, List.length_range] at cH cI
  simp at cE cF
  have p1 : ¬ (1 + (xs.length : Int) < 0) := by omega
  have p3 : ¬ (1 + (xs.length : Int) + ys.length < 0) := by omega
  refine CallVC.of (cT0) (by decide) ?_
  simp [go_sem]
  refine CallVC.of (cSp) (by decide) ?_
  simp [go_sem]
  refine CallVC.of (cT0) (by decide) ?_
  simp [go_sem]
  refine CallVC.of (cIm) (by decide) ?_
  simp [go_sem]
  refine CallVC.of (cE) (by decide) ?_
  simp [go_sem]
  refine CallVC.of (cF) (by decide) ?_
  simp [go_sem]
  refine ⟨by kernel_rfl, ?_⟩
  refine CallD.of (cT0) (by simp [roots, rootsL]) (by decide) ?_
  simp [go_sem]
  refine CallD.of (cQ0) (by simp [roots, rootsL]) (by decide) ?_
  simp [go_sem]
  refine ⟨by kernel_rfl, ?_⟩
  simp [go_sem]
  refine ⟨_, _, cM0, ?_⟩
  simp [go_sem]
  simp [go_sem, p2]
  refine CallVC.of (cE) (by decide) ?_
  simp [go_sem]
  refine CallVC.of (cF) (by decide) ?_
  simp [go_sem]
  refine ⟨_, _, cN, ?_⟩
  simp [go_sem]
  refine ⟨_, _, cO, ?_⟩
  simp [go_sem]
  refine CallVC.of (cH) (by decide) ?_
  simp [go_sem]
  simp [go_sem, p1]
  refine CallVC.of (cI) (by decide) ?_
  simp [go_sem]
  simp [go_sem, p3]
  refine CallVC.of (cT0) (by decide) ?_
  simp [go_sem]
  refine CallVC.of (cIm) (by decide) ?_
  simp [go_sem]
  refine CallVC.of (cE) (by decide) ?_
  simp [go_sem]
  refine CallVC.of (cF) (by decide) ?_
  simp [go_sem]
  refine CallVC.of (cH) (by decide) ?_
  simp [go_sem]
  simp [go_sem, p1]
  refine CallVC.of (cI) (by decide) ?_
  simp [go_sem]
  simp [go_sem, p3]
end Go.Proofs.Ytkfadbccakbpnaa
