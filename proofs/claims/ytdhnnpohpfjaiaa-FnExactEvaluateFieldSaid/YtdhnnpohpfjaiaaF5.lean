/- Fields: the program's polynomials. -/
import Derived.Test.YtdhnnpohpfjaiaaF4
namespace Go.Proofs.Ytdhnnpohpfjaiaa
open Go.Abs
set_option linter.unusedVariables false
set_option linter.unusedSimpArgs false
set_option maxHeartbeats 1000000
def keyOf (e : List Int) : Key := (e[0]?.getD 0, e[1]?.getD 0, e[2]?.getD 0)
def polG (c : Key → Option Int) : List Mon → Key → Option Int
  | [] => c
  | m :: p => polG (mset c (keyOf m.2) m.1) p
def polF (p : List Mon) : Key → Option Int := polG mzero p
theorem polG_app (c : Key → Option Int) (p q : List Mon) : polG c (p ++ q) = polG (polG c p) q := by
  induction p generalizing c with
  | nil => rfl
  | cons m p ih => exact ih _
theorem polF_take {p : List Mon} {i : Nat} (h : i < p.length) : polF (p.take (i + 1)) = mset (polF (p.take i)) (keyOf (p[i]?.getD (0, [])).2) (p[i]?.getD (0, [])).1 := by
  rw [List.take_add_one, List.getElem?_eq_getElem h, polF, polG_app]; rfl
set_option maxRecDepth 100000 in
theorem polynomialOf_c (p : List Mon) (hp : p.length ≤ 1048576) (hm : ∀ m ∈ p, m.2.length ≤ 3) :
    Con Try.prog 110 [.sl p.length (mons p)] (.mp (polF p)) := by
  refine con_of_vc Try.mixed ⟨7, [], [], []⟩ Try.func110 (by decide) rfl (by simp) (by decide) (by simp [freshOK, freshL, go_sem]) ?_
  rw [Try.ntmps110]
  simp [go_sem]
  refine loop_inv (3 :: 5 :: 6 :: List.range' 10 14) (fun i : Nat => [(3, .mp (polF (p.take i))), (10, .int i)]) (fun i => i ≤ p.length) (fun i => p.length - i) 0 (by simp) (by simp [go_sem, polF, polG]) (by simp [go_sem]) ?_
  intro i hi
  simp [go_sem]
  refine ⟨fun h => ?_, fun h => ?_⟩ <;> simp at h
  · have hif := h
    have hx : p[i]?.getD (0, []) ∈ p := by simp [h]
    have hl := hm _ hx
    have hv := polF_take h
    simp [go_sem, mons_drop hif]
    generalize p[i]?.getD (0, []) = m at *
    obtain ⟨x, e⟩ := m
    simp only at hl hv
    refine ⟨⟨hif, by rintro rfl; simp at hif⟩, by kernel_rfl, ⟨by omega, by omega⟩, ?_⟩
    refine ⟨by kernel_rfl, ?_⟩
    simp [go_sem]
    rcases e with _ | ⟨a, _ | ⟨b, _ | ⟨c, _ | ⟨d, e⟩⟩⟩⟩
    · simp [go_sem, avs]
      refine ⟨by omega, i + 1, by omega, by omega, Off_reset _ _ _ (by simp), hv.symm, by omega⟩
    · simp [go_sem, avs]
      refine ⟨by omega, i + 1, by omega, by omega, Off_reset _ _ _ (by simp), hv.symm, by omega⟩
    · simp [go_sem, avs]
      refine ⟨by omega, i + 1, by omega, by omega, Off_reset _ _ _ (by simp), hv.symm, by omega⟩
    · simp [go_sem, avs]
      refine ⟨by omega, i + 1, by omega, by omega, Off_reset _ _ _ (by simp), hv.symm, by omega⟩
    · simp at hl
  · simp [go_sem]
    rw [List.take_of_length_le h]
def pols (f : List (List Mon)) : List AV := f.map fun p => .mp (polF p)
def fpols (f : List (List Mon)) : List AV := f.map fun p => .fmp (polF p)
@[simp] theorem pols_len (f : List (List Mon)) : (pols f).length = f.length := by simp [pols]
@[simp] theorem fpols_len (f : List (List Mon)) : (fpols f).length = f.length := by simp [fpols]
@[simp] theorem fpols_ne {f : List (List Mon)} : (fpols f = []) = (f = []) := by cases f <;> simp [fpols]
@[simp] theorem pols_frz : ∀ f : List (List Mon), frzL (pols f) = fpols f
  | [] => rfl
  | p :: f => by have := pols_frz f; simp only [pols, fpols, List.map_cons, frzL] at this ⊢; rw [this]; simp [frz]
@[simp] theorem pols_fresh : ∀ f : List (List Mon), freshL (pols f) = true
  | [] => rfl
  | p :: f => by have := pols_fresh f; simp only [pols, List.map_cons, freshL] at this ⊢; rw [this]; simp [freshOK]
theorem fpols_drop {f : List (List Mon)} {k : Nat} (h : k < f.length) : (fpols f).drop k = .fmp (polF (f[k]?.getD [])) :: fpols (f.drop (k + 1)) := by
  rw [fpols, ← List.map_drop, List.drop_eq_getElem_cons h, List.map_cons]; simp [h, fpols]
theorem polynomials_c (z : Int) (f : List (List Mon)) (hf : FieldOk z f) (hs : Small f) :
    Con Try.prog 70 [.agg [.int z, .sl f.length (prt f)]] (.own 113 f.length (pols f)) := by
  have fl := hs.1
  have z3 := hf.hi
  have zl := hf.len
  refine con_of_vc Try.mixed ⟨6, [], [], []⟩ Try.func70 (by decide) rfl (by simp) (by decide) (by simp [freshOK, freshL, go_sem]) ?_
  rw [Try.ntmps70]
  simp [go_sem]
  refine loop_inv (3 :: 5 :: List.range' 10 10) (fun i : Nat => [(3, .own 113 i (pols (f.take i))), (10, .int i)]) (fun i => i ≤ f.length) (fun i => f.length - i) 0 (by simp) (by simp [go_sem, pols]) (by simp [go_sem]) ?_
  intro i hi
  simp [go_sem]
  refine ⟨fun h => ?_, fun h => ?_⟩ <;> simp at h
  · have hif := h
    have hx : f[i]?.getD [] ∈ f := by simp [h]
    have hm := hs.2 _ hx
    simp [go_sem, prt_drop hif]
    refine ⟨⟨hif, by rintro rfl; simp at hif⟩, ?_⟩
    refine CallVC.of (polynomialOf_c _ hm.1 (fun m hm => by have := (partB_mem (hf.part _ hx) hm).len; omega)) (by decide) ?_
    simp [go_sem]
    have e1 : f.take (i + 1) = f.take i ++ [f[i]?.getD []] := by rw [List.take_add_one]; simp [hif]
    refine ⟨⟨by omega, by omega, by omega⟩, by omega, i + 1, by omega, by omega, Off_reset _ _ _ (by simp), ⟨rfl, ?_⟩, by omega⟩
    rw [e1]; simp [pols]
  · simp [go_sem]
    rw [List.take_of_length_le h]
    exact ⟨by omega, rfl⟩
/-- The value of an entry. -/
def tmK (y : List Int) (k : Key) (x : Int) : Int := tmF y [k.1, k.2.1, k.2.2] x y.length
def rest (y : List Int) : List (Key × Int) → Int
  | [] => 0
  | e :: es => tmK y e.1 e.2 + rest y es
theorem rest_app (y : List Int) (a b : List (Key × Int)) : rest y (a ++ b) = rest y a + rest y b := by
  induction a with
  | nil => simp [rest]
  | cons e a ih => simp [rest, ih]; omega
theorem rest_pos (y : List Int) : ∀ {es : List (Key × Int)}, (∀ e ∈ es, isN e.2) → 0 ≤ rest y es
  | [], _ => by simp [rest]
  | e :: es, h => by
    have h1 := rest_pos y (es := es) (fun a ha => h a (by simp [ha]))
    have h2 := (tmF_N (y := y) (e := [e.1.1, e.1.2.1, e.1.2.2]) (h e (by simp)) y.length).1
    simp only [rest, tmK]; omega
/-- That an entry's number is one, and its key's too. -/
def EOk (e : Key × Int) : Prop := isN e.2 ∧ 0 ≤ e.1.1 ∧ e.1.1 ≤ 1000 ∧ 0 ≤ e.1.2.1 ∧ e.1.2.1 ≤ 1000 ∧ 0 ≤ e.1.2.2 ∧ e.1.2.2 ≤ 1000
set_option maxRecDepth 100000 in
theorem value_c (c : Key → Option Int) (y : List Int) (T : Int) (hy : Ns y) (hl : y.length ≤ 3) (hc : ∀ k x, c k = some x → EOk (k, x)) (hT : T ≤ 1000000000000000000) (hE : ∀ es, Enum c es → rest y es = T) :
    Con Try.prog 109 [.fmp c, .sl y.length (avs y)] (.int (T % 10007)) := by
  refine con_of_vc Try.mixed ⟨10, [], [], []⟩ Try.func109 (by decide) rfl (by simp) (by decide) (by simp [freshOK, freshL, go_sem]) ?_
  rw [Try.ntmps109]
  simp [go_sem]
  intro es hes
  have hok : ∀ e ∈ es, EOk e := fun e he => hc e.1 e.2 (hes.val e he)
  have hsum := hE es hes
  refine loop_inv (5 :: 6 :: 7 :: 8 :: 9 :: 11 :: List.range' 12 24) (fun x : Int × Option (Key × Int) × List (Key × Int) => [(5, .int x.1), (11, .it x.2.1 x.2.2)]) (fun x => 0 ≤ x.1 ∧ x.1 + rest y x.2.2 = T ∧ ∀ e ∈ x.2.2, EOk e) (fun x => x.2.2.length) (0, none, es) ⟨by simp, by simpa using hsum, hok⟩ (by simp [go_sem]) (by simp [go_sem]) ?_
  rintro ⟨s, l, rem⟩ ⟨hs0, hsT, hrem⟩
  simp only at hs0 hsT hrem
  simp [go_sem, keyAV]
  refine ⟨fun hr => ?_, fun l1 k0 k1 k2 x l2 hr => ?_⟩
  · subst hr
    have : s = T := by simpa [rest] using hsT
    subst this
    refine CallVC.of (num_c _ (by omega) (by omega)) (by decide) ?_
    simp [go_sem]
  · subst hr
    have hek := hrem ((k0, k1, k2), x) (by simp)
    have hx : isN x := hek.1
    have hg : ∀ i : Nat, 0 ≤ ([k0, k1, k2] : List Int)[i]?.getD 0 ∧ ([k0, k1, k2] : List Int)[i]?.getD 0 ≤ 1000 := by
      intro i
      obtain ⟨_, a1, a2, a3, a4, a5, a6⟩ := hek
      match i with
      | 0 => exact ⟨a1, a2⟩
      | 1 => exact ⟨a3, a4⟩
      | 2 => exact ⟨a5, a6⟩
      | i + 3 => simp
    refine loop_inv (7 :: 8 :: 9 :: List.range' 19 14) (fun i : Nat => [(7, .int (tmF y [k0, k1, k2] x i)), (19, .int i)]) (fun i => i ≤ y.length) (fun i => y.length - i) 0 (by simp) (by simp [go_sem, tmF]) (by simp [go_sem]) ?_
    intro i hi
    simp [go_sem]
    refine ⟨fun h => ?_, fun h => ?_⟩ <;> simp at h
    · have h3 : i < ([k0, k1, k2] : List Int).length := by simp; omega
      have e3 : ([.val (.int .i64 k0), .val (.int .i64 k1), .val (.int .i64 k2)] : List AV)[i]? = some (.val (.int .i64 (([k0, k1, k2] : List Int)[i]?.getD 0))) := avs_at' (xs := [k0, k1, k2]) h3
      have g := hg i
      have m1 := mul_fits (tmF_N (y := y) (e := [k0, k1, k2]) hx i) (isN_mod ((y[i]?.getD 0) ^ (([k0, k1, k2] : List Int)[i]?.getD 0).toNat))
      have m2 : fits (tmF y [k0, k1, k2] x i * pw (y[i]?.getD 0) (([k0, k1, k2] : List Int)[i]?.getD 0)) := m1
      have hs : tmF y [k0, k1, k2] x (i + 1) = tmF y [k0, k1, k2] x i * pw (y[i]?.getD 0) (([k0, k1, k2] : List Int)[i]?.getD 0) % 10007 := rfl
      simp [go_sem, avs_drop h, e3]
      generalize ([k0, k1, k2] : List Int)[i]?.getD 0 = ki at *
      refine ⟨⟨h, by rintro rfl; simp at h⟩, by omega, ?_⟩
      refine CallVC.of (pow_c _ _ (hy.get i) g.1 (by omega)) (by decide) ?_
      simp [go_sem]
      refine ⟨m2, ?_⟩
      refine CallVC.of (num_c _ m2.1 m2.2) (by decide) ?_
      simp [go_sem]
      refine ⟨by omega, i + 1, by omega, by omega, Off_reset _ _ _ (by simp), hs.symm, by omega⟩
    · have e : i = y.length := by omega
      subst e
      have hr0 : 0 ≤ rest y (l1 ++ l2) := rest_pos y (fun e he => (hrem e (by
        rcases List.mem_append.1 he with he | he <;> simp [he])).1)
      have ht := tmF_N (y := y) (e := [k0, k1, k2]) hx y.length
      have hsT2 : s + tmF y [k0, k1, k2] x y.length + rest y (l1 ++ l2) = T := by
        rw [← hsT, rest_app, rest_app, rest]
        show _ = s + (rest y l1 + (tmF y [k0, k1, k2] x y.length + rest y l2))
        omega
      have ht1 := ht.1
      simp [go_sem]
      refine ⟨⟨by omega, by omega⟩, _, _, _, ⟨?_, hsT2, fun a b c d he => hrem _ ?_⟩, ?_, (Off.reset (by intro x hx; simp at hx ⊢; omega) (by simp) (by simp [go_sem, Off_reset])), rfl, rfl, rfl⟩
      · omega
      · rcases List.mem_append.1 he with he | he <;> simp [he]
      · simp
end Go.Proofs.Ytdhnnpohpfjaiaa
