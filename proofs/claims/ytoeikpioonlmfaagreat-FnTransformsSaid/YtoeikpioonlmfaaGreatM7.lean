/- Texts of the own layer and contracts, part 7: V0 V1 W1 W3 W22 B0 B1 B2 B3 Q10 W23 W28 P7 W27 Q36 W24 W25 W26 O W2 Q4 E0 E14 E15 V3 V4 V5 Q11 Q12 Q13 Q5 Q6 Q7 Q8 Q14 Q15 Q16 Q17 Q18 Q19 Q20 Q21 Q22 Q23 Q24 Q25 Q26 Q30 V6 Q38 E18 E20 E21 N3 C3 B4 B5 B6 B7 B8 B9 B10 B11 B12. -/
import Derived.Test.YtoeikpioonlmfaaGreatRows
import Derived.WalkKit
import Derived.ProofKit
import Derived.OpenShut
import Derived.Lib.AppendZerosOnto
import Derived.Lib.Walk
import Derived.Shelf.Abstract
import Derived.Shelf.RegionOpenPlain
import Derived.Lib.SliceRun
import Derived.Test.YtoeikpioonlmfaaGreatM6
namespace Go.Proofs.YtoeikpioonlmfaaGreat
open Go.Abs Go.Shelf Go.Sort
set_option linter.unusedSectionVars false
set_option linter.unusedVariables false
set_option linter.unusedSimpArgs false
set_option maxHeartbeats 1000000
theorem ltL_tot : ∀ {a b : List Int}, a ≠ b → ltL a b = false → ltL b a = true
  | [], [], h, _ => absurd rfl h
  | [], y :: b, _, h => by simp [ltL] at h
  | x :: a, [], _, _ => by simp [ltL]
  | x :: a, y :: b, h, h2 => by
    simp only [ltL] at h2 ⊢
    by_cases e : x = y
    · subst e
      simp only [if_true] at h2 ⊢
      exact ltL_tot (fun e => h (by rw [e])) h2
    · rw [if_neg e] at h2
      rw [if_neg (fun x => e x.symm)]
      simp at h2 ⊢
      omega
theorem cmpL_neg (a b : List Int) : decide (cmpL a b < 0) = ltL a b := by
  have h := cmpL_lt a b
  cases hl : ltL a b <;> rw [hl] at h <;> simp at h ⊢ <;> omega
theorem swo_mon : SWO (Go.Proofs.ltOf fun m n : Mon => cmpL m.2 n.2) := by
  have e : (Go.Proofs.ltOf fun m n : Mon => cmpL m.2 n.2) = fun m n => ltL m.2 n.2 := by
    funext m n; exact cmpL_neg _ _
  rw [e]
  refine ⟨fun m => ltL_irr _, fun _ _ _ => ltL_trans, fun x y z h1 h2 => ?_⟩
  cases h3 : ltL x.2 z.2 with
  | false => rfl
  | true =>
    by_cases e : x.2 = y.2
    · rw [← e, h3] at h2; exact h2
    · have := ltL_trans (ltL_tot e h1) h3
      rw [this] at h2; exact h2
theorem srt_two : ∀ {L : List Mon}, Srt L → ∀ a ∈ L, ∀ b ∈ L, a = b ∨ ltL a.2 b.2 = true ∨ ltL b.2 a.2 = true
  | [], _, a, ha, _, _ => by simp at ha
  | m :: L, h, a, ha, b, hb => by
    obtain ⟨h1, h2⟩ := List.pairwise_cons.1 h
    rcases List.mem_cons.1 ha with ha2 | ha2
    · rcases List.mem_cons.1 hb with hb2 | hb2
      · exact .inl (ha2.trans hb2.symm)
      · exact .inr (.inl (by rw [ha2]; exact h1 b hb2))
    · rcases List.mem_cons.1 hb with hb2 | hb2
      · exact .inr (.inr (by rw [hb2]; exact h1 a ha2))
      · exact srt_two h2 a ha2 b hb2
theorem part1_c [DrawK] (m n : Mon) (hm : m.2.length ≤ 1000) (hn : n.2.length ≤ 1000) :
    Con Tryz.prog 194 [.agg [.int m.1, .sl m.2.length (avs m.2)], .agg [.int n.1, .sl n.2.length (avs n.2)]] (.int (cmpL m.2 n.2)) := by
  refine con_of_vc Tryz.mixed ⟨5, [], [], []⟩ Tryz.func194 (by decide) rfl (by simp) (by decide) (by simp [freshOK, freshL, go_sem]) ?_
  rw [Tryz.ntmps194]
  simp [go_sem]
  refine CallVC.of (Compare_c m.2 n.2 (by omega) (by omega)) (by decide) ?_
  simp [go_sem]
theorem sort_unique {ys L : List Mon} (hp : ys.Perm L) (hS : Srt L) (hy : ys.Pairwise (fun x y => ¬ cmpL y.2 x.2 < 0)) : ys = L := by
  have hy' : ys.Pairwise (fun x y => ltL y.2 x.2 = false) := hy.imp (fun {a b} h => by
    have := cmpL_neg b.2 a.2
    rw [← this]; simpa using h)
  have hL' : L.Pairwise (fun x y => ltL y.2 x.2 = false) := hS.imp (fun {a b} h => by
    cases h2 : ltL b.2 a.2 with
    | false => rfl
    | true => have := ltL_trans h h2; rw [ltL_irr] at this; simp at this)
  refine hp.eq_of_pairwise (fun a b ha hb h1 h2 => ?_) hy' hL'
  rcases srt_two hS a (hp.mem_iff.1 ha) b hb with h | h | h
  · exact h
  · rw [h2] at h; simp at h
  · rw [h1] at h; simp at h
theorem sortMon_c (X L : List Mon) (hX : X.Perm L) (hS : Srt L) (hl : ∀ m ∈ L, m.2.length ≤ 1000) (hn : L.length ≤ 1048576) :
    MCon Tryz.prog 193 [.own 97 X.length (omons X), .val (.func (.func 194) #[] #[])] (.tup []) [.own 97 X.length (omons L), .any] := by
  have hxl := hX.length_eq
  have hm : ∀ m ∈ X, m.2.length ≤ 1000 := fun m hm => hl m (hX.mem_iff.1 hm)
  obtain ⟨ys, h1, h2, h3⟩ := sort_mcon Tryz.sortMon 2 Tryz.isAgg97 Tryz.sizeOf97 ⟨_, Tryz.func193, by decide, rfl⟩ (fun m : Mon => [.int m.1, .own 2 m.2.length (avs m.2)]) (fun m n => cmpL m.2 n.2) swo_mon 194 97 (by kernel_rfl) X (fun _ _ => rfl) (omons_fresh X)
    (fun x hx y hy => by simpa [frzL, frz] using @part1_c ⟨1⟩ x y (hm x hx) (hm y hy)) (by omega)
  have e : ys = L := sort_unique (h1.trans hX) hS h2
  subst e
  exact h3
theorem pref1 {P : Program} {f : FuncId} {n m : Nat} {cs : List AV} {r : AV} (h : Con P f [.sl n (cs.take m)] r) : Con P f [.sl n cs] r := by
  refine ⟨h.1, fun w vs hl hr => h.2 w vs (by simpa using hl) fun tm oss => ?_⟩
  have h1 := hr tm oss
  obtain ⟨v, rfl⟩ := List.length_eq_one_iff.1 hl.symm
  generalize ho : ([] : List Nat) = os at h1
  cases h1 with
  | cons _ _ o1 _ _ o2 h2 h3 =>
    cases h3
    have e : o1 = [] := by simpa using ho.symm
    subst e
    refine .cons _ _ [] _ _ [] ?_ (.nil _)
    cases h2 with
    | cell _ _ _ hc =>
      refine .cell _ _ _ ?_
      cases hc with
      | sl0 base cap => simpa using RepC.sl0 base cap
      | sl b off _ cap c e fr _ hF hb hL hn => exact .sl b off _ cap c e fr _ hF hb (hL.pref m) hn
theorem CloneN_c (k : List Int) (n : Nat) (hn : n ≤ k.length) (hl : k.length ≤ 1048576) : Con Tryz.prog 117 [.sl n (avs k)] (.own 2 n (avs (k.take n))) := by
  have h := Clone_c (k.take n) (by simp; omega)
  have e : (k.take n).length = n := by simp [hn]
  have e2 : avs (k.take n) = (avs k).take n := by simp [avs, List.map_take]
  rw [e, e2] at h
  rw [e2]
  exact pref1 h
def restM (n : Nat) (es : List (Key × Int)) : List Mon := (es.filter fun e => decide (e.2 ≠ 0)).map fun e => (e.2, [e.1.1, e.1.2.1, e.1.2.2].take n)
theorem restM_split (n : Nat) (l1 l2 : List (Key × Int)) (e : Key × Int) : (restM n (l1 ++ e :: l2)).Perm (if e.2 = 0 then restM n (l1 ++ l2) else (e.2, [e.1.1, e.1.2.1, e.1.2.2].take n) :: restM n (l1 ++ l2)) := by
  unfold restM
  by_cases h : e.2 = 0
  · simp [h]
  · rw [if_neg h]
    have e1 : decide (e.2 ≠ 0) = true := by simp [h]
    rw [List.filter_append, List.filter_cons, e1, if_pos rfl, List.filter_append, List.map_append, List.map_append, List.map_cons]
    exact List.perm_middle
theorem keyOf_take {m : Mon} {n : Nat} (hm : m.2.length = n) (hn : n ≤ 3) : [(keyOf m.2).1, (keyOf m.2).2.1, (keyOf m.2).2.2].take n = m.2 := by
  obtain ⟨a, e⟩ := m
  subst hm
  rcases e with _ | ⟨a, _ | ⟨b, _ | ⟨c, _ | ⟨d, e⟩⟩⟩⟩
  all_goals first | rfl | (simp at hn)
theorem restM_perm {c : Key → Option Int} {n : Nat} {L : List Mon} (hn : n ≤ 3) (hS : Srt L) (hL : ∀ k a, (c k = some a ∧ a ≠ 0) ↔ (k, a) ∈ L.map keyM) (hl : ∀ m ∈ L, m.2.length = n) {es : List (Key × Int)} (he : Enum c es) : (restM n es).Perm L := by
  have hmem : ∀ k a, (k, a) ∈ es ↔ c k = some a := fun k a => ⟨fun h => he.val _ h, fun h => by
    by_cases hx : ∃ p ∈ es, p.1 = k
    · obtain ⟨p, hp, rfl⟩ := hx
      have := he.val p hp
      rw [h] at this
      injection this with this
      subst this
      exact hp
    · have := he.out k (fun p hp e => hx ⟨p, hp, e⟩)
      rw [h] at this; simp at this⟩
  have hin : ∀ e ∈ es, e.2 ≠ 0 → ∃ m ∈ L, keyM m = e := fun e he h0 => by
    have := (hL e.1 e.2).1 ⟨(hmem _ _).1 he, h0⟩
    obtain ⟨m, hm, h⟩ := List.mem_map.1 this
    exact ⟨m, hm, h⟩
  have hmono : ∀ e ∈ es, e.2 ≠ 0 → ∃ m ∈ L, keyM m = e ∧ (e.2, [e.1.1, e.1.2.1, e.1.2.2].take n) = m := fun e he h0 => by
    obtain ⟨m, hm, rfl⟩ := hin e he h0
    refine ⟨m, hm, rfl, ?_⟩
    show (m.1, [(keyOf m.2).1, (keyOf m.2).2.1, (keyOf m.2).2.2].take n) = m
    rw [keyOf_take (hl m hm) hn]
  have hLn : L.Nodup := hS.imp (fun {a b} h e => by rw [e, ltL_irr] at h; simp at h)
  refine (List.perm_ext_iff_of_nodup ?_ hLn).2 fun m => ?_
  · unfold restM
    rw [List.nodup_iff_pairwise_ne, List.pairwise_map, List.pairwise_filter]
    refine List.Pairwise.imp_of_mem (fun {a b} ha hb h h1 h2 e => ?_) he.nd
    simp at h1 h2
    obtain ⟨m1, _, g1, g2⟩ := hmono a ha h1
    obtain ⟨m2, _, g3, g4⟩ := hmono b hb h2
    rw [g2, g4] at e
    rw [← g1, ← g3, e] at h
    exact h rfl
  · unfold restM
    rw [List.mem_map]
    constructor
    · rintro ⟨e, h1, rfl⟩
      obtain ⟨h1, h2⟩ := List.mem_filter.1 h1
      obtain ⟨m, hm, _, h⟩ := hmono e h1 (by simpa using h2)
      rw [h]; exact hm
    · intro hm
      have h1 := (hL (keyOf m.2) m.1).2 (List.mem_map.2 ⟨m, hm, rfl⟩)
      refine ⟨(keyOf m.2, m.1), List.mem_filter.2 ⟨(hmem _ _).2 h1.1, by simpa using h1.2⟩, ?_⟩
      show (m.1, [(keyOf m.2).1, (keyOf m.2).2.1, (keyOf m.2).2.2].take n) = m
      rw [keyOf_take (hl m hm) hn]
set_option maxRecDepth 100000 in
theorem part_c (c : Key → Option Int) (n : Nat) (L : List Mon) (h1n : 1 ≤ n) (hn : n ≤ 3) (hS : Srt L) (hL : ∀ k a, (c k = some a ∧ a ≠ 0) ↔ (k, a) ∈ L.map keyM) (hl : ∀ m ∈ L, m.2.length = n) (hLl : L.length ≤ 1048576) :
    Con Tryz.prog 136 [.fmp c, .int n] (.own 97 L.length (omons L)) := by
  refine con_of_vc Tryz.mixed ⟨8, [], [193], []⟩ Tryz.func136 (by decide) rfl (by simp) (by decide) (by simp [freshOK, freshL, go_sem]) ?_
  rw [Tryz.ntmps136]
  simp [go_sem]
  intro es hes
  have hp := restM_perm hn hS hL hl hes
  refine loop_inv (5 :: 6 :: 7 :: List.range' 10 16) (fun x : List Mon × Option (Key × Int) × List (Key × Int) => [(5, .own 97 x.1.length (omons x.1)), (10, .it x.2.1 x.2.2)]) (fun x => (x.1 ++ restM n x.2.2).Perm L) (fun x => x.2.2.length) ([], none, es) (by simpa using hp) (by simp [go_sem]) (by simp [go_sem]) ?_
  rintro ⟨X, l, rem⟩ hX
  simp only at hX
  have hXl : X.length ≤ L.length := by have := hX.length_eq; simp at this; omega
  simp [go_sem, keyAV]
  refine ⟨fun hr => ?_, fun l1 k0 k1 k2 x l2 hr => ?_⟩
  · subst hr
    have hX' : X.Perm L := by simpa [restM] using hX
    refine ⟨_, _, sortMon_c X L hX' hS (fun m hm => by have := hl m hm; omega) hLl, ?_⟩
    simp [go_sem]
    exact hX'.length_eq
  · subst hr
    refine ⟨fun h => ?_, fun h => ?_⟩ <;> simp at h
    · have cC := CloneN_c [k0, k1, k2] n (by simpa using hn) (by simp)
      simp [go_sem, avs]
      refine ⟨⟨by omega, by omega⟩, ?_⟩
      refine CallVC.of (cC) (by decide) ?_
      simp [go_sem]
      have hp2 : ((X ++ [(x, [k0, k1, k2].take n)]) ++ restM n (l1 ++ l2)).Perm L := by
        refine List.Perm.trans ?_ hX
        rw [List.append_assoc]
        have := (restM_split n l1 l2 ((k0, k1, k2), x)).symm
        rw [if_neg h] at this
        exact List.Perm.append_left X this
      have hl3 : ([k0, k1, k2].take n).length = n := by simp; omega
      have hxl := hp2.length_eq
      simp at hxl
      refine ⟨⟨by omega, by omega⟩, X ++ [(x, [k0, k1, k2].take n)], some ((k0, k1, k2), x), l1 ++ l2, hp2, by simp, Off_reset _ _ _ (by simp), ?_⟩
      simp [omons_app, omons_one, hl3]
    · have hp2 : (X ++ restM n (l1 ++ l2)).Perm L := by
        refine List.Perm.trans ?_ hX
        have := (restM_split n l1 l2 ((k0, k1, k2), x)).symm
        rw [if_pos h] at this
        exact List.Perm.append_left X this
      simp [go_sem]
      refine ⟨X, some ((k0, k1, k2), x), l1 ++ l2, hp2, by simp, Off_reset _ _ _ (by simp), ?_⟩
      simp
end Go.Proofs.YtoeikpioonlmfaaGreat


namespace Go.Proofs.YtoeikpioonlmfaaGreat
open Go.Abs
set_option linter.unusedSectionVars false
set_option linter.unusedVariables false
set_option linter.unusedSimpArgs false
set_option maxHeartbeats 1000000
theorem cfL_key : ∀ {L : List Mon} {K : Key}, cfL L K ≠ 0 → ∃ m ∈ L, keyOf m.2 = K
  | [], K, h => absurd rfl h
  | m :: L, K, h => by
    by_cases e : K = keyOf m.2
    · exact ⟨m, by simp, e.symm⟩
    · rw [cfL_cons, if_neg e, Int.zero_add] at h
      obtain ⟨m', h1, h2⟩ := cfL_key h
      exact ⟨m', by simp [h1], h2⟩
theorem part_list {c : Key → Option Int} {n : Nat} {L : List Mon} (hn : n ≤ 3) (hc : MapN c) (hS : Srt L) (hZ : Nzl L) (hl : ∀ m ∈ L, m.2.length = n) (hv : ∀ K, gv c K % 10007 = cfL L K % 10007) (k : Key) (a : Int) :
    (c k = some a ∧ a ≠ 0) ↔ (k, a) ∈ L.map keyM := by
  have hv := hv k
  constructor
  · rintro ⟨h1, h2⟩
    have ha := hc k a h1
    have g : gv c k = a := by simp [gv, h1]
    rw [g] at hv
    have h3 : cfL L k ≠ 0 := fun e => by rw [e] at hv; have := ha.1; have := ha.2; omega
    obtain ⟨m, hm, rfl⟩ := cfL_key h3
    have e := cfL_at hn hl hS m hm
    have hz := hZ m hm
    rw [e] at hv
    have : m.1 = a := by have := ha.1; have := ha.2; omega
    exact List.mem_map.2 ⟨m, hm, by rw [← this]; rfl⟩
  · intro h
    obtain ⟨m, hm, e⟩ := List.mem_map.1 h
    have e1 : keyOf m.2 = k := congrArg Prod.fst e
    have e2 : m.1 = a := congrArg Prod.snd e
    subst e1 e2
    have hz := hZ m hm
    rw [cfL_at hn hl hS m hm] at hv
    cases hc' : c (keyOf m.2) with
    | none => simp [gv, hc'] at hv; omega
    | some b =>
      have hb := hc _ _ hc'
      have g : gv c (keyOf m.2) = b := by simp [gv, hc']
      rw [g] at hv
      have : b = m.1 := by have := hb.1; have := hb.2; omega
      exact ⟨by rw [this], by omega⟩
theorem part_c2 {c : Key → Option Int} {n : Nat} {L : List Mon} (h1n : 1 ≤ n) (hn : n ≤ 3) (hc : MapN c) (hS : Srt L) (hZ : Nzl L) (hl : ∀ m ∈ L, m.2.length = n) (hLl : L.length ≤ 1048576) (hv : ∀ K, gv c K % 10007 = cfL L K % 10007) :
    Con Tryz.prog 136 [.fmp c, .int n] (.own 97 L.length (omons L)) :=
  part_c c n L h1n hn hS (part_list hn hc hS hZ hl hv) hl hLl
def ptA (Ls : List (List Mon)) : Nat → AV
  | 0 => .val (.slice none 0 0)
  | i + 1 => .own 92 (i + 1) (oprt (Ls.take (i + 1)))
theorem ptA_zero (Ls : List (List Mon)) : ptA Ls 0 = .val (.slice none 0 0) := rfl
theorem ptA_succ (Ls : List (List Mon)) (i : Nat) : ptA Ls (i + 1) = .own 92 (i + 1) (oprt (Ls.take (i + 1))) := rfl
theorem oprt_snoc (Ls : List (List Mon)) {i : Nat} (h : i < Ls.length) : oprt (Ls.take (i + 1)) = oprt (Ls.take i) ++ [.own 97 (Ls[i]?.getD []).length (omons (Ls[i]?.getD []))] := by
  rw [List.take_add_one, List.getElem?_eq_getElem h, Option.toList_some, oprt_app]; simp [oprt, h]
theorem fmps_drop {cs : List (Key → Option Int)} {k : Nat} (h : k < cs.length) : (cs.map AV.fmp).drop k = .fmp (cs[k]?.getD mzero) :: (cs.drop (k + 1)).map AV.fmp := by
  rw [← List.map_drop, List.drop_eq_getElem_cons h, List.map_cons]; simp [h]
set_option maxRecDepth 100000 in
theorem fieldOf_c (n : Nat) (cs : List (Key → Option Int)) (Ls : List (List Mon)) (hl : cs.length = Ls.length) (h0 : 0 < cs.length) (h3 : cs.length ≤ 3)
    (hp : ∀ i, i < cs.length → Con Tryz.prog 136 [.fmp (cs[i]?.getD mzero), .int n] (.own 97 (Ls[i]?.getD []).length (omons (Ls[i]?.getD [])))) :
    Con Tryz.prog 65 [.int n, .sl cs.length (cs.map AV.fmp)] (.agg [.int n, .own 92 Ls.length (oprt Ls)]) := by
  refine con_of_vc Tryz.mixed ⟨8, [], [], []⟩ Tryz.func65 (by decide) rfl (by simp) (by decide) (by simp [freshOK, freshL, go_sem]) ?_
  rw [Tryz.ntmps65]
  simp [go_sem]
  refine loop_inv (5 :: 7 :: List.range' 12 13) (fun i : Nat => [(5, .box 26 [.int n, ptA Ls i]), (12, .int i)]) (fun i => i ≤ cs.length) (fun i => cs.length - i) 0 (by simp) (by simp [go_sem, ptA]) (by simp [go_sem]) ?_
  intro i hi
  simp [go_sem]
  refine ⟨fun h => ?_, fun h => ?_⟩ <;> simp at h
  · have hif := h
    have cp := hp i hif
    rcases i with _ | j
    · simp [go_sem, ptA_zero, fmps_drop hif]
      refine ⟨⟨hif, fun e => by rw [e] at hif; simp at hif⟩, by kernel_rfl, ?_⟩
      refine CallD.of (cp) (by simp [roots, rootsL]) (by decide) ?_
      simp [go_sem]
      refine ⟨by kernel_rfl, ?_⟩
      simp [go_sem]
      have hs := oprt_snoc Ls (i := 0) (by omega)
      refine ⟨1, by omega, by omega, Off_reset _ _ _ (by simp), ?_, by simp⟩
      rw [ptA_succ, hs]
      simp [oprt]
    · simp [go_sem, ptA_succ, fmps_drop hif]
      refine ⟨⟨by omega, by omega, fun e => by rw [e] at hif; simp at hif⟩, by kernel_rfl, ?_⟩
      refine CallD.of (cp) (by simp [roots, rootsL]) (by decide) ?_
      simp [go_sem]
      have hs := oprt_snoc Ls (i := j + 1) (by omega)
      refine ⟨⟨by omega, by omega, by omega⟩, ?_⟩
      refine ⟨by kernel_rfl, ?_⟩
      simp [go_sem]
      refine ⟨by omega, j + 1 + 1, by omega, by omega, Off_reset _ _ _ (by simp), ?_, by omega⟩
      rw [ptA_succ, hs]
  · have e : i = cs.length := by omega
    subst e
    obtain ⟨j, hj⟩ : ∃ j, cs.length = j + 1 := ⟨cs.length - 1, by omega⟩
    have e2 : ptA Ls cs.length = .own 92 Ls.length (oprt Ls) := by
      rw [hj, ptA_succ, ← hj, hl, List.take_length]
    rw [e2]
    simp [go_sem]
end Go.Proofs.YtoeikpioonlmfaaGreat


namespace Go.Proofs.YtoeikpioonlmfaaGreat
open Go.Abs
set_option linter.unusedSectionVars false
set_option linter.unusedVariables false
set_option linter.unusedSimpArgs false
set_option maxHeartbeats 1000000
def DrP (n : Nat) (p : List Mon) : Prop := p.length ≤ 3 ∧ ∀ m ∈ p, WOk n 3 m
theorem set_bump {w : List Int} {B : Int} {k : Nat} (hw : ∀ x ∈ w, 0 ≤ x ∧ x ≤ B) (hk : k < w.length) : ∀ x ∈ w.set k (w[k]?.getD 0 + 1), 0 ≤ x ∧ x ≤ B + 1 := fun x hx => by
  rcases List.mem_or_eq_of_mem_set hx with hx | rfl
  · have := hw x hx; omega
  · have := hw (w[k]?.getD 0) (by simp [hk])
    omega
set_option maxRecDepth 100000 in
theorem l13Draw_r (c : List Int) (σ : Src) (hc : Byt c) (hs : SOk σ) :
    RCon Tryz.prog 130 [srcA c σ] (fun r o => ∃ (τ : Src) (n : Nat) (f : List (List Mon)), SOk τ ∧ o = [srcA c τ] ∧ 1 ≤ n ∧ n ≤ 3 ∧ f.length = n ∧ (∀ p ∈ f, DrP n p) ∧ r = .agg [.int n, .own 92 n (oprt f)]) := by
  have c1 := l01Next_c c σ 3 hc hs
  have s1 := nx2_ok hc hs 3
  have b1 := nx1_b hc σ (n := 3) (by omega)
  obtain ⟨n, hn⟩ : ∃ n : Nat, 1 + nx1 c σ 3 = n := ⟨(1 + nx1 c σ 3).toNat, by omega⟩
  generalize nx1 c σ 3 = v1 at *
  generalize nx2 c σ 3 = σ1 at *
  simp only [srcA_eq] at *
  refine rcon_of_vcH Tryz.mixed ⟨10, [], [1000000 + 57, 1000000 + 157, 1000000 + 178], []⟩ [0] Tryz.func130 (by decide) rfl (by simp) (by simp) (by decide) ?_
  rw [Tryz.ntmps130]
  simp [go_sem]
  refine ⟨_, _, c1, ?_⟩
  simp [go_sem]
  refine ⟨⟨by omega, by omega⟩, ?_⟩
  rw [hn]
  refine loop_inv (0 :: 3 :: 4 :: 5 :: 6 :: 7 :: 8 :: 9 :: List.range' 14 46) (fun x : Src × List (List Mon) => [(0, .box 147 [.sl c.length (bys c), .int x.1.1, .val (.int .u64 x.1.2)]), (3, .box 26 [.int n, ptA x.2 x.2.length]), (4, .int x.2.length)]) (fun x => SOk x.1 ∧ x.2.length ≤ n ∧ ∀ p ∈ x.2, DrP n p) (fun x => n - x.2.length) (σ1, []) (by simp; exact s1) (by simp [go_sem, ptA_zero]) (by simp [go_sem]) ?_
  rintro ⟨τ, f⟩ ⟨h1, h2, h3⟩
  simp only at h1 h2 h3
  simp [go_sem]
  refine ⟨fun h => ?_, fun h => ?_⟩ <;> simp at h
  · have c4 := l01Next_c c τ 4 hc h1
    have s4 := nx2_ok hc h1 4
    have b4 := nx1_b hc τ (n := 4) (by omega)
    obtain ⟨m, hm⟩ : ∃ m : Nat, nx1 c τ 4 = m := ⟨(nx1 c τ 4).toNat, by omega⟩
    rw [hm] at c4 b4
    generalize nx2 c τ 4 = τ1 at *
    simp only [srcA_eq] at c4
    simp [go_sem]
    refine ⟨_, _, c4, ?_⟩
    simp [go_sem]
    refine loop_inv (0 :: 5 :: 6 :: 7 :: 8 :: 9 :: List.range' 23 31) (fun x : Src × List Mon × Nat => [(0, .box 147 [.sl c.length (bys c), .int x.1.1, .val (.int .u64 x.1.2)]), (5, .own 97 x.2.1.length (omons x.2.1)), (6, .int x.2.2)]) (fun x => SOk x.1 ∧ x.2.1.length + x.2.2 ≤ 3 ∧ ∀ m ∈ x.2.1, WOk n 3 m) (fun x => x.2.2) (τ1, [], m) ⟨s4, by simp; omega, by simp⟩ (by simp [go_sem]) (by simp [go_sem]) ?_
    rintro ⟨ρ, p, k⟩ ⟨g1, g2, g3⟩
    simp only at g1 g2 g3
    simp [go_sem]
    refine ⟨fun h => ?_, fun h => ?_⟩ <;> simp at h
    · have c5 := l01Pick_c c ρ [0, 1, 1, 2, 2, 3] hc g1 (by simp) (by simp)
      have m5 := pk_mem c hc ρ (xs := [0, 1, 1, 2, 2, 3]) (by simp)
      have s5 := nx2_ok hc g1 6
      obtain ⟨d0, hd0⟩ : ∃ d0 : Nat, pk c ρ [0, 1, 1, 2, 2, 3] = d0 := ⟨(pk c ρ [0, 1, 1, 2, 2, 3]).toNat, by simp at m5; omega⟩
      have hd3 : d0 ≤ 3 := by rw [hd0] at m5; simp at m5; omega
      have e6 : (([0, 1, 1, 2, 2, 3] : List Int).length : Int) = 6 := rfl
      rw [hd0, e6] at c5
      generalize nx2 c ρ 6 = ρ1 at *
      simp only [srcA_eq] at c5
      simp [go_sem]
      refine ⟨⟨by omega, by omega⟩, ?_⟩
      refine ⟨_, _, c5, ?_⟩
      simp [go_sem]
      rw [avs_repl]
      refine loop_inv (0 :: 7 :: 8 :: 9 :: List.range' 33 16) (fun x : Src × List Int × Nat => [(0, .box 147 [.sl c.length (bys c), .int x.1.1, .val (.int .u64 x.1.2)]), (7, .own 2 n (avs x.2.1)), (8, .int x.2.2)]) (fun x => SOk x.1 ∧ x.2.1.length = n ∧ x.2.2 ≤ 3 ∧ ∀ y ∈ x.2.1, 0 ≤ y ∧ y + x.2.2 ≤ 3) (fun x => x.2.2) (ρ1, List.replicate n 0, d0) ⟨s5, by simp, by simpa using hd3, by intro y hy; have := List.eq_of_mem_replicate hy; simp only; omega⟩ (by simp [go_sem]) (by simp [go_sem]) ?_
      rintro ⟨κ, w, d⟩ ⟨q1, q2, q3, q4⟩
      simp only at q1 q2 q3 q4
      simp [go_sem]
      refine ⟨fun h => ?_, fun h => ?_⟩ <;> simp at h
      · obtain ⟨e, rfl⟩ : ∃ e, d = e + 1 := ⟨d - 1, by omega⟩
        have hnn : 1 ≤ n := by omega
        have c6 := l01Next_c c κ n hc q1
        have s6 := nx2_ok hc q1 n
        have b6 := nx1_b hc κ (n := n) (by omega)
        obtain ⟨j, hj⟩ : ∃ j : Nat, nx1 c κ n = j := ⟨(nx1 c κ n).toNat, by omega⟩
        rw [hj] at c6 b6
        have hjn : j < w.length := by omega
        have hA := avs_at hjn
        have hB := set_bump (B := 3 - (e + 1)) (fun y hy => by have := q4 y hy; constructor <;> omega) hjn
        have wj := q4 (w[j]?.getD 0) (by simp [hjn])
        have hS := avs_set w j (w[j]?.getD 0 + 1)
        generalize w[j]?.getD 0 = u at *
        generalize nx2 c κ n = κ1 at *
        simp only [srcA_eq] at c6
        simp [go_sem]
        refine ⟨_, _, c6, ?_⟩
        simp [go_sem]
        simp [go_sem, hA]
        refine ⟨by omega, ⟨by omega, by omega⟩, by omega, by omega, by omega, κ1.1, κ1.2, w.set j (u + 1), e, ⟨s6, by simpa using q2, by omega, fun y hy => ?_⟩, by omega, Off_reset _ _ _ (by simp), ?_⟩
        · have := hB y hy; omega
        · simp [hS]
      · have e0 : d = 0 := by omega
        subst e0
        have c7 := l01Number_c c κ hc q1
        have h7 := nbV_ok hc q1
        have c8 := l13Put_c p (nbV c κ).1 w h7.1 (fun m hm => ⟨(g3 m hm).num, by have := (g3 m hm).len; omega⟩) (by omega) (by omega)
        have l8 := putL_len p (nbV c κ).1 w
        have w8 := putGo_wok (n := n) (B := 3) (c := (nbV c κ).1) (e := w) ⟨h7.1, q2, fun y hy => by have := q4 y hy; constructor <;> omega⟩ p (decide ((nbV c κ).1 = 0)) g3
        have w9 : ∀ m ∈ putL p (nbV c κ).1 w, WOk n 3 m := w8
        rw [q2] at c8
        generalize putL p (nbV c κ).1 w = p2 at *
        generalize nbV c κ = r7 at *
        simp only [srcA_eq] at c7
        simp [go_sem]
        refine ⟨_, _, c7, ?_⟩
        simp [go_sem]
        refine CallVC.of (c8) (by decide) ?_
        simp [go_sem]
        exact ⟨⟨by omega, by omega⟩, r7.2.1, r7.2.2, p2, k - 1, ⟨h7.2, by omega, fun a b hab => w9 (a, b) hab⟩, by omega, (Off.reset (by intro x hx; simp at hx ⊢; omega) (by simp) (by simp [go_sem, Off_reset])), ⟨rfl, rfl⟩, ⟨rfl, rfl⟩, by omega⟩
    · have k0 : k = 0 := by omega
      subst k0
      have hsn : ptA (f ++ [p]) (f.length + 1) = .own 92 (f.length + 1) (oprt f ++ [.own 97 p.length (omons p)]) := by
        rw [ptA_succ, List.take_of_length_le (by simp), oprt_app]; rfl
      have hdr : DrP n p := ⟨by omega, g3⟩
      rcases f with _ | ⟨q, f⟩
      · simp [go_sem, ptA_zero]
        refine ⟨ρ.1, ρ.2, [p], ⟨g1, by simp; omega, by simpa using hdr⟩, by simp; omega, (by repeat (first | exact Off_reset _ _ _ (by simp) | (refine Off.reset (by intro x hx; simp at hx ⊢; omega) (by simp) ?_; simp -failIfUnchanged [go_sem, Off_reset]))), ?_⟩
        exact ⟨⟨rfl, rfl⟩, rfl, by simp⟩
      · rw [List.length_cons] at *
        simp [go_sem, ptA_succ]
        refine ⟨⟨by omega, by omega⟩, by omega, ρ.1, ρ.2, q :: f ++ [p], ⟨g1, by simp; omega, fun t ht => ?_⟩, by simp; omega, (by repeat (first | exact Off_reset _ _ _ (by simp) | (refine Off.reset (by intro x hx; simp at hx ⊢; omega) (by simp) ?_; simp -failIfUnchanged [go_sem, Off_reset]))), ?_⟩
        · rcases List.mem_append.1 ht with ht | ht
          · exact h3 t ht
          · simp at ht; rw [ht]; exact hdr
        · have e1 : (q :: f ++ [p]).length = f.length + 1 + 1 := by simp
          rw [e1, hsn]
          exact ⟨⟨rfl, rfl⟩, rfl, by omega⟩
  · have e0 : f.length = n := by omega
    rcases f with _ | ⟨q, f⟩
    · simp at e0; omega
    · rw [List.length_cons] at *
      simp [go_sem, ptA_succ]
      exact ⟨τ.1, τ.2, h1, ⟨rfl, rfl⟩, n, by omega, by omega, q :: f, by simpa using e0, h3, rfl, e0, rfl⟩
def spr : Bool → List (List Mon) → List AV
  | true, p :: f => .own 97 p.length (mons p) :: oprt f
  | true, [] => []
  | false, f => oprt f
@[simp] theorem spr_len : ∀ (b : Bool) (f : List (List Mon)), (spr b f).length = f.length
  | true, p :: f => by simp [spr]
  | true, [] => rfl
  | false, f => by simp [spr]
@[simp] theorem spr_frz : ∀ (b : Bool) (f : List (List Mon)), frzL (spr b f) = prt f
  | true, p :: f => by simp [spr, frzL, frz, prt, mons_frz]
  | true, [] => rfl
  | false, f => by simp [spr]
def DrS (z : Int) (f : List (List Mon)) : Prop := -1 ≤ z ∧ z ≤ 4 ∧ f.length ≤ 4 ∧ ∀ p ∈ f, p.length ≤ 4 ∧ ∀ m ∈ p, m.2.length ≤ 3
theorem DrS.of {n : Nat} {f : List (List Mon)} (hn : n ≤ 3) (hl : f.length ≤ 3) (h : ∀ p ∈ f, DrP n p) {z : Int} (h1 : -1 ≤ z) (h2 : z ≤ 4) : DrS z f :=
  ⟨h1, h2, by omega, fun p hp => ⟨by have := (h p hp).1; omega, fun m hm => by have := ((h p hp).2 m hm).len; omega⟩⟩
end Go.Proofs.YtoeikpioonlmfaaGreat


namespace Go.Proofs.YtoeikpioonlmfaaGreat
open Go.Abs
set_option linter.unusedSectionVars false
set_option linter.unusedVariables false
set_option linter.unusedSimpArgs false
set_option maxHeartbeats 1000000
theorem oprt_cons (q : List Mon) (f : List (List Mon)) : oprt (q :: f) = .own 97 q.length (omons q) :: oprt f := rfl
set_option maxRecDepth 100000 in
theorem l13Spoil_r (c : List Int) (σ : Src) (hc : Byt c) (hs : SOk σ) :
    RCon Tryz.prog 89 [srcA c σ] (fun r o => ∃ (τ : Src) (z : Int) (b : Bool) (f : List (List Mon)), SOk τ ∧ o = [srcA c τ] ∧ DrS z f ∧ r = .agg [.int z, .own 92 f.length (spr b f)]) := by
  have cD := l13Draw_r c σ hc hs
  simp only [srcA_eq] at *
  refine rcon_of_vcH Tryz.mixed ⟨5, [48], [1000000 + 57, 1000000 + 157, 2000000 + 130], [2000614000117]⟩ [0] Tryz.func89 (by decide) rfl (by simp) (by simp) (by decide) ?_
  rw [Tryz.ntmps89]
  simp [go_sem]
  refine ⟨_, cD, ?_⟩
  rintro _ _ ⟨τ, n, f, h1, rfl, h2, h3, h4, h5, rfl⟩
  have c4 := l01Next_c c τ 40 hc h1
  have s4 := nx2_ok hc h1 40
  generalize nx1 c τ 40 = v at *
  generalize nx2 c τ 40 = τ1 at *
  simp only [srcA_eq] at c4
  simp [go_sem]
  refine ⟨_, _, c4, ?_⟩
  simp [go_sem]
  rcases f with _ | ⟨q, f⟩
  · simp at h4; omega
  · have hq : q.length ≤ 3 := (h5 q (by simp)).1
    by_cases v0 : v = 0
    · have c5 := l01Pick_c c τ1 [0, (n : Int) + 1, -1, 4] hc s4 (by simp) (by simp)
      have m5 := pk_mem c hc τ1 (xs := [0, (n : Int) + 1, -1, 4]) (by simp)
      have s5 := nx2_ok hc s4 4
      have e4 : (([0, (n : Int) + 1, -1, 4] : List Int).length : Int) = 4 := rfl
      rw [e4] at c5
      simp only [srcA_eq] at c5
      generalize pk c τ1 [0, (n : Int) + 1, -1, 4] = z at *
      generalize nx2 c τ1 4 = τ2 at *
      simp [go_sem, v0]
      refine ⟨⟨by omega, by omega⟩, ?_⟩
      refine ⟨_, _, c5, ?_⟩
      simp [go_sem]
      refine ⟨τ2.1, τ2.2, s5, ⟨rfl, rfl⟩, z, .inl ⟨q :: f, DrS.of h3 (by omega) h5 ?_ ?_, rfl, h4.symm, rfl⟩⟩
      all_goals (simp at m5; omega)
    · have hfs : DrS n (q :: f) := DrS.of h3 (by omega) h5 (by omega) (by omega)
      by_cases v1 : v = 1
      · have c5 := l01Pick_c c τ1 [0, 10007, 1] hc s4 (by simp) (by simp)
        have s5 := nx2_ok hc s4 3
        have e4 : (([0, 10007, 1] : List Int).length : Int) = 3 := rfl
        have c6 := l13One_c n 0 (by omega) (by omega)
        rw [e4] at c5
        simp only [srcA_eq] at c5
        generalize pk c τ1 [0, 10007, 1] = x at *
        generalize nx2 c τ1 3 = τ2 at *
        have fin : ∃ a b, SOk (a, b) ∧ ((τ2.1 : Int) = a ∧ τ2.2 = b) ∧ ∃ z, (∃ g, DrS z g ∧ (n : Int) = z ∧ n = g.length ∧ AV.own 97 (q.length + 1) (omons q ++ [AV.val (Value.int IntKind.i64 x), AV.own 2 n (avs (oneE n 0))]) :: oprt f = spr false g) ∨ ∃ g, DrS z g ∧ (n : Int) = z ∧ n = g.length ∧ AV.own 97 (q.length + 1) (omons q ++ [AV.val (Value.int IntKind.i64 x), AV.own 2 n (avs (oneE n 0))]) :: oprt f = spr true g := by
          refine ⟨τ2.1, τ2.2, s5, ⟨rfl, rfl⟩, n, .inl ⟨(q ++ [(x, oneE n 0)]) :: f, ⟨by omega, by omega, hfs.2.2.1, fun p hp => ?_⟩, rfl, h4.symm, ?_⟩⟩
          · rcases List.mem_cons.1 hp with rfl | hp
            · refine ⟨by simp; omega, fun m hm => ?_⟩
              rcases List.mem_append.1 hm with hm | hm
              · exact (hfs.2.2.2 q (by simp)).2 m hm
              · simp at hm; subst hm; simp [oneE]; omega
            · exact hfs.2.2.2 p (by simp [hp])
          · have e1 : ((oneE n 0).length : Nat) = n := by simp [oneE]
            rw [spr, oprt_cons, omons_app]
            simp [omons_cons, e1]
        simp [go_sem, v0, v1]
        rw [DrawVC4_app]
        refine ⟨fun i => if i = 8 then [.n 0 .any, .n 27 .any, .n 0 (.box 147 [.sl c.length (bys c), .int τ2.1, .val (.int .u64 τ2.2)]), .n 27 .any, .w 28 (.int x)] else [.w 31 (.own 2 n (avs (oneE n 0)))], by kernel_rfl, ?_, ?_, ?_⟩
        · simp [go_sem, oprt_cons]
          refine ⟨by omega, ?_⟩
          refine ⟨_, _, c5, ?_⟩
          simp [go_sem]
          refine CallD.of (c6) (by simp [roots, rootsL]) (by decide) ?_
          simp [go_sem]
          refine ⟨⟨by omega, by omega⟩, by omega, by kernel_rfl, ?_⟩
          exact fin
        · simp [go_sem, oprt_cons]
          refine ⟨by omega, ?_⟩
          refine ⟨_, _, c5, ?_⟩
          simp [go_sem]
          refine CallD.of (c6) (by simp [roots, rootsL]) (by decide) ?_
          simp [go_sem]
          refine ⟨⟨by omega, by omega⟩, by omega, by kernel_rfl, ?_⟩
          exact fin
        · simp [go_sem, oprt_cons]
          refine ⟨by omega, ?_⟩
          refine ⟨_, _, c5, ?_⟩
          simp [go_sem]
          refine CallD.of (c6) (by simp [roots, rootsL]) (by decide) ?_
          simp [go_sem]
          refine ⟨⟨by omega, by omega⟩, by omega, by kernel_rfl, ?_⟩
          exact fin
      · by_cases v2 : v = 2
        · have c5 := l01Pick_c c τ1 [4, -1, 1099511627776] hc s4 (by simp) (by simp)
          have s5 := nx2_ok hc s4 3
          have e4 : (([4, -1, 1099511627776] : List Int).length : Int) = 3 := rfl
          rw [e4] at c5
          simp only [srcA_eq] at c5
          generalize pk c τ1 [4, -1, 1099511627776] = x at *
          generalize nx2 c τ1 3 = τ2 at *
          simp [go_sem, v0, v1, v2]
          refine ⟨⟨by omega, by omega⟩, ?_⟩
          refine ⟨_, _, c5, ?_⟩
          simp [go_sem]
          refine ⟨by omega, τ2.1, τ2.2, s5, ⟨rfl, rfl⟩, n, .inr ⟨[(1, (List.replicate n 0).set 0 x)] :: f, ⟨by omega, by omega, hfs.2.2.1, fun p hp => ?_⟩, rfl, h4.symm, ?_⟩⟩
          · rcases List.mem_cons.1 hp with rfl | hp
            · exact ⟨by simp, by simp; omega⟩
            · exact hfs.2.2.2 p (by simp [hp])
          · have e1 : avs ((List.replicate n 0).set 0 x) = (List.replicate n (AV.val (.int .i64 0))).set 0 (.val (.int .i64 x)) := by rw [← avs_set, avs_repl]
            have e2 := avs_frz ((List.replicate n 0).set 0 x)
            rw [e1] at e2
            rw [e2, ← e1]
            simp [spr, oprt, mons_cons]
        · by_cases v3 : v = 3
          · simp [go_sem, v0, v1, v2, v3]
            refine ⟨⟨by simpa using h4, by omega, by omega⟩, τ1.1, τ1.2, s4, ⟨rfl, rfl⟩, n, .inl ⟨q :: f ++ [[]], ⟨by omega, by omega, by simp at h4 ⊢; omega, fun p hp => ?_⟩, rfl, by simp at h4 ⊢; omega, ?_⟩⟩
            · rcases List.mem_append.1 hp with hp | hp
              · exact hfs.2.2.2 p hp
              · simp at hp; subst hp; exact ⟨by simp, by simp⟩
            · rw [spr, oprt_app]; rfl
          · simp [go_sem, v0, v1, v2, v3]
            exact ⟨τ1.1, τ1.2, s4, ⟨rfl, rfl⟩, n, .inl ⟨q :: f, hfs, rfl, h4.symm, rfl⟩⟩
theorem RCon.fz {P : Program} {f : FuncId} {args : List AV} {R : AV → List AV → Prop} (h : RCon P f args R) : RCon P f args (fun r o => ∃ r0, R r0 o ∧ r = frz r0) := by
  refine ⟨h.1, fun w vs os F0 hl hn ho hF hr => (h.2 w vs os F0 hl hn ho hF hr).mono ?_⟩
  rintro e w' ⟨r, o, hR, v, orr, oo, F', k1, k2, k3, k4, k5, k6, k7, k8, k9⟩
  refine ⟨frz r, o, ⟨r, hR, rfl⟩, v, [], oo, fun b => F' b ∨ b ∈ orr, k1, k2, fun b hb => .inl (k3 b hb), fun b hb => hb.elim (k4 b) (fun hb => .inr ⟨(k9 b (.inl hb)).1, (k9 b (.inl hb)).2.1⟩), fun tm oss => (k5 tm oss).frz (fun b h => .inl h) (fun b h => .inr h), fun tm oss => ?_, k7, ?_, fun b hb => ?_⟩
  · have := RepTL.kl (w' := w') (F' := fun b => F' b ∨ b ∈ orr) (tm' := tm) (oss' := oss) [] (fun b hb => .inl hb) (fun _ _ _ _ h => h) (k6 tm oss) (fun _ _ => rfl)
    rwa [klL_nil] at this
  · simpa using (List.nodup_append.1 k8).2.1
  · rcases hb with hb | hb
    · simp at hb
    · obtain ⟨j1, j2, j3⟩ := k9 b (.inr hb)
      exact ⟨j1, j2, fun hf => hf.elim j3 (fun hf => (List.nodup_append.1 k8).2.2 b hf b hb rfl)⟩
theorem l13Spoil_f (c : List Int) (σ : Src) (hc : Byt c) (hs : SOk σ) :
    RCon Tryz.prog 89 [srcA c σ] (fun r o => ∃ (τ : Src) (z : Int) (f : List (List Mon)), SOk τ ∧ o = [srcA c τ] ∧ DrS z f ∧ r = .agg [.int z, .sl f.length (prt f)]) := by
  refine (RCon.fz (l13Spoil_r c σ hc hs)).mono ?_
  rintro r o ⟨_, ⟨τ, z, b, f, h1, h2, h3, rfl⟩, rfl⟩
  refine ⟨τ, z, f, h1, h2, h3, ?_⟩
  simp [frz, frzL]
end Go.Proofs.YtoeikpioonlmfaaGreat


namespace Go.Proofs.YtoeikpioonlmfaaGreat
open Go.Abs
set_option linter.unusedSectionVars false
set_option linter.unusedVariables false
set_option linter.unusedSimpArgs false
set_option maxHeartbeats 4000000
end Go.Proofs.YtoeikpioonlmfaaGreat


namespace Go.Proofs.YtoeikpioonlmfaaGreat
set_option linter.unusedSectionVars false
set_option linter.unusedVariables false
set_option linter.unusedSimpArgs false
set_option maxHeartbeats 1000000
abbrev Mx := Nat → Nat → Int
def sgd (i : Nat) : Int := if i % 2 = 0 then 1 else -1
theorem sgd_succ (i : Nat) : sgd (i + 1) = - sgd i := by
  unfold sgd
  by_cases h : i % 2 = 0
  · rw [if_pos h, if_neg (by omega)]
  · rw [if_neg h, if_pos (by omega)]; rfl
def dsum (f : Nat → Int) : Nat → Int
  | 0 => 0
  | n + 1 => dsum f n + f n
theorem dsum_congr {f g : Nat → Int} : ∀ {n : Nat}, (∀ i, i < n → f i = g i) → dsum f n = dsum g n
  | 0, _ => rfl
  | n + 1, h => by rw [dsum, dsum, dsum_congr (fun i hi => h i (by omega)), h n (by omega)]
theorem dsum_lin (f g : Nat → Int) (k : Int) : ∀ n : Nat, dsum (fun i => f i + k * g i) n = dsum f n + k * dsum g n
  | 0 => by simp [dsum]
  | n + 1 => by rw [dsum, dsum, dsum, dsum_lin f g k n, Int.mul_add]; omega
theorem dsum_zero {f : Nat → Int} : ∀ {n : Nat}, (∀ i, i < n → f i = 0) → dsum f n = 0
  | 0, _ => rfl
  | n + 1, h => by rw [dsum, dsum_zero (fun i hi => h i (by omega)), h n (by omega)]; rfl
theorem dsum_one {f : Nat → Int} {k : Nat} : ∀ {n : Nat}, k < n → (∀ i, i < n → i ≠ k → f i = 0) → dsum f n = f k
  | 0, h, _ => by omega
  | n + 1, h, hz => by
    rw [dsum]
    by_cases e : k = n
    · subst e
      rw [dsum_zero (fun i hi => hz i (by omega) (by omega)), Int.zero_add]
    · rw [dsum_one (n := n) (by omega) (fun i hi hne => hz i (by omega) hne), hz n (by omega) (by omega), Int.add_zero]
theorem dsum_two {f : Nat → Int} {k : Nat} : ∀ {n : Nat}, k + 1 < n → (∀ i, i < n → i ≠ k → i ≠ k + 1 → f i = 0) → dsum f n = f k + f (k + 1)
  | 0, h, _ => by omega
  | n + 1, h, hz => by
    rw [dsum]
    by_cases e : k + 1 = n
    · subst e
      rw [dsum_one (k := k) (by omega) (fun i hi hne => hz i (by omega) hne (by omega))]
    · rw [dsum_two (n := n) (by omega) (fun i hi h1 h2 => hz i (by omega) h1 h2), hz n (by omega) (by omega) (by omega), Int.add_zero]
def mnr (M : Mx) (i : Nat) : Mx := fun r c => M (if r < i then r else r + 1) (c + 1)
def det : Nat → Mx → Int
  | 0, _ => 1
  | n + 1, M => dsum (fun i => sgd i * M i 0 * det n (mnr M i)) (n + 1)
def updR (M : Mx) (i : Nat) (w : Nat → Int) : Mx := fun r => if r = i then w else M r
theorem updR_self (M : Mx) (i : Nat) : updR M i (M i) = M := funext fun r => by
  unfold updR; split
  · rename_i h; rw [h]
  · rfl
theorem updR_at (M : Mx) (i : Nat) (w : Nat → Int) : updR M i w i = w := by simp [updR]
theorem updR_ne (M : Mx) {i r : Nat} (w : Nat → Int) (h : r ≠ i) : updR M i w r = M r := by simp [updR, h]
theorem updR_upd (M : Mx) (i : Nat) (v w : Nat → Int) : updR (updR M i v) i w = updR M i w := funext fun r => by
  unfold updR; split <;> rfl
theorem updR_comm (M : Mx) {i j : Nat} (h : i ≠ j) (v w : Nat → Int) : updR (updR M i v) j w = updR (updR M j w) i v := funext fun r => by
  unfold updR
  by_cases h1 : r = i
  · subst h1; rw [if_neg h, if_pos rfl, if_pos rfl]
  · rw [if_neg h1, if_neg h1]
theorem mnr_self (M : Mx) (i : Nat) (w : Nat → Int) : mnr (updR M i w) i = mnr M i := funext fun r => funext fun c => by
  unfold mnr updR
  rw [if_neg (by split <;> omega)]
theorem mnr_ne (M : Mx) {i j : Nat} (w : Nat → Int) (h : j ≠ i) : mnr (updR M i w) j = updR (mnr M j) (if i < j then i else i - 1) (fun c => w (c + 1)) := funext fun r => funext fun c => by
  unfold mnr updR
  by_cases h1 : (if r < j then r else r + 1) = i
  · have h2 : r = if i < j then i else i - 1 := by
      split at h1 <;> split <;> omega
    rw [if_pos h1, if_pos h2]
  · have h2 : ¬ r = if i < j then i else i - 1 := by
      split at h1 <;> split <;> omega
    rw [if_neg h1, if_neg h2]
theorem det_congr : ∀ {n : Nat} {M N : Mx}, (∀ r c, r < n → c < n → M r c = N r c) → det n M = det n N
  | 0, _, _, _ => rfl
  | n + 1, M, N, h => by
    rw [det, det]
    refine dsum_congr fun i hi => ?_
    rw [h i 0 hi (by omega)]
    rw [det_congr (n := n) (M := mnr M i) (N := mnr N i) (fun r c hr hc => h _ _ (by split <;> omega) (by omega))]
theorem det_cong {p : Int} : ∀ {n : Nat} {M N : Mx}, (∀ r c, r < n → c < n → M r c % p = N r c % p) → det n M % p = det n N % p
  | 0, _, _, _ => rfl
  | n + 1, M, N, h => by
    rw [det, det]
    have gen : ∀ m : Nat, m ≤ n + 1 → dsum (fun i => sgd i * M i 0 * det n (mnr M i)) m % p = dsum (fun i => sgd i * N i 0 * det n (mnr N i)) m % p := by
      intro m
      induction m with
      | zero => intro _; rfl
      | succ m ih =>
        intro hm
        rw [dsum, dsum, Int.add_emod, ih (by omega), Int.add_emod (dsum (fun i => sgd i * N i 0 * det n (mnr N i)) m)]
        have e1 := h m 0 (by omega) (by omega)
        have e2 := det_cong (p := p) (n := n) (M := mnr M m) (N := mnr N m) (fun r c hr hc => h _ _ (by split <;> omega) (by omega))
        have e3 : (sgd m * M m 0 * det n (mnr M m)) % p = (sgd m * N m 0 * det n (mnr N m)) % p := by
          rw [Int.mul_emod, Int.mul_emod (sgd m), e1, e2, ← Int.mul_emod (sgd m), ← Int.mul_emod]
        rw [e3]
    exact gen _ (Nat.le_refl _)
theorem det_lin : ∀ {n : Nat} (M : Mx) {i : Nat} (u v : Nat → Int) (k : Int), i < n → det n (updR M i (fun c => u c + k * v c)) = det n (updR M i u) + k * det n (updR M i v)
  | 0, _, _, _, _, _, h => by omega
  | n + 1, M, i, u, v, k, h => by
    rw [det, det, det, ← dsum_lin]
    refine dsum_congr fun j hj => ?_
    by_cases e : j = i
    · subst e
      simp only [mnr_self, updR_at]
      generalize det n (mnr M j) = d
      rw [Int.mul_add, Int.add_mul]
      congr 1
      ac_rfl
    · simp only [mnr_ne M _ e, updR_ne M _ e]
      rw [det_lin (n := n) (mnr M j) (fun c => u (c + 1)) (fun c => v (c + 1)) k (by split <;> omega), Int.mul_add]
      congr 1
      ac_rfl
theorem det_adj : ∀ {n : Nat} (M : Mx) {i : Nat}, i + 1 < n → M i = M (i + 1) → det n M = 0
  | 0, _, _, h, _ => by omega
  | n + 1, M, i, h, he => by
    rw [det, dsum_two (k := i) h]
    · have hm : mnr M (i + 1) = mnr M i := funext fun r => funext fun c => by
        unfold mnr
        by_cases h1 : r < i
        · rw [if_pos (by omega), if_pos h1]
        · by_cases h2 : r = i
          · subst h2; rw [if_pos (by omega), if_neg (by omega), he]
          · rw [if_neg (by omega), if_neg (by omega)]
      rw [hm, ← he, sgd_succ, Int.neg_mul, Int.neg_mul]
      omega
    · intro j hj h1 h2
      have hz : det n (mnr M j) = 0 := by
        by_cases hlt : i < j
        · refine det_adj (mnr M j) (i := i) (by omega) (funext fun c => ?_)
          unfold mnr
          rw [if_pos hlt, if_pos (by omega), he]
        · obtain ⟨i', rfl⟩ : ∃ i', i = i' + 1 := ⟨i - 1, by omega⟩
          refine det_adj (mnr M j) (i := i') (by omega) (funext fun c => ?_)
          unfold mnr
          rw [if_neg (by omega), if_neg (by omega), he]
      rw [hz, Int.mul_zero]
theorem det_swap1 {n : Nat} (M : Mx) {i : Nat} (h : i + 1 < n) (u v : Nat → Int) : det n (updR (updR M i u) (i + 1) v) = - det n (updR (updR M i v) (i + 1) u) := by
  have hne : i ≠ i + 1 := by omega
  have z := fun w : Nat → Int => det_adj (n := n) (updR (updR M i w) (i + 1) w) h (by rw [updR_at, updR_ne _ _ hne, updR_at])
  have s := z (fun c => u c + 1 * v c)
  rw [det_lin _ u v 1 h, updR_comm _ hne, updR_comm _ hne, det_lin _ u v 1 (by omega), det_lin _ u v 1 (by omega)] at s
  have zu := z u
  have zv := z v
  rw [updR_comm _ hne] at zu zv
  rw [updR_comm _ hne, updR_comm (M) hne v u]
  omega
theorem det_eq : ∀ {n : Nat} (k : Nat) (M : Mx) {i : Nat}, i + k + 1 < n → M i = M (i + k + 1) → det n M = 0
  | n, 0, M, i, h, he => det_adj M h he
  | n, k + 1, M, i, h, he => by
    have hne : i + k + 1 ≠ i + (k + 1) + 1 := by omega
    have e0 : M = updR (updR M (i + k + 1) (M (i + k + 1))) (i + k + 1 + 1) (M (i + k + 1 + 1)) := by rw [updR_self, updR_self]
    rw [e0, det_swap1 M (i := i + k + 1) (by omega)]
    have := det_eq k (updR (updR M (i + k + 1) (M (i + k + 1 + 1))) (i + k + 1 + 1) (M (i + k + 1))) (i := i) (n := n) (by omega) (by
      rw [updR_ne _ _ (show i ≠ i + k + 1 + 1 by omega), updR_ne _ _ (show i ≠ i + k + 1 by omega), updR_ne _ _ (show i + k + 1 ≠ i + k + 1 + 1 by omega), updR_at]
      exact he)
    rw [this]; rfl
theorem det_same {n : Nat} (M : Mx) {i j : Nat} (hi : i < n) (hj : j < n) (hne : i ≠ j) (he : M i = M j) : det n M = 0 := by
  by_cases h : i < j
  · have e : j = i + (j - i - 1) + 1 := by omega
    rw [e] at he
    exact det_eq (j - i - 1) M (by omega) he
  · have e : i = j + (i - j - 1) + 1 := by omega
    rw [e] at he
    exact det_eq (i - j - 1) M (by omega) he.symm
theorem det_add {n : Nat} (M : Mx) {i j : Nat} (hi : i < n) (hj : j < n) (hne : i ≠ j) (k : Int) : det n (updR M i (fun c => M i c + k * M j c)) = det n M := by
  rw [det_lin M (M i) (M j) k hi, updR_self, det_same (updR M i (M j)) hi hj hne (by rw [updR_at, updR_ne _ _ (fun e => hne e.symm)]), Int.mul_zero, Int.add_zero]
theorem det_nil {n : Nat} (M : Mx) {i : Nat} (hi : i < n) (hz : ∀ c, M i c = 0) : det n M = 0 := by
  have := det_lin M (M i) (M i) 1 hi
  have e : (fun c => M i c + 1 * M i c) = M i := funext fun c => by rw [hz c]; rfl
  rw [e, updR_self] at this
  omega
theorem det_scale {n : Nat} (M : Mx) {i : Nat} (hi : i < n) (k : Int) : det n (updR M i (fun c => k * M i c)) = k * det n M := by
  have := det_lin M (fun _ => 0) (M i) k hi
  simp only [Int.zero_add] at this
  rw [this, updR_self, det_nil (updR M i (fun _ => 0)) hi (fun c => by rw [updR_at]), Int.zero_add]
theorem det_swap {n : Nat} (M : Mx) {i j : Nat} (hi : i < n) (hj : j < n) (hne : i ≠ j) (u v : Nat → Int) : det n (updR (updR M i u) j v) = - det n (updR (updR M i v) j u) := by
  have z := fun w : Nat → Int => det_same (n := n) (updR (updR M i w) j w) hi hj hne (by rw [updR_at, updR_ne _ _ hne, updR_at])
  have s := z (fun c => u c + 1 * v c)
  rw [det_lin _ u v 1 hj, updR_comm _ hne, updR_comm _ hne, det_lin _ u v 1 hi, det_lin _ u v 1 hi] at s
  have zu := z u
  have zv := z v
  rw [updR_comm _ hne] at zu zv
  rw [updR_comm _ hne, updR_comm (M) hne v u]
  omega
def idM : Mx := fun r c => if r = c then 1 else 0
theorem mnr_id : mnr idM 0 = idM := funext fun r => funext fun c => by simp [mnr, idM]
theorem det_one : ∀ n : Nat, det n idM = 1
  | 0 => rfl
  | n + 1 => by
    rw [det, dsum_one (k := 0) (by omega) (fun i hi hne => by simp [idM, hne]), mnr_id, det_one n]
    simp [sgd, idM]
def updC (M : Mx) (k : Nat) (b : Nat → Int) : Mx := fun r c => if c = k then b r else M r c
theorem det_col : ∀ {n k : Nat} (b : Nat → Int), k < n → det n (updC idM k b) = b k
  | 0, _, _, h => by omega
  | n + 1, 0, b, _ => by
    rw [det, dsum_one (k := 0) (by omega)]
    · have e : mnr (updC idM 0 b) 0 = idM := funext fun r => funext fun c => by simp [mnr, updC, idM]
      rw [e, det_one]
      simp [sgd, updC]
    · intro i hi hne
      rw [det_nil (mnr (updC idM 0 b) i) (i := 0) (by omega) (fun c => by
        have : (0 : Nat) < i := by omega
        simp [mnr, updC, idM, this]), Int.mul_zero]
  | n + 1, k + 1, b, h => by
    rw [det, dsum_one (k := 0) (by omega)]
    · have e : mnr (updC idM (k + 1) b) 0 = updC idM k (fun r => b (r + 1)) := funext fun r => funext fun c => by simp [mnr, updC, idM]
      rw [e, det_col _ (by omega)]
      simp [sgd, updC, idM]
    · intro i hi hne
      have : updC idM (k + 1) b i 0 = 0 := by simp [updC, idM, hne]
      rw [this]; simp
end Go.Proofs.YtoeikpioonlmfaaGreat


namespace Go.Proofs.YtoeikpioonlmfaaGreat
set_option linter.unusedSectionVars false
set_option linter.unusedVariables false
set_option linter.unusedSimpArgs false
set_option maxHeartbeats 1000000
theorem dsum_shift (f : Nat → Int) : ∀ n, dsum f (n + 1) = f 0 + dsum (fun i => f (i + 1)) n
  | 0 => by simp [dsum]
  | n + 1 => by rw [dsum, dsum_shift f n, dsum]; omega
theorem dsum_mul (k : Int) (f : Nat → Int) : ∀ n, k * dsum f n = dsum (fun i => k * f i) n
  | 0 => by simp [dsum]
  | n + 1 => by rw [dsum, dsum, Int.mul_add, dsum_mul k f n]
theorem dsum_plus (f g : Nat → Int) : ∀ n, dsum (fun i => f i + g i) n = dsum f n + dsum g n
  | 0 => by simp [dsum]
  | n + 1 => by rw [dsum, dsum, dsum, dsum_plus f g n]; omega
theorem dsum_swap (F : Nat → Nat → Int) (m : Nat) : ∀ n, dsum (fun i => dsum (fun k => F i k) m) n = dsum (fun k => dsum (fun i => F i k) n) m
  | 0 => (dsum_zero (f := fun k => dsum (fun i => F i k) 0) (fun i hi => rfl)).symm
  | n + 1 => by
    rw [dsum, dsum_swap F m n, ← dsum_plus]
    exact dsum_congr fun k hk => rfl
def mnc (M : Mx) (k : Nat) : Mx := fun r c => M (r + 1) (if c < k then c else c + 1)
theorem mnc_zero (M : Mx) : mnc M 0 = mnr M 0 := funext fun r => funext fun c => by simp [mnc, mnr]
theorem mnc_mnr (M : Mx) (i k : Nat) : mnc (mnr M (i + 1)) k = mnr (mnc M (k + 1)) i := funext fun r => funext fun c => by
  unfold mnc mnr
  have e1 : (if r + 1 < i + 1 then r + 1 else r + 1 + 1) = (if r < i then r else r + 1) + 1 := by split <;> split <;> omega
  have e2 : (if c < k then c else c + 1) + 1 = if c + 1 < k + 1 then c + 1 else c + 1 + 1 := by split <;> split <;> omega
  simp only [e1, e2]
theorem det_row : ∀ (n : Nat) (M : Mx), det (n + 1) M = dsum (fun k => sgd k * M 0 k * det n (mnc M k)) (n + 1)
  | 0, M => by simp [det, dsum]
  | n + 1, M => by
    rw [det, dsum_shift, dsum_shift (fun k => sgd k * M 0 k * det (n + 1) (mnc M k)), mnc_zero]
    congr 1
    have l1 : dsum (fun i => sgd (i + 1) * M (i + 1) 0 * det (n + 1) (mnr M (i + 1))) (n + 1) = dsum (fun i => dsum (fun k => sgd (i + 1) * M (i + 1) 0 * (sgd k * M 0 (k + 1) * det n (mnr (mnc M (k + 1)) i))) (n + 1)) (n + 1) := dsum_congr fun i hi => by
      rw [det_row n (mnr M (i + 1)), dsum_mul]
      refine dsum_congr fun k hk => ?_
      rw [mnc_mnr]
      have : mnr M (i + 1) 0 k = M 0 (k + 1) := by simp [mnr]
      rw [this]
    have l2 : dsum (fun k => sgd (k + 1) * M 0 (k + 1) * det (n + 1) (mnc M (k + 1))) (n + 1) = dsum (fun k => dsum (fun i => sgd (k + 1) * M 0 (k + 1) * (sgd i * M (i + 1) 0 * det n (mnr (mnc M (k + 1)) i))) (n + 1)) (n + 1) := dsum_congr fun k hk => by
      rw [det, dsum_mul]
      refine dsum_congr fun i hi => ?_
      have : mnc M (k + 1) i 0 = M (i + 1) 0 := by simp [mnc]
      rw [this]
    rw [l1, l2, dsum_swap]
    refine dsum_congr fun k hk => dsum_congr fun i hi => ?_
    rw [sgd_succ, sgd_succ]
    generalize det n (mnr (mnc M (k + 1)) i) = d
    generalize M (i + 1) 0 = a
    generalize M 0 (k + 1) = b
    have e : sgd i * a * (sgd k * b * d) = sgd k * b * (sgd i * a * d) := by ac_rfl
    rw [Int.neg_mul, Int.neg_mul, Int.neg_mul, Int.neg_mul, e]
def clr (M : Mx) (i : Nat) (w : Nat → Int) (t : Nat) : Mx := fun r => if r < t ∧ r ≠ i then fun c => M r c + w r * M i c else M r
theorem clr_zero (M : Mx) (i : Nat) (w : Nat → Int) : clr M i w 0 = M := funext fun r => by unfold clr; rw [if_neg (by omega)]
theorem det_clr {n : Nat} (M : Mx) {i : Nat} (hi : i < n) (w : Nat → Int) : ∀ t, t ≤ n → det n (clr M i w t) = det n M
  | 0, _ => by rw [clr_zero]
  | t + 1, ht => by
    rw [← det_clr M hi w t (by omega)]
    by_cases e : t = i
    · have : clr M i w (t + 1) = clr M i w t := funext fun r => by
        unfold clr
        by_cases h : r < t ∧ r ≠ i
        · rw [if_pos h, if_pos ⟨by omega, h.2⟩]
        · rw [if_neg h, if_neg (by omega)]
      rw [this]
    · have hi2 : clr M i w t i = M i := by unfold clr; rw [if_neg (by omega)]
      have ht2 : clr M i w t t = M t := by unfold clr; rw [if_neg (by omega)]
      have : clr M i w (t + 1) = updR (clr M i w t) t (fun c => clr M i w t t c + w t * clr M i w t i c) := funext fun r => by
        rw [hi2, ht2]
        unfold updR
        by_cases h : r = t
        · subst h; rw [if_pos rfl]; unfold clr; rw [if_pos ⟨by omega, e⟩]
        · rw [if_neg h]
          unfold clr
          by_cases h2 : r < t ∧ r ≠ i
          · rw [if_pos h2, if_pos ⟨by omega, h2.2⟩]
          · rw [if_neg h2, if_neg (by omega)]
      rw [this, det_add _ (by omega) hi e]
theorem dsum_cong {p : Int} {f g : Nat → Int} : ∀ {n : Nat}, (∀ i, i < n → f i % p = g i % p) → dsum f n % p = dsum g n % p
  | 0, _ => rfl
  | n + 1, h => by rw [dsum, dsum, Int.add_emod, dsum_cong (fun i hi => h i (by omega)), h n (by omega), ← Int.add_emod]
theorem det_pivot {p : Int} {n : Nat} (M : Mx) {i : Nat} (hi : i < n + 1) {q : Int} (hq : (M i 0 * q) % p = 1 % p) :
    det (n + 1) M % p = (sgd i * M i 0 * det n (fun r c => M (if r < i then r else r + 1) (c + 1) + (- (M (if r < i then r else r + 1) 0 * q)) * M i (c + 1))) % p := by
  rw [← det_clr M hi (fun r => - (M r 0 * q)) (n + 1) (Nat.le_refl _), det]
  have hii : clr M i (fun r => - (M r 0 * q)) (n + 1) i = M i := by unfold clr; rw [if_neg (by omega)]
  have hm : det n (mnr (clr M i (fun r => - (M r 0 * q)) (n + 1)) i) = det n (fun r c => M (if r < i then r else r + 1) (c + 1) + (- (M (if r < i then r else r + 1) 0 * q)) * M i (c + 1)) := det_congr fun r c hr hc => by
    unfold mnr clr
    rw [if_pos (by split <;> omega)]
  have hz : ∀ r, r < n + 1 → r ≠ i → clr M i (fun r => - (M r 0 * q)) (n + 1) r 0 % p = 0 := fun r hr hne => by
    unfold clr
    rw [if_pos ⟨hr, hne⟩]
    have e : M r 0 + - (M r 0 * q) * M i 0 = M r 0 - M r 0 * (M i 0 * q) := by
      rw [Int.neg_mul, Int.mul_assoc, Int.mul_comm q]; rfl
    show (M r 0 + - (M r 0 * q) * M i 0) % p = 0
    rw [e, Int.sub_emod, Int.mul_emod, hq, ← Int.mul_emod, Int.mul_one, Int.sub_self]; simp
  have hs := dsum_cong (p := p) (n := n + 1) (f := fun r => sgd r * clr M i (fun r => - (M r 0 * q)) (n + 1) r 0 * det n (mnr (clr M i (fun r => - (M r 0 * q)) (n + 1)) r)) (g := fun r => if r = i then sgd i * M i 0 * det n (fun r c => M (if r < i then r else r + 1) (c + 1) + (- (M (if r < i then r else r + 1) 0 * q)) * M i (c + 1)) else 0) (fun r hr => by
    by_cases h : r = i
    · subst h
      simp only [if_true]
      rw [hm, hii]
    · simp only [if_neg h]
      have := hz r hr h
      rw [Int.mul_emod, Int.mul_emod (sgd r), this]
      simp)
  rw [hs, dsum_one (k := i) hi (fun r hr hne => if_neg hne), if_pos rfl]
end Go.Proofs.YtoeikpioonlmfaaGreat


namespace Go.Proofs.YtoeikpioonlmfaaGreat
set_option linter.unusedSectionVars false
set_option linter.unusedVariables false
set_option linter.unusedSimpArgs false
set_option maxHeartbeats 1000000
def sel (W : Mx) (g : Nat → Nat) : Mx := fun r c => W r (g c)
theorem sel_upd (W : Mx) (i : Nat) (w : Nat → Int) (g : Nat → Nat) : sel (updR W i w) g = updR (sel W g) i (fun c => w (g c)) := funext fun r => funext fun c => by
  unfold sel updR; split <;> rfl
theorem sel_clr (W : Mx) (i : Nat) (w : Nat → Int) (t : Nat) (g : Nat → Nat) : sel (clr W i w t) g = clr (sel W g) i w t := funext fun r => funext fun c => by
  unfold sel clr; split <;> rfl
def RowEq (n w : Nat) (W W' : Mx) : Prop := ∃ s t : Int, s * t % 10007 = 1 ∧ ∀ g : Nat → Nat, (∀ c, c < n → g c < w) → det n (sel W g) * s % 10007 = det n (sel W' g) % 10007
theorem RowEq.refl (n w : Nat) (W : Mx) : RowEq n w W W := ⟨1, 1, rfl, fun g hg => by rw [Int.mul_one]⟩
theorem mul_mod_l (a b : Int) : a % 10007 * b % 10007 = a * b % 10007 := by rw [Int.mul_emod, Int.emod_emod_of_dvd _ (Int.dvd_refl _), ← Int.mul_emod]
theorem mul_mod_r (a b : Int) : a * (b % 10007) % 10007 = a * b % 10007 := by rw [Int.mul_emod, Int.emod_emod_of_dvd _ (Int.dvd_refl _), ← Int.mul_emod]
theorem RowEq.trans {n w : Nat} {W X Y : Mx} (h : RowEq n w W X) (k : RowEq n w X Y) : RowEq n w W Y := by
  obtain ⟨s, t, h1, h2⟩ := h
  obtain ⟨s', t', k1, k2⟩ := k
  refine ⟨s * s', t * t', ?_, fun g hg => ?_⟩
  · have e : s * s' * (t * t') = (s * t) * (s' * t') := by ac_rfl
    rw [e, Int.mul_emod, h1, k1]; rfl
  · rw [← k2 g hg, ← Int.mul_assoc, ← mul_mod_l, h2 g hg, mul_mod_l]
theorem RowEq.cong {n w : Nat} {W W' : Mx} (h : ∀ r c, r < n → c < w → W r c % 10007 = W' r c % 10007) : RowEq n w W W' :=
  ⟨1, 1, rfl, fun g hg => by rw [Int.mul_one]; exact det_cong fun r c hr hc => h r (g c) hr (hg c hc)⟩
theorem RowEq.clr {n w : Nat} (W : Mx) {i : Nat} (hi : i < n) (u : Nat → Int) : RowEq n w W (clr W i u n) :=
  ⟨1, 1, rfl, fun g hg => by rw [Int.mul_one, sel_clr, det_clr _ hi u n (Nat.le_refl _)]⟩
theorem RowEq.scale {n w : Nat} (W : Mx) {i : Nat} (hi : i < n) {k k' : Int} (hk : k * k' % 10007 = 1) : RowEq n w W (updR W i (fun c => k * W i c)) :=
  ⟨k, k', hk, fun g hg => by
    rw [sel_upd]
    have := det_scale (sel W g) hi k
    have e : (fun c => k * sel W g i c) = fun c => k * W i (g c) := rfl
    rw [e] at this
    rw [this, Int.mul_comm]⟩
theorem RowEq.swap {n w : Nat} (W : Mx) {i j : Nat} (hi : i < n) (hj : j < n) (hne : i ≠ j) : RowEq n w W (updR (updR W i (W j)) j (W i)) :=
  ⟨-1, -1, rfl, fun g hg => by
    rw [sel_upd, sel_upd]
    have e : sel W g = updR (updR (sel W g) i (fun c => W i (g c))) j (fun c => W j (g c)) := by
      have e1 : (fun c => W i (g c)) = sel W g i := rfl
      have e2 : (fun c => W j (g c)) = sel W g j := rfl
      rw [e1, e2, updR_self, updR_self]
    have h := det_swap (sel W g) hi hj hne (fun c => W j (g c)) (fun c => W i (g c))
    rw [h, ← e]
    congr 1
    omega⟩
theorem RowEq.full {n : Nat} {W W' : Mx} (h : RowEq n (n + 1) W W') (hid : ∀ r c, r < n → c < n → W' r c % 10007 = idM r c % 10007) :
    ∃ s : Int, det n W * s % 10007 = 1 ∧ ∀ k, k < n → W' k n % 10007 = det n (updC W k (fun r => W r n)) * s % 10007 := by
  obtain ⟨s, t, h1, h2⟩ := h
  refine ⟨s, ?_, fun k hk => ?_⟩
  · have := h2 id (fun c hc => by show c < n + 1; omega)
    have e : ∀ X : Mx, sel X id = X := fun X => rfl
    rw [e, e, det_cong (p := 10007) (N := idM) hid, det_one] at this
    exact this
  · have := h2 (fun c => if c = k then n else c) (fun c hc => by show (if c = k then n else c) < n + 1; split <;> omega)
    have e : sel W (fun c => if c = k then n else c) = updC W k (fun r => W r n) := funext fun r => funext fun c => by
      by_cases hc : c = k
      · simp [sel, updC, hc]
      · simp [sel, updC, hc]
    rw [e] at this
    rw [this, det_cong (p := 10007) (N := updC idM k (fun r => W' r n)), det_col _ hk]
    intro r c hr hc
    by_cases hck : c = k
    · simp [sel, updC, hck]
    · simp [sel, updC, hck]; exact hid r c hr hc
theorem RowEq.sing {n w : Nat} {W W' : Mx} (h : RowEq n w W W') (hw : n ≤ w) {i : Nat} (hi : i < n) (hz : ∀ c, c < n → W' i c % 10007 = 0) : det n W % 10007 = 0 := by
  obtain ⟨s, t, h1, h2⟩ := h
  have h3 := h2 id (fun c hc => by show c < w; omega)
  have e : ∀ X : Mx, sel X id = X := fun X => rfl
  rw [e, e] at h3
  have h4 : det n W' % 10007 = det n (updR W' i (fun _ => 0)) % 10007 := det_cong fun r c hr hc => by
    unfold updR
    by_cases hr2 : r = i
    · subst hr2; rw [if_pos rfl, hz c hc]; rfl
    · rw [if_neg hr2]
  rw [h4, det_nil (updR W' i (fun _ => 0)) hi (fun c => by rw [updR_at])] at h3
  have h5 : det n W * s * t % 10007 = 0 := by rw [← mul_mod_l, h3]; simp
  rw [Int.mul_assoc, ← mul_mod_r, h1, Int.mul_one] at h5
  exact h5
end Go.Proofs.YtoeikpioonlmfaaGreat


namespace Go.Proofs.YtoeikpioonlmfaaGreat
open Go.Abs
set_option linter.unusedSectionVars false
set_option linter.unusedVariables false
set_option linter.unusedSimpArgs false
set_option maxHeartbeats 1000000
def mx (m : List (List Int)) : Mx := fun r c => (m[r]?.getD [])[c]?.getD 0
def fndR (m : List (List Int)) (k : Nat) : Nat → Nat → Nat
  | 0, i => i
  | f + 1, i => if mx m i k = 0 then fndR m k f (i + 1) else i
theorem fndR_le (m : List (List Int)) (k : Nat) : ∀ f i, i ≤ fndR m k f i ∧ fndR m k f i ≤ i + f
  | 0, i => by simp [fndR]
  | f + 1, i => by
    rw [fndR]
    split
    · have := fndR_le m k f (i + 1); omega
    · omega
theorem fndR_zero (m : List (List Int)) (k : Nat) : ∀ f i r, i ≤ r → r < fndR m k f i → mx m r k = 0
  | 0, i, r, h1, h2 => by rw [fndR] at h2; omega
  | f + 1, i, r, h1, h2 => by
    rw [fndR] at h2
    split at h2
    · rename_i h
      by_cases e : r = i
      · subst e; exact h
      · exact fndR_zero m k f (i + 1) r (by omega) h2
    · omega
theorem fndR_ne (m : List (List Int)) (k : Nat) : ∀ f i, fndR m k f i < i + f → mx m (fndR m k f i) k ≠ 0
  | 0, i, h => by rw [fndR] at h; omega
  | f + 1, i, h => by
    rw [fndR] at h ⊢
    split
    · rename_i hz
      rw [if_pos hz] at h
      exact fndR_ne m k f (i + 1) (by omega)
    · rename_i hz; exact hz
def swp (m : List (List Int)) (i d : Nat) : List (List Int) := if i = d then m else (m.set i (m[d]?.getD [])).set d (m[i]?.getD [])
def scl (m : List (List Int)) (d k : Nat) : List (List Int) := m.set d (scalS (m[d]?.getD []) (pw (mx m d k) 10005))
def elD (m : List (List Int)) (d k : Nat) : List (List Int) := (List.range m.length).map fun r => if r = d then m[d]?.getD [] else plusS (m[r]?.getD []) (m[d]?.getD []) (- mx m r k)
def Rws (w : Nat) (m : List (List Int)) : Prop := ∀ r ∈ m, r.length = w ∧ Ns r
theorem Rws.at {w : Nat} {m : List (List Int)} (h : Rws w m) {i : Nat} (hi : i < m.length) : (m[i]?.getD []).length = w ∧ Ns (m[i]?.getD []) := h _ (by simp [hi])
theorem Rws.set {w : Nat} {m : List (List Int)} (h : Rws w m) {i : Nat} {r : List Int} (hr : r.length = w ∧ Ns r) : Rws w (m.set i r) := fun x hx => by
  rcases List.mem_or_eq_of_mem_set hx with hx | rfl
  · exact h x hx
  · exact hr
@[simp] theorem swp_len (m : List (List Int)) (i d : Nat) : (swp m i d).length = m.length := by unfold swp; split <;> simp
@[simp] theorem scl_len (m : List (List Int)) (d k : Nat) : (scl m d k).length = m.length := by simp [scl]
@[simp] theorem elD_len (m : List (List Int)) (d k : Nat) : (elD m d k).length = m.length := by simp [elD]
theorem swp_ok {w : Nat} {m : List (List Int)} (h : Rws w m) {i d : Nat} (hi : i < m.length) (hd : d < m.length) : Rws w (swp m i d) := by
  unfold swp
  split
  · exact h
  · exact (h.set (h.at hd)).set (h.at hi)
theorem scl_ok {w : Nat} {m : List (List Int)} (h : Rws w m) {d k : Nat} (hd : d < m.length) : Rws w (scl m d k) := h.set ⟨by rw [scalS_len]; exact (h.at hd).1, scalS_N _ _⟩
theorem elD_ok {w : Nat} {m : List (List Int)} (h : Rws w m) {d k : Nat} (hd : d < m.length) : Rws w (elD m d k) := fun x hx => by
  obtain ⟨r, hr, rfl⟩ := List.mem_map.1 hx
  have hr2 : r < m.length := by simpa using hr
  split
  · exact h.at hd
  · exact ⟨by rw [plusS_len]; exact (h.at hr2).1, plusS_N _ _ _⟩
theorem swp_mx {m : List (List Int)} {i d : Nat} (hi : i < m.length) (hd : d < m.length) : mx (swp m i d) = updR (updR (mx m) i (mx m d)) d (mx m i) := funext fun r => funext fun c => by
  unfold swp
  split
  · rename_i e; subst e; rw [updR_upd, updR_self]
  · rename_i e
    unfold mx updR
    by_cases h1 : r = d
    · subst h1
      rw [List.getElem?_set_self (by simpa using hd), if_pos rfl]; rfl
    · rw [List.getElem?_set_ne (fun x => h1 x.symm), if_neg h1]
      by_cases h2 : r = i
      · subst h2; rw [List.getElem?_set_self hi, if_pos rfl]; rfl
      · rw [List.getElem?_set_ne (fun x => h2 x.symm), if_neg h2]
theorem scl_at {w : Nat} {m : List (List Int)} (h : Rws w m) {d k : Nat} (hd : d < m.length) {r c : Nat} (hc : c < w) : mx (scl m d k) r c = if r = d then mx m d c * (pw (mx m d k) 10005 % 10007) % 10007 else mx m r c := by
  unfold scl
  show ((m.set d (scalS (m[d]?.getD []) (pw (mx m d k) 10005)))[r]?.getD [])[c]?.getD 0 = _
  by_cases e : r = d
  · subst e
    rw [List.getElem?_set_self hd, if_pos rfl]
    exact tb_get (fun i => (m[r]?.getD [])[i]?.getD 0 * (pw (mx m r k) 10005 % 10007) % 10007) (by rw [(h.at hd).1]; exact hc)
  · rw [List.getElem?_set_ne (fun x => e x.symm), if_neg e]; rfl
theorem elD_at {w : Nat} {m : List (List Int)} (h : Rws w m) {d k : Nat} {r c : Nat} (hr : r < m.length) (hc : c < w) : mx (elD m d k) r c = if r = d then mx m d c else (mx m r c + (- mx m r k) % 10007 * mx m d c) % 10007 := by
  have e0 : (elD m d k)[r]?.getD [] = if r = d then m[d]?.getD [] else plusS (m[r]?.getD []) (m[d]?.getD []) (- mx m r k) := by simp [elD, hr]
  show ((elD m d k)[r]?.getD [])[c]?.getD 0 = _
  rw [e0]
  by_cases e : r = d
  · rw [if_pos e, if_pos e]; rfl
  · rw [if_neg e, if_neg e]
    exact tb_get (fun i => ((m[r]?.getD [])[i]?.getD 0 + (- mx m r k) % 10007 * (m[d]?.getD [])[i]?.getD 0) % 10007) (by rw [(h.at hr).1]; exact hc)
end Go.Proofs.YtoeikpioonlmfaaGreat


namespace Go.Proofs.YtoeikpioonlmfaaGreat
open Go.Abs
set_option linter.unusedSectionVars false
set_option linter.unusedVariables false
set_option linter.unusedSimpArgs false
set_option maxHeartbeats 1000000
@[go_sem] theorem klW_bor (W : List Nat) (s : Nat) (p : List Nat) : kl W (.bor s p) = if W.contains s then .any else .bor s p := by rw [kl]
@[go_sem] theorem klW_ptr (W : List Nat) (s : Nat) (p : List Nat) (o : Nat) : kl W (.ptr s p o) = if W.contains s then .any else .ptr s p o := by rw [kl]
theorem omat_get {A : List (List Int)} {k : Nat} (h : k < A.length) : (omat A)[k]? = some (.own 2 (A[k]?.getD []).length (avs (A[k]?.getD []))) := by simp [omat, h]
end Go.Proofs.YtoeikpioonlmfaaGreat


namespace Go.Proofs.YtoeikpioonlmfaaGreat
open Go.Abs
set_option linter.unusedSectionVars false
set_option linter.unusedVariables false
set_option linter.unusedSimpArgs false
set_option maxHeartbeats 4000000
end Go.Proofs.YtoeikpioonlmfaaGreat


namespace Go.Proofs.YtoeikpioonlmfaaGreat
open Go.Abs
set_option linter.unusedSectionVars false
set_option linter.unusedVariables false
set_option linter.unusedSimpArgs false
set_option maxHeartbeats 4000000
def sqStep (c : List Int) (m : Nat) (x : Src × List (List Int)) : Src × List (List Int) :=
  if 0 < x.2.length then
    if nx1 c (lsV (nbV c) m x.1).2 5 = 0 then (nx2 c (lsV (nbV c) m x.1).2 5, x.2 ++ [x.2[x.2.length - 1]?.getD []])
    else (nx2 c (lsV (nbV c) m x.1).2 5, x.2 ++ [(lsV (nbV c) m x.1).1])
  else ((lsV (nbV c) m x.1).2, x.2 ++ [(lsV (nbV c) m x.1).1])
def sqI (c : List Int) (m : Nat) (σ : Src) : Nat → Src × List (List Int)
  | 0 => (σ, [])
  | k + 1 => sqStep c m (sqI c m σ k)
set_option maxRecDepth 100000 in
theorem l01Square_g (c : List Int) (σ : Src) (n m : Nat) (hc : Byt c) (hs : SOk σ) (hn : n ≤ 100) (hm : m ≤ 100) :
    GCon Tryz.prog 59 [srcA c σ, .int n, .int m] (.own 35 n (omat (sqI c m σ n).2)) [srcA c (sqI c m σ n).1, .any, .any] := by
  simp only [srcA_eq] at *
  refine gcon_of_vc Tryz.mixed ⟨10, [], [1000000 + 133, 1000000 + 57], []⟩ [6] [0] Tryz.func59 (by decide) rfl rfl (by simp) (by simp) (by decide) ?_
  rw [Tryz.ntmps59]
  simp [go_sem]
  refine loop_inv ([0, 7, 8, 9] ++ List.range' 11 25) (fun x : Src × List (List Int) => [(0, .box 147 [.sl c.length (bys c), .int x.1.1, .val (.int .u64 x.1.2)]), (7, .own 35 x.2.length (omat x.2)), (8, .int x.2.length)])
    (fun x => SOk x.1 ∧ x.2.length ≤ n ∧ Rws m x.2 ∧ x = sqI c m σ x.2.length) (fun x => n - x.2.length) (σ, []) ⟨hs, by simp, fun r hr => by simp at hr, rfl⟩ (by simp [go_sem, omat]) (by simp [go_sem]) ?_
  rintro ⟨ρ, A⟩ ⟨h1, h2, h3, h4⟩
  simp only at h1 h2 h3 h4
  have hst : sqI c m σ (A.length + 1) = sqStep c m (ρ, A) := by rw [sqI, ← h4]
  unfold sqStep at hst
  simp only at hst
  by_cases hA : A.length < n
  · have hAi : (A.length : Int) < n := by omega
    have c7 := l01List_c c ρ m hc h1 (by omega)
    have L7 := lsV_ok (f := nbV c) (fun σ h => nbV_ok hc h) m ρ h1
    generalize lsV (nbV c) m ρ = r7 at *
    obtain ⟨row, κ⟩ := r7
    simp only at L7 c7
    obtain ⟨l7, n7, s7⟩ := L7
    have c5 := l01Next_c c κ 5 hc s7
    have s5 := nx2_ok hc s7 5
    generalize nx1 c κ 5 = u at *
    generalize nx2 c κ 5 = κ1 at *
    simp only [srcA_eq] at c7 c5
    have snoc : ∀ r : List Int, r.length = m → omat (A ++ [r]) = omat A ++ [.own 2 m (avs r)] := fun r hr => by simp [omat, hr]
    have rws : ∀ r : List Int, r.length = m → Ns r → Rws m (A ++ [r]) := fun r hr hN x hx => by
      rcases List.mem_append.1 hx with hx | hx
      · exact h3 x hx
      · simp at hx; subst hx; exact ⟨hr, hN⟩
    by_cases h0 : 0 < A.length
    · have h0i : (0 : Int) < A.length := by omega
      simp [go_sem, hAi]
      refine ⟨_, _, c7, ?_⟩
      simp [go_sem]
      simp [go_sem, h0, h0i]
      refine ⟨_, _, c5, ?_⟩
      simp [go_sem]
      have hk : A.length - 1 < A.length := by omega
      have hc1 : (A.length : Int) - 1 = ((A.length - 1 : Nat) : Int) := by omega
      have hg := omat_get (A := A) (k := A.length - 1) hk
      have rA := h3.at hk
      have cO := l01Own_c (A[A.length - 1]?.getD []) (by omega)
      by_cases u0 : u = 0
      · simp [go_sem, u0, hc1, hg]
        refine ⟨by omega, hk, ?_⟩
        generalize A[A.length - 1]?.getD [] = last at *
        refine CallVC.of (cO) (by decide) ?_
        simp [go_sem]
        have sn := snoc last rA.1
        rw [← rA.1] at sn
        exact ⟨⟨by omega, by omega⟩, ⟨by omega, by omega⟩, κ1.1, κ1.2, A ++ [last], ⟨s5, by simp; omega, rws last rA.1 rA.2, by rw [List.length_append, List.length_singleton, hst, if_pos h0, if_pos u0]⟩, by simp; omega, (by repeat (first | exact Off_reset _ _ _ (by simp) | (refine Off.reset (by intro x hx; simp at hx ⊢; omega) (by simp) ?_; simp -failIfUnchanged [go_sem, Off_reset]))), ⟨rfl, rfl⟩, by rw [sn]; simp, by simp⟩
      · simp [go_sem, u0]
        exact ⟨⟨by omega, by omega⟩, ⟨by omega, by omega⟩, κ1.1, κ1.2, A ++ [row], ⟨s5, by simp; omega, rws row l7 n7, by rw [List.length_append, List.length_singleton, hst, if_pos h0, if_neg u0]⟩, by simp; omega, (by repeat (first | exact Off_reset _ _ _ (by simp) | (refine Off.reset (by intro x hx; simp at hx ⊢; omega) (by simp) ?_; simp -failIfUnchanged [go_sem, Off_reset]))), ⟨rfl, rfl⟩, by rw [snoc row l7]; simp, by simp⟩
    · have e0 : A = [] := List.eq_nil_of_length_eq_zero (by omega)
      subst e0
      have hA0 : 0 < n := by simpa using hA
      simp [go_sem, hAi, hA0]
      refine ⟨_, _, c7, ?_⟩
      simp [go_sem]
      have sn := snoc row l7
      have rs := rws row l7 n7
      simp only [List.nil_append] at sn rs
      exact ⟨κ.1, κ.2, [row], ⟨s7, by simp; omega, rs, by rw [List.length_singleton]; exact hst.symm⟩, by simp; omega, (by repeat (first | exact Off_reset _ _ _ (by simp) | (refine Off.reset (by intro x hx; simp at hx ⊢; omega) (by simp) ?_; simp -failIfUnchanged [go_sem, Off_reset]))), ⟨rfl, rfl⟩, by rw [sn]; exact ⟨rfl, rfl⟩, by simp⟩
  · have hAi : ¬ (A.length : Int) < n := by omega
    simp [go_sem, hAi]
    have e : A.length = n := by omega
    rw [e] at h4
    rw [← h4]
    exact ⟨⟨e, rfl⟩, rfl, rfl⟩
theorem sqI_ok (c : List Int) (m : Nat) (hc : Byt c) {σ : Src} (hs : SOk σ) : ∀ k, SOk (sqI c m σ k).1 ∧ (sqI c m σ k).2.length = k ∧ Rws m (sqI c m σ k).2
  | 0 => ⟨hs, rfl, fun r hr => by simp [sqI] at hr⟩
  | k + 1 => by
    obtain ⟨h1, h2, h3⟩ := sqI_ok c m hc hs k
    rw [sqI]
    generalize sqI c m σ k = x at *
    have L7 := lsV_ok (f := nbV c) (fun σ h => nbV_ok hc h) m x.1 h1
    have s5 := nx2_ok hc L7.2.2 5
    have rws : ∀ r : List Int, r.length = m → Ns r → Rws m (x.2 ++ [r]) := fun r hr hN y hy => by
      rcases List.mem_append.1 hy with hy | hy
      · exact h3 y hy
      · simp at hy; subst hy; exact ⟨hr, hN⟩
    unfold sqStep
    split
    · rename_i h0
      have rA := h3.at (show x.2.length - 1 < x.2.length by omega)
      split
      · exact ⟨s5, by simp; omega, rws _ rA.1 rA.2⟩
      · exact ⟨s5, by simp; omega, rws _ L7.1 L7.2.1⟩
    · exact ⟨L7.2.2, by simp; omega, rws _ L7.1 L7.2.1⟩
end Go.Proofs.YtoeikpioonlmfaaGreat


namespace Go.Proofs.YtoeikpioonlmfaaGreat
set_option linter.unusedSectionVars false
set_option linter.unusedVariables false
set_option linter.unusedSimpArgs false
def okB (t : List Int) (j : Nat) : Bool := decide (1 ≤ t[j]?.getD 0) && decide (t[j]?.getD 0 ≤ t[j - 1]?.getD 0 + 1)
def lv0 (t : List Int) : Bool := decide (0 < t.length) && decide (t[0]?.getD 0 = 0) && (List.range t.length).all (fun j => decide (j = 0) || okB t j)
def lvB (t : List Int) : Bool := lv0 t && decide (t.length ≤ 8)
theorem lv0_no {t : List Int} {j : Nat} (hj : j < t.length) (h0 : 0 < j) (h : okB t j = false) : lv0 t = false := by
  unfold lv0
  have : (List.range t.length).all (fun j => decide (j = 0) || okB t j) = false := by
    rw [List.all_eq_false]; exact ⟨j, by simpa using hj, by simp [h]; omega⟩
  rw [this]; simp
theorem lv0_t0 {t : List Int} (h : t[0]?.getD 0 ≠ 0) : lv0 t = false := by
  unfold lv0; rw [decide_eq_false h]; simp
theorem lv0_yes {t : List Int} (h1 : 0 < t.length) (h2 : t[0]?.getD 0 = 0) (h : ∀ j, 0 < j → j < t.length → okB t j = true) : lv0 t = true := by
  unfold lv0
  have : (List.range t.length).all (fun j => decide (j = 0) || okB t j) = true := by
    rw [List.all_eq_true]; intro j hj
    by_cases e : j = 0
    · simp [e]
    · simp [h j (by omega) (by simpa using hj)]
  rw [this, decide_eq_true h1, decide_eq_true h2]; rfl
theorem ok_le {t : List Int} {i : Nat} (h0 : t[0]?.getD 0 = 0) (h : ∀ j, 0 < j → j < i → okB t j = true) : ∀ j, j < i → 0 ≤ t[j]?.getD 0 ∧ t[j]?.getD 0 ≤ j
  | 0, _ => by omega
  | j + 1, hj => by
    have := ok_le h0 h j (by omega)
    have h2 := h (j + 1) (by omega) hj
    unfold okB at h2
    simp only [Nat.add_sub_cancel, Bool.and_eq_true, decide_eq_true_eq] at h2
    omega
def brStep (out : List (List Int)) (x : Int) : List (List Int) :=
  let o := if x = 1 then out ++ [[]] else out
  o.set (o.length - 1) (o[o.length - 1]?.getD [] ++ [x - 1])
def brGo (out : List (List Int)) : List Int → List (List Int)
  | [] => out
  | x :: l => brGo (brStep out x) l
def brs (t : List Int) : List (List Int) := brGo [] (t.drop 1)
theorem brGo_app (out : List (List Int)) (l r : List Int) : brGo out (l ++ r) = brGo (brGo out l) r := by
  induction l generalizing out with
  | nil => rfl
  | cons x l ih => exact ih _
theorem brs_take {t : List Int} {i : Nat} (h1 : 1 ≤ i) (h : i < t.length) : brs (t.take (i + 1)) = brStep (brs (t.take i)) (t[i]?.getD 0) := by
  unfold brs
  have e : (t.take (i + 1)).drop 1 = (t.take i).drop 1 ++ [t[i]?.getD 0] := by
    rw [List.take_add_one, List.getElem?_eq_getElem h, Option.toList_some, List.drop_append_of_le_length (by simp; omega)]; rfl
  rw [e, brGo_app]; rfl
def Lv (t : List Int) : Prop := 0 < t.length ∧ t[0]?.getD 0 = 0 ∧ ∀ j, 0 < j → j < t.length → 1 ≤ t[j]?.getD 0 ∧ t[j]?.getD 0 ≤ t[j - 1]?.getD 0 + 1
theorem lv0_Lv {t : List Int} (h : lv0 t = true) : Lv t := by
  unfold lv0 at h
  simp only [Bool.and_eq_true, decide_eq_true_eq, List.all_eq_true] at h
  refine ⟨h.1.1, h.1.2, fun j h1 h2 => ?_⟩
  have := h.2 j (by simpa using h2)
  rw [decide_eq_false (by omega)] at this
  unfold okB at this
  simpa using this
theorem Lv.le {t : List Int} (h : Lv t) : ∀ j, j < t.length → 0 ≤ t[j]?.getD 0 ∧ t[j]?.getD 0 ≤ j
  | 0, _ => by rw [h.2.1]; omega
  | j + 1, hj => by
    have h1 := h.le j (by omega)
    have h2 := h.2.2 (j + 1) (by omega) hj
    rw [Nat.add_sub_cancel] at h2
    omega
theorem Lv.snoc {t : List Int} {x : Int} (h : Lv t) (h1 : 1 ≤ x) (h2 : x ≤ t[t.length - 1]?.getD 0 + 1) : Lv (t ++ [x]) := by
  obtain ⟨k1, k2, k3⟩ := h
  refine ⟨by simp, by rw [List.getElem?_append_left k1]; exact k2, fun j hj hl => ?_⟩
  simp at hl
  by_cases e : j = t.length
  · subst e
    rw [List.getElem?_append_right (by omega), List.getElem?_append_left (by omega)]
    simp; exact ⟨h1, h2⟩
  · rw [List.getElem?_append_left (by omega), List.getElem?_append_left (by omega)]
    exact k3 j hj (by omega)
theorem Lv_zero : Lv [0] := ⟨by simp, rfl, fun j h1 h2 => by simp at h2; omega⟩
def sumN : List (List Int) → Nat
  | [] => 0
  | b :: l => b.length + sumN l
theorem sumN_app (a b : List (List Int)) : sumN (a ++ b) = sumN a + sumN b := by
  induction a with
  | nil => simp [sumN]
  | cons x a ih => simp [sumN, ih]; omega
theorem sumN_mem {l : List (List Int)} {b : List Int} (h : b ∈ l) : b.length ≤ sumN l := by
  induction l with
  | nil => simp at h
  | cons x l ih =>
    rw [sumN]
    rcases List.mem_cons.1 h with rfl | h
    · omega
    · have := ih h; omega
theorem len_sumN {l : List (List Int)} (h : ∀ b ∈ l, 0 < b.length) : l.length ≤ sumN l := by
  induction l with
  | nil => simp
  | cons x l ih =>
    have h1 := h x (by simp)
    have h2 := ih (fun b hb => h b (by simp [hb]))
    rw [sumN]; simp; omega
def BrI (out : List (List Int)) (p : Int) (n : Nat) : Prop :=
  (∀ b ∈ out, Lv b) ∧ sumN out = n ∧ ((out = [] ∧ p = 0) ∨ ∃ i l, out = i ++ [l] ∧ l[l.length - 1]?.getD 0 = p - 1)
theorem brStep_i {out : List (List Int)} {p x : Int} {n : Nat} (h : BrI out p n) (h1 : 1 ≤ x) (h2 : x ≤ p + 1) : BrI (brStep out x) x (n + 1) ∧ (x ≠ 1 → out ≠ []) := by
  obtain ⟨k1, k2, k3⟩ := h
  by_cases hx : x = 1
  · subst hx
    have e : brStep out 1 = out ++ [[0]] := by
      unfold brStep
      simp only [if_true]
      rw [List.set_append_right _ _ (by simp), List.getElem?_append_right (by simp)]
      simp
    rw [e]
    refine ⟨⟨fun b hb => ?_, by rw [sumN_app, k2]; rfl, .inr ⟨out, [0], rfl, rfl⟩⟩, by simp⟩
    rcases List.mem_append.1 hb with hb | hb
    · exact k1 b hb
    · simp at hb; subst hb; exact Lv_zero
  · rcases k3 with ⟨rfl, rfl⟩ | ⟨i, l, rfl, hl⟩
    · omega
    · have e : brStep (i ++ [l]) x = i ++ [l ++ [x - 1]] := by
        unfold brStep
        simp only [if_neg hx]
        rw [List.set_append_right _ _ (by simp), List.getElem?_append_right (by simp)]
        simp
      rw [e]
      have hLl := k1 l (by simp)
      refine ⟨⟨fun b hb => ?_, ?_, .inr ⟨i, _, rfl, by simp⟩⟩, by simp⟩
      · rcases List.mem_append.1 hb with hb | hb
        · exact k1 b (by simp [hb])
        · simp at hb; subst hb
          exact hLl.snoc (by omega) (by rw [hl]; omega)
      · rw [sumN_app] at k2 ⊢
        simp [sumN] at k2 ⊢; omega
theorem brs_i {t : List Int} (h : Lv t) : ∀ i, 1 ≤ i → i ≤ t.length → BrI (brs (t.take i)) (t[i - 1]?.getD 0) (i - 1)
  | 1, _, _ => by
    have e : brs (t.take 1) = [] := by
      unfold brs
      cases t with
      | nil => rfl
      | cons a t => rfl
    rw [e]
    refine ⟨by simp, rfl, .inl ⟨rfl, ?_⟩⟩
    simpa using h.2.1
  | i + 2, _, hl => by
    have ih := brs_i h (i + 1) (by omega) (by omega)
    have hb := h.2.2 (i + 1) (by omega) (by omega)
    rw [brs_take (by omega) (by omega)]
    exact (brStep_i ih hb.1 hb.2).1
theorem brs_ne {t : List Int} (h : Lv t) {i : Nat} (h1 : 1 ≤ i) (hl : i < t.length) (hx : t[i]?.getD 0 ≠ 1) : brs (t.take i) ≠ [] := by
  have ih := brs_i h i h1 (by omega)
  have hb := h.2.2 i (by omega) hl
  exact (brStep_i ih hb.1 hb.2).2 hx
theorem brs_ok {t : List Int} (h : Lv t) {b : List Int} (hb : b ∈ brs t) : Lv b ∧ b.length < t.length := by
  have hl := h.1
  have := brs_i h t.length (by omega) (by omega)
  rw [List.take_length] at this
  obtain ⟨k1, k2, _⟩ := this
  have := sumN_mem hb
  exact ⟨k1 b hb, by omega⟩
theorem brs_many {t : List Int} (h : Lv t) {i : Nat} (h1 : 1 ≤ i) (hl : i ≤ t.length) : (brs (t.take i)).length < i := by
  obtain ⟨k1, k2, _⟩ := brs_i h i h1 hl
  have := len_sumN (fun b hb => (k1 b hb).1)
  omega
end Go.Proofs.YtoeikpioonlmfaaGreat


namespace Go.Proofs.YtoeikpioonlmfaaGreat
open Go.Abs
set_option linter.unusedSectionVars false
set_option linter.unusedVariables false
set_option linter.unusedSimpArgs false
set_option maxHeartbeats 4000000
set_option maxRecDepth 100000 in
theorem DrawTransformField_r (c : List Int) (hc : Byt c) :
    RCon Tryz.prog 34 [.sl c.length (bys c)] (fun r o => o = [.any] ∧ ∃ (z : Int) (f : List (List Mon)) (A : List (List Int)) (x y : AV), DrS z f ∧ A.length ≤ 3 ∧ Rws A.length A ∧ frz x = .sl f.length (prt f) ∧ frz y = .sl A.length (mat A) ∧ r = .tup [.agg [.int z, x], y]) := by
  have c0 := l01From_r c hc
  refine rcon_of_vcH Tryz.mixed ⟨7, [], [1000000 + 57, 1000000 + 59, 2000000 + 55, 2000000 + 89], []⟩ [] Tryz.func34 (by decide) rfl (by simp) (by simp) (by decide) ?_
  rw [Tryz.ntmps34]
  simp [go_sem]
  refine ⟨_, c0, ?_⟩
  rintro _ _ ⟨rfl, h, rfl⟩
  have c1 := l13Spoil_f c (0, h) hc (by unfold SOk; simp)
  simp only [srcA_eq] at *
  simp [go_sem]
  refine ⟨_, c1, ?_⟩
  rintro _ _ ⟨τ, z, f, hτ, rfl, hD, rfl⟩
  have cIn := l01In_c z 1 3
  simp [go_sem]
  refine CallVC.of (cIn) (by decide) ?_
  simp [go_sem]
  have c2 := l01Next_c c τ 20 hc hτ
  have s2 := nx2_ok hc hτ 20
  generalize nx1 c τ 20 = u at *
  generalize nx2 c τ 20 = κ at *
  simp only [srcA_eq] at *
  by_cases hz : 1 ≤ z ∧ z ≤ 3
  · simp [go_sem, hz.1, hz.2]
    refine ⟨_, _, c2, ?_⟩
    simp [go_sem]
    by_cases u0 : u = 0
    · have cS := l01Square_g c κ 2 2 hc s2 (by omega) (by omega)
      have oS := sqI_ok c 2 hc s2 2
      generalize sqI c 2 κ 2 = y at *
      simp only [srcA_eq] at *
      simp [go_sem, u0]
      refine ⟨by kernel_rfl, ?_⟩
      refine ⟨_, _, cS, ?_⟩
      simp [go_sem]
      refine ⟨by kernel_rfl, ?_⟩
      simp [go_sem]
      exact ⟨z, f, hD, y.2, by have := oS.2.1; omega, by rw [oS.2.1]; exact oS.2.2, _, by simp [frz], ⟨oS.2.1.symm, rfl⟩, rfl, rfl⟩
    · obtain ⟨n, rfl⟩ : ∃ n : Nat, z = n := ⟨z.toNat, by omega⟩
      have cS := l01Square_g c κ n n hc s2 (by omega) (by omega)
      have oS := sqI_ok c n hc s2 n
      generalize sqI c n κ n = y at *
      simp only [srcA_eq] at *
      simp [go_sem, u0]
      refine ⟨by kernel_rfl, ?_⟩
      refine ⟨_, _, cS, ?_⟩
      simp [go_sem]
      refine ⟨by kernel_rfl, ?_⟩
      simp [go_sem]
      exact ⟨n, f, hD, y.2, by have := oS.2.1; omega, by rw [oS.2.1]; exact oS.2.2, _, by simp [frz], ⟨oS.2.1.symm, rfl⟩, rfl, rfl⟩
  · have cS := l01Square_g c τ 2 2 hc hτ (by omega) (by omega)
    have oS := sqI_ok c 2 hc hτ 2
    generalize sqI c 2 τ 2 = y at *
    simp only [srcA_eq] at *
    have hz2 : z < 1 ∨ 3 < z := by omega
    refine ⟨fun h => ?_, fun h => ?_⟩ <;> simp at h
    · omega
    simp [go_sem]
    refine ⟨by kernel_rfl, ?_⟩
    refine ⟨_, _, cS, ?_⟩
    simp [go_sem]
    refine ⟨by kernel_rfl, ?_⟩
    simp [go_sem]
    exact ⟨z, f, hD, y.2, by have := oS.2.1; omega, by rw [oS.2.1]; exact oS.2.2, _, by simp [frz], ⟨oS.2.1.symm, rfl⟩, rfl, rfl⟩
set_option maxRecDepth 100000 in
theorem tree5_r (c : List Int) (σ : Src) (n : Nat) (hc : Byt c) (hs : SOk σ) (h1 : 1 ≤ n) (hn : n ≤ 1000) :
    RCon Tryz.prog 35 [dicA c σ, .int n] (fun r o => ∃ (τ : Src) (t : List Int), SOk τ ∧ o = [dicA c τ, .any] ∧ Lv t ∧ t.length ≤ n ∧ r = .own 2 t.length (avs t)) := by
  have c0 := below_c c σ n hc hs
  have b0 := nx1_b hc σ (n := n) (by omega)
  have s0 := nx2_ok hc hs n
  unfold dicA at *
  refine rcon_of_vcH Tryz.mixed ⟨7, [], [1000000 + 69], []⟩ [0] Tryz.func35 (by decide) rfl (by simp) (by simp) (by decide) ?_
  rw [Tryz.ntmps35]
  simp [go_sem]
  refine ⟨_, _, c0, ?_⟩
  simp [go_sem]
  obtain ⟨k0, hk0⟩ : ∃ k : Nat, nx1 c σ n = k := ⟨(nx1 c σ n).toNat, by omega⟩
  rw [hk0] at b0
  generalize nx1 c σ n = u at *
  generalize nx2 c σ n = τ0 at *
  subst hk0
  refine loop_inv (0 :: 5 :: 6 :: List.range' 11 17) (fun x : List Int × Src × Nat => [(0, .box 99 [.sl c.length (bys c), .int x.2.1.1, .val (.int .u64 x.2.1.2)]), (6, .int x.2.2), (5, .own 2 x.1.length (avs x.1))]) (fun x => SOk x.2.1 ∧ x.1.length + x.2.2 ≤ n ∧ Lv x.1) (fun x => x.2.2) ([0], τ0, k0) ⟨s0, by simp; omega, Lv_zero⟩ (by simp [go_sem, avs]) (by simp [go_sem]) ?_
  rintro ⟨t, τ, k⟩ ⟨h2, h3, h4⟩
  simp only at h2 h3 h4
  simp [go_sem]
  refine ⟨fun h => ?_, fun h => ?_⟩ <;> simp at h
  · have ht := h4.1
    have hLa := h4.le (t.length - 1) (by omega)
    have hl : (avs t)[t.length - 1]? = some (.val (.int .i64 (t[t.length - 1]?.getD 0))) := by
      have : t.length - 1 < t.length := by omega
      simp [avs, this]
    have c5 := below_c c τ (t[t.length - 1]?.getD 0 + 1) hc h2
    have b5 := nx1_b hc τ (n := t[t.length - 1]?.getD 0 + 1) (by omega)
    have s5 := nx2_ok hc h2 (t[t.length - 1]?.getD 0 + 1)
    have sn := Lv.snoc h4 (x := 1 + nx1 c τ (t[t.length - 1]?.getD 0 + 1)) (by omega) (by omega)
    unfold dicA at c5
    generalize nx1 c τ (t[t.length - 1]?.getD 0 + 1) = v at *
    generalize nx2 c τ (t[t.length - 1]?.getD 0 + 1) = τ5 at *
    generalize t[t.length - 1]?.getD 0 = last at *
    simp [go_sem, hl]
    refine ⟨⟨by omega, by omega⟩, ⟨by omega, by omega⟩, ⟨by omega, by omega⟩, ?_⟩
    refine ⟨_, _, c5, ?_⟩
    simp [go_sem]
    have e5 : avs t ++ [AV.val (.int .i64 (1 + v))] = avs (t ++ [1 + v]) := (avs_snoc t (1 + v)).symm
    exact ⟨⟨by omega, by omega⟩, ⟨by omega, by omega⟩, ⟨by omega, by omega⟩, t ++ [1 + v], τ5.1, τ5.2, k - 1, ⟨s5, by simp; omega, sn⟩, by omega, Off_reset _ _ _ (by simp), ⟨rfl, rfl⟩, by omega, by simp, e5⟩
  · simp [go_sem]
    exact ⟨τ.1, τ.2, h2, ⟨rfl, rfl⟩, t, h4, by omega, rfl, rfl⟩
end Go.Proofs.YtoeikpioonlmfaaGreat


namespace Go.Proofs.YtoeikpioonlmfaaGreat
open Go.Abs
set_option linter.unusedSectionVars false
set_option linter.unusedVariables false
set_option linter.unusedSimpArgs false
set_option maxHeartbeats 1000000
def rowOk (A : List (List Int)) (r : List Int) : Bool := decide (r.length = (A[0]?.getD []).length) && numsB r
def matB (A : List (List Int)) : Bool := decide (1 ≤ A.length ∧ A.length ≤ 8) && (decide (1 ≤ (A[0]?.getD []).length ∧ (A[0]?.getD []).length ≤ 8) && A.all (rowOk A))
theorem matB_iff {A : List (List Int)} : matB A = true ↔ (1 ≤ A.length ∧ A.length ≤ 8) ∧ (1 ≤ (A[0]?.getD []).length ∧ (A[0]?.getD []).length ≤ 8) ∧ ∀ r ∈ A, r.length = (A[0]?.getD []).length ∧ Ns r := by
  unfold matB rowOk
  simp only [Bool.and_eq_true, decide_eq_true_eq, List.all_eq_true, numsB_N]
theorem lengthR_c (n : Nat) (cs : List AV) (hn : n ≤ 9223372036854775807) : Con Tryz.prog 119 [.sl n cs] (.int n) := by
  refine con_of_vc Tryz.mixed ⟨3, [], [], []⟩ Tryz.func119 (by decide) rfl (by simp) (by decide) (by simp [freshOK, freshL, go_sem]) ?_
  rw [Tryz.ntmps119]
  simp [go_sem]
  try omega
theorem at0 {A : List (List Int)} (h : 0 < A.length) : mat A = .sl (A[0]?.getD []).length (avs (A[0]?.getD [])) :: mat A.tail := by cases A with | nil => simp at h | cons x l => simp [mat]
set_option maxRecDepth 100000 in
theorem isMatrix_c (A : List (List Int)) (hl : A.length ≤ 9223372036854775807) (hr : ∀ r ∈ A, r.length ≤ 9223372036854775807) :
    Con Tryz.prog 100 [.sl A.length (mat A)] (.bool (matB A)) := by
  have cL := lengthR_c A.length (mat A) hl
  have cI := inRange_c (A.length : Int) 1 8
  by_cases h1 : 1 ≤ A.length ∧ A.length ≤ 8
  · have e1 : (decide ((1 : Int) ≤ A.length) && decide ((A.length : Int) ≤ 8)) = true := by simp; omega
    rw [e1] at cI
    have m0 := at0 (A := A) (by omega)
    have h0 : (A[0]?.getD []) ∈ A := by simp [show 0 < A.length by omega]
    have r0 := hr _ h0
    have fine : matB A = (decide (1 ≤ (A[0]?.getD []).length ∧ (A[0]?.getD []).length ≤ 8) && A.all (rowOk A)) := by unfold matB; rw [decide_eq_true h1]; rfl
    refine con_of_vc Tryz.mixed ⟨5, [], [], []⟩ Tryz.func100 (by decide) rfl (by simp) (by decide) (by simp [freshOK, freshL, go_sem]) ?_
    rw [Tryz.ntmps100]
    simp [go_sem]
    refine CallVC.of (cL) (by decide) ?_
    simp [go_sem]
    refine CallVC.of (cI) (by decide) ?_
    simp [go_sem]
    refine loop_inv (2 :: 4 :: List.range' 11 23) (fun i : Nat => [(11, .int i)]) (fun i => i ≤ A.length ∧ (∀ r ∈ A.take i, rowOk A r = true) ∧ (0 < i → 1 ≤ (A[0]?.getD []).length ∧ (A[0]?.getD []).length ≤ 8)) (fun i => A.length - i) 0 (by simp) (by simp [go_sem]) (by simp [go_sem]) ?_
    rintro i ⟨hi, hp, hq⟩
    simp [go_sem]
    refine ⟨fun h => ?_, fun h => ?_⟩ <;> simp at h
    · have hif := h
      have hx : A[i]?.getD [] ∈ A := by simp [h]
      have hx2 := hr _ hx
      have cl := length_c (A[i]?.getD []).length (avs (A[i]?.getD [])) hx2
      have ci := inRange_c ((A[i]?.getD []).length : Int) 1 8
      have cn := areNumbers_c (A[i]?.getD []) hx2
      have hno : rowOk A (A[i]?.getD []) = false → matB A = false := fun hh => by
        rw [fine]
        have : A.all (rowOk A) = false := by rw [List.all_eq_false]; exact ⟨_, hx, by simp [hh]⟩
        rw [this]; simp
      simp [go_sem, mat_drop hif]
      refine ⟨⟨hif, by rintro rfl; simp at hif⟩, ?_⟩
      generalize hR : A[i]?.getD [] = R at *
      by_cases c1 : R.length = (A[0]?.getD []).length
      · have c1' : (R.length : Int) = (A[0]?.getD []).length := by omega
        simp [go_sem, m0, c1']
        refine ⟨⟨by omega, by rintro rfl; simp at hif⟩, ?_⟩
        refine CallVC.of (cl) (by decide) ?_
        simp [go_sem]
        by_cases c2 : 1 ≤ R.length ∧ R.length ≤ 8
        · rw [show (decide ((1 : Int) ≤ R.length) && decide ((R.length : Int) ≤ 8)) = true by simp; omega] at ci
          refine CallVC.of (ci) (by decide) ?_
          simp [go_sem]
          cases hn : numsB R with
          | true =>
            rw [hn] at cn
            refine CallVC.of (cn) (by decide) ?_
            simp [go_sem]
            refine ⟨by omega, i + 1, ⟨by omega, take_all hif hp ?_, fun _ => by omega⟩, by omega, Off_reset _ _ _ (by simp), by omega⟩
            have : A[i] = R := by rw [← hR]; simp [hif]
            rw [this]; unfold rowOk; rw [hn, decide_eq_true c1]; rfl
          | false =>
            rw [hn] at cn
            refine CallVC.of (cn) (by decide) ?_
            simp [go_sem]
            exact hno (by unfold rowOk; rw [hn]; simp)
        · rw [show (decide ((1 : Int) ≤ R.length) && decide ((R.length : Int) ≤ 8)) = false by simp; omega] at ci
          refine CallVC.of (ci) (by decide) ?_
          simp [go_sem]
          rw [fine, decide_eq_false (by omega)]; rfl
      · have c1' : ¬ (R.length : Int) = (A[0]?.getD []).length := by omega
        simp [go_sem, m0, c1']
        exact ⟨⟨by omega, by rintro rfl; simp at hif⟩, hno (by unfold rowOk; rw [decide_eq_false c1]; rfl)⟩
    · simp [go_sem]
      rw [List.take_of_length_le h] at hp
      rw [fine, decide_eq_true (hq (by omega)), List.all_eq_true.2 hp]
      rfl
  · have e1 : (decide ((1 : Int) ≤ A.length) && decide ((A.length : Int) ≤ 8)) = false := by simp; omega
    rw [e1] at cI
    refine con_of_vc Tryz.mixed ⟨5, [], [], []⟩ Tryz.func100 (by decide) rfl (by simp) (by decide) (by simp [freshOK, freshL, go_sem]) ?_
    rw [Tryz.ntmps100]
    simp [go_sem]
    refine CallVC.of (cL) (by decide) ?_
    simp [go_sem]
    refine CallVC.of (cI) (by decide) ?_
    simp [go_sem]
    unfold matB
    rw [decide_eq_false h1]; rfl
set_option maxRecDepth 100000 in
theorem l01Matrix_c (A : List (List Int)) (hl : A.length ≤ 9223372036854775807) (hr : ∀ r ∈ A, r.length ≤ 9223372036854775807) :
    Con Tryz.prog 132 [.sl A.length (mat A)] (.int (if matB A = true then 0 else 1)) := by
  by_cases h1 : 1 ≤ A.length ∧ A.length ≤ 8
  · have m0 := at0 (A := A) (by omega)
    have h0 : (A[0]?.getD []) ∈ A := by simp [show 0 < A.length by omega]
    have r0 := hr _ h0
    have n1 : ¬ (A.length : Int) < 1 := by omega
    have n2 : ¬ (8 : Int) < A.length := by omega
    have n0 : ¬ A = [] := by rintro rfl; simp at h1
    by_cases h2 : 1 ≤ (A[0]?.getD []).length ∧ (A[0]?.getD []).length ≤ 8
    · have n3 : ¬ ((A[0]?.getD []).length : Int) < 1 := by omega
      have n4 : ¬ (8 : Int) < (A[0]?.getD []).length := by omega
      have fine : matB A = A.all (rowOk A) := by unfold matB; rw [decide_eq_true h1, decide_eq_true h2]; rfl
      refine con_of_vc Tryz.mixed ⟨4, [], [], []⟩ Tryz.func132 (by decide) rfl (by simp) (by decide) (by simp [freshOK, freshL, go_sem]) ?_
      rw [Tryz.ntmps132]
      simp [go_sem]
      simp [go_sem, n1, n2, m0, n3, n4]
      simp only [← m0]
      refine ⟨by omega, ?_⟩
      refine loop_inv (2 :: 3 :: List.range' 26 24) (fun i : Nat => [(3, .int i)]) (fun i => i ≤ A.length ∧ (∀ r ∈ A.take i, rowOk A r = true)) (fun i => A.length - i) 0 (by simp) (by simp [go_sem]) (by simp [go_sem]) ?_
      rintro i ⟨hi, hp⟩
      simp [go_sem]
      refine ⟨fun h => ?_, fun h => ?_⟩ <;> simp at h
      · have hif : i < A.length := by omega
        have hx : A[i]?.getD [] ∈ A := by simp [hif]
        have hx2 := hr _ hx
        have cn := l01Numbers_c (A[i]?.getD []) hx2
        have hno : rowOk A (A[i]?.getD []) = false → matB A = false := fun hh => by
          rw [fine, List.all_eq_false]; exact ⟨_, hx, by simp [hh]⟩
        simp [go_sem, mat_drop hif]
        simp [go_sem, m0]
        simp only [← m0]
        generalize hR : A[i]?.getD [] = R at *
        by_cases c1 : R.length = (A[0]?.getD []).length
        · have c1' : (R.length : Int) = (A[0]?.getD []).length := by omega
          simp [go_sem, mat_drop hif, hR, c1']
          refine ⟨by kernel_rfl, ⟨hif, n0⟩, ⟨by omega, n0⟩, ⟨hif, n0⟩, ?_⟩
          cases hn : numsB R with
          | true =>
            rw [hn] at cn
            refine CallD.of (cn) (by simp [roots, rootsL]) (by decide) ?_
            simp [go_sem]
            refine ⟨by kernel_rfl, ?_⟩
            simp [go_sem]
            refine ⟨by omega, i + 1, ⟨by omega, take_all hif hp ?_⟩, by omega, Off_reset _ _ _ (by simp), by omega⟩
            have : A[i] = R := by rw [← hR]; simp [hif]
            rw [this]; unfold rowOk; rw [hn, decide_eq_true c1]; rfl
          | false =>
            rw [hn] at cn
            refine CallD.of (cn) (by simp [roots, rootsL]) (by decide) ?_
            simp [go_sem]
            refine ⟨by kernel_rfl, ?_⟩
            simp [go_sem]
            rw [hno (by unfold rowOk; rw [hn]; simp)]
        · have c1' : ¬ (R.length : Int) = (A[0]?.getD []).length := by omega
          simp [go_sem, c1']
          refine ⟨by kernel_rfl, ⟨hif, n0⟩, ⟨by omega, n0⟩, ?_⟩
          refine ⟨by kernel_rfl, ?_⟩
          simp [go_sem]
          rw [hno (by unfold rowOk; rw [decide_eq_false c1]; rfl)]
      · simp [go_sem]
        rw [List.take_of_length_le (by omega)] at hp
        rw [fine, List.all_eq_true.2 hp]
    · have hm : matB A = false := by unfold matB; rw [decide_eq_true h1, decide_eq_false h2]; rfl
      rw [hm]
      by_cases n3 : ((A[0]?.getD []).length : Int) < 1
      · refine con_of_vc Tryz.mixed ⟨4, [], [], []⟩ Tryz.func132 (by decide) rfl (by simp) (by decide) (by simp [freshOK, freshL, go_sem]) ?_
        rw [Tryz.ntmps132]
        simp [go_sem]
        simp [go_sem, n1, n2, m0, n3]
        omega
      · have n4 : (8 : Int) < (A[0]?.getD []).length := by omega
        refine con_of_vc Tryz.mixed ⟨4, [], [], []⟩ Tryz.func132 (by decide) rfl (by simp) (by decide) (by simp [freshOK, freshL, go_sem]) ?_
        rw [Tryz.ntmps132]
        simp [go_sem]
        simp [go_sem, n1, n2, m0, n3, n4]
        omega
  · have hm : matB A = false := by unfold matB; rw [decide_eq_false h1]; rfl
    rw [hm]
    by_cases n1 : (A.length : Int) < 1
    · refine con_of_vc Tryz.mixed ⟨4, [], [], []⟩ Tryz.func132 (by decide) rfl (by simp) (by decide) (by simp [freshOK, freshL, go_sem]) ?_
      rw [Tryz.ntmps132]
      simp [go_sem]
      simp [go_sem, n1]
    · have n2 : (8 : Int) < A.length := by omega
      refine con_of_vc Tryz.mixed ⟨4, [], [], []⟩ Tryz.func132 (by decide) rfl (by simp) (by decide) (by simp [freshOK, freshL, go_sem]) ?_
      rw [Tryz.ntmps132]
      simp [go_sem]
      simp [go_sem, n1, n2]
def sqB (z : Int) (A : List (List Int)) : Bool := matB A && (decide ((A.length : Int) = z) && decide (((A[0]?.getD []).length : Int) = z))
theorem sqB_iff {z : Int} {A : List (List Int)} : sqB z A = true ↔ (1 ≤ A.length ∧ A.length ≤ 8) ∧ (A.length : Int) = z ∧ ∀ r ∈ A, (r.length : Int) = z ∧ Ns r := by
  unfold sqB
  simp only [Bool.and_eq_true, decide_eq_true_eq, matB_iff]
  constructor
  · rintro ⟨⟨h1, h2, h3⟩, h4, h5⟩
    exact ⟨h1, h4, fun r hr => ⟨by have := (h3 r hr).1; omega, (h3 r hr).2⟩⟩
  · rintro ⟨h1, h2, h3⟩
    have h0 : (A[0]?.getD []) ∈ A := by simp [show 0 < A.length by omega]
    have := (h3 _ h0).1
    exact ⟨⟨h1, by omega, fun r hr => ⟨by have := (h3 r hr).1; omega, (h3 r hr).2⟩⟩, h2, by omega⟩
set_option maxRecDepth 100000 in
theorem isFrame_c (z : Int) (n : Nat) (cs : List AV) (A : List (List Int)) (hl : A.length ≤ 9223372036854775807) (hr : ∀ r ∈ A, r.length ≤ 9223372036854775807) :
    Con Tryz.prog 82 [.agg [.int z, .sl n cs], .sl A.length (mat A)] (.bool (sqB z A)) := by
  have cM := isMatrix_c A hl hr
  have cL := lengthR_c A.length (mat A) hl
  unfold sqB
  cases hm : matB A with
  | false =>
    rw [hm] at cM
    refine con_of_vc Tryz.mixed ⟨5, [], [], []⟩ Tryz.func82 (by decide) rfl (by simp) (by decide) (by simp [freshOK, freshL, go_sem]) ?_
    rw [Tryz.ntmps82]
    simp [go_sem]
    refine ⟨by kernel_rfl, ?_⟩
    refine CallD.of (cM) (by simp [roots, rootsL]) (by decide) ?_
    simp [go_sem]
    refine ⟨by kernel_rfl, ?_⟩
    simp [go_sem]
  | true =>
    rw [hm] at cM
    have h1 := (matB_iff.1 hm).1
    have n0 : ¬ A = [] := by rintro rfl; simp at h1
    have m0 := at0 (A := A) (by omega)
    have cl := length_c (A[0]?.getD []).length (avs (A[0]?.getD [])) (by have := (matB_iff.1 hm).2.1; omega)
    by_cases h2 : (A.length : Int) = z
    · refine con_of_vc Tryz.mixed ⟨5, [], [], []⟩ Tryz.func82 (by decide) rfl (by simp) (by decide) (by simp [freshOK, freshL, go_sem]) ?_
      rw [Tryz.ntmps82]
      simp [go_sem]
      refine ⟨by kernel_rfl, ?_⟩
      refine CallD.of (cM) (by simp [roots, rootsL]) (by decide) ?_
      simp [go_sem]
      refine CallD.of (cL) (by simp [roots, rootsL]) (by decide) ?_
      simp [go_sem]
      simp [go_sem, h2, m0]
      refine ⟨by omega, ?_⟩
      refine CallD.of (cl) (by simp [roots, rootsL]) (by decide) ?_
      simp [go_sem]
      refine ⟨by kernel_rfl, ?_⟩
      simp [go_sem]
    · refine con_of_vc Tryz.mixed ⟨5, [], [], []⟩ Tryz.func82 (by decide) rfl (by simp) (by decide) (by simp [freshOK, freshL, go_sem]) ?_
      rw [Tryz.ntmps82]
      simp [go_sem]
      refine ⟨by kernel_rfl, ?_⟩
      refine CallD.of (cM) (by simp [roots, rootsL]) (by decide) ?_
      simp [go_sem]
      refine CallD.of (cL) (by simp [roots, rootsL]) (by decide) ?_
      simp [go_sem]
      simp [go_sem, h2]
      refine ⟨by kernel_rfl, ?_⟩
      simp [go_sem]
set_option maxRecDepth 100000 in
theorem l13Square_c (z : Int) (A : List (List Int)) (hl : A.length ≤ 9223372036854775807) (hr : ∀ r ∈ A, r.length ≤ 9223372036854775807) :
    Con Tryz.prog 77 [.int z, .sl A.length (mat A)] (.bool (sqB z A)) := by
  have cM := l01Matrix_c A hl hr
  unfold sqB
  cases hm : matB A with
  | false =>
    rw [hm] at cM
    refine con_of_vc Tryz.mixed ⟨5, [], [], []⟩ Tryz.func77 (by decide) rfl (by simp) (by decide) (by simp [freshOK, freshL, go_sem]) ?_
    rw [Tryz.ntmps77]
    simp [go_sem]
    refine CallVC.of (cM) (by decide) ?_
    simp [go_sem]
  | true =>
    rw [hm] at cM
    have h1 := (matB_iff.1 hm).1
    have n0 : ¬ A = [] := by rintro rfl; simp at h1
    have m0 := at0 (A := A) (by omega)
    by_cases h2 : (A.length : Int) = z
    · refine con_of_vc Tryz.mixed ⟨5, [], [], []⟩ Tryz.func77 (by decide) rfl (by simp) (by decide) (by simp [freshOK, freshL, go_sem]) ?_
      rw [Tryz.ntmps77]
      simp [go_sem]
      refine CallVC.of (cM) (by decide) ?_
      simp [go_sem]
      simp [go_sem, h2, m0]
      omega
    · refine con_of_vc Tryz.mixed ⟨5, [], [], []⟩ Tryz.func77 (by decide) rfl (by simp) (by decide) (by simp [freshOK, freshL, go_sem]) ?_
      rw [Tryz.ntmps77]
      simp [go_sem]
      refine CallVC.of (cM) (by decide) ?_
      simp [go_sem]
      simp [go_sem, h2]
end Go.Proofs.YtoeikpioonlmfaaGreat


namespace Go.Proofs.YtoeikpioonlmfaaGreat
open Go.Abs
set_option linter.unusedSectionVars false
set_option linter.unusedVariables false
set_option linter.unusedSimpArgs false
set_option maxHeartbeats 4000000
def linK (row : List Int) : Nat → List Mon
  | 0 => []
  | k + 1 => putL (linK row k) (row[k]?.getD 0) (oneE row.length k)
theorem linK_ok {n : Nat} {row : List Int} (hl : row.length = n) (hN : Ns row) : ∀ k, k ≤ n → (linK row k).length ≤ k ∧ ∀ m ∈ linK row k, WOk n 1 m
  | 0, _ => ⟨by simp [linK], fun m hm => by simp [linK] at hm⟩
  | k + 1, hk => by
    have ih := linK_ok hl hN k (by omega)
    have h1 := putL_len (linK row k) (row[k]?.getD 0) (oneE row.length k)
    refine ⟨by rw [linK]; omega, fun m hm => ?_⟩
    rw [linK] at hm
    rw [hl] at hm
    exact putGo_wok (n := n) (B := 1) ⟨hN.get k, (oneE_wok (n := n) (k := k)).len, (oneE_wok (n := n) (k := k)).pw⟩ _ _ ih.2 m hm
set_option maxRecDepth 100000 in
theorem l13Linear_c (row : List Int) (h3 : row.length ≤ 8) (hN : Ns row) : Con Tryz.prog 80 [.sl row.length (avs row)] (.own 97 (linK row row.length).length (omons (linK row row.length))) := by
  refine con_of_vc Tryz.mixed ⟨5, [], [], []⟩ Tryz.func80 (by decide) rfl (by simp) (by decide) (by simp [freshOK, freshL, go_sem]) ?_
  rw [Tryz.ntmps80]
  simp [go_sem]
  refine loop_inv ([3, 4] ++ List.range' 6 16) (fun k : Nat => [(3, .own 97 (linK row k).length (omons (linK row k))), (4, .int k)]) (fun k => k ≤ row.length) (fun k => row.length - k) 0 (by simp) (by simp [go_sem, linK, omons]) (by simp [go_sem]) ?_
  intro k hk
  by_cases hkr : k < row.length
  · have hki : (k : Int) < row.length := by omega
    have ne : ¬ row = [] := by rintro rfl; simp at hkr
    have ok := linK_ok rfl hN k hk
    have cO := l13One_c row.length k (by omega) hkr
    have cP := l13Put_c (linK row k) (row[k]?.getD 0) (oneE row.length k) (hN.get k) (fun m hm => ⟨(ok.2 m hm).num, by have := (ok.2 m hm).len; omega⟩) (by omega) (by simp; omega)
    rw [oneE_len] at cP
    have e1 : linK row (k + 1) = putL (linK row k) (row[k]?.getD 0) (oneE row.length k) := rfl
    rw [← e1] at cP
    generalize hL1 : linK row (k + 1) = L1 at *
    simp [go_sem, hki, avs_drop hkr]
    refine ⟨by kernel_rfl, ne, ?_⟩
    refine CallD.of (cO) (by simp [roots, rootsL]) (by decide) ?_
    simp [go_sem]
    refine CallD.of (cP) (by simp [roots, rootsL]) (by decide) ?_
    simp [go_sem]
    refine ⟨by kernel_rfl, ?_⟩
    simp [go_sem]
    exact ⟨by omega, k + 1, by omega, by omega, Off_reset _ _ _ (by simp), by rw [hL1]; exact ⟨rfl, rfl⟩, by omega⟩
  · have e : k = row.length := by omega
    subst e
    have hki : ¬ (row.length : Int) < row.length := by omega
    simp [go_sem, hki]
def linF (m : List (List Int)) : List (List Mon) := m.map fun r => linK r r.length
theorem linF_len (m : List (List Int)) : (linF m).length = m.length := by simp [linF]
theorem linF_get {m : List (List Int)} {i : Nat} (h : i < m.length) : (linF m)[i]?.getD [] = linK (m[i]?.getD []) (m[i]?.getD []).length := by simp [linF, h]
end Go.Proofs.YtoeikpioonlmfaaGreat


namespace Go.Proofs.YtoeikpioonlmfaaGreat
open Go.Abs
set_option linter.unusedSectionVars false
set_option linter.unusedVariables false
set_option linter.unusedSimpArgs false
set_option maxHeartbeats 4000000
theorem DrS.small {z : Int} {f : List (List Mon)} (h : DrS z f) : Small f := ⟨by have := h.2.2.1; omega, fun p hp => ⟨by have := (h.2.2.2 p hp).1; omega, fun q hq => by have := (h.2.2.2 p hp).2 q hq; omega⟩⟩
end Go.Proofs.YtoeikpioonlmfaaGreat


namespace Go.Proofs.YtoeikpioonlmfaaGreat
open Go.Abs
set_option linter.unusedSectionVars false
set_option linter.unusedVariables false
set_option linter.unusedSimpArgs false
set_option maxHeartbeats 4000000
set_option maxRecDepth 100000 in
theorem likeField5_c (z : Int) (f : List (List Mon)) (hs : Small f) : Con Tryz.prog 12 [.agg [.int z, .sl f.length (prt f)], .agg [.int z, .sl f.length (prt f)]] (.bool true) := by
  obtain ⟨fl, fp⟩ := hs
  refine con_of_vc Tryz.mixed ⟨7, [], [], []⟩ Tryz.func12 (by decide) rfl (by simp) (by decide) (by simp [freshOK, freshL, go_sem]) ?_
  rw [Tryz.ntmps12]
  simp [go_sem]
  refine loop_inv ([4, 5, 6] ++ List.range' 21 71) (fun i : Nat => [(5, .int i)]) (fun i => i ≤ f.length) (fun i => f.length - i) 0 (by simp) (by simp [go_sem]) (by simp [go_sem]) ?_
  intro i hi
  by_cases hin : i < f.length
  · have hii : (i : Int) < f.length := by omega
    have ne : ¬ f = [] := by rintro rfl; simp at hin
    have fm := fp (f[i]?.getD []) (by simp [hin])
    have hrw : f[i]'hin = f[i]?.getD [] := by simp [hin]
    have pd := prt_drop hin
    generalize hp : f[i]?.getD [] = p at *
    obtain ⟨pl, pm⟩ := fm
    simp [go_sem, hii, pd, hp, hrw]
    refine ⟨by kernel_rfl, ne, ?_⟩
    refine ⟨by kernel_rfl, ?_⟩
    simp [go_sem]
    refine loop_inv ([4, 6] ++ List.range' 41 51) (fun k : Nat => [(6, .int k)]) (fun k => k ≤ p.length) (fun k => p.length - k) 0 (by simp) (by simp [go_sem]) (by simp [go_sem]) ?_
    intro k hk
    by_cases hkp : k < p.length
    · have hki : (k : Int) < p.length := by omega
      have pne : ¬ p = [] := by rintro rfl; simp at hkp
      have md := mons_drop hkp
      have md1 := mons_drop1 hkp
      have qm := pm (p[k]?.getD (0, [])) (by simp [hkp])
      have hqw : p[k]'hkp = p[k]?.getD (0, []) := by simp [hkp]
      have cL := likeInts_c (p[k]?.getD (0, [])).2 (p[k]?.getD (0, [])).2 (by omega)
      simp only [decide_true] at cL
      generalize hq : p[k]?.getD (0, []) = q at *
      simp [go_sem, hki, pd, hp, hrw, md, md1, hq, hqw]
      refine ⟨⟨hin, ne⟩, by kernel_rfl, ⟨hin, ne⟩, pne, ⟨hin, ne⟩, pne, ⟨hin, ne⟩, pne, ⟨hin, ne⟩, pne, ?_⟩
      refine CallD.of (cL) (by simp [roots, rootsL]) (by decide) ?_
      simp [go_sem]
      refine ⟨by kernel_rfl, ?_⟩
      simp [go_sem]
      exact ⟨by omega, k + 1, by omega, by omega, Off_reset _ _ _ (by simp), by omega⟩
    · have e : k = p.length := by omega
      subst e
      have hki : ¬ (p.length : Int) < p.length := by omega
      simp [go_sem, hki, pd, hp, hrw]
      exact ⟨⟨hin, ne⟩, ⟨by omega, by omega⟩, i + 1, by omega, by omega, (Off.reset (by intro x hx; simp at hx ⊢; omega) (by simp) (by simp [go_sem, Off_reset])), by omega⟩
  · have e : i = f.length := by omega
    subst e
    have hii : ¬ (f.length : Int) < f.length := by omega
    simp [go_sem, hii]
end Go.Proofs.YtoeikpioonlmfaaGreat


namespace Go.Proofs.YtoeikpioonlmfaaGreat
open Go.ChangeShapes Go.WideShapes Go.ChangeAt Go.RowKit Go.Abs Go.Deep
set_option linter.unusedSectionVars false
set_option linter.unusedVariables false
section
variable {H : Type} {enc : TypeId × Value → H} {w : World} {sp : Nat → Bool} {held : Bool} {base : Nat}
theorem kids : Kids Tryz.prog (· < Tryz.prog.types.size) := kids_rows (by kernel_rfl) (by kernel_rfl)
theorem full : ∀ t e, t < Tryz.prog.types.size → Tryz.prog.underlying t = some (.slice e) → 0 < Tryz.prog.cellsOf e := slices_full_of Tryz.prog (by kernel_rfl)
theorem flat1 {α β : Type} (g : α → β) : ∀ qs : List α, qs.flatMap (fun a => [g a]) = qs.map g
  | [] => rfl
  | a :: qs => by rw [List.flatMap_cons, flat1 g qs]; rfl
theorem rep_one {F : Nat → Prop} {tm : Nat → Value} {oss : Nat → List Nat} {c : AV} {v : Value} (h : RepL Tryz.prog w F [c] [v] []) : RepT Tryz.prog w F tm oss c v [] := .cell _ _ _ (RepL.one h)
set_option maxRecDepth 100000 in
theorem repV {F : Nat → Prop} {tm : Nat → Value} {oss : Nat → List Nat} {t e : TypeId} {v : Value} {c : AV} {r : Reach} {b0 : Nat} (ht : Tryz.prog.underlying t = some (.slice e)) (hv : Value.okWide Tryz.prog w r b0 t v) (h : RepL Tryz.prog w F [c] v.cells.toList []) :
    RepT Tryz.prog w F tm oss c v [] := by
  have hc : v.cells.toList = [v] := by
    simp only [Value.okWide, ht] at hv
    cases v <;> simp_all [Value.cells, Cell.okWide, Cell.ok]
  rw [hc] at h
  exact rep_one h
end
end Go.Proofs.YtoeikpioonlmfaaGreat


namespace Go.Proofs.YtoeikpioonlmfaaGreat
open Go.Abs
set_option linter.unusedSectionVars false
set_option linter.unusedVariables false
set_option linter.unusedSimpArgs false
set_option maxHeartbeats 1000000
open Go.ChangeShapes Go.WideShapes Go.ChangeAt Go.RowKit Go.Deep
theorem big_c (c : List Int) (hl : c.length ≤ 9223372036854775807) : Con Tryz.prog 8 [.sl c.length (bys c)] (.bool (decide (4096 < c.length))) := by
  refine con_of_vc Tryz.mixed ⟨3, [], [], []⟩ Tryz.func8 (by decide) rfl (by simp) (by decide) (by simp [freshOK, freshL, go_sem]) ?_
  rw [Tryz.ntmps8]
  simp [go_sem]
  omega
theorem DotOf_c (a b : List Int) (h : a.length = b.length) (hl : a.length ≤ 16) (ha : Ns a) (hb : Ns b) : Con Tryz.prog 36 [.sl a.length (avs a), .sl b.length (avs b)] (.tup [.int (dotI a b % 10007), .int 0]) := by
  have c1 := areNumbers_c a (by omega)
  have c2 := areNumbers_c b (by omega)
  have c3 := dot_c a b (by omega) (by omega) ha hb
  rw [numsB_N.2 ha] at c1
  rw [numsB_N.2 hb] at c2
  have h2 : (a.length : Int) = b.length := by omega
  have h64 : ¬ (64 : Int) < b.length := by omega
  rw [h] at c1 c3
  refine con_of_vc Tryz.mixed ⟨6, [], [], []⟩ Tryz.func36 (by decide) rfl (by simp) (by decide) (by simp [freshOK, freshL, go_sem]) ?_
  rw [Tryz.ntmps36]
  simp [go_sem]
  simp [go_sem, h, h64]
  refine CallVC.of (c1) (by decide) ?_
  simp [go_sem]
  refine CallVC.of (c2) (by decide) ?_
  simp [go_sem]
  refine CallVC.of (c3) (by decide) ?_
  simp [go_sem]
section
variable {H : Type} {enc : TypeId × Value → H} {w : World} {sp : Nat → Bool} {held : Bool} {base : Nat}
theorem open_bys {n : Nat} {cs : List Value} {x : DataW H × List MemPlace} (h : DataW.trod enc Tryz.prog w base sp held n 22 cs = some x) :
    ∃ xs : List Int, (∀ z ∈ xs, 0 ≤ z ∧ z ≤ 255) ∧ xs.length ≤ 9223372036854775807 ∧ RepL Tryz.prog w (fun b => b < w.heap.size) [.sl xs.length (bys xs)] cs [] ∧ cs.length = 1 := by
  obtain ⟨qs, h1, h2, h3, h4⟩ := open_sl (f := fun z : Int => [AV.val (.int .u8 z)]) (Good := fun z => (Lit.int .u8 z).wf = true) Tryz.underlying22 (s := 1) (by kernel_rfl) (by decide) (fun _ => rfl)
    (fun n cs y hy => by obtain ⟨z, k1, k2, _⟩ := open_i Tryz.underlying5 hy; exact ⟨z, k1, k2⟩) h
  refine ⟨qs, fun z hz => ?_, h2, by rw [flat1] at h3; exact h3, h4⟩
  have := h1 z hz
  simp [Lit.wf, IntKind.min, IntKind.max, IntKind.signed, IntKind.bits] at this
  omega
end
end Go.Proofs.YtoeikpioonlmfaaGreat


namespace Go.Proofs.YtoeikpioonlmfaaGreat
open Go.Abs
set_option linter.unusedSectionVars false
set_option linter.unusedVariables false
set_option linter.unusedSimpArgs false
set_option maxHeartbeats 1000000
def sum3 (k : Key) : Int := k.1 + k.2.1 + k.2.2
def DegLe (C : Key → Int) (D : Int) : Prop := ∀ k, NN k → D < sum3 k → C k = 0
theorem sum3_inc (i : Nat) (k : Key) : sum3 (inc i k) = sum3 k + 1 := by
  obtain ⟨a, b, c⟩ := k
  unfold inc sum3
  split
  · simp; omega
  · split <;> (simp; omega)
theorem DegLe.der {C : Key → Int} {D : Int} (h : DegLe C D) (i : Nat) : DegLe (der i C) (D - 1) := by
  intro k hk hd
  unfold Go.Proofs.YtoeikpioonlmfaaGreat.der
  rw [h (inc i k) (hk.inc i) (by rw [sum3_inc]; omega), Int.mul_zero]
theorem DegLe.alo {C : Key → Int} {D : Int} (h : DegLe C D) (v : Nat → Int) : ∀ n, DegLe (alo v C n) (D - 1)
  | 0 => fun _ _ _ => rfl
  | n + 1 => fun k hk hd => by
    show Go.Proofs.YtoeikpioonlmfaaGreat.alo v C n k + v n * Go.Proofs.YtoeikpioonlmfaaGreat.der n C k = 0
    rw [DegLe.alo h v n k hk hd, h.der n k hk hd]; simp
theorem DegLe.dv {n : Nat} : ∀ (vs : List (List Int)) {C : Key → Int} {D : Int}, DegLe C D → DegLe (Dv n vs C) (D - vs.length)
  | [], C, D, h => by simpa [Dv] using h
  | v :: vs, C, D, h => by
    have := DegLe.dv (n := n) vs (h.alo (yat v) n)
    rw [Dv]
    intro k hk hd
    exact this k hk (by simp at hd; omega)
theorem sum3_key {e : List Int} (h : e.length ≤ 3) : sum3 (keyOf e) = e.sum := by
  match e, h with
  | [], _ => rfl
  | [a], _ => simp [sum3, keyOf]
  | [a, b], _ => simp [sum3, keyOf]
  | [a, b, c], _ => simp [sum3, keyOf]; omega
theorem part_deg {n : Nat} {p : List Mon} (hn : n ≤ 3) (hp : partB (n : Int) p = true) : DegLe (cfL p) 3 := by
  intro k hk hd
  unfold cfL coef
  refine sumI_zero (fun m hm => if_neg (fun e => ?_))
  have ho := partB_mem hp hm
  have := ho.deg
  rw [e, sum3_key (by have := ho.len; omega)] at hd
  omega
theorem along_zero {n : Nat} {p : List Mon} {y : List Int} (hn : n ≤ 3) (hp : partB (n : Int) p = true) (vs : List (List Int)) (hv : 3 < vs.length) :
    Val (yat y) (gv (DvM n vs (polF p))) % 10007 = 0 := by
  rw [Val_eqv _ (DvM_gv n vs (polF p))]
  have e : gv (polF p) = cfL p := funext (polF_gv (keys_nd (by omega) hp))
  rw [e]
  have hd := (part_deg hn hp).dv (n := n) vs
  have : Val (yat y) (Dv n vs (cfL p)) = 0 := by
    unfold Val
    refine sumI_zero (fun k hk => ?_)
    have hN := NN.box hk
    obtain ⟨a, b, c⟩ := hN
    rw [hd k (NN.box hk) (by unfold sum3; omega), Int.zero_mul]
  rw [this]; rfl
theorem DvM_snoc (n : Nat) (v : List Int) : ∀ (vs : List (List Int)) (c : Key → Option Int), DvM n (vs ++ [v]) c = aloM v (DvM n vs c) n
  | [], c => rfl
  | u :: vs, c => by rw [List.cons_append, DvM, DvM_snoc n v vs, DvM]
theorem DvM_take {n : Nat} {vs : List (List Int)} {i : Nat} (h : i < vs.length) (c : Key → Option Int) : DvM n (vs.take (i + 1)) c = aloM (vs[i]?.getD []) (DvM n (vs.take i) c) n := by
  rw [List.take_add_one, List.getElem?_eq_getElem h, Option.toList_some, DvM_snoc]; rfl
theorem DvM_kok {n : Nat} (hn : n ≤ 3) : ∀ (vs : List (List Int)) {c : Key → Option Int}, (∀ k x, c k = some x → isN x ∧ KOk n k) → ∀ k x, DvM n vs c k = some x → isN x ∧ KOk n k
  | [], c, h => h
  | v :: vs, c, h => DvM_kok hn vs (aloM_kok hn h n (Nat.le_refl n))
def drvP (y : List Int) (n : Nat) (vs : List (List Int)) (p : List Mon) : Int := if 3 < vs.length then 0 else alongS y n vs p % 10007
def drvL (y : List Int) (n : Nat) (vs : List (List Int)) (f : List (List Mon)) : List Int := f.map (drvP y n vs)
@[simp] theorem drvL_len (y : List Int) (n : Nat) (vs : List (List Int)) (f : List (List Mon)) : (drvL y n vs f).length = f.length := by simp [drvL]
theorem drvL_take {y : List Int} {n : Nat} {vs : List (List Int)} {f : List (List Mon)} {i : Nat} (h : i < f.length) : drvL y n vs (f.take (i + 1)) = drvL y n vs (f.take i) ++ [drvP y n vs (f[i]?.getD [])] := by
  rw [drvL, drvL, List.take_add_one, List.map_append, List.getElem?_eq_getElem h]; rfl
theorem drvP_eq {n : Nat} {p : List Mon} {y : List Int} (hn : n ≤ 3) (hl : y.length = n) (hp : partB (n : Int) p = true) (vs : List (List Int)) :
    Val (yat y) (gv (DvM n vs (polF p))) % 10007 = drvP y n vs p := by
  unfold drvP
  by_cases h : 3 < vs.length
  · rw [if_pos h, along_zero hn hp vs h]
  · rw [if_neg h, along_eq hn hl hp vs]
@[simp] theorem mat_frz (A : List (List Int)) : frzL (mat A) = mat A := by
  induction A with
  | nil => rfl
  | cons r A ih => simp only [mat, List.map_cons, frzL] at ih ⊢; rw [ih]; rfl
def Vecs (n : Nat) (vs : List (List Int)) : Prop := ∀ v ∈ vs, v.length = n ∧ Ns v
set_option maxRecDepth 100000 in
theorem derivativeAt_c (z : Int) (f : List (List Mon)) (y : List Int) (vs : List (List Int)) (hf : FieldOk z f) (hs : Small f) (hy : Ns y) (hl : (y.length : Int) = z) (hv : Vecs y.length vs) (hvl : vs.length ≤ 1048576) :
    Con Tryz.prog 74 [.sl f.length (fpols f), .sl y.length (avs y), .sl vs.length (mat vs)] (.own 2 f.length (avs (drvL y y.length vs f))) := by
  have fl := hs.1
  have z3 := hf.hi
  refine con_of_vc Tryz.mixed ⟨12, [27], [], []⟩ Tryz.func74 (by decide) rfl (by simp) (by decide) (by simp [freshOK, freshL, go_sem]) ?_
  rw [Tryz.ntmps74]
  simp [go_sem]
  refine loop_inv (7 :: 9 :: 11 :: List.range' 15 21) (fun i : Nat => [(7, .own 2 i (avs (drvL y y.length vs (f.take i)))), (15, .int i)]) (fun i => i ≤ f.length) (fun i => f.length - i) 0 (by simp) (by simp [go_sem, drvL]) (by simp [go_sem]) ?_
  intro i hi
  simp [go_sem]
  refine ⟨fun h => ?_, fun h => ?_⟩ <;> simp at h
  · have hif := h
    have hx : f[i]?.getD [] ∈ f := by simp [h]
    have hdl := drvL_take (y := y) (n := y.length) (vs := vs) h
    have hpp : partB (y.length : Int) (f[i]?.getD []) = true := by rw [hl]; exact hf.part _ hx
    have hq : ∀ kk x, polF (f[i]?.getD []) kk = some x → isN x ∧ KOk y.length kk := fun kk x hkx => polF_kok (by omega) hpp hkx
    simp [go_sem, fpols_drop hif]
    refine ⟨⟨hif, by rintro rfl; simp at hif⟩, ?_⟩
    refine loop_inv (9 :: 11 :: List.range' 21 8) (fun j : Nat => [(9, .fmp (DvM y.length (vs.take j) (polF (f[i]?.getD [])))), (21, .int j)]) (fun j => j ≤ vs.length) (fun j => vs.length - j) 0 (by simp) (by simp [go_sem, DvM]) (by simp [go_sem]) ?_
    intro j hj
    simp [go_sem]
    refine ⟨fun h => ?_, fun h => ?_⟩ <;> simp at h
    · have hvm : vs[j]?.getD [] ∈ vs := by simp [h]
      have hvj := hv _ hvm
      have cA := along_c (n := y.length) (DvM y.length (vs.take j) (polF (f[i]?.getD []))) (vs[j]?.getD []) hvj.2 hvj.1 (by omega) (DvM_kok (by omega) _ hq)
      have ht := DvM_take (n := y.length) h (polF (f[i]?.getD []))
      simp [go_sem, mat_drop h]
      refine ⟨⟨h, by rintro rfl; simp at h⟩, ?_⟩
      refine CallVC.of (cA) (by decide) ?_
      simp [go_sem]
      exact ⟨by omega, j + 1, by omega, by omega, Off_reset _ _ _ (by simp), ht.symm, by omega⟩
    · have e : j = vs.length := by omega
      subst e
      have cV := value_c2 (DvM y.length vs (polF (f[i]?.getD []))) y hy (by omega) (DvM_kok (by omega) _ hq)
      rw [drvP_eq (by omega) rfl hpp] at cV
      rw [List.take_length]
      simp [go_sem]
      refine CallVC.of (cV) (by decide) ?_
      simp [go_sem]
      exact ⟨by omega, by omega, i + 1, by omega, by omega, (Off.reset (by intro x hx; simp at hx ⊢; omega) (by simp) (by simp [go_sem, Off_reset])), by rw [hdl]; simp [avs_snoc], by omega⟩
  · simp [go_sem]
    have e : i = f.length := by omega
    subst e; simp
theorem vecB_iff {z : Int} {y : List Int} : vecB z y = true ↔ (y.length : Int) = z ∧ Ns y := by
  unfold vecB; simp [numsB_N]
end Go.Proofs.YtoeikpioonlmfaaGreat


namespace Go.Proofs.YtoeikpioonlmfaaGreat
open Go.Abs
set_option linter.unusedSectionVars false
set_option linter.unusedVariables false
set_option linter.unusedSimpArgs false
set_option maxHeartbeats 1000000
theorem sumTo_dot (f g : Nat → Int) : ∀ n, (∀ i, i < n → f i % 10007 = g i % 10007) → sumTo f n % 10007 = sumTo g n % 10007
  | 0, _ => rfl
  | n + 1, h => by
    have h1 := sumTo_dot f g n (fun i hi => h i (by omega))
    have h2 := h n (by omega)
    simp only [sumTo]
    omega
end Go.Proofs.YtoeikpioonlmfaaGreat


namespace Go.Proofs.YtoeikpioonlmfaaGreat
open Go.Abs CR
set_option linter.unusedSectionVars false
set_option linter.unusedVariables false
set_option linter.unusedSimpArgs false
set_option maxHeartbeats 1000000
theorem pwrI (a : Int) : ∀ n : Nat, pwr a n = a ^ n
  | 0 => by rw [pwr, Int.pow_zero]; rfl
  | n + 1 => by rw [pwr, pwrI a n, Int.pow_succ]
theorem tmF_mon (y e : List Int) (x : Int) : ∀ i, tmF y e x i % 10007 = x * mon (yat y) (ex e) i % 10007
  | 0 => by show x % 10007 = x * 1 % 10007; rw [Int.mul_one]
  | i + 1 => by
    have ih := tmF_mon y e x i
    show tmF y e x i * pw (yat y i) (e[i]?.getD 0) % 10007 % 10007 = x * (mon (yat y) (ex e) i * pwr (yat y i) (ex e i)) % 10007
    rw [Int.emod_emod_of_dvd _ (Int.dvd_refl _), pwrI, ← Int.mul_assoc]
    unfold pw
    rw [mod_mul_r]
    show tmF y e x i * yat y i ^ (ex e i) % 10007 = _
    rw [Int.mul_emod, ih, ← Int.mul_emod]
theorem vsum_ev (y : List Int) : ∀ L : List Mon, vsum y L % 10007 = evM y.length (yat y) L % 10007
  | [] => rfl
  | m :: L => by
    have h1 := tmF_mon y m.2 m.1 y.length
    have h2 := vsum_ev y L
    rw [evM_cons]
    show (tmF y m.2 m.1 y.length + vsum y L) % 10007 = (m.1 * mon (yat y) (ex m.2) y.length + evM y.length (yat y) L) % 10007
    generalize m.1 * mon (yat y) (ex m.2) y.length = t at *
    omega
theorem sT_sumTo (f : Nat → Int) : ∀ n, sT f n = sumTo f n
  | 0 => rfl
  | n + 1 => by rw [sT, sT_sumTo f n]; rfl
theorem drvL_at {y : List Int} {vs : List (List Int)} {f : List (List Mon)} {n i : Nat} (h : i < f.length) : (drvL y n vs f)[i]?.getD 0 = drvP y n vs (f[i]?.getD []) := by simp [drvL, h]
theorem plusL_keys {k : Int} : ∀ (q p : List Mon), ∀ x ∈ plusL p k q, (∃ m ∈ p, x.2 = m.2) ∨ ∃ m ∈ q, x.2 = m.2
  | [], p, x, h => .inl ⟨x, h, rfl⟩
  | m :: q, p, x, h => by
    rcases plusL_keys q _ x h with ⟨a, ha, e⟩ | ⟨a, ha, e⟩
    · rcases putGo_keys p _ a ha with ⟨b, hb, e2⟩ | ⟨_, e2⟩
      · exact .inl ⟨b, hb, e.trans e2⟩
      · exact .inr ⟨m, by simp, e.trans e2⟩
    · exact .inr ⟨a, by simp [ha], e⟩
theorem list_half {n : Nat} (hn : n ≤ 3) {a b : List Mon} (la : ∀ m ∈ a, m.2.length = n) (lb : ∀ m ∈ b, m.2.length = n) (sa : Srt a) (sb : Srt b) (na : Nzl a) (nb : Nzl b) (h : ∀ K, cfL a K % 10007 = cfL b K % 10007) : ∀ m ∈ a, m ∈ b := by
  intro m hm
  have h1 := cfL_at hn la sa m hm
  have h2 := na m hm
  have h3 := h (keyOf m.2)
  have h4 : cfL b (keyOf m.2) ≠ 0 := by intro e; rw [h1, e] at h3; omega
  obtain ⟨m', hm', e⟩ := cfL_key h4
  have e2 := keyOf_inj (by rw [la m hm, lb m' hm']) (by rw [lb m' hm']; exact hn) e
  have h5 := cfL_at hn lb sb m' hm'
  have h6 := nb m' hm'
  rw [e] at h5
  have e3 : m' = m := Prod.ext (by omega) e2
  rw [← e3]; exact hm'
theorem srt_nodup {a : List Mon} (h : Srt a) : a.Nodup := h.imp (fun {x y} h e => by rw [e, ltL_irr] at h; simp at h)
theorem list_unique {n : Nat} (hn : n ≤ 3) {a b : List Mon} (la : ∀ m ∈ a, m.2.length = n) (lb : ∀ m ∈ b, m.2.length = n) (sa : Srt a) (sb : Srt b) (na : Nzl a) (nb : Nzl b) (h : ∀ K, cfL a K % 10007 = cfL b K % 10007) : a = b := by
  have hp : a.Perm b := (List.perm_ext_iff_of_nodup (srt_nodup sa) (srt_nodup sb)).2 fun m => ⟨list_half hn la lb sa sb na nb h m, list_half hn lb la sb sa nb na (fun K => (h K).symm) m⟩
  refine hp.eq_of_pairwise (fun x y hx hy h1 h2 => ?_) sa sb
  have := ltL_trans h1 h2
  rw [ltL_irr] at this; simp at this
end Go.Proofs.YtoeikpioonlmfaaGreat


namespace Go.Proofs.YtoeikpioonlmfaaGreat
open Go.Abs CR
set_option linter.unusedSectionVars false
set_option linter.unusedVariables false
set_option linter.unusedSimpArgs false
set_option maxHeartbeats 1000000
section
variable {α : Type} [CR α]
theorem ev1_at0 (d k : Nat) (U : Nat → Ser α) : ∀ L : List Trm, (ev1 d k U L) 0 = ev1 d k (fun j => U j 0) L
  | [] => rfl
  | m :: L => by
    have : ev1 d k U (m :: L) = ofI (m.1 * (m.2 k : Int)) * mon U (dx k m.2) d + ev1 d k U L := rfl
    rw [this, ser_add, mul_at0, ser_of0, mon_at0, ev1_at0 d k U L]; rfl
theorem sT_at (f : Nat → Ser α) (n : Nat) : ∀ d, (sT f d) n = sT (fun k => f k n) d
  | 0 => by cases n <;> rfl
  | d + 1 => by rw [sT, ser_add, sT_at f n d]; rfl
theorem of_mul_at (k : Int) (a : Ser α) (n : Nat) : (ofI k * a : Ser α) n = ofI k * a n := by
  show cmul n (sOf k) a = _
  rw [cmul_comm, cmul_of, mulC]
theorem sT_of (f : Nat → Int) : ∀ d, sT (fun k => (ofI (f k) : α)) d = ofI (sT f d)
  | 0 => rfl
  | d + 1 => by rw [sT, sT_of f d, sT]; exact (ofAdd _ _).symm
def lin (u : α) (v : Int) : Ser α := fun n => if n = 0 then u else if n = 1 then ofI v else ofI 0
theorem evM_dir (d : Nat) (U : Nat → α) (v : Nat → Int) (p : List Mon) : (evM d (fun j => lin (U j) (v j)) p) 1 = sT (fun k => ofI (v k) * evM1 d k U p) d := by
  have h := congrFun (sh_th_ev d (fun j => lin (U j) (v j)) (p.map tr)) 0
  have e1 : sh (th (ev d (fun j => lin (U j) (v j)) (p.map tr))) 0 = (evM d (fun j => lin (U j) (v j)) p) 1 := omul _
  rw [← e1, h, sT_at]
  refine sT_congr fun k hk => ?_
  rw [mul_at0, ev1_at0]
  have e2 : sh (th (lin (U k) (v k))) 0 = ofI (v k) := omul _
  rw [e2, mulC]; rfl
end
abbrev Pol : Type 1 := (α : Type) → [CR α] → (Nat → α) → α
def polM (d : Nat) (p : List Mon) : Pol := fun α [CR α] U => evM d U p
def dP (v : Nat → Int) (F : Pol) : Pol := fun α [CR α] U => F (Ser α) (fun j => lin (U j) (v j)) 1
def DD : List (Nat → Int) → Pol → Pol
  | [], F => F
  | v :: vs, F => DD vs (dP v F)
def Alk (F G : Pol) : Prop := ∀ (α : Type) [CR α] (c : Cg α) (U : Nat → α), c.r (F α U) (G α U)
theorem Alk.dP {F G : Pol} (h : Alk F G) (v : Nat → Int) : Alk (dP v F) (dP v G) := fun α _ c U => h (Ser α) (cgS c 2) (fun j => lin (U j) (v j)) 1 (by omega)
theorem Alk.DD : ∀ (vs : List (Nat → Int)) {F G : Pol}, Alk F G → Alk (DD vs F) (DD vs G)
  | [], _, _, h => h
  | v :: vs, _, _, h => Alk.DD vs (h.dP v)
def sumP (d : Nat) (v : Nat → Int) (F : Nat → Pol) : Pol := fun α [CR α] U => sT (fun k => ofI (v k) * F k α U) d
theorem dP_polM {d : Nat} {p : List Mon} (hp : LOk d p) (v : Nat → Int) : Alk (dP v (polM d p)) (sumP d v fun k => polM d (derL k p)) := fun α _ c U => by
  refine c.trans (c.eq (evM_dir d U v p)) (c.sT fun k hk => c.mul (c.refl _) (c.symm (derL_ev c d U hk hp)))
theorem dP_sumP (w : Nat → Int) (d : Nat) (v : Nat → Int) (F : Nat → Pol) : dP w (sumP d v F) = sumP d v fun k => dP w (F k) := by
  funext α i U
  show (sT (fun k => (ofI (v k) : Ser α) * F k (Ser α) (fun j => lin (U j) (w j))) d) 1 = _
  rw [sT_at]
  exact sT_congr fun k hk => of_mul_at _ _ _
theorem DD_sumP : ∀ (vs : List (Nat → Int)) (d : Nat) (v : Nat → Int) (F : Nat → Pol), DD vs (sumP d v F) = sumP d v fun k => DD vs (F k)
  | [], _, _, _ => rfl
  | w :: vs, d, v, F => by rw [DD, dP_sumP, DD_sumP vs]; rfl
theorem alongS_DD {y : List Int} : ∀ (vs : List (List Int)) (p : List Mon), LOk y.length p → alongS y y.length vs p % 10007 = DD (vs.map yat) (polM y.length p) Int (yat y) % 10007
  | [], p, _ => vsum_ev y p
  | v :: vs, p, hp => by
    have h := Alk.DD (vs.map yat) (dP_polM hp (yat v)) Int cgI (yat y)
    rw [DD_sumP] at h
    have h : DD (vs.map yat) (dP (yat v) (polM y.length p)) Int (yat y) % 10007 = sT (fun k => yat v k * DD (vs.map yat) (polM y.length (derL k p)) Int (yat y)) y.length % 10007 := h
    show sumTo (fun k => yat v k * alongS y y.length vs (derL k p)) y.length % 10007 = DD (vs.map yat) (dP (yat v) (polM y.length p)) Int (yat y) % 10007
    rw [h, sT_sumTo]
    exact sumTo_dot _ _ _ fun k hk => mod_mul _ (alongS_DD vs (derL k p) (derGo_lok hk p [] hp (by intro m hm; simp at hm)))
def lf (d : Nat) (M : Nat → Nat → Int) {α : Type} [CR α] (U : Nat → α) : Nat → α := fun j => sT (fun k => ofI (M j k) * U k) d
def mv (d : Nat) (M : Nat → Nat → Int) (v : Nat → Int) : Nat → Int := fun j => sT (fun k => M j k * v k) d
def cmpP (d : Nat) (M : Nat → Nat → Int) (F : Pol) : Pol := fun α [CR α] U => F α (lf d M U)
theorem lf_lin {α : Type} [CR α] (d : Nat) (M : Nat → Nat → Int) (U : Nat → α) (v : Nat → Int) : lf d M (fun k => lin (U k) (v k)) = fun j => lin (lf d M U j) (mv d M v j) := by
  funext j n
  show (sT (fun k => (ofI (M j k) : Ser α) * lin (U k) (v k)) d) n = _
  rw [sT_at]
  have e : sT (fun k => ((ofI (M j k) : Ser α) * lin (U k) (v k)) n) d = sT (fun k => ofI (M j k) * lin (U k) (v k) n) d := sT_congr fun k _ => of_mul_at _ _ _
  rw [e]
  match n with
  | 0 => rfl
  | 1 =>
    show sT (fun k => ofI (M j k) * ofI (v k)) d = ofI (sT (fun k => M j k * v k) d)
    rw [← sT_of]
    exact sT_congr fun k _ => (ofMul _ _).symm
  | n + 2 =>
    show sT (fun k => ofI (M j k) * ofI 0) d = ofI 0
    rw [sT_congr (g := fun _ => ofI 0) (fun k _ => mul0 _), sT_zero]
theorem dP_cmpP (v : Nat → Int) (d : Nat) (M : Nat → Nat → Int) (F : Pol) : dP v (cmpP d M F) = cmpP d M (dP (mv d M v) F) := by
  funext α i U
  show F (Ser α) (lf d M (fun k => lin (U k) (v k))) 1 = F (Ser α) (fun j => lin (lf d M U j) (mv d M v j)) 1
  rw [lf_lin]
theorem DD_cmpP (d : Nat) (M : Nat → Nat → Int) : ∀ (vs : List (Nat → Int)) (F : Pol), DD vs (cmpP d M F) = cmpP d M (DD (vs.map (mv d M)) F)
  | [], _ => rfl
  | v :: vs, F => by rw [DD, dP_cmpP, DD_cmpP d M vs]; rfl
def Rsp (d : Nat) (F : Pol) : Prop := ∀ (α : Type) [CR α] (c : Cg α) (U V : Nat → α), (∀ k, k < d → c.r (U k) (V k)) → c.r (F α U) (F α V)
theorem polM_rsp (d : Nat) (p : List Mon) : Rsp d (polM d p) := fun α _ c U V h => c.ev h _
theorem lin_cg {α : Type} [CR α] (c : Cg α) {u u' : α} {v v' : Int} (h : c.r u u') (h2 : v % 10007 = v' % 10007) : (cgS c 2).r (lin u v) (lin u' v') := fun n hn => by
  match n with
  | 0 => exact h
  | 1 => exact c.of h2
  | n + 2 => omega
theorem dP_rsp {d : Nat} {F : Pol} (hF : Rsp d F) {v v' : Nat → Int} (hv : ∀ k, k < d → v k % 10007 = v' k % 10007) (α : Type) [CR α] (c : Cg α) (U V : Nat → α) (h : ∀ k, k < d → c.r (U k) (V k)) : c.r (dP v F α U) (dP v' F α V) :=
  hF (Ser α) (cgS c 2) _ _ (fun k hk => lin_cg c (h k hk) (hv k hk)) 1 (by omega)
theorem Rsp.dP {d : Nat} {F : Pol} (hF : Rsp d F) (v : Nat → Int) : Rsp d (dP v F) := fun α _ c U V h => dP_rsp hF (fun _ _ => rfl) α c U V h
theorem DD_rsp {d : Nat} : ∀ {vs vs' : List (Nat → Int)} {F G : Pol}, Rsp d F → Rsp d G → Alk F G → vs.length = vs'.length → (∀ (i k : Nat), k < d → (vs[i]?.getD fun _ => 0) k % 10007 = (vs'[i]?.getD fun _ => 0) k % 10007) →
    ∀ (α : Type) [CR α] (c : Cg α) (U V : Nat → α), (∀ k, k < d → c.r (U k) (V k)) → c.r (DD vs F α U) (DD vs' G α V)
  | [], [], F, G, hF, hG, hA, _, _, α, _, c, U, V, h => c.trans (hF α c U V h) (hA α c V)
  | v :: vs, [], _, _, _, _, _, hl, _, _, _, _, _, _, _ => by simp at hl
  | [], v :: vs, _, _, _, _, _, hl, _, _, _, _, _, _, _ => by simp at hl
  | v :: vs, v' :: vs', F, G, hF, hG, hA, hl, hv, α, _, c, U, V, h =>
    DD_rsp (hF.dP v) (hG.dP v') (fun β _ c W => c.trans (dP_rsp hF (fun k hk => hv 0 k hk) β c W W fun _ _ => c.refl _) (hA.dP v' β c W)) (by simpa using hl) (fun i k hk => by simpa using hv (i + 1) k hk) α c U V h
end Go.Proofs.YtoeikpioonlmfaaGreat


namespace Go.Proofs.YtoeikpioonlmfaaGreat
open Go.Abs
set_option linter.unusedSectionVars false
set_option linter.unusedVariables false
set_option linter.unusedSimpArgs false
set_option maxHeartbeats 1000000
theorem nF {P : Program} {f : FuncId} {args : List AV} {x z : AV} (e : TypeId) (h : Con P f args (.tup [.agg [z, .val (.slice none 0 0)], x])) : Con P f args (.tup [.agg [z, .own e 0 []], x]) := by
  refine ⟨h.1, fun w vs hl ha => (h.2 w vs hl ha).mono ?_⟩
  rintro e' w' ⟨v, os, he, hb, hr, hn, ho⟩
  refine ⟨v, os, he, hb, fun tm oss => ?_, hn, ho⟩
  have := hr tm oss
  generalize hc : AV.tup [.agg [z, .val (.slice none 0 0)], x] = c at this
  cases this with
  | cell c v os h => subst hc; cases h
  | tup cs' vs os hl h =>
    injection hc with hc; subst hc
    refine .tup _ _ _ hl ?_
    cases h with
    | cons _ v1 o1 _ vs1 o2 k1 k2 =>
      refine .cons _ _ _ _ _ _ ?_ k2
      generalize hc2 : AV.agg [z, .val (.slice none 0 0)] = c2 at k1
      cases k1 with
      | cell c v os h => subst hc2; cases h
      | agg cs2 vs2 os2 hl2 h2 =>
        injection hc2 with hc2; subst hc2
        exact .agg _ _ _ hl2 ((WkL.same _ _ _ (.own e _ _ .nil)).rep h2)
      | _ => simp at hc2
  | _ => simp at hc
theorem partSrt {z : Int} {p : List Mon} (h : partB z p = true) : Srt p ∧ Nzl p := by
  refine ⟨?_, fun m hm => ?_⟩
  · unfold Srt
    rw [List.pairwise_iff_getElem]
    intro i j hi hj hij
    have := chain_lt h hij hj
    simpa [hi, hj] using this
  · have := partB_mem h hm
    exact ⟨this.lo, this.hi⟩
end Go.Proofs.YtoeikpioonlmfaaGreat


namespace Go.Proofs.YtoeikpioonlmfaaGreat
open Go.Abs
set_option linter.unusedSectionVars false
set_option linter.unusedVariables false
set_option linter.unusedSimpArgs false
set_option maxHeartbeats 1000000
theorem mps_frz : ∀ cs : List (Key → Option Int), frzL (cs.map AV.mp) = cs.map AV.fmp
  | [] => rfl
  | c :: cs => by rw [List.map_cons, frzL, mps_frz cs]; rfl
end Go.Proofs.YtoeikpioonlmfaaGreat


namespace Go.Proofs.YtoeikpioonlmfaaGreat
open Go.Abs
set_option linter.unusedSectionVars false
set_option linter.unusedVariables false
set_option linter.unusedSimpArgs false
set_option maxHeartbeats 1000000
end Go.Proofs.YtoeikpioonlmfaaGreat


namespace Go.Proofs.YtoeikpioonlmfaaGreat
open Go.Abs
set_option linter.unusedSectionVars false
set_option linter.unusedVariables false
set_option linter.unusedSimpArgs false
set_option maxHeartbeats 1000000
end Go.Proofs.YtoeikpioonlmfaaGreat


namespace Go.Proofs.YtoeikpioonlmfaaGreat
open Go.Abs
set_option linter.unusedSectionVars false
set_option linter.unusedVariables false
set_option linter.unusedSimpArgs false
set_option maxHeartbeats 1000000
end Go.Proofs.YtoeikpioonlmfaaGreat


namespace Go.Proofs.YtoeikpioonlmfaaGreat
open Go.Abs
set_option linter.unusedSectionVars false
set_option linter.unusedVariables false
set_option linter.unusedSimpArgs false
set_option maxHeartbeats 1000000
end Go.Proofs.YtoeikpioonlmfaaGreat


namespace Go.Proofs.YtoeikpioonlmfaaGreat
open Go.Abs
set_option linter.unusedSectionVars false
set_option linter.unusedVariables false
set_option linter.unusedSimpArgs false
set_option maxHeartbeats 4000000
end Go.Proofs.YtoeikpioonlmfaaGreat


namespace Go.Proofs.YtoeikpioonlmfaaGreat
open Go.Abs
set_option linter.unusedSectionVars false
set_option linter.unusedVariables false
set_option linter.unusedSimpArgs false
set_option maxHeartbeats 4000000
set_option maxRecDepth 100000 in
theorem isLevelList_c (t : List Int) (hl : t.length ≤ 1048576) : Con Tryz.prog 160 [.sl t.length (avs t)] (.bool (lv0 t)) := by
  refine con_of_vc Tryz.mixed ⟨5, [], [], []⟩ Tryz.func160 (by decide) rfl (by simp) (by decide) (by simp [freshOK, freshL, go_sem]) ?_
  rw [Tryz.ntmps160]
  simp [go_sem]
  refine loop_inv (2 :: 3 :: 4 :: List.range' 7 27) (fun i : Nat => [(7, .int i)]) (fun i => i ≤ t.length ∧ (0 < i → t[0]?.getD 0 = 0) ∧ ∀ j, 0 < j → j < i → okB t j = true) (fun i => t.length - i) 0 (by simp) (by simp [go_sem]) (by simp [go_sem]) ?_
  rintro i ⟨hi, h0, hp⟩
  simp [go_sem]
  refine ⟨fun h => ?_, fun h => ?_⟩ <;> simp at h
  · have hif := h
    by_cases hz : i = 0
    · have q1 : (i = 0) = True := eq_true hz
      have q2 : ((i : Int) = 0) = True := eq_true (by omega)
      have q3 : (0 < i) = False := eq_false (by omega)
      have q4 : ((0 : Int) < i) = False := eq_false (by omega)
      have h0t : t[0]?.getD 0 = t[i]?.getD 0 := by rw [hz]
      by_cases h00 : t[i]?.getD 0 = 0
      · simp -implicitDefEqProofs [go_sem, q1, q2, q3, q4, avs_drop hif, h00]
        refine ⟨⟨hif, by rintro rfl; simp at hif⟩, ?_⟩
        exact ⟨by omega, i + 1, ⟨by omega, fun _ => by rw [h0t]; exact h00, fun j h1 h2 => by omega⟩, by omega, Off_reset _ _ _ (by simp), by omega⟩
      · simp -implicitDefEqProofs [go_sem, q1, q2, q3, q4, avs_drop hif, h00]
        refine ⟨⟨hif, by rintro rfl; simp at hif⟩, ?_⟩
        rw [lv0_t0 (by rw [h0t]; exact h00)]
    · have hz' : (0 : Int) < i := by omega
      have hz2 : ¬ (i : Int) = 0 := by omega
      have hzp : 0 < i := by omega
      have ek : (i : Int) - 1 = ((i - 1 : Nat) : Int) := by omega
      have hk : i - 1 < t.length := by omega
      have hle := ok_le (h0 hzp) hp (i - 1) (by omega)
      have cI := inRange_c (t[i]?.getD 0) 1 (t[i - 1]?.getD 0 + 1)
      have hok : okB t i = (decide (1 ≤ t[i]?.getD 0) && decide (t[i]?.getD 0 ≤ t[i - 1]?.getD 0 + 1)) := rfl
      rw [← hok] at cI
      simp [go_sem, avs_drop hif, hz, hz2, hzp, hz', ek, avs_drop hk]
      refine ⟨⟨hif, by rintro rfl; simp at hif⟩, by omega, ⟨hk, by rintro rfl; simp at hif⟩, ⟨by omega, by omega⟩, ?_⟩
      cases hb : okB t i with
      | true =>
        rw [hb] at cI
        refine CallVC.of (cI) (by decide) ?_
        simp [go_sem]
        refine ⟨by omega, i + 1, ⟨by omega, fun _ => h0 hzp, fun j h1 h2 => ?_⟩, by omega, Off_reset _ _ _ (by simp), by omega⟩
        by_cases e : j = i
        · rw [e]; exact hb
        · exact hp j h1 (by omega)
      | false =>
        rw [hb] at cI
        refine CallVC.of (cI) (by decide) ?_
        simp [go_sem]
        rw [lv0_no hif hzp hb]
  · simp [go_sem]
    by_cases hz : 0 < t.length
    · rw [lv0_yes hz (h0 (by omega)) (fun j h1 h2 => hp j h1 (by omega)), decide_eq_true hz]
    · unfold lv0; rw [decide_eq_false hz]; rfl
theorem IsLevels_c (t : List Int) (hl : t.length ≤ 1048576) : Con Tryz.prog 93 [.sl t.length (avs t)] (.bool (lvB t)) := by
  unfold lvB
  have cI := isLevelList_c t hl
  refine con_of_vc Tryz.mixed ⟨3, [], [], []⟩ Tryz.func93 (by decide) rfl (by simp) (by decide) (by simp [freshOK, freshL, go_sem]) ?_
  rw [Tryz.ntmps93]
  simp [go_sem]
  by_cases h8 : t.length ≤ 8
  · have h8' : (t.length : Int) ≤ 8 := by omega
    simp [go_sem, h8, h8']
    refine CallVC.of (cI) (by decide) ?_
    simp [go_sem]
  · have h8' : ¬ (t.length : Int) ≤ 8 := by omega
    simp [go_sem, h8, h8']
end Go.Proofs.YtoeikpioonlmfaaGreat


namespace Go.Proofs.YtoeikpioonlmfaaGreat
open Go.Abs
set_option linter.unusedSectionVars false
set_option linter.unusedVariables false
set_option linter.unusedSimpArgs false
set_option maxHeartbeats 4000000
theorem omat_set (A : List (List Int)) (k : Nat) (l : List Int) : (omat A).set k (.own 2 l.length (avs l)) = omat (A.set k l) := by
  simp [omat, List.map_set]
theorem omat_last {A : List (List Int)} (h : A ≠ []) : (omat A)[A.length - 1]? = some (.own 2 (A[A.length - 1]?.getD []).length (avs (A[A.length - 1]?.getD []))) := by
  have hl : A.length - 1 < A.length := by have := List.length_pos_iff.2 h; omega
  simp [omat, hl]
theorem brStep_one (A : List (List Int)) : brStep A 1 = A ++ [[0]] := by
  unfold brStep
  simp only [if_true]
  rw [List.set_append_right _ _ (by simp), List.getElem?_append_right (by simp)]
  simp
theorem brStep_more {A : List (List Int)} {x : Int} (h : x ≠ 1) : brStep A x = A.set (A.length - 1) (A[A.length - 1]?.getD [] ++ [x - 1]) := by
  unfold brStep; simp only [if_neg h]
set_option maxRecDepth 100000 in
theorem branchesOf_c (t : List Int) (hl : t.length ≤ 1048576) (ht : Lv t) : Con Tryz.prog 161 [.sl t.length (avs t)] (.own 35 (brs t).length (omat (brs t))) := by
  have ht1 := ht.1
  have ed : List.take (t.length - 1) (List.drop 1 (avs t)) = avs (t.drop 1) := by
    rw [List.take_of_length_le (by simp)]; simp [avs]
  refine con_of_vc Tryz.mixed ⟨6, [], [], []⟩ Tryz.func161 (by decide) rfl (by simp) (by decide) (by simp [freshOK, freshL, go_sem]) ?_
  rw [Tryz.ntmps161]
  simp [go_sem]
  refine ⟨by omega, ?_⟩
  refine loop_inv (3 :: 5 :: List.range' 10 25) (fun i : Nat => [(3, .own 35 (brs (t.take (i + 1))).length (omat (brs (t.take (i + 1))))), (10, .int i)]) (fun i => i + 1 ≤ t.length) (fun i => t.length - i) 0 (by omega) (by simp [go_sem]; cases t <;> simp [brs, brGo, omat_nil]) (by simp [go_sem]) ?_
  rintro i hi
  simp [go_sem]
  refine ⟨fun h => ?_, fun h => ?_⟩ <;> simp at h
  · have hif : i + 1 < t.length := by omega
    have hda : List.drop i (List.take (t.length - 1) (avs t).tail) = .val (.int .i64 (t[i + 1]?.getD 0)) :: avs (t.drop (i + 2)) := by
      rw [List.take_of_length_le (by simp), ← List.drop_one, List.drop_drop, Nat.add_comm 1 i, avs_drop hif]; simp
    have hnn : ¬ (avs t).tail = [] := fun e => by have := congrArg List.length e; simp at this; omega
    have hn1 : ¬ t.length - 1 = 0 := by omega
    have hn2 : i < t.length - 1 := by omega
    have hb := brs_take (i := i + 1) (by omega) hif
    have hm := brs_many ht (i := i + 1) (by omega) (by omega)
    have hi2 := brs_i ht (i + 1) (by omega) (by omega)
    have hok := ht.2.2 (i + 1) (by omega) hif
    have hle := ht.le (i + 1) hif
    by_cases hx : t[i + 1]?.getD 0 = 1
    · rw [hx, brStep_one] at hb
      have e1 : (brs (t.take (i + 1))).length + 1 = (brs (t.take (i + 1 + 1))).length := by rw [hb]; simp
      have e2 : omat (brs (t.take (i + 1))) ++ [AV.own 2 1 [AV.val (Value.int IntKind.i64 0)]] = omat (brs (t.take (i + 1 + 1))) := by rw [hb, omat_app, omat_one]; rfl
      simp [go_sem, hda, hnn, hn1, hn2, hx]
      exact ⟨⟨by omega, by omega⟩, by omega, by omega, by omega, i + 1, by omega, by omega, Off_reset _ _ _ (by simp), ⟨e1, e2⟩, by omega⟩
    · have hne := brs_ne ht (i := i + 1) (by omega) hif hx
      have hla := omat_last hne
      rw [brStep_more hx] at hb
      generalize hO : brs (t.take (i + 1)) = O at *
      have hOl : 1 ≤ O.length := List.length_pos_iff.2 hne
      have hlen : (O[O.length - 1]?.getD []).length ≤ 1048576 := by
        have := sumN_mem (l := O) (b := O[O.length - 1]?.getD []) (by simp [show O.length - 1 < O.length by omega])
        have := hi2.2.1
        omega
      have hsn := omat_set O (O.length - 1) (O[O.length - 1]?.getD [] ++ [t[i + 1]?.getD 0 - 1])
      rw [← hb] at hsn
      generalize O[O.length - 1]?.getD [] = l at *
      have e1 : O.length = (brs (t.take (i + 1 + 1))).length := by rw [hb]; simp
      rw [avs_snoc, List.length_append, List.length_singleton] at hsn
      simp [go_sem, hda, hnn, hn1, hn2, hx, hla]
      repeat' apply And.intro
      all_goals first
        | omega
        | exact ⟨i + 1, by omega, by omega, Off_reset _ _ _ (by simp), ⟨e1, hsn⟩, by omega⟩
  · simp [go_sem]
    have e : t.take (i + 1) = t := List.take_of_length_le (by omega)
    rw [e]
    simp
end Go.Proofs.YtoeikpioonlmfaaGreat


namespace Go.Proofs.YtoeikpioonlmfaaGreat
open Go.Abs
set_option linter.unusedSectionVars false
set_option linter.unusedVariables false
set_option linter.unusedSimpArgs false
set_option maxHeartbeats 4000000
def edF (f : List (List Mon)) (y : List Int) : Nat → List Int → List Int
  | 0, _ => []
  | n + 1, t => drvL y y.length ((brs t).map (edF f y n)) f
theorem edF_len {f : List (List Mon)} {y : List Int} {n : Nat} (h : 0 < n) (t : List Int) : (edF f y n t).length = f.length := by
  cases n with
  | zero => omega
  | succ n => simp [edF]
theorem drvL_N (y : List Int) (n : Nat) (vs : List (List Int)) (f : List (List Mon)) : Ns (drvL y n vs f) := by
  intro x hx
  obtain ⟨p, _, rfl⟩ := List.mem_map.1 hx
  unfold drvP
  split
  · exact ⟨by omega, by omega⟩
  · exact isN_mod _
theorem edF_N {f : List (List Mon)} {y : List Int} {n : Nat} (t : List Int) : Ns (edF f y n t) := by
  cases n with
  | zero => intro x hx; simp [edF] at hx
  | succ n => exact drvL_N _ _ _ _
theorem edF_vecs {f : List (List Mon)} {y : List Int} {m : Nat} {t : List Int} (ht : Lv t) (hm : t.length ≤ m + 1) (hl : f.length = y.length) : Vecs y.length ((brs t).map (edF f y m)) := by
  intro v hv
  obtain ⟨b, hb, rfl⟩ := List.mem_map.1 hv
  obtain ⟨h1, h2⟩ := brs_ok ht hb
  have h3 := h1.1
  exact ⟨by rw [edF_len (by omega), hl], edF_N b⟩
theorem brs_cnt {t : List Int} (h : Lv t) : (brs t).length < t.length := by
  have h1 := h.1
  have := brs_many h (i := t.length) (by omega) (by omega)
  rwa [List.take_length] at this
theorem omat_take (A : List (List Int)) (i : Nat) (h : i < A.length) : omat (A.take (i + 1)) = omat (A.take i) ++ [.own 2 (A[i]?.getD []).length (avs (A[i]?.getD []))] := by
  rw [List.take_add_one, omat_app]; simp [h, omat]
set_option maxRecDepth 100000 in
theorem differential_c (z : Int) (f : List (List Mon)) (y : List Int) (hf : FieldOk z f) (hs : Small f) (hy : Ns y) (hl : (y.length : Int) = z) :
    ∀ (n : Nat) (t : List Int), Lv t → t.length ≤ n → t.length ≤ 1048576 → Con Tryz.prog 95 [.sl f.length (fpols f), .sl t.length (avs t), .sl y.length (avs y)] (.own 2 f.length (avs (edF f y n t))) := by
  intro n
  induction n with
  | zero => intro t ht hn; have := ht.1; omega
  | succ m ih =>
    intro t ht hn ht2
    have fl := hs.1
    have z3 := hf.hi
    have hfl := hf.len
    have hcnt := brs_cnt ht
    have hV := edF_vecs (f := f) (y := y) ht hn (by omega)
    have cD := derivativeAt_c z f y ((brs t).map (edF f y m)) hf hs hy hl hV (by simp; omega)
    rw [List.length_map] at cD
    refine con_of_vc Tryz.mixed ⟨10, [12], [], []⟩ Tryz.func95 (by decide) rfl (by simp) (by decide) (by simp [freshOK, freshL, go_sem]) ?_
    rw [Tryz.ntmps95]
    simp [go_sem]
    refine CallVC.of (branchesOf_c t ht2 ht) (by decide) ?_
    simp [go_sem]
    refine loop_inv (7 :: 9 :: List.range' 14 12) (fun i : Nat => [(7, .own 35 i (omat (((brs t).map (edF f y m)).take i))), (14, .int i)]) (fun i => i ≤ (brs t).length) (fun i => (brs t).length - i) 0 (by simp) (by simp [go_sem, omat_nil]) (by simp [go_sem]) ?_
    intro i hi
    simp [go_sem]
    refine ⟨fun h => ?_, fun h => ?_⟩ <;> simp at h
    · have hb : (brs t)[i]?.getD [] ∈ brs t := by simp [h]
      obtain ⟨h1, h2⟩ := brs_ok ht hb
      have h3 := h1.1
      have cI := ih ((brs t)[i]?.getD []) h1 (by omega) (by omega)
      have hlen := edF_len (f := f) (y := y) (n := m) (by omega) ((brs t)[i]?.getD [])
      have ho := omat_take ((brs t).map (edF f y m)) i (by simpa using h)
      have he : ((brs t).map (edF f y m))[i]?.getD [] = edF f y m ((brs t)[i]?.getD []) := by simp [h]
      rw [he, hlen] at ho
      simp [go_sem, mat_drop h]
      refine ⟨⟨h, fun e => by rw [e] at h; simp at h⟩, ?_⟩
      refine CallVC.of (cI) (by decide) ?_
      simp [go_sem]
      exact ⟨⟨by omega, by omega⟩, by omega, i + 1, by omega, by omega, Off_reset _ _ _ (by simp), ⟨rfl, ho.symm⟩, by omega⟩
    · have e : i = (brs t).length := by omega
      subst e
      rw [List.take_of_length_le (by simp)]
      simp [go_sem]
      refine CallVC.of (cD) (by decide) ?_
      simp [go_sem]
      rfl
def elX (z : Int) (f : List (List Mon)) (t y : List Int) : List Int := if (fieldB z f && lvB t) = true ∧ vecB z y = true then edF f y t.length t else []
def elE (z : Int) (f : List (List Mon)) (t y : List Int) : Int := if (fieldB z f && lvB t) = true then if vecB z y = true then 0 else 2 else 1
def elR (z : Int) (f : List (List Mon)) (t y : List Int) : AV := .tup [.own 2 (elX z f t y).length (avs (elX z f t y)), .int (elE z f t y)]
set_option maxRecDepth 100000 in
theorem ElementaryDifferential_c (z : Int) (f : List (List Mon)) (t y : List Int) (hs : Small f) (ht : t.length ≤ 1048576) (hy : y.length ≤ 1048576) :
    Con Tryz.prog 37 [.agg [.int z, .sl f.length (prt f)], .sl t.length (avs t), .sl y.length (avs y)] (elR z f t y) := by
  have cT := IsField_c z f hs
  have cL := IsLevels_c t ht
  have cR := isVector_c z f.length (prt f) y (by omega)
  unfold elR elX elE
  cases hT : fieldB z f with
  | false =>
    rw [hT] at cT
    refine Con.n1 _ ?_
    refine con_of_vc Tryz.mixed ⟨9, [], [], []⟩ Tryz.func37 (by decide) rfl (by simp) (by decide) (by simp [freshOK, freshL, go_sem]) ?_
    rw [Tryz.ntmps37]
    simp [go_sem]
    refine CallVC.of (cT) (by decide) ?_
    simp [go_sem]
  | true =>
    rw [hT] at cT
    cases hL : lvB t with
    | false =>
      rw [hL] at cL
      refine Con.n1 _ ?_
      refine con_of_vc Tryz.mixed ⟨9, [], [], []⟩ Tryz.func37 (by decide) rfl (by simp) (by decide) (by simp [freshOK, freshL, go_sem]) ?_
      rw [Tryz.ntmps37]
      simp [go_sem]
      refine CallVC.of (cT) (by decide) ?_
      simp [go_sem]
      refine CallVC.of (cL) (by decide) ?_
      simp [go_sem]
    | true =>
      rw [hL] at cL
      cases hn : vecB z y with
      | false =>
        rw [hn] at cR
        refine Con.n1 _ ?_
        refine con_of_vc Tryz.mixed ⟨9, [], [], []⟩ Tryz.func37 (by decide) rfl (by simp) (by decide) (by simp [freshOK, freshL, go_sem]) ?_
        rw [Tryz.ntmps37]
        simp [go_sem]
        refine CallVC.of (cT) (by decide) ?_
        simp [go_sem]
        refine CallVC.of (cL) (by decide) ?_
        simp [go_sem]
        refine CallVC.of (cR) (by decide) ?_
        simp [go_sem]
      | true =>
        rw [hn] at cR
        have hF := fieldB_iff.1 hT
        have hv := vecB_iff.1 hn
        have hLv : Lv t := by
          unfold lvB at hL
          simp only [Bool.and_eq_true] at hL
          exact lv0_Lv hL.1
        have hc := differential_c z f y hF hs hv.2 hv.1 t.length t hLv (Nat.le_refl _) ht
        have hpos := hLv.1
        simp only [Bool.and_self, and_self, if_true, edF_len hpos]
        refine con_of_vc Tryz.mixed ⟨9, [], [], []⟩ Tryz.func37 (by decide) rfl (by simp) (by decide) (by simp [freshOK, freshL, go_sem]) ?_
        rw [Tryz.ntmps37]
        simp [go_sem]
        refine CallVC.of (cT) (by decide) ?_
        simp [go_sem]
        refine CallVC.of (cL) (by decide) ?_
        simp [go_sem]
        refine CallVC.of (cR) (by decide) ?_
        simp [go_sem]
        refine CallVC.of (polynomials_c z f hF hs) (by decide) ?_
        simp [go_sem]
        refine CallVC.of (hc) (by decide) ?_
        simp [go_sem]
end Go.Proofs.YtoeikpioonlmfaaGreat


namespace Go.Proofs.YtoeikpioonlmfaaGreat
open Go.Abs
set_option linter.unusedSectionVars false
set_option linter.unusedVariables false
set_option linter.unusedSimpArgs false
set_option maxHeartbeats 1000000
theorem omat_range_succ (g : Nat → List Int) (i : Nat) : omat ((List.range (i + 1)).map g) = omat ((List.range i).map g) ++ [.own 2 (g i).length (avs (g i))] := by
  rw [List.range_succ, List.map_append, omat_app]; rfl
theorem cloneRows_c (a : List (List Int)) (hl : a.length ≤ 1048576) (hr : ∀ r ∈ a, r.length ≤ 1048576) :
    Con Tryz.prog 204 [.sl a.length (mat a)] (.own 35 a.length (omat a)) := by
  refine con_of_vc Tryz.mixed ⟨6, [], [], []⟩ Tryz.func204 (by decide) rfl (by simp) (by decide) (by simp [freshOK, freshL, go_sem]) ?_
  rw [Tryz.ntmps204]
  simp [go_sem]
  refine loop_inv (3 :: 5 :: List.range' 9 10) (fun i : Nat => [(3, .own 35 i (omat (a.take i))), (9, .int i)]) (fun i => i ≤ a.length) (fun i => a.length - i) 0 (by simp) (by simp [go_sem, omat_nil]) (by simp [go_sem]) ?_
  intro i hi
  simp [go_sem]
  refine ⟨fun h => ?_, fun h => ?_⟩ <;> simp at h
  · simp [go_sem, mat_drop h]
    refine ⟨⟨h, by rintro rfl; simp at h⟩, ?_⟩
    refine CallVC.of (Clone_c (a[i]?.getD []) (hr _ (by simp [h]))) (by decide) ?_
    simp [go_sem]
    have ht := omat_take a i h
    refine ⟨⟨by omega, by omega, by omega⟩, by omega, i + 1, by omega, by omega, Off_reset _ _ _ (by simp), by rw [ht]; exact ⟨rfl, rfl⟩, by omega⟩
  · have e : i = a.length := by omega
    subst e
    simp [go_sem]
theorem l01Own2_c (a : List (List Int)) (hl : a.length ≤ 1048576) (hr : ∀ r ∈ a, r.length ≤ 1048576) :
    Con Tryz.prog 201 [.sl a.length (mat a)] (.own 35 a.length (omat a)) := by
  refine con_of_vc Tryz.mixed ⟨5, [], [], []⟩ Tryz.func201 (by decide) rfl (by simp) (by decide) (by simp [freshOK, freshL, go_sem]) ?_
  rw [Tryz.ntmps201]
  simp [go_sem]
  refine loop_inv (3 :: 4 :: List.range' 6 14) (fun i : Nat => [(3, .own 35 i (omat (a.take i))), (4, .int i)]) (fun i => i ≤ a.length) (fun i => a.length - i) 0 (by simp) (by simp [go_sem, omat_nil]) (by simp [go_sem]) ?_
  intro i hi
  simp [go_sem]
  refine ⟨fun h => ?_, fun h => ?_⟩ <;> simp at h
  · simp [go_sem, mat_drop h]
    refine ⟨⟨h, by rintro rfl; simp at h⟩, ?_⟩
    refine CallVC.of (l01Own_c (a[i]?.getD []) (by have := hr _ (show a[i]?.getD [] ∈ a by simp [h]); omega)) (by decide) ?_
    simp [go_sem]
    have ht := omat_take a i h
    refine ⟨⟨by omega, by omega, by omega⟩, by omega, i + 1, by omega, by omega, Off_reset _ _ _ (by simp), by rw [ht]; exact ⟨rfl, rfl⟩, by omega⟩
  · have e : i = a.length := by omega
    subst e
    simp [go_sem]
end Go.Proofs.YtoeikpioonlmfaaGreat


namespace Go.Proofs.YtoeikpioonlmfaaGreat
open Go.Abs
set_option linter.unusedSectionVars false
set_option linter.unusedVariables false
set_option linter.unusedSimpArgs false
set_option maxHeartbeats 1000000
end Go.Proofs.YtoeikpioonlmfaaGreat


namespace Go.Proofs.YtoeikpioonlmfaaGreat
open Go.Abs
set_option linter.unusedSectionVars false
set_option linter.unusedVariables false
set_option linter.unusedSimpArgs false
set_option maxHeartbeats 1000000
end Go.Proofs.YtoeikpioonlmfaaGreat


namespace Go.Proofs.YtoeikpioonlmfaaGreat
open Go.Abs
set_option linter.unusedSectionVars false
set_option linter.unusedVariables false
set_option linter.unusedSimpArgs false
set_option maxHeartbeats 1000000
end Go.Proofs.YtoeikpioonlmfaaGreat


namespace Go.Proofs.YtoeikpioonlmfaaGreat
open Go.Abs
set_option linter.unusedSectionVars false
set_option linter.unusedVariables false
set_option linter.unusedSimpArgs false
set_option maxHeartbeats 1000000
end Go.Proofs.YtoeikpioonlmfaaGreat


namespace Go.Proofs.YtoeikpioonlmfaaGreat
open Go.Abs
set_option linter.unusedSectionVars false
set_option linter.unusedVariables false
set_option linter.unusedSimpArgs false
set_option maxHeartbeats 1000000
end Go.Proofs.YtoeikpioonlmfaaGreat


namespace Go.Proofs.YtoeikpioonlmfaaGreat
open Go.Abs
set_option linter.unusedSectionVars false
set_option linter.unusedVariables false
set_option linter.unusedSimpArgs false
set_option maxHeartbeats 1000000
end Go.Proofs.YtoeikpioonlmfaaGreat


namespace Go.Proofs.YtoeikpioonlmfaaGreat
open Go.Abs
set_option linter.unusedSectionVars false
set_option linter.unusedVariables false
set_option linter.unusedSimpArgs false
set_option maxHeartbeats 1000000
end Go.Proofs.YtoeikpioonlmfaaGreat


namespace Go.Proofs.YtoeikpioonlmfaaGreat
open Go.Abs
set_option linter.unusedSectionVars false
set_option linter.unusedVariables false
set_option linter.unusedSimpArgs false
set_option maxHeartbeats 1000000
end Go.Proofs.YtoeikpioonlmfaaGreat


namespace Go.Proofs.YtoeikpioonlmfaaGreat
open Go.Abs
set_option linter.unusedSectionVars false
set_option linter.unusedVariables false
set_option linter.unusedSimpArgs false
set_option maxHeartbeats 1000000
end Go.Proofs.YtoeikpioonlmfaaGreat


namespace Go.Proofs.YtoeikpioonlmfaaGreat
open Go.Abs
set_option linter.unusedSectionVars false
set_option linter.unusedVariables false
set_option linter.unusedSimpArgs false
set_option maxHeartbeats 1000000
end Go.Proofs.YtoeikpioonlmfaaGreat


namespace Go.Proofs.YtoeikpioonlmfaaGreat
open Go.Abs
set_option linter.unusedSectionVars false
set_option linter.unusedVariables false
set_option linter.unusedSimpArgs false
set_option maxHeartbeats 1000000
end Go.Proofs.YtoeikpioonlmfaaGreat


namespace Go.Proofs.YtoeikpioonlmfaaGreat
open Go.Abs
set_option linter.unusedSectionVars false
set_option linter.unusedVariables false
set_option linter.unusedSimpArgs false
set_option maxHeartbeats 1000000
end Go.Proofs.YtoeikpioonlmfaaGreat


namespace Go.Proofs.YtoeikpioonlmfaaGreat
open Go.Abs
set_option linter.unusedSectionVars false
set_option linter.unusedVariables false
set_option linter.unusedSimpArgs false
set_option maxHeartbeats 1000000
theorem FieldOk.wok {z : Int} {f : List (List Mon)} (hf : FieldOk z f) : ∀ F ∈ f, ∀ m ∈ F, WOk f.length 3 m := fun F hF m hm => by
  have h := partB_mem (hf.part F hF) hm
  have h1 := h.lo
  have h2 := h.hi
  have h3 := h.len
  have h4 := hf.len
  exact ⟨⟨by omega, by omega⟩, by omega, h.pw⟩
theorem oprt_get {T : List (List Mon)} {k : Nat} (h : k < T.length) : (oprt T)[k]? = some (.own 97 (T[k]?.getD []).length (omons (T[k]?.getD []))) := by simp [oprt, h]
end Go.Proofs.YtoeikpioonlmfaaGreat


namespace Go.Proofs.YtoeikpioonlmfaaGreat
open Go.Abs
set_option linter.unusedSectionVars false
set_option linter.unusedVariables false
set_option linter.unusedSimpArgs false
set_option maxHeartbeats 1000000
def subK (a b : Key) : Key := (a.1 - b.1, a.2.1 - b.2.1, a.2.2 - b.2.2)
theorem addK_iff {K a b : Key} : K = addK a b ↔ subK K a = b := by
  obtain ⟨k0, k1, k2⟩ := K
  obtain ⟨a0, a1, a2⟩ := a
  obtain ⟨b0, b1, b2⟩ := b
  simp only [addK, subK, Prod.mk.injEq]
  omega
theorem coef_sub {α : Type} (K a : Key) (x : Int) (key : α → Key) (num : α → Int) (E : List α) : sumI (fun d => if K = addK a (key d) then x * num d else 0) E = x * coef key num E (subK K a) := by
  unfold coef
  rw [← sumI_mul]
  refine sumI_congr (fun d _ => ?_)
  by_cases h : subK K a = key d
  · rw [if_pos (addK_iff.2 h), if_pos h]
  · rw [if_neg (fun e => h (addK_iff.1 e)), if_neg h, Int.mul_zero]
theorem enum_exists : ∀ (L : List Key) (c : Key → Option Int), (∀ k x, c k = some x → k ∈ L) → ∃ es, Enum c es
  | [], c, h => ⟨[], .nil, by simp, fun k _ => by
      cases hc : c k with
      | none => rfl
      | some x => exact absurd (h k x hc) (by simp)⟩
  | a :: L, c, h => by
    obtain ⟨es, he⟩ := enum_exists L (fun k => if k = a then none else c k) (fun k x hk => by
      by_cases e : k = a
      · simp [e] at hk
      · simp [e] at hk
        rcases List.mem_cons.1 (h k x hk) with h1 | h1
        · exact absurd h1 e
        · exact h1)
    have hne : ∀ p ∈ es, p.1 ≠ a := fun p hp e => by
      have := he.val p hp
      simp [e] at this
    cases hc : c a with
    | none =>
      refine ⟨es, he.nd, fun p hp => ?_, fun k hk => ?_⟩
      · have := he.val p hp
        simpa [hne p hp] using this
      · by_cases e : k = a
        · rw [e]; exact hc
        · have := he.out k hk
          simpa [e] using this
    | some x =>
      refine ⟨(a, x) :: es, List.pairwise_cons.2 ⟨fun p hp e => hne p hp e.symm, he.nd⟩, fun p hp => ?_, fun k hk => ?_⟩
      · rcases List.mem_cons.1 hp with rfl | hp
        · exact hc
        · have := he.val p hp
          simpa [hne p hp] using this
      · have e : ¬ k = a := fun e => hk (a, x) (by simp) e.symm
        have := he.out k (fun p hp => hk p (by simp [hp]))
        simpa [e] using this
open Classical in
noncomputable def enE (c : Key → Option Int) : List (Key × Int) := if h : ∃ es, Enum c es then h.choose else []
theorem enE_is {c : Key → Option Int} (h : ∃ es, Enum c es) : Enum c (enE c) := by
  unfold enE
  rw [dif_pos h]
  exact h.choose_spec
def degB (p : List Mon) : Bool := p.all fun m => decide (degL m.2 0 ≤ 3)
theorem srt_at {p : List Mon} (h : Srt p) {j : Nat} (h0 : 0 < j) (hj : j < p.length) : ltL (p[j - 1]?.getD (0, [])).2 (p[j]?.getD (0, [])).2 = true := by
  have h1 := List.pairwise_iff_getElem.1 h (j - 1) j (by omega) hj (by omega)
  simpa [hj, show j - 1 < p.length by omega] using h1
theorem partB_deg {z : Int} {p : List Mon} (hw : ∀ m ∈ p, (m.2.length : Int) = z) (hs : Srt p) (hz : Nzl p) : partB z p = degB p := by
  cases hd : degB p with
  | true =>
    refine partB_yes (fun j hj => ?_)
    have hm : p[j]?.getD (0, []) ∈ p := memD _ hj
    have h1 := hz _ hm
    have h2 := hw _ hm
    have h3 := List.all_eq_true.1 hd _ hm
    simp only [decide_eq_true_eq] at h3
    unfold atB monB
    rw [decide_eq_true h1, decide_eq_true h2, decide_eq_true h3]
    by_cases h0 : j = 0
    · rw [decide_eq_true h0]; rfl
    · rw [decide_eq_false h0, srt_at hs (by omega) hj]; rfl
  | false =>
    obtain ⟨m, hm, h⟩ := List.all_eq_false.1 hd
    obtain ⟨j, hj, rfl⟩ := List.getElem_of_mem hm
    refine partB_no hj ?_
    unfold atB monB
    simp at h
    simp [hj]
    omega
end Go.Proofs.YtoeikpioonlmfaaGreat


namespace Go.Proofs.YtoeikpioonlmfaaGreat
open Go.Abs
set_option linter.unusedSectionVars false
set_option linter.unusedVariables false
set_option linter.unusedSimpArgs false
set_option maxHeartbeats 1000000
def linL (a : List Int) : List Mon := (List.range a.length).map fun i => (a[i]?.getD 0, oneE a.length i)
@[simp] theorem linL_len (a : List Int) : (linL a).length = a.length := by simp [linL]
theorem linL_at {a : List Int} {i : Nat} (h : i < a.length) : (linL a)[i]?.getD (0, []) = (a[i]?.getD 0, oneE a.length i) := by simp [linL, h]
theorem oneE_get {n i j : Nat} (hj : j < n) : (oneE n i)[j]?.getD 0 = if i = j then 1 else 0 := by
  unfold oneE
  rw [List.getElem?_set]
  by_cases e : i = j
  · subst e; simp [hj]
  · simp [e, hj]
theorem linL_nd {a : List Int} (h3 : a.length ≤ 3) : (linL a).Pairwise (fun a b => keyOf a.2 ≠ keyOf b.2) := by
  unfold linL
  rw [List.pairwise_map]
  refine List.Pairwise.imp_of_mem (R := fun a b => a < b) (fun {i j} hi hj hij e => ?_) (List.pairwise_lt_range)
  have hi : i < a.length := by simpa using hi
  have e2 := keyOf_inj (a := oneE a.length i) (b := oneE a.length j) (by simp) (by simp; omega) e
  have h1 := oneE_get (i := i) hi
  rw [e2, oneE_get hi, if_neg (by omega), if_pos rfl] at h1
  omega
set_option maxRecDepth 100000 in
theorem linear_c (a : List Int) (h3 : a.length ≤ 3) : Con Tryz.prog 84 [.sl a.length (avs a)] (.mp (polF (linL a))) := by
  refine con_of_vc Tryz.mixed ⟨7, [], [], []⟩ Tryz.func84 (by decide) rfl (by simp) (by decide) (by simp [freshOK, freshL, go_sem]) ?_
  rw [Tryz.ntmps84]
  simp [go_sem]
  refine loop_inv (3 :: 4 :: 5 :: 6 :: List.range' 10 12) (fun i : Nat => [(3, .mp (polF ((linL a).take i))), (10, .int i)]) (fun i => i ≤ a.length) (fun i => a.length - i) 0 (by simp) (by simp [go_sem, polF, polG]) (by simp [go_sem]) ?_
  intro i hi
  simp [go_sem]
  refine ⟨fun h => ?_, fun h => ?_⟩ <;> simp at h
  · have hif := h
    have hv := polF_take (p := linL a) (i := i) (by simpa using h)
    rw [linL_at hif] at hv
    simp only at hv
    simp [go_sem, avs_drop hif]
    have hk : keyOf (oneE a.length i) = (if i = 0 then 1 else 0, if i = 1 then 1 else 0, if i = 2 then 1 else 0) := by
      have g : ∀ j : Nat, (oneE a.length i)[j]?.getD 0 = if i = j then 1 else 0 := fun j => by
        rcases Nat.lt_or_ge j a.length with hj | hj
        · exact oneE_get hj
        · rw [List.getElem?_eq_none (by simpa using hj), if_neg (by omega)]; rfl
      unfold keyOf
      rw [g 0, g 1, g 2]
    have hi3 : i = 0 ∨ i = 1 ∨ i = 2 := by omega
    rw [hk] at hv
    rcases hi3 with rfl | rfl | rfl
    · simp [go_sem]
      exact ⟨⟨hif, by rintro rfl; simp at hif⟩, 1, by omega, by omega, Off_reset _ _ _ (by simp), by simpa using hv.symm, by omega⟩
    · simp [go_sem]
      exact ⟨⟨hif, by rintro rfl; simp at hif⟩, 2, by omega, by omega, Off_reset _ _ _ (by simp), by simpa using hv.symm, by omega⟩
    · simp [go_sem]
      exact ⟨⟨hif, by rintro rfl; simp at hif⟩, 3, by omega, by omega, Off_reset _ _ _ (by simp), by simpa using hv.symm, by omega⟩
  · have e : i = a.length := by omega
    subst e
    simp [go_sem]
    rw [List.take_of_length_le (by simp)]
section
variable {q : List (List Int)} {f : List (List Mon)} {n : Nat}
theorem addK_comm (a b : Key) : addK a b = addK b a := by unfold addK; rw [Int.add_comm a.1, Int.add_comm a.2.1, Int.add_comm a.2.2]
end
end Go.Proofs.YtoeikpioonlmfaaGreat


namespace Go.Proofs.YtoeikpioonlmfaaGreat
open Go.Abs
set_option linter.unusedSectionVars false
set_option linter.unusedVariables false
set_option linter.unusedSimpArgs false
set_option maxHeartbeats 1000000
noncomputable def mulM (c d : Key → Option Int) : Key → Option Int := mapT (prT (enE c) (enE d))
noncomputable def stN (q c : Key → Option Int) : Nat → Key → Option Int
  | 0 => c
  | n + 1 => mulM (stN q c n) q
noncomputable def chN (Q : List (Key → Option Int)) (e : Key × Int) : Nat → Key → Option Int
  | 0 => mset mzero (0, 0, 0) e.2
  | i + 1 => stN (Q[i]?.getD mzero) (chN Q e i) (at3 i e.1).toNat
noncomputable def sbF (Q : List (Key → Option Int)) (es : List (Key × Int)) : Key → Option Int := es.foldl (fun o e => addM o (chN Q e Q.length) 1) mzero
structure Mok (B : Int) (c : Key → Option Int) : Prop where
  en : ∃ es, Enum c es
  pw : ∀ k x, c k = some x → isN x ∧ 0 ≤ k.1 ∧ k.1 ≤ B ∧ 0 ≤ k.2.1 ∧ k.2.1 ≤ B ∧ 0 ≤ k.2.2 ∧ k.2.2 ≤ B
theorem Mok.le {B C : Int} {c : Key → Option Int} (h : Mok B c) (hBC : B ≤ C) : Mok C c := ⟨h.en, fun k x hk => by
  obtain ⟨a, b, b2, d, d2, e, e2⟩ := h.pw k x hk
  exact ⟨a, b, by omega, d, by omega, e, by omega⟩⟩
theorem Mok.eok {B : Int} {c : Key → Option Int} (h : Mok B c) (hB : B ≤ 1000) : ∀ k x, c k = some x → EOk (k, x) := fun k x hk => by
  obtain ⟨a, b, b2, d, d2, e, e2⟩ := h.pw k x hk
  exact ⟨a, b, by show k.1 ≤ 1000; omega, d, by show k.2.1 ≤ 1000; omega, e, by show k.2.2 ≤ 1000; omega⟩
theorem Mok.mapN {B : Int} {c : Key → Option Int} (h : Mok B c) : MapN c := fun k x hk => (h.pw k x hk).1
theorem mapT_en (T : List (Key × Int)) : ∃ es, Enum (mapT T) es := enum_exists (T.map (·.1)) _ fun k x h => by
  unfold mapT at h
  split at h
  · rename_i h2
    obtain ⟨e, he, hk⟩ := hasK_iff.1 h2
    exact List.mem_map.2 ⟨e, he, hk⟩
  · simp at h
theorem Mok.mul {B C : Int} {c d : Key → Option Int} (h : Mok B c) (h2 : Mok C d) : Mok (B + C) (mulM c d) := ⟨mapT_en _, fun k x hk => by
  unfold mulM mapT at hk
  split at hk
  · rename_i h3
    obtain ⟨e, he, e1⟩ := hasK_iff.1 h3
    obtain ⟨a, ha, he⟩ := List.mem_flatMap.1 he
    obtain ⟨b, hb, rfl⟩ := List.mem_map.1 he
    have va := h.pw _ _ ((enE_is h.en).val a ha)
    have vb := h2.pw _ _ ((enE_is h2.en).val b hb)
    subst e1
    simp only [Option.some.injEq] at hk
    rw [← hk]
    refine ⟨isN_mod _, ?_⟩
    simp only [addK]
    omega
  · simp at hk⟩
theorem Mok.one {x : Int} (hx : isN x) : Mok 0 (mset mzero (0, 0, 0) x) := by
  have key : ∀ k y, mset mzero (0, 0, 0) x k = some y → k = (0, 0, 0) ∧ y = x := fun k y h => by
    unfold mset at h
    split at h
    · rename_i e; exact ⟨e, by simpa using h.symm⟩
    · simp [mzero] at h
  refine ⟨enum_exists [(0, 0, 0)] _ fun k y h => by simp [(key k y h).1], fun k y h => ?_⟩
  obtain ⟨rfl, rfl⟩ := key k y h
  exact ⟨hx, by simp, by simp, by simp, by simp, by simp, by simp⟩
theorem Mok.zero (B : Int) : Mok B mzero := ⟨⟨[], .nil, by simp, fun _ _ => rfl⟩, fun k x h => by simp [mzero] at h⟩
theorem Mok.add {B x : Int} {o q : Key → Option Int} (h : Mok B o) (h2 : Mok B q) : Mok B (addM o q x) := by
  have key : ∀ k y, addM o q x k = some y → isN y ∧ ((∃ a, q k = some a) ∨ ∃ a, o k = some a) := fun k y hk => by
    unfold addM at hk
    cases hq : q k with
    | none => rw [hq] at hk; exact ⟨(h.pw k y hk).1, .inr ⟨y, hk⟩⟩
    | some a => rw [hq] at hk; simp at hk; rw [← hk]; exact ⟨isN_mod _, .inl ⟨a, rfl⟩⟩
  obtain ⟨e1, h3⟩ := h.en
  obtain ⟨e2, h4⟩ := h2.en
  refine ⟨enum_exists (e1.map (·.1) ++ e2.map (·.1)) _ fun k y hk => ?_, fun k y hk => ?_⟩
  · rcases (key k y hk).2 with ⟨a, ha⟩ | ⟨a, ha⟩
    · exact List.mem_append_right _ (List.mem_map.2 ⟨(k, a), (enum_mem h4).2 ha, rfl⟩)
    · exact List.mem_append_left _ (List.mem_map.2 ⟨(k, a), (enum_mem h3).2 ha, rfl⟩)
  · refine ⟨(key k y hk).1, ?_⟩
    rcases (key k y hk).2 with ⟨a, ha⟩ | ⟨a, ha⟩
    · exact (h2.pw k a ha).2
    · exact (h.pw k a ha).2
theorem stN_ok {B : Int} {q c : Key → Option Int} (hc : Mok B c) (hq : Mok 1 q) : ∀ n : Nat, Mok (B + (n : Int)) (stN q c n)
  | 0 => hc.le (by omega)
  | n + 1 => ((stN_ok hc hq n).mul hq).le (by omega)
theorem addM_swap (o p q : Key → Option Int) : addM (addM o p 1) q 1 = addM (addM o q 1) p 1 := by
  funext k
  unfold addM
  cases q k <;> cases p k <;> simp
  omega
theorem sbF_perm (Q : List (Key → Option Int)) {a b : List (Key × Int)} (h : a.Perm b) : sbF Q a = sbF Q b :=
  h.foldl_eq' (fun x _ y _ z => addM_swap z _ _) _
structure Rlt (n : Nat) (B : Int) (c : Key → Option Int) (L : List Mon) : Prop where
  ok : Mok B c
  wok : ∀ m ∈ L, WOk n B m
  cf : ∀ K, gv c K % 10007 = cfL L K % 10007
theorem Rlt.le {n : Nat} {B C : Int} {c : Key → Option Int} {L : List Mon} (h : Rlt n B c L) (hBC : B ≤ C) : Rlt n C c L := ⟨h.ok.le hBC, fun m hm => (h.wok m hm).le hBC, h.cf⟩
theorem Rlt.mul {n : Nat} (hn : n ≤ 3) {B C : Int} {c d : Key → Option Int} {L l : List Mon} (h : Rlt n B c L) (h2 : Rlt n C d l) : Rlt n (B + C) (mulM c d) (prodL L l) := by
  refine ⟨h.ok.mul h2.ok, prodL_wok h.wok h2.wok, fun K => ?_⟩
  have hE := enE_is h.ok.en
  have hD := enE_is h2.ok.en
  have e0 : gv (mulM c d) K % 10007 = cfT (prT (enE c) (enE d)) K % 10007 := by
    show (mapT (prT (enE c) (enE d)) K).getD 0 % 10007 = _
    rw [mapT_get, Int.emod_emod_of_dvd _ (Int.dvd_refl _)]
  rw [e0, prodL_cf, cfT_prT]
  have s1 : sumI (fun e : Key × Int => sumI (fun b : Key × Int => if K = addK e.1 b.1 then e.2 * b.2 else 0) (enE d)) (enE c) % 10007 = sumI (fun e : Key × Int => sumI (fun b : Mon => if K = addK e.1 (keyOf b.2) then e.2 * b.1 else 0) l) (enE c) % 10007 := by
    refine sumI_mod fun e he => ?_
    have a1 := coef_sub K e.1 e.2 Prod.fst Prod.snd (enE d)
    have a2 := coef_sub K e.1 e.2 (fun m : Mon => keyOf m.2) (fun m => m.1) l
    rw [a1, a2, coef_enum hD]
    exact mod_mul _ (h2.cf _)
  rw [s1, sumI_swap]
  have s2 : sumI (fun b : Mon => sumI (fun e : Key × Int => if K = addK e.1 (keyOf b.2) then e.2 * b.1 else 0) (enE c)) l % 10007 = sumI (fun b : Mon => sumI (fun a : Mon => if K = addK (keyOf b.2) (keyOf a.2) then b.1 * a.1 else 0) L) l % 10007 := by
    refine sumI_mod fun b hb => ?_
    have e1 : sumI (fun e : Key × Int => if K = addK e.1 (keyOf b.2) then e.2 * b.1 else 0) (enE c) = sumI (fun e : Key × Int => if K = addK (keyOf b.2) e.1 then b.1 * e.2 else 0) (enE c) := sumI_congr fun e _ => by rw [addK_comm, Int.mul_comm]
    have a1 := coef_sub K (keyOf b.2) b.1 Prod.fst Prod.snd (enE c)
    have a2 := coef_sub K (keyOf b.2) b.1 (fun m : Mon => keyOf m.2) (fun m => m.1) L
    rw [e1, a1, a2, coef_enum hE]
    exact mod_mul _ (h.cf _)
  rw [s2, sumI_swap]
  unfold pcf
  refine congrArg (· % 10007) (sumI_congr fun a ha => sumI_congr fun b hb => ?_)
  rw [keyOf_add (by rw [(h.wok a ha).len, (h2.wok b hb).len]) (by rw [(h.wok a ha).len]; exact hn), addK_comm, Int.mul_comm]
theorem Rlt.add {n : Nat} {B x : Int} {o q : Key → Option Int} {L l : List Mon} (h : Rlt n B o L) (h2 : Rlt n B q l) : Rlt n B (addM o q x) (plusL L x l) :=
  ⟨h.ok.add h2.ok, plusL_wok _ _ h2.wok h.wok, fun K => by
    have a1 := h.cf K
    have a2 := mod_mul x (h2.cf K)
    rw [addM_gv, plusL_cf]
    generalize x * gv q K = t1 at *
    generalize x * cfL l K = t2 at *
    omega⟩
theorem keyOf_rep (n : Nat) : keyOf (List.replicate n 0) = (0, 0, 0) := by
  unfold keyOf
  have : ∀ i : Nat, (List.replicate n (0 : Int))[i]?.getD 0 = 0 := fun i => by
    rw [List.getElem?_replicate]; split <;> rfl
  rw [this, this, this]
theorem Rlt.one {n : Nat} {x : Int} (hx : isN x) : Rlt n 0 (mset mzero (0, 0, 0) x) [(x, List.replicate n 0)] := by
  refine ⟨Mok.one hx, fun m hm => ?_, fun K => ?_⟩
  · simp at hm
    subst hm
    refine ⟨hx, by simp, fun y hy => ?_⟩
    have := (List.mem_replicate.1 hy).2
    omega
  · rw [cfL_cons, keyOf_rep]
    unfold gv mset
    by_cases e : K = (0, 0, 0)
    · rw [if_pos e, if_pos e]; simp [cfL, coef, sumI]
    · rw [if_neg e, if_neg e]; simp [cfL, coef, sumI, mzero]
theorem linL_mem {a : List Int} {m : Mon} (h : m ∈ linL a) : ∃ i, i < a.length ∧ m = (a[i]?.getD 0, oneE a.length i) := by
  unfold linL at h
  obtain ⟨i, hi, rfl⟩ := List.mem_map.1 h
  exact ⟨i, by simpa using hi, rfl⟩
theorem Rlt.line {n : Nat} (hn : n ≤ 3) {a : List Int} (hl : a.length = n) (hN : Ns a) : Rlt n 1 (polF (linL a)) (linK a n) := by
  have nd := linL_nd (a := a) (by omega)
  refine ⟨⟨⟨_, polF_enum nd⟩, fun k x hk => ?_⟩, (linK_ok hl hN n (Nat.le_refl _)).2, fun K => ?_⟩
  · obtain ⟨m, hm, e⟩ := List.mem_map.1 ((polF_some nd).1 hk)
    obtain ⟨i, hi, rfl⟩ := linL_mem hm
    have e1 : keyOf (oneE a.length i) = k := congrArg Prod.fst e
    have e2 : a[i]?.getD 0 = x := congrArg Prod.snd e
    have w := oneE_wok (n := a.length) (k := i)
    have g := fun j => w.get (by omega) j
    subst e1 e2
    exact ⟨hN.get i, (g 0).1, (g 0).2, (g 1).1, (g 1).2, (g 2).1, (g 2).2⟩
  · rw [polF_gv nd]
    have gen : ∀ k, k ≤ a.length → cfL (linK a k) K % 10007 = sumI (fun i => if K = keyOf (oneE a.length i) then a[i]?.getD 0 else 0) (List.range k) % 10007 := by
      intro k
      induction k with
      | zero => intro _; rfl
      | succ k ih =>
        intro hk
        have := ih (by omega)
        rw [linK, putL_cf, List.range_succ, sumI_app]
        simp only [sumI, Int.add_zero]
        omega
    rw [← hl, gen _ (Nat.le_refl _)]
    unfold linL cfL coef
    rw [sumI_map]
def stL (l c : List Mon) : Nat → List Mon
  | 0 => c
  | n + 1 => prodL (stL l c n) l
def chQ' (n : Nat) (A : List (List Mon)) (m : Mon) : Nat → List Mon
  | 0 => [(m.1, List.replicate n 0)]
  | i + 1 => stL (A[i]?.getD []) (chQ' n A m i) (m.2[i]?.getD 0).toNat
def mvL (n : Nat) (A : List (List Mon)) (p : List Mon) : List Mon := p.foldl (fun s m => plusL s 1 (chQ' n A m A.length)) []
theorem Rlt.pow {n : Nat} (hn : n ≤ 3) {B : Int} {c q : Key → Option Int} {L l : List Mon} (h : Rlt n B c L) (h2 : Rlt n 1 q l) : ∀ k : Nat, Rlt n (B + (k : Int)) (stN q c k) (stL l L k)
  | 0 => h.le (by omega)
  | k + 1 => ((Rlt.pow hn h h2 k).mul hn h2).le (by omega)
theorem Rlt.chain {n : Nat} (hn : n ≤ 3) {Q : List (Key → Option Int)} {A : List (List Mon)} (hQ : Q.length = n) (hA : A.length = n) (hR : ∀ i, i < n → Rlt n 1 (Q[i]?.getD mzero) (A[i]?.getD [])) {m : Mon} (hm : VOk n m) :
    ∀ i : Nat, i ≤ n → Rlt n (3 * (i : Int)) (chN Q (keyM m) i) (chQ' n A m i)
  | 0, _ => Rlt.one hm.num
  | i + 1, hi => by
    have ih := Rlt.chain hn hQ hA hR hm i (by omega)
    have e : at3 i (keyM m).1 = m.2[i]?.getD 0 := at3_keyOf (by omega)
    have b := (hm.wok).get (by omega) i
    rw [chN, chQ', e]
    exact (Rlt.pow hn ih (hR i (by omega)) _).le (by omega)
theorem Rlt.sub {n : Nat} (hn : n ≤ 3) {Q : List (Key → Option Int)} {A : List (List Mon)} (hQ : Q.length = n) (hA : A.length = n) (hR : ∀ i, i < n → Rlt n 1 (Q[i]?.getD mzero) (A[i]?.getD [])) {p : List Mon} (hp : ∀ m ∈ p, VOk n m) :
    Rlt n 9 (sbF Q (p.map keyM)) (mvL n A p) := by
  have gen : ∀ (p : List Mon) (o : Key → Option Int) (L : List Mon), (∀ m ∈ p, VOk n m) → Rlt n 9 o L → Rlt n 9 ((p.map keyM).foldl (fun o e => addM o (chN Q e Q.length) 1) o) (p.foldl (fun s m => plusL s 1 (chQ' n A m A.length)) L) := by
    intro p
    induction p with
    | nil => intro o L _ h; exact h
    | cons m p ih =>
      intro o L hp h
      refine ih _ _ (fun a ha => hp a (by simp [ha])) (h.add ?_)
      rw [hQ, hA]
      exact (Rlt.chain hn hQ hA hR (hp m (by simp)) n (Nat.le_refl _)).le (by omega)
  exact gen p mzero [] hp ⟨Mok.zero 9, by simp, fun K => rfl⟩
noncomputable def rwM (Q : List (Key → Option Int)) (f : List (List Mon)) (row : List Int) : Nat → Key → Option Int
  | 0 => mzero
  | k + 1 => addM (rwM Q f row k) (sbF Q ((f[k]?.getD []).map keyM)) (row[k]?.getD 0)
def rwQ (n : Nat) (A f : List (List Mon)) (row : List Int) : Nat → List Mon
  | 0 => []
  | k + 1 => plusL (rwQ n A f row k) (row[k]?.getD 0) (mvL n A (f[k]?.getD []))
theorem Rlt.rows {n : Nat} (hn : n ≤ 3) {Q : List (Key → Option Int)} {A f : List (List Mon)} (hQ : Q.length = n) (hA : A.length = n) (hR : ∀ i, i < n → Rlt n 1 (Q[i]?.getD mzero) (A[i]?.getD [])) (hf : ∀ p ∈ f, ∀ m ∈ p, VOk n m) (row : List Int) :
    ∀ k, k ≤ f.length → Rlt n 9 (rwM Q f row k) (rwQ n A f row k)
  | 0, _ => ⟨Mok.zero 9, by simp [rwQ], fun K => rfl⟩
  | k + 1, hk => (Rlt.rows hn hQ hA hR hf row k (by omega)).add (Rlt.sub hn hQ hA hR (hf _ (memD [] (by omega))))
theorem stL_len {l c : List Mon} (hl : l.length ≤ 3) : ∀ k, (stL l c k).length ≤ c.length * 3 ^ k
  | 0 => by simp [stL]
  | k + 1 => by
    have h1 := prodL_len (stL l c k) l
    have h2 := stL_len hl (c := c) k
    have h3 : (stL l c k).length * l.length ≤ (c.length * 3 ^ k) * 3 := Nat.mul_le_mul h2 hl
    rw [stL, Nat.pow_succ, ← Nat.mul_assoc]
    omega
theorem chQ_len {n : Nat} {A : List (List Mon)} {m : Mon} (hA : ∀ i : Nat, (A[i]?.getD []).length ≤ 3) : ∀ i, (chQ' n A m i).length ≤ 3 ^ ((m.2.take i).map Int.toNat).sum
  | 0 => by simp [chQ']
  | i + 1 => by
    have h1 := stL_len (hA i) (c := chQ' n A m i) (m.2[i]?.getD 0).toNat
    have h2 := chQ_len hA i (m := m) (n := n)
    have h3 := Nat.mul_le_mul_right (3 ^ (m.2[i]?.getD 0).toNat) h2
    have h4 : ((m.2.take (i + 1)).map Int.toNat).sum = ((m.2.take i).map Int.toNat).sum + (m.2[i]?.getD 0).toNat := by
      rw [List.take_add_one, List.map_append, List.sum_append]
      cases m.2[i]? <;> simp
    rw [chQ', h4, Nat.pow_add]
    omega
theorem sum_toNat : ∀ (l : List Int), (∀ x ∈ l, 0 ≤ x) → ((l.map Int.toNat).sum : Int) = l.sum
  | [], _ => rfl
  | a :: l, h => by
    have := sum_toNat l (fun x hx => h x (by simp [hx]))
    have := h a (by simp)
    simp only [List.map_cons, List.sum_cons]
    omega
theorem chQ_27 {z : Int} {n : Nat} {A : List (List Mon)} {m : Mon} (hA : ∀ i : Nat, (A[i]?.getD []).length ≤ 3) (hm : MonOk z m) (hd : degL m.2 0 ≤ 3) : (chQ' n A m m.2.length).length ≤ 27 := by
  obtain ⟨h1, h2⟩ := degL_le (by omega) hd
  have h3 := chQ_len (n := n) hA m.2.length (m := m)
  have h4 := sum_toNat m.2 (fun x hx => (h1 x hx).1)
  rw [List.take_length] at h3
  have h5 : (m.2.map Int.toNat).sum ≤ 3 := by omega
  have h6 := Nat.pow_le_pow_right (show 0 < 3 by omega) h5
  omega
theorem mvL_len {z : Int} {n : Nat} {A : List (List Mon)} (hA : ∀ i : Nat, (A[i]?.getD []).length ≤ 3) (hAl : A.length = n) {p : List Mon} (hp : ∀ m ∈ p, MonOk z m ∧ degL m.2 0 ≤ 3 ∧ m.2.length = n) : (mvL n A p).length ≤ 27 * p.length := by
  have gen : ∀ (p : List Mon) (L : List Mon), (∀ m ∈ p, MonOk z m ∧ degL m.2 0 ≤ 3 ∧ m.2.length = n) → (p.foldl (fun s m => plusL s 1 (chQ' n A m A.length)) L).length ≤ L.length + 27 * p.length := by
    intro p
    induction p with
    | nil => intro L _; simp
    | cons m p ih =>
      intro L hp
      have h1 := ih (plusL L 1 (chQ' n A m A.length)) (fun a ha => hp a (by simp [ha]))
      have h2 := plusL_len 1 (chQ' n A m A.length) L
      obtain ⟨h3, h4, h5⟩ := hp m (by simp)
      have h6 := chQ_27 (n := n) hA h3 h4
      rw [h5, ← hAl] at h6
      rw [hAl] at h6
      rw [List.foldl_cons, List.length_cons]
      rw [hAl] at h1 h2 ⊢
      omega
  have := gen p [] hp
  simpa [mvL] using this
theorem rwQ_srt {n : Nat} (hn : n ≤ 3) {Q : List (Key → Option Int)} {A f : List (List Mon)} (hQ : Q.length = n) (hA : A.length = n) (hR : ∀ i, i < n → Rlt n 1 (Q[i]?.getD mzero) (A[i]?.getD [])) (hf : ∀ p ∈ f, ∀ m ∈ p, VOk n m) (row : List Int) :
    ∀ k, k ≤ f.length → Srt (rwQ n A f row k) ∧ Nzl (rwQ n A f row k)
  | 0, _ => ⟨List.Pairwise.nil, by simp [Nzl, rwQ]⟩
  | k + 1, hk => plusL_srt _ _ (Rlt.sub hn hQ hA hR (hf _ (memD [] (by omega)))).wok (Rlt.rows hn hQ hA hR hf row k (by omega)).wok (rwQ_srt hn hQ hA hR hf row k (by omega))
end Go.Proofs.YtoeikpioonlmfaaGreat


namespace Go.Proofs.YtoeikpioonlmfaaGreat
open Go.Abs CR
set_option linter.unusedSectionVars false
set_option linter.unusedVariables false
set_option linter.unusedSimpArgs false
set_option maxHeartbeats 1000000
section
variable {α : Type} [CR α]
def tq (k : Nat) (a : α) : Ser α := fun n => if n = k then a else ofI 0
theorem cmul_z (b : Ser α) : ∀ n, cmul n (fun _ => ofI 0) b = ofI 0
  | 0 => zmul _
  | n + 1 => by
    have : sh (fun _ => (ofI 0 : α)) = fun _ => ofI 0 := rfl
    rw [cmul, this, cmul_z b n, zmul, add0]
theorem tq_mul (a b : α) (k : Nat) : ∀ i, (tq i a * tq k b : Ser α) = tq (i + k) (a * b) := by
  intro i
  funext n
  show cmul n (tq i a) (tq k b) = tq (i + k) (a * b) n
  induction n generalizing i with
  | zero =>
    show tq i a 0 * tq k b 0 = _
    unfold tq
    by_cases h1 : 0 = i
    · rw [if_pos h1]
      by_cases h2 : 0 = k
      · rw [if_pos h2, if_pos (by omega)]
      · rw [if_neg h2, if_neg (by omega), mul0]
    · rw [if_neg h1, zmul, if_neg (by omega)]
  | succ n ih =>
    rw [cmul]
    cases i with
    | zero =>
      have e1 : sh (tq 0 a) = fun _ => ofI 0 := by
        funext m
        show (if m + 1 = 0 then a else ofI 0) = ofI 0
        rw [if_neg (by omega)]
      rw [e1, cmul_z, add0]
      unfold tq
      rw [if_pos rfl]
      by_cases h : n + 1 = k
      · rw [if_pos h, if_pos (by omega)]
      · rw [if_neg h, if_neg (by omega), mul0]
    | succ i =>
      have e1 : sh (tq (i + 1) a) = tq i a := by
        funext m
        show (if m + 1 = i + 1 then a else ofI 0) = if m = i then a else ofI 0
        by_cases h : m = i
        · rw [if_pos h, if_pos (by omega)]
        · rw [if_neg h, if_neg (by omega)]
      have e2 : tq (i + 1) a 0 = ofI 0 := if_neg (by omega)
      rw [e1, e2, zmul, zadd, ih]
      unfold tq
      by_cases h : n = i + k
      · rw [if_pos h, if_pos (by omega)]
      · rw [if_neg h, if_neg (by omega)]
theorem tq_of (x : Int) : (ofI x : Ser α) = tq 0 (ofI x) := rfl
theorem tq_pwr (k : Nat) : (pwr (tq 1 (ofI 1)) k : Ser α) = tq k (ofI 1) := by
  induction k with
  | zero => rfl
  | succ k ih => rw [pwr, ih, tq_mul, mul1]
theorem tq_pwr0 (a : α) (k : Nat) : (pwr (tq 0 a) k : Ser α) = tq 0 (pwr a k) := by
  induction k with
  | zero => rfl
  | succ k ih => rw [pwr, ih, tq_mul]; rfl
theorem mon_pad (U : Nat → α) {e : Nat → Nat} {n : Nat} (h : ∀ j, n ≤ j → e j = 0) : ∀ k, mon U e (n + k) = mon U e n
  | 0 => rfl
  | k + 1 => by
    show mon U e (n + k) * pwr (U (n + k)) (e (n + k)) = _
    rw [h _ (by omega), mon_pad U h k, pwr, mul1]
end
abbrev S3 := Ser (Ser (Ser Int))
def gen3 (j : Nat) : S3 := if j = 0 then tq 1 (ofI 1) else if j = 1 then tq 0 (tq 1 (ofI 1)) else tq 0 (tq 0 (tq 1 (ofI 1)))
theorem mon_gen (e : Nat → Nat) : mon gen3 e 3 = tq (e 0) (tq (e 1) (tq (e 2) 1)) := by
  have g0 : gen3 0 = tq 1 (ofI 1) := rfl
  have g1 : gen3 1 = tq 0 (tq 1 (ofI 1)) := rfl
  have g2 : gen3 2 = tq 0 (tq 0 (tq 1 (ofI 1))) := rfl
  rw [mon, mon, mon, mon, g0, g1, g2, tq_pwr, tq_pwr0, tq_pwr, tq_pwr0, tq_pwr0, tq_pwr, omul, tq_mul, omul, tq_mul, tq_mul]
  rw [tq_of (α := Int) 1, tq_mul]
  simp only [Nat.add_zero, Nat.zero_add]
  rfl
theorem evM_gen {n : Nat} (hn : n ≤ 3) (a b c : Nat) : ∀ L : List Mon, LOk n L → (evM n gen3 L) a b c = cfL L ((a : Int), (b : Int), (c : Int))
  | [], _ => by
    rw [evM_nil]
    show (if a = 0 then (ofI 0 : Ser (Ser Int)) else ofI 0) b c = 0
    rw [ite_self]
    show (if b = 0 then (ofI 0 : Ser Int) else ofI 0) c = 0
    rw [ite_self]
    show (if c = 0 then (0 : Int) else 0) = 0
    rw [ite_self]
  | m :: L, h => by
    have ih := evM_gen hn a b c L h.tl
    obtain ⟨h1, h2⟩ := h.hd
    have hz : ∀ j, n ≤ j → ex m.2 j = 0 := fun j hj => by unfold ex; simp [show m.2.length ≤ j by omega]
    have e1 : mon gen3 (ex m.2) n = mon gen3 (ex m.2) 3 := by
      have := mon_pad gen3 hz (3 - n)
      rw [← this, show n + (3 - n) = 3 by omega]
    rw [evM_cons, cfL_cons, e1, mon_gen]
    show ((ofI m.1 * tq (ex m.2 0) (tq (ex m.2 1) (tq (ex m.2 2) (1 : Int))) : S3)) a b c + evM n gen3 L a b c = _
    rw [ih, tq_of, tq_mul, tq_of, tq_mul, tq_of, tq_mul]
    congr 1
    have g : ∀ i : Nat, 0 ≤ m.2[i]?.getD 0 := fun i => by
      rcases Nat.lt_or_ge i m.2.length with hi | hi
      · simp [hi]; exact h2 _ (List.getElem_mem hi)
      · simp [hi]
    have t : ∀ i : Nat, ((ex m.2 i : Nat) : Int) = m.2[i]?.getD 0 := fun i => by unfold ex; have := g i; omega
    have k : keyOf m.2 = (((ex m.2 0 : Nat) : Int), ((ex m.2 1 : Nat) : Int), ((ex m.2 2 : Nat) : Int)) := by unfold keyOf; rw [t, t, t]
    rw [k]
    simp only [Nat.zero_add]
    unfold tq
    by_cases ha : a = ex m.2 0
    · rw [if_pos ha]
      by_cases hb : b = ex m.2 1
      · rw [if_pos hb]
        by_cases hc : c = ex m.2 2
        · rw [if_pos hc, if_pos (by rw [ha, hb, hc])]
          exact Int.mul_one _
        · rw [if_neg hc, if_neg (fun e => hc (by simp at e; omega))]; rfl
      · rw [if_neg hb, if_neg (fun e => hb (by simp at e; omega))]
        show (if c = 0 then (0 : Int) else 0) = 0
        rw [ite_self]
    · rw [if_neg ha, if_neg (fun e => ha (by simp at e; omega))]
      show (if b = 0 then (ofI 0 : Ser Int) else ofI 0) c = 0
      rw [ite_self]
      show (if c = 0 then (0 : Int) else 0) = 0
      rw [ite_self]
theorem cfL_neg {n : Nat} {L : List Mon} (h : LOk n L) {K : Key} (hK : ¬ NN K) : cfL L K = 0 := by
  refine sumI_zero fun m hm => if_neg fun e => hK ?_
  have h2 := (h m hm).2
  have g : ∀ i : Nat, 0 ≤ m.2[i]?.getD 0 := fun i => by
    rcases Nat.lt_or_ge i m.2.length with hi | hi
    · simp [hi]; exact h2 _ (List.getElem_mem hi)
    · simp [hi]
  rw [e]
  exact ⟨g 0, g 1, g 2⟩
theorem Alk.cf {n : Nat} (hn : n ≤ 3) {p q : List Mon} (hp : LOk n p) (hq : LOk n q) (h : Alk (polM n p) (polM n q)) (K : Key) : cfL p K % 10007 = cfL q K % 10007 := by
  by_cases hK : NN K
  · obtain ⟨x, y, z⟩ := K
    obtain ⟨h1, h2, h3⟩ := hK
    simp only at h1 h2 h3
    have e := h S3 (cgS (cgS (cgS cgI (z.toNat + 1)) (y.toNat + 1)) (x.toNat + 1)) gen3 x.toNat (by omega) y.toNat (by omega) z.toNat (by omega)
    have e : (evM n gen3 p) x.toNat y.toNat z.toNat % 10007 = (evM n gen3 q) x.toNat y.toNat z.toNat % 10007 := e
    rw [evM_gen hn _ _ _ p hp, evM_gen hn _ _ _ q hq, Int.toNat_of_nonneg h1, Int.toNat_of_nonneg h2, Int.toNat_of_nonneg h3] at e
    exact e
  · rw [cfL_neg hp hK, cfL_neg hq hK]
theorem mon_unit {α : Type} [CR α] (U : Nat → α) {n k : Nat} (hk : k < n) : mon U (ex (oneE n k)) n = U k := by
  have e0 : ∀ j, j < n → ex (oneE n k) j = if k = j then 1 else 0 := fun j hj => by unfold ex; rw [oneE_get hj]; split <;> rfl
  have gen : ∀ d, d ≤ n → mon U (ex (oneE n k)) d = if k < d then U k else ofI 1 := by
    intro d
    induction d with
    | zero => intro _; rfl
    | succ d ih =>
      intro hd
      rw [mon, ih (by omega), e0 d (by omega)]
      by_cases h : k = d
      · subst h
        rw [if_neg (by omega), if_pos rfl, if_pos (by omega), pwr, pwr, omul, omul]
      · rw [if_neg h, pwr, mul1]
        by_cases h2 : k < d
        · rw [if_pos h2, if_pos (by omega)]
        · rw [if_neg h2, if_neg (by omega)]
  rw [gen n (Nat.le_refl _), if_pos hk]
theorem linK_ev {α : Type} [CR α] (c : Cg α) (U : Nat → α) {n : Nat} {row : List Int} (hl : row.length = n) : ∀ k, k ≤ n → c.r (evM n U (linK row k)) (sT (fun j => ofI (row[j]?.getD 0) * U j) k)
  | 0, _ => c.refl _
  | k + 1, hk => by
    refine c.trans (putL_ev c n U _ _ _) (c.trans (c.add (linK_ev c U hl k (by omega)) (c.eq ?_)) (c.eq rfl))
    rw [hl, mon_unit U (by omega)]
theorem stL_ev {α : Type} [CR α] (c : Cg α) (d : Nat) (U : Nat → α) {l L : List Mon} (hl : LOk d l) (hL : LOk d L) : ∀ k, c.r (evM d U (stL l L k)) (evM d U L * pwr (evM d U l) k) ∧ LOk d (stL l L k)
  | 0 => ⟨c.eq (mul1 _).symm, hL⟩
  | k + 1 => by
    obtain ⟨h1, h2⟩ := stL_ev c d U hl hL k
    refine ⟨c.trans (prodL_ev c d U h2 hl) (c.trans (c.mul h1 (c.refl _)) (c.eq ?_)), prodGo_lok hl _ [] h2 (by intro m hm; simp at hm)⟩
    rw [pwr, mulA]
theorem rep_lok (n : Nat) (x : Int) : LOk n [(x, List.replicate n 0)] := fun m hm => by
  simp at hm
  subst hm
  exact ⟨by simp, fun y hy => by have := (List.mem_replicate.1 hy).2; omega⟩
theorem chQ_ev {α : Type} [CR α] (c : Cg α) {d : Nat} (U : Nat → α) {A : List (List Mon)} (hA : ∀ i : Nat, LOk d (A[i]?.getD [])) (m : Mon) : ∀ i, c.r (evM d U (chQ' d A m i)) (ofI m.1 * mon (fun j => evM d U (A[j]?.getD [])) (ex m.2) i) ∧ LOk d (chQ' d A m i)
  | 0 => by
    refine ⟨c.eq ?_, rep_lok _ _⟩
    have hz : ∀ j, 0 ≤ j → ex (List.replicate d (0 : Int)) j = 0 := fun j _ => by
      unfold ex; rw [List.getElem?_replicate]; split <;> rfl
    have := mon_pad U hz d
    rw [chQ', evM_cons, evM_nil, add0]
    simp only
    rw [Nat.zero_add] at this
    rw [this]; rfl
  | i + 1 => by
    obtain ⟨h1, h2⟩ := chQ_ev c U hA m i
    obtain ⟨h3, h4⟩ := stL_ev c d U (hA i) h2 (m.2[i]?.getD 0).toNat
    refine ⟨c.trans h3 (c.trans (c.mul h1 (c.refl _)) (c.eq ?_)), h4⟩
    rw [mon, mulA]; rfl
theorem mvL_ev {α : Type} [CR α] (c : Cg α) {d : Nat} (U : Nat → α) {A : List (List Mon)} (hl : A.length = d) (hA : ∀ i : Nat, LOk d (A[i]?.getD [])) (p : List Mon) : c.r (evM d U (mvL d A p)) (evM d (fun j => evM d U (A[j]?.getD [])) p) ∧ LOk d (mvL d A p) := by
  have gen : ∀ (p L : List Mon), LOk d L → c.r (evM d U (p.foldl (fun s m => plusL s 1 (chQ' d A m A.length)) L)) (evM d U L + evM d (fun j => evM d U (A[j]?.getD [])) p) ∧ LOk d (p.foldl (fun s m => plusL s 1 (chQ' d A m A.length)) L) := by
    intro p
    induction p with
    | nil => intro L h; exact ⟨c.eq (add0 _).symm, h⟩
    | cons m p ih =>
      intro L h
      obtain ⟨h1, h2⟩ := chQ_ev c U hA m A.length
      obtain ⟨h3, h4⟩ := ih (plusL L 1 (chQ' d A m A.length)) (plusL_lok _ _ h2 h)
      refine ⟨c.trans h3 (c.trans (c.add (c.trans (plusL_ev c d U 1 _ _) (c.add (c.refl _) (c.mul (c.refl _) h1))) (c.refl _)) (c.eq ?_)), h4⟩
      rw [omul, hl, evM_cons, addA]
  obtain ⟨h1, h2⟩ := gen p [] (by intro m hm; simp at hm)
  exact ⟨c.trans h1 (c.eq (by rw [evM_nil, zadd])), h2⟩
theorem rwQ_ev {α : Type} [CR α] (c : Cg α) {d : Nat} (U : Nat → α) {A f : List (List Mon)} (hl : A.length = d) (hA : ∀ i : Nat, LOk d (A[i]?.getD [])) (row : List Int) : ∀ k, c.r (evM d U (rwQ d A f row k)) (sT (fun k => ofI (row[k]?.getD 0) * evM d (fun j => evM d U (A[j]?.getD [])) (f[k]?.getD [])) k) ∧ LOk d (rwQ d A f row k)
  | 0 => ⟨c.refl _, by intro m hm; simp [rwQ] at hm⟩
  | k + 1 => by
    obtain ⟨h1, h2⟩ := rwQ_ev c U hl hA row k (f := f)
    obtain ⟨h3, h4⟩ := mvL_ev c U hl hA (f[k]?.getD [])
    exact ⟨c.trans (plusL_ev c d U _ _ _) (c.add h1 (c.mul (c.refl _) h3)), plusL_lok _ _ h4 h2⟩
theorem linF_lok {n : Nat} {m : List (List Int)} (hl : m.length = n) (hr : Rws n m) (i : Nat) : LOk n ((linF m)[i]?.getD []) := by
  rcases Nat.lt_or_ge i m.length with hi | hi
  · rw [linF_get hi]
    have q := hr.at hi
    have ok := linK_ok q.1 q.2 (m[i]?.getD []).length (by rw [q.1]; exact Nat.le_refl _)
    exact fun x hx => ⟨(ok.2 x hx).len, fun y hy => ((ok.2 x hx).pw y hy).1⟩
  · have : (linF m)[i]?.getD [] = [] := by simp [linF, hi]
    rw [this]; intro x hx; simp at hx
theorem rwQ_alk {n : Nat} {m : List (List Int)} {f : List (List Mon)} (hl : m.length = n) (hr : Rws n m) (hf : f.length = n) (row : List Int) :
    Alk (polM n (rwQ n (linF m) f row n)) (sumP n (fun k => row[k]?.getD 0) fun k => cmpP n (fun j k => (m[j]?.getD [])[k]?.getD 0) (polM n (f[k]?.getD []))) := fun α _ c U => by
  refine c.trans (rwQ_ev c U (by rw [linF_len]; exact hl) (linF_lok hl hr) row n).1 (c.sT fun k hk => c.mul (c.refl _) (c.ev (fun j hj => ?_) _))
  rw [linF_get (by omega), (hr.at (show j < m.length by omega)).1]
  exact linK_ev c U (hr.at (show j < m.length by omega)).1 n (Nat.le_refl _)
end Go.Proofs.YtoeikpioonlmfaaGreat


namespace Go.Proofs.YtoeikpioonlmfaaGreat
open Go.Abs CR
set_option linter.unusedSectionVars false
set_option linter.unusedVariables false
set_option linter.unusedSimpArgs false
set_option maxHeartbeats 1000000
theorem dsum_sT (f : Nat → Int) : ∀ n, dsum f n = sT f n
  | 0 => rfl
  | n + 1 => by rw [dsum, dsum_sT f n]; rfl
section
variable {α : Type} [CR α]
theorem sT_swap (f : Nat → Nat → α) (n : Nat) : ∀ m, sT (fun k => sT (fun l => f k l) n) m = sT (fun l => sT (fun k => f k l) m) n
  | 0 => (sT_zero n).symm
  | m + 1 => by
    simp only [sT]
    rw [sT_swap f n m, sT_add]
theorem sT_pick (U : Nat → α) {i : Nat} : ∀ {n : Nat}, i < n → sT (fun l => ofI (if l = i then 1 else 0) * U l) n = U i
  | 0, h => by omega
  | n + 1, h => by
    rw [sT]
    by_cases e : n = i
    · subst e
      rw [if_pos rfl, omul, sT_congr (g := fun _ => ofI 0) (fun k hk => by rw [if_neg (by omega), zmul]), sT_zero, zadd]
    · rw [sT_pick U (n := n) (by omega), if_neg e, zmul, add0]
end
def trF (n : Nat) (m : List (List Int)) (f : List (List Mon)) (B : List (List Int)) : List (List Mon) := (List.range n).map fun i => rwQ n (linF m) f (B[i]?.getD []) n
@[simp] theorem trF_len (n : Nat) (m : List (List Int)) (f : List (List Mon)) (B : List (List Int)) : (trF n m f B).length = n := by simp [trF]
theorem trF_at {n : Nat} {m : List (List Int)} {f : List (List Mon)} {B : List (List Int)} {i : Nat} (h : i < n) : (trF n m f B)[i]?.getD [] = rwQ n (linF m) f (B[i]?.getD []) n := by simp [trF, h]
def InvR (n : Nat) (m B : List (List Int)) : Prop := ∀ v : Nat → Int, ∀ r, r < n → dsum (fun c => mx m r c * dsum (fun k => mx B c k * v k) n) n % 10007 = v r % 10007
theorem alongS_moved {n : Nat} {m : List (List Int)} {f : List (List Mon)} {z y : List Int} (hl : m.length = n) (hr : Rws n m) (hf : f.length = n) (hz : z.length = n) (hy : y.length = n) (hF : ∀ k : Nat, LOk n (f[k]?.getD []))
    (hyz : ∀ j, j < n → yat y j % 10007 = sT (fun k => mx m j k * yat z k) n % 10007) {vs us : List (List Int)} (hlen : vs.length = us.length)
    (hvu : ∀ (i : Nat), i < vs.length → ∀ j, j < n → yat (us[i]?.getD []) j % 10007 = sT (fun k => mx m j k * yat (vs[i]?.getD []) k) n % 10007) (row : List Int) :
    alongS z n vs (rwQ n (linF m) f row n) % 10007 = sT (fun k => row[k]?.getD 0 * alongS y n us (f[k]?.getD [])) n % 10007 := by
  subst hz
  have lo : LOk z.length (rwQ z.length (linF m) f row z.length) := (rwQ_ev cgI (fun _ => (0 : Int)) (by rw [linF_len]; exact hl) (linF_lok hl hr) row z.length).2
  rw [alongS_DD vs _ lo]
  have h1 := Alk.DD (vs.map yat) (rwQ_alk hl hr hf row) Int cgI (yat z)
  rw [DD_sumP] at h1
  refine h1.trans ?_
  show sT (fun k => row[k]?.getD 0 * DD (vs.map yat) (cmpP z.length (fun j k => (m[j]?.getD [])[k]?.getD 0) (polM z.length (f[k]?.getD []))) Int (yat z)) z.length % 10007 = _
  rw [sT_sumTo, sT_sumTo]
  refine sumTo_dot _ _ _ fun k hk => mod_mul _ ?_
  rw [DD_cmpP]
  have h2 := alongS_DD us (y := y) (f[k]?.getD []) (by rw [hy]; exact hF k)
  rw [hy] at h2
  rw [h2]
  show DD ((vs.map yat).map (mv z.length fun j k => (m[j]?.getD [])[k]?.getD 0)) (polM z.length (f[k]?.getD [])) Int (lf z.length (fun j k => (m[j]?.getD [])[k]?.getD 0) (yat z)) % 10007 = _
  refine DD_rsp (d := z.length) (polM_rsp _ _) (polM_rsp _ _) (fun α _ c U => c.refl _) (by simp [hlen]) (fun i j hj => ?_) Int cgI _ _ (fun j hj => ?_)
  · rcases Nat.lt_or_ge i vs.length with hi | hi
    · have h3 := hvu i hi j hj
      have hi2 : i < us.length := by omega
      simp only [List.getElem?_map, hi, hi2, List.getElem?_eq_getElem, Option.map_some, Option.getD_some] at h3 ⊢
      exact h3.symm
    · have hi2 : us.length ≤ i := by omega
      simp [hi, hi2]
  · exact (hyz j hj).symm
theorem edF_at {f : List (List Mon)} {y : List Int} {N i : Nat} {t : List Int} (hi : i < f.length) (h3 : (brs t).length ≤ 3) : (edF f y (N + 1) t)[i]?.getD 0 = alongS y y.length ((brs t).map (edF f y N)) (f[i]?.getD []) % 10007 := by
  show (drvL y y.length ((brs t).map (edF f y N)) f)[i]?.getD 0 = _
  rw [drvL_at hi]
  unfold drvP
  rw [if_neg (by simp; omega)]
theorem edF_at0 {f : List (List Mon)} {y : List Int} {N i : Nat} {t : List Int} (hi : i < f.length) (h3 : 3 < (brs t).length) : (edF f y (N + 1) t)[i]?.getD 0 = 0 := by
  show (drvL y y.length ((brs t).map (edF f y N)) f)[i]?.getD 0 = _
  rw [drvL_at hi]
  unfold drvP
  rw [if_pos (by simpa using h3)]
theorem edF_moved {n : Nat} {m B : List (List Int)} {f : List (List Mon)} {z y : List Int} (hl : m.length = n) (hr : Rws n m) (hf : f.length = n) (hz : z.length = n) (hy : y.length = n) (hF : ∀ k : Nat, LOk n (f[k]?.getD []))
    (hyz : ∀ j, j < n → yat y j % 10007 = sT (fun k => mx m j k * yat z k) n % 10007) (hI : InvR n m B) :
    ∀ (N : Nat) (t : List Int) (l : Nat), l < n → (edF f y N t)[l]?.getD 0 % 10007 = sT (fun i => mx m l i * (edF (trF n m f B) z N t)[i]?.getD 0) n % 10007
  | 0, t, l, h => by
    have : sT (fun i => mx m l i * (edF (trF n m f B) z 0 t)[i]?.getD 0) n = 0 := by
      rw [sT_congr (g := fun _ => (0 : Int)) (fun k _ => by simp [edF])]
      exact sT_zero n
    rw [this]; simp [edF]
  | N + 1, t, l, h => by
    have ih := edF_moved hl hr hf hz hy hF hyz hI N
    by_cases h3 : (brs t).length ≤ 3
    · rw [edF_at (by omega) h3, Int.emod_emod_of_dvd _ (Int.dvd_refl _), hy]
      have hm := fun row => alongS_moved hl hr hf hz hy hF hyz (vs := (brs t).map (edF (trF n m f B) z N)) (us := (brs t).map (edF f y N)) (by simp) (fun i hi j hj => by
        have hi : i < (brs t).length := by simpa using hi
        simp only [List.getElem?_map, hi, List.getElem?_eq_getElem, Option.map_some, Option.getD_some]
        exact ih _ j hj) row
      generalize hT : (fun k : Nat => alongS y n ((brs t).map (edF f y N)) (f[k]?.getD [])) = T at *
      have hTl : alongS y n ((brs t).map (edF f y N)) (f[l]?.getD []) = T l := by rw [← hT]
      rw [hTl, ← hI T l h, ← dsum_sT]
      refine dsum_cong fun i hi => ?_
      have hm := hm (B[i]?.getD [])
      have e : sT (fun k => (B[i]?.getD [])[k]?.getD 0 * alongS y n ((brs t).map (edF f y N)) (f[k]?.getD [])) n = dsum (fun k => mx B i k * T k) n := by
        rw [dsum_sT]; exact sT_congr fun k _ => by rw [← hT]; rfl
      rw [e] at hm
      rw [edF_at (by simpa using hi) h3, hz, trF_at hi, hm, mul_mod_r]
    · rw [edF_at0 (by omega) (by omega)]
      rw [sT_congr (g := fun _ => (0 : Int)) (fun k hk => by rw [edF_at0 (by simpa using hk) (by omega)]; exact Int.mul_zero _)]
      exact congrArg (· % 10007) (sT_zero n).symm
theorem InvR.back {n : Nat} {m B C : List (List Int)} (h1 : InvR n m B) (h2 : InvR n B C) {i k : Nat} (hi : i < n) (hk : k < n) : mx C i k % 10007 = mx m i k % 10007 := by
  have e1 := h1 (fun j => mx C j k) i hi
  rw [← e1]
  have e2 : dsum (fun c => mx m i c * dsum (fun j => mx B c j * mx C j k) n) n % 10007 = dsum (fun c => mx m i c * idM c k) n % 10007 := by
    refine dsum_cong fun c hc => ?_
    have e3 := h2 (fun j => if j = k then 1 else 0) c hc
    have e4 : dsum (fun c_1 => mx B c c_1 * dsum (fun k_1 => mx C c_1 k_1 * if k_1 = k then 1 else 0) n) n = dsum (fun j => mx B c j * mx C j k) n := dsum_congr fun j hj => by
      rw [dsum_one hk (fun x _ hx => by rw [if_neg hx, Int.mul_zero]), if_pos rfl, Int.mul_one]
    rw [e4] at e3
    rw [← mul_mod_r, e3, mul_mod_r]
    rfl
  rw [e2, dsum_one (k := k) hk (fun x _ hx => by unfold idM; rw [if_neg hx, Int.mul_zero])]
  unfold idM
  rw [if_pos rfl, Int.mul_one]
theorem trF_back {n : Nat} (hn : n ≤ 3) {m B C : List (List Int)} {f : List (List Mon)} (hl : m.length = n) (hr : Rws n m) (hlB : B.length = n) (hrB : Rws n B) (hf : f.length = n) (hF : ∀ k : Nat, LOk n (f[k]?.getD []))
    (hI : InvR n m B) (hJ : InvR n B C) {i : Nat} (hi : i < n) (K : Key) :
    cfL ((trF n B (trF n m f B) C)[i]?.getD []) K % 10007 = cfL (f[i]?.getD []) K % 10007 := by
  rw [trF_at hi]
  have l1 : ∀ row, LOk n (rwQ n (linF B) (trF n m f B) row n) := fun row => (rwQ_ev cgI (fun _ => (0 : Int)) (by rw [linF_len]; exact hlB) (linF_lok hlB hrB) row n).2
  refine Alk.cf hn (l1 _) (hF i) (fun α _ c U => ?_) K
  have a1 := rwQ_alk (f := trF n m f B) hlB hrB (by simp) (C[i]?.getD []) α c U
  refine c.trans a1 ?_
  show c.r (sT (fun k => ofI ((C[i]?.getD [])[k]?.getD 0) * polM n ((trF n m f B)[k]?.getD []) α (lf n (fun j k => (B[j]?.getD [])[k]?.getD 0) U)) n) _
  generalize hV : lf n (fun j k => (B[j]?.getD [])[k]?.getD 0) U = V
  have a2 : ∀ k, k < n → c.r (polM n ((trF n m f B)[k]?.getD []) α V) (sT (fun j => ofI (mx B k j) * polM n (f[j]?.getD []) α (lf n (fun j k => (m[j]?.getD [])[k]?.getD 0) V)) n) := fun k hk => by
    rw [trF_at hk]
    exact rwQ_alk hl hr hf (B[k]?.getD []) α c V
  have a3 : ∀ j, j < n → c.r (lf n (fun j k => (m[j]?.getD [])[k]?.getD 0) V j) (U j) := fun j hj => by
    rw [← hV]
    show c.r (sT (fun k => ofI (mx m j k) * sT (fun l => ofI (mx B k l) * U l) n) n) (U j)
    have e1 : sT (fun k => (ofI (mx m j k) : α) * sT (fun l => ofI (mx B k l) * U l) n) n = sT (fun l => ofI (sT (fun k => mx m j k * mx B k l) n) * U l) n := by
      have e2 : sT (fun k => (ofI (mx m j k) : α) * sT (fun l => ofI (mx B k l) * U l) n) n = sT (fun k => sT (fun l => U l * ofI (mx m j k * mx B k l)) n) n := sT_congr fun k _ => by
        rw [← sT_mul]; exact sT_congr fun l _ => by rw [ofMul, ← mulA, mulC]
      rw [e2, sT_swap]
      exact sT_congr fun l _ => by rw [sT_mul, sT_of, mulC]
    rw [e1]
    have e3 : ∀ l, l < n → sT (fun k => mx m j k * mx B k l) n % 10007 = (if l = j then 1 else 0) % 10007 := fun l hl2 => by
      have := hI (fun k => if k = l then 1 else 0) j hj
      rw [← dsum_sT]
      have e4 : dsum (fun c => mx m j c * dsum (fun k => mx B c k * if k = l then 1 else 0) n) n = dsum (fun k => mx m j k * mx B k l) n := dsum_congr fun x hx => by
        rw [dsum_one hl2 (fun y _ hy => by rw [if_neg hy, Int.mul_zero]), if_pos rfl, Int.mul_one]
      rw [e4] at this
      rw [this]
      by_cases e : j = l
      · rw [if_pos e, if_pos e.symm]
      · rw [if_neg e, if_neg (fun x => e x.symm)]
    refine c.trans (c.sT (g := fun l => ofI (if l = j then 1 else 0) * U l) fun l hl2 => c.mul (c.of (e3 l hl2)) (c.refl _)) (c.eq ?_)
    exact sT_pick U hj
  have a4 : ∀ j : Nat, c.r (polM n (f[j]?.getD []) α (lf n (fun j k => (m[j]?.getD [])[k]?.getD 0) V)) (polM n (f[j]?.getD []) α U) := fun j => polM_rsp n _ α c _ _ a3
  refine c.trans (c.sT fun k hk => c.mul (c.refl _) (c.trans (a2 k hk) (c.sT fun j _ => c.mul (c.refl _) (a4 j)))) ?_
  show c.r (sT (fun k => ofI (mx C i k) * sT (fun j => ofI (mx B k j) * polM n (f[j]?.getD []) α U) n) n) _
  generalize hW : (fun j : Nat => polM n (f[j]?.getD []) α U) = W
  have hWi : polM n (f[i]?.getD []) α U = W i := by rw [← hW]
  have hWj : ∀ k, sT (fun j => ofI (mx B k j) * polM n (f[j]?.getD []) α U) n = sT (fun j => ofI (mx B k j) * W j) n := fun k => by rw [← hW]
  simp only [hWj]
  rw [hWi]
  have e1 : sT (fun k => (ofI (mx C i k) : α) * sT (fun l => ofI (mx B k l) * W l) n) n = sT (fun l => ofI (sT (fun k => mx C i k * mx B k l) n) * W l) n := by
    have e2 : sT (fun k => (ofI (mx C i k) : α) * sT (fun l => ofI (mx B k l) * W l) n) n = sT (fun k => sT (fun l => W l * ofI (mx C i k * mx B k l)) n) n := sT_congr fun k _ => by
      rw [← sT_mul]; exact sT_congr fun l _ => by rw [ofMul, ← mulA, mulC]
    rw [e2, sT_swap]
    exact sT_congr fun l _ => by rw [sT_mul, sT_of, mulC]
  rw [e1]
  have e3 : ∀ l, l < n → sT (fun k => mx C i k * mx B k l) n % 10007 = (if l = i then 1 else 0) % 10007 := fun l hl2 => by
    have := hI (fun k => if k = l then 1 else 0) i hi
    rw [← dsum_sT]
    have e5 : dsum (fun k => mx C i k * mx B k l) n % 10007 = dsum (fun k => mx m i k * mx B k l) n % 10007 := dsum_cong fun k hk => by
      rw [← mul_mod_l, hI.back hJ hi hk, mul_mod_l]
    rw [e5]
    have e4 : dsum (fun c => mx m i c * dsum (fun k => mx B c k * if k = l then 1 else 0) n) n = dsum (fun k => mx m i k * mx B k l) n := dsum_congr fun x hx => by
      rw [dsum_one hl2 (fun y _ hy => by rw [if_neg hy, Int.mul_zero]), if_pos rfl, Int.mul_one]
    rw [e4] at this
    rw [this]
    by_cases e : i = l
    · rw [if_pos e, if_pos e.symm]
    · rw [if_neg e, if_neg (fun x => e x.symm)]
  refine c.trans (c.sT (g := fun l => ofI (if l = i then 1 else 0) * W l) fun l hl2 => c.mul (c.of (e3 l hl2)) (c.refl _)) (c.eq ?_)
  exact sT_pick W hi
end Go.Proofs.YtoeikpioonlmfaaGreat


namespace Go.Proofs.YtoeikpioonlmfaaGreat
open Go.RowKit Go.Shelf Go.Lib Go.Abs
set_option linter.unusedSectionVars false
set_option linter.unusedVariables false
set_option linter.unusedSimpArgs false
set_option maxRecDepth 100000 in
set_option maxHeartbeats 4000000 in
theorem Grow_calls (n : Nat) (h0 : 0 < n) (hn : n ≤ 1048576) (i : TypeInfo) (z : Value) (hi : Tryz.prog.info? 2 = some i) (hz : i.zero = some z) (hs : 0 < i.size) (hb : i.bytes = 8) (w : World) :
    Calls Tryz.prog 203 #[.slice none 0 0, .int .i64 n] w fun e w' =>
      e = .returned (.slice (some ⟨w.heap.size, 0, none⟩) 0 (grownCap w n 0 2)) ∧
      w' = w.drew.alloc (.cells (([] : List Value).toArray ++ Builtin.zeroCells z.cells n ++ Builtin.zeroCells z.cells (grownCap w n 0 2 - n)) 2) := by
  have h1 : ¬ ((n : Int) < 0) := by omega
  have h2 : wrap64 (n : Int) = n := by unfold wrap64; omega
  have h4 : (n : Int) > 0 := by omega
  have hrz : ∀ ty, (Builtin.append_ #[35, 3] ty #[.slice none 0 0, .int .i64 (n : Int)]).run Tryz.prog w =
      .ok (.slice (some ⟨w.heap.size, 0, none⟩) n (grownCap w n 0 2)) (w.drew.alloc (.cells (([] : List Value).toArray ++ Builtin.zeroCells z.cells n ++ Builtin.zeroCells z.cells (grownCap w n 0 2 - n)) 2)) := fun ty => by
    have h := Lib.run_append_grow_zeros w 35 3 ty 2 i z .i64 .i64 Tryz.underlying35 Tryz.underlying3 hi hz none 0 0 [] (run_firstCells_none w.drew i.size 0 0 0) n h0 hs (by omega) (by omega)
      (by rw [hb]; omega) (by
        rw [hb]
        have := growslice_fits (need := 0 + n) (old := 0) (bytes := 8) (by omega) (by omega)
        exact this)
    simp only [Nat.zero_add] at h
    exact h
  have hGn : n ≤ grownCap w n 0 2 := grownCap_ge w _ _ _
  obtain ⟨G, hG⟩ : ∃ G, G = grownCap w n 0 2 := ⟨_, rfl⟩
  rw [← hG] at hrz hGn ⊢
  have hG63 : G ≤ 9223372036854775807 := by
    have := grownCap_le_maxLen w n 0 2 (by unfold maxLen; omega)
    rw [← hG] at this
    unfold maxLen at this
    omega
  clear hG
  go_enter Tryz.func203, Tryz.ntmps203
  go_wp2_with (at_builtin; refine Lib.wpList_append_run _ rfl _ _ _ _ rfl _ _ rfl rfl _ _ (hrz _) ?_)
  all_goals (go_ret; exact ⟨rfl, rfl⟩)
theorem Grow_c (n : Nat) (h0 : 0 < n) (hn : n ≤ 1048576) : Con Tryz.prog 203 [.val (.slice none 0 0), .int n] (.own 2 0 []) := by
  refine ⟨⟨_, Tryz.func203, by decide, rfl⟩, fun w vs hl ha => ?_⟩
  have k := ha (fun _ => undef) (fun _ => [])
  generalize hoz : ([] : List Nat) = oz at k
  obtain ⟨i, z, hi, hz, hs, hb, hzs, _, hce⟩ := infoT_some Tryz.info2
  cases k with
  | cons c v o cs vs os hc ht =>
    cases ht with
    | cons c2 v2 o2 cs2 vs2 os2 hc2 ht2 =>
      have e2 : vs2 = [] := by simpa using hl
      subst e2
      cases hc2 with
      | cell _ _ _ hc2 =>
        cases hc2 with
        | val _ _ =>
          cases hc with
          | cell _ _ _ hc =>
            cases hc with
            | val _ _ =>
              refine (Grow_calls n h0 hn i z hi hz (by omega) hb w).mono ?_
              rintro e w' ⟨rfl, rfl⟩
              have hge : n ≤ grownCap w n 0 2 := grownCap_ge w _ _ _
              have hrep : RepC Tryz.prog (w.drew.alloc (.cells (([] : List Value).toArray ++ Builtin.zeroCells z.cells n ++ Builtin.zeroCells z.cells (grownCap w n 0 2 - n)) 2)) (fun _ => False) (.own 2 0 []) (.slice (some ⟨w.heap.size, 0, none⟩) 0 (grownCap w n 0 2)) [w.heap.size] :=
                .own _ _ 0 _ _ _ _ (heapDrewNew w _) (by omega) (by rw [hce]; simp [size_zeroCells, hzs, ← Nat.add_mul]; omega) (.nil _)
              refine ⟨_, [w.heap.size], rfl, ⟨rfl, rfl, rfl, by simp, fun b hb => heapDrewOld w _ b hb, by first | exact Nat.le_refl _ | exact dr_succ _⟩, fun tm oss => .cell _ _ _ (hrep.mono (fun _ h => h.elim) (fun _ _ => rfl)), by simp, by simp⟩
def flL (xss : List (List Int)) (i : Nat) : List Int := (xss.take i).flatten
theorem flL_zero (xss : List (List Int)) : flL xss 0 = [] := rfl
theorem flL_succ {xss : List (List Int)} {i : Nat} (h : i < xss.length) : flL xss (i + 1) = flL xss i ++ xss[i]?.getD [] := by
  unfold flL
  rw [List.take_add_one, List.flatten_append]
  simp [h]
theorem flL_le (xss : List (List Int)) {i : Nat} (h : i ≤ xss.length) : (flL xss i).length ≤ (flL xss xss.length).length := by
  unfold flL
  rw [List.take_length]
  have : xss.flatten = (xss.take i).flatten ++ (xss.drop i).flatten := by rw [← List.flatten_append, List.take_append_drop]
  rw [this, List.length_append]; omega
set_option maxRecDepth 100000 in
set_option maxHeartbeats 4000000 in
theorem Concat_c (xss : List (List Int)) (h0 : 0 < (flL xss xss.length).length) (hn : (flL xss xss.length).length ≤ 1048576) (hl : xss.length ≤ 1048576) :
    Con Tryz.prog 151 [.sl xss.length (mat xss)] (.own 2 (flL xss xss.length).length (avs (flL xss xss.length))) := by
  have cG := Con.gfz (Grow_c (flL xss xss.length).length h0 hn) (by simp [hasOwnL, hasOwn]) rfl
  refine con_of_vc Tryz.mixed ⟨9, [], [1000000 + 203], []⟩ Tryz.func151 (by decide) rfl (by simp) (by decide) (by simp [freshOK, freshL, go_sem]) ?_
  rw [Tryz.ntmps151]
  simp [go_sem]
  refine loop_inv ([3, 5] ++ List.range' 11 12) (fun i : Nat => [(3, .int (flL xss i).length), (11, .int i)]) (fun i => i ≤ xss.length) (fun i => xss.length - i) 0 (by simp) (by simp [go_sem, flL_zero]) (by simp [go_sem]) ?_
  intro i hi
  by_cases hin : i < xss.length
  · have hii : (i : Int) < xss.length := by omega
    have ne : ¬ xss = [] := by rintro rfl; simp at hin
    have ft := congrArg List.length (flL_succ hin)
    rw [List.length_append] at ft
    have fl := flL_le xss (i := i + 1) (by omega)
    generalize (flL xss i).length = s at *
    generalize (flL xss xss.length).length = T at *
    simp [go_sem, hii, mat_drop hin]
    generalize (xss[i]?.getD []).length = x at *
    refine ⟨ne, ⟨by omega, by omega⟩, ?_⟩
    have hs : ¬ ((s : Int) + x < 0) := by omega
    simp [go_sem, hs]
    refine ⟨⟨by omega, by omega⟩, i + 1, by omega, by omega, Off_reset _ _ _ (by simp), ?_, by omega⟩
    omega
  · have e : i = xss.length := by omega
    subst e
    have hii : ¬ (xss.length : Int) < xss.length := by omega
    simp [go_sem, hii]
    refine ⟨_, _, cG, ?_⟩
    simp [go_sem]
    refine loop_inv ([6, 8] ++ List.range' 27 8) (fun i : Nat => [(6, .own 2 (flL xss i).length (avs (flL xss i))), (27, .int i)]) (fun i => i ≤ xss.length) (fun i => xss.length - i) 0 (by simp) (by simp [go_sem, avs, flL_zero]) (by simp [go_sem]) ?_
    intro i hi
    by_cases hin : i < xss.length
    · have hii : (i : Int) < xss.length := by omega
      have ne : ¬ xss = [] := by rintro rfl; simp at hin
      have ft := flL_succ hin
      have fl := flL_le xss (i := i + 1) (by omega)
      rw [ft, List.length_append] at fl
      simp [go_sem, hii, mat_drop hin]
      refine ⟨ne, ?_⟩
      exact ⟨⟨by omega, by omega⟩, ⟨by omega, by omega⟩, i + 1, by omega, by omega, Off_reset _ _ _ (by simp), by rw [ft, List.length_append, avs_app]; exact ⟨rfl, rfl⟩, by omega⟩
    · have e : i = xss.length := by omega
      subst e
      have hii : ¬ (xss.length : Int) < xss.length := by omega
      simp [go_sem, hii]
end Go.Proofs.YtoeikpioonlmfaaGreat


namespace Go.Proofs.YtoeikpioonlmfaaGreat
open Go.Abs
set_option linter.unusedSectionVars false
set_option linter.unusedVariables false
set_option linter.unusedSimpArgs false
set_option maxHeartbeats 1000000
end Go.Proofs.YtoeikpioonlmfaaGreat


namespace Go.Proofs.YtoeikpioonlmfaaGreat
set_option linter.unusedSectionVars false
set_option linter.unusedVariables false
set_option maxRecDepth 100000
def fp : Nat → Nat → Nat → Nat
  | 0, _, _ => 1
  | f + 1, a, n => Nat.rec (1 % 10007) (fun _ _ => Nat.rec (fp f (Nat.mod (Nat.mul a a) 10007) (Nat.div n 2)) (fun _ _ => Nat.mod (Nat.mul a (fp f (Nat.mod (Nat.mul a a) 10007) (Nat.div n 2))) 10007) (Nat.mod n 2)) n
def chB (g : Nat → Nat) : Nat → Nat → Bool
  | 0, lo => Nat.beq (g lo) 1
  | d + 1, lo => and (chB g d lo) (chB g d (lo + 2 ^ d))
def ivN (a : Nat) : Nat := a * fp 15 a 10005 % 10007
theorem fp_eq : ∀ (f a n : Nat), n < 2 ^ f → fp f a n = a ^ n % 10007
  | 0, a, n, h => by
    have : n = 0 := by simp at h; exact h
    subst this; rfl
  | f + 1, a, 0, _ => by show 1 % 10007 = a ^ 0 % 10007; rw [Nat.pow_zero]
  | f + 1, a, n + 1, h => by
    have hh : (n + 1) / 2 < 2 ^ f := by rw [Nat.pow_succ] at h; omega
    have ih := fp_eq f (a * a % 10007) ((n + 1) / 2) hh
    have sq : (a * a % 10007) ^ ((n + 1) / 2) % 10007 = a ^ (2 * ((n + 1) / 2)) % 10007 := by
      rw [← Nat.pow_mod, Nat.pow_mul, Nat.pow_two]
    rw [sq] at ih
    have e0 : fp (f + 1) a (n + 1) = Nat.rec (fp f (a * a % 10007) ((n + 1) / 2)) (fun _ _ => a * fp f (a * a % 10007) ((n + 1) / 2) % 10007) ((n + 1) % 2) := rfl
    rw [e0, ih]
    rcases Nat.mod_two_eq_zero_or_one (n + 1) with h2 | h2
    · rw [h2]
      show a ^ (2 * ((n + 1) / 2)) % 10007 = a ^ (n + 1) % 10007
      rw [show 2 * ((n + 1) / 2) = n + 1 by omega]
    · rw [h2]
      show a * (a ^ (2 * ((n + 1) / 2)) % 10007) % 10007 = a ^ (n + 1) % 10007
      rw [show n + 1 = 2 * ((n + 1) / 2) + 1 by omega, Nat.pow_succ, Nat.mul_mod, Nat.mod_mod, ← Nat.mul_mod, Nat.mul_comm]
      rw [show (2 * ((n + 1) / 2) + 1) / 2 = (n + 1) / 2 by omega]
theorem chB_ok (g : Nat → Nat) : ∀ (d lo : Nat), chB g d lo = true → ∀ a, lo ≤ a → a < lo + 2 ^ d → g a = 1
  | 0, lo, h, a, h1, h2 => by
    have : a = lo := by simp at h2; omega
    subst this
    rw [chB] at h
    exact Nat.eq_of_beq_eq_true h
  | d + 1, lo, h, a, h1, h2 => by
    rw [chB, Bool.and_eq_true] at h
    rw [Nat.pow_succ] at h2
    by_cases hl : a < lo + 2 ^ d
    · exact chB_ok g d lo h.1 a h1 hl
    · exact chB_ok g d (lo + 2 ^ d) h.2 a (by omega) (by omega)
set_option maxHeartbeats 4000000 in
theorem chB_1 : chB ivN 13 1 = true := by decide +kernel
theorem chB_2 : chB ivN 10 8193 = true := by decide +kernel
theorem chB_3 : chB ivN 9 9217 = true := by decide +kernel
theorem chB_4 : chB ivN 8 9495 = true := by decide +kernel
theorem chB_5 : chB ivN 8 9751 = true := by decide +kernel
theorem inv_nat {a : Nat} (h0 : a ≠ 0) (h : a < 10007) : ivN a = 1 := by
  by_cases h1 : a < 8193
  · exact chB_ok ivN 13 1 chB_1 a (by omega) (by omega)
  by_cases h2 : a < 9217
  · exact chB_ok ivN 10 8193 chB_2 a (by omega) (by omega)
  by_cases h3 : a < 9729
  · exact chB_ok ivN 9 9217 chB_3 a (by omega) (by omega)
  by_cases h4 : a < 9751
  · exact chB_ok ivN 8 9495 chB_4 a (by omega) (by omega)
  · exact chB_ok ivN 8 9751 chB_5 a (by omega) (by omega)
theorem fp_pow (n e : Nat) (he : e < 2 ^ 15) : ((fp 15 n e : Nat) : Int) = pw (n : Int) (e : Int) := by
  rw [fp_eq 15 n e he]
  unfold pw
  rw [Int.toNat_natCast, Int.natCast_emod, Int.natCast_pow]; rfl
theorem fp_pw (n : Nat) : ((fp 15 n 10005 : Nat) : Int) = pw (n : Int) 10005 := fp_pow n 10005 (by decide)
theorem inv_ok {a : Int} (h : isN a) (h0 : a ≠ 0) : a * pw a 10005 % 10007 = 1 := by
  obtain ⟨n, rfl⟩ : ∃ n : Nat, a = n := ⟨a.toNat, by have := h.1; omega⟩
  have hn : n < 10007 := by have := h.2; omega
  have hv := inv_nat (a := n) (by omega) hn
  rw [← fp_pw, ← Int.natCast_mul]
  unfold ivN at hv
  generalize n * fp 15 n 10005 = z at *
  omega
end Go.Proofs.YtoeikpioonlmfaaGreat


namespace Go.Proofs.YtoeikpioonlmfaaGreat
open Go.Abs
set_option linter.unusedSectionVars false
set_option linter.unusedVariables false
set_option linter.unusedSimpArgs false
set_option maxHeartbeats 1000000
structure GI (n w : Nat) (W0 : Mx) (m : List (List Int)) (done k : Nat) : Prop where
  len : m.length = n
  rws : Rws w m
  eqv : RowEq n w W0 (mx m)
  dle : done ≤ n
  piv : ∃ piv : Nat → Nat, (∀ j, j < done → piv j < k ∧ ∀ r, r < n → mx m r (piv j) = if r = j then 1 else 0) ∧ (∀ j, j + 1 < done → piv j < piv (j + 1)) ∧ (∀ j, j < done → ∀ c, c < piv j → mx m j c = 0)
  low : ∀ r, done ≤ r → r < n → ∀ c, c < k → mx m r c = 0
theorem GI.start {n w : Nat} {m : List (List Int)} (hl : m.length = n) (hr : Rws w m) : GI n w (mx m) m 0 0 :=
  ⟨hl, hr, RowEq.refl n w _, by omega, ⟨fun _ => 0, fun j hj => by omega, fun j hj => by omega, fun j hj => by omega⟩, fun r _ _ c hc => by omega⟩
theorem GI.skip {n w : Nat} {W0 : Mx} {m : List (List Int)} {done k : Nat} (h : GI n w W0 m done k) (hz : ∀ r, done ≤ r → r < n → mx m r k = 0) : GI n w W0 m done (k + 1) := by
  obtain ⟨h1, h2, h3, h4, ⟨p, p1, p2, p3⟩, h6⟩ := h
  refine ⟨h1, h2, h3, h4, ⟨p, fun j hj => ⟨by have := (p1 j hj).1; omega, (p1 j hj).2⟩, p2, p3⟩, fun r hr hn c hc => ?_⟩
  by_cases e : c = k
  · subst e; exact hz r hr hn
  · exact h6 r hr hn c (by omega)
theorem mx_N {w : Nat} {m : List (List Int)} (h : Rws w m) {r : Nat} (hr : r < m.length) (c : Nat) : isN (mx m r c) := (h.at hr).2.get c
theorem GI.step {n w : Nat} {W0 : Mx} {m : List (List Int)} {done k i : Nat} (h : GI n w W0 m done k) (hk : k < w) (hd : done < n) (h1 : done ≤ i) (h2 : i < n) (hne : mx m i k ≠ 0) :
    GI n w W0 (elD (scl (swp m i done) done k) done k) (done + 1) (k + 1) := by
  obtain ⟨hl, hr, he, hdl, ⟨p, p1, p2, p3⟩, hlow⟩ := h
  have il : i < m.length := by omega
  have dl : done < m.length := by omega
  have sm := swp_mx il dl
  have sr := swp_ok hr il dl
  have sl := swp_len m i done
  have se : RowEq n w W0 (mx (swp m i done)) := by
    by_cases e : i = done
    · have : swp m i done = m := by unfold swp; rw [if_pos e]
      rw [this]; exact he
    · rw [sm]; exact he.trans (RowEq.swap _ h2 hd e)
  have sd : ∀ c, mx (swp m i done) done c = mx m i c := fun c => by rw [sm, updR_at]
  have slow : ∀ r, done ≤ r → r < n → ∀ c, c < k → mx (swp m i done) r c = 0 := fun r hr1 hr2 c hc => by
    rw [sm]
    unfold updR
    by_cases a1 : r = done
    · rw [if_pos a1]; exact hlow i h1 h2 c hc
    · rw [if_neg a1]
      by_cases a2 : r = i
      · rw [if_pos a2]; exact hlow done (Nat.le_refl _) hd c hc
      · rw [if_neg a2]; exact hlow r hr1 hr2 c hc
  have sup : ∀ r, r < done → mx (swp m i done) r = mx m r := fun r hr1 => by
    rw [sm, updR_ne _ _ (by omega), updR_ne _ _ (by omega)]
  have snz : mx (swp m i done) done k ≠ 0 := by rw [sd]; exact hne
  generalize swp m i done = a at *
  have al : a.length = n := by omega
  have ad : done < a.length := by omega
  have cr := scl_ok (k := k) sr ad
  have cl := scl_len a done k
  have cat := fun r c (hc : c < w) => scl_at (k := k) sr ad (r := r) hc
  have iv := inv_ok (mx_N sr ad k) snz
  have ce : RowEq n w (mx a) (mx (scl a done k)) := by
    refine (RowEq.scale (mx a) hd (k := pw (mx a done k) 10005) (k' := mx a done k) (by rw [Int.mul_comm]; exact iv)).trans (RowEq.cong fun r c hr1 hc => ?_)
    rw [cat r c hc]
    unfold updR
    by_cases e : r = done
    · subst e
      rw [if_pos rfl, if_pos rfl, mul_mod_r, Int.emod_emod_of_dvd _ (Int.dvd_refl _), Int.mul_comm]
    · rw [if_neg e, if_neg e]
  have ck : mx (scl a done k) done k = 1 := by rw [cat _ _ hk, if_pos rfl, mul_mod_r]; exact iv
  have cz : ∀ c, c < k → mx (scl a done k) done c = 0 := fun c hc => by
    rw [cat _ _ (by omega), if_pos rfl, slow done (Nat.le_refl _) hd c hc]; simp
  have co : ∀ r c, r ≠ done → c < w → mx (scl a done k) r c = mx a r c := fun r c hr1 hc => by rw [cat _ _ hc, if_neg hr1]
  generalize scl a done k = b at *
  have bl : b.length = n := by omega
  have bd : done < b.length := by omega
  have er := elD_ok (k := k) cr bd
  have el := elD_len b done k
  have eat := fun r c (hr1 : r < n) (hc : c < w) => elD_at (d := done) (k := k) cr (r := r) (c := c) (by omega) hc
  have ee : RowEq n w (mx b) (mx (elD b done k)) := by
    refine (RowEq.clr (mx b) hd (fun r => - mx b r k)).trans (RowEq.cong fun r c hr1 hc => ?_)
    rw [eat r c hr1 hc]
    unfold clr
    by_cases e : r = done
    · subst e; rw [if_neg (by omega), if_pos rfl]
    · rw [if_pos ⟨hr1, e⟩, if_neg e, Int.emod_emod_of_dvd _ (Int.dvd_refl _), Int.add_emod, Int.add_emod (mx b r c), mul_mod_l]
  have keep : ∀ r c, r < n → c < w → mx b done c = 0 → mx (elD b done k) r c = mx b r c := fun r c hr1 hc hz => by
    rw [eat r c hr1 hc]
    by_cases e : r = done
    · rw [if_pos e, e]
    · rw [if_neg e, hz, Int.mul_zero, Int.add_zero]
      have := mx_N cr (show r < b.length by omega) c
      exact Int.emod_eq_of_lt this.1 (by have := this.2; omega)
  have fin : ∀ r, r < n → mx (elD b done k) r k = if r = done then 1 else 0 := fun r hr1 => by
    rw [eat r k hr1 hk, ck]
    by_cases e : r = done
    · rw [if_pos e, if_pos e]
    · rw [if_neg e, if_neg e, Int.mul_one]; omega
  refine ⟨by omega, er, (se.trans ce).trans ee, by omega, ⟨fun j => if j = done then k else p j, fun j hj => ?_, fun j hj => ?_, fun j hj c hc => ?_⟩, fun r hr1 hr2 c hc => ?_⟩
  · by_cases e : j = done
    · subst e
      simp only [if_true]
      exact ⟨by omega, fin⟩
    · have hjd : j < done := by omega
      have q := p1 j hjd
      simp only [if_neg e]
      refine ⟨by omega, fun r hr1 => ?_⟩
      rw [keep r (p j) hr1 (by omega) (cz _ q.1)]
      by_cases e2 : r = done
      · subst e2; rw [cz _ q.1, if_neg (by omega)]
      · rw [co r (p j) e2 (by omega)]
        by_cases e3 : r < done
        · rw [sup r e3]; exact q.2 r hr1
        · rw [slow r (by omega) hr1 (p j) q.1, if_neg (by omega)]
  · by_cases e : j + 1 = done
    · have q := p1 j (by omega)
      simp only [if_pos e, if_neg (show ¬ j = done by omega)]
      exact q.1
    · simp only [if_neg e, if_neg (show ¬ j = done by omega)]
      exact p2 j (by omega)
  · by_cases e : j = done
    · subst e
      simp only [if_true] at hc
      rw [keep j c (by omega) (by omega) (cz c hc), cz c hc]
    · have hjd : j < done := by omega
      have q := p1 j hjd
      simp only [if_neg e] at hc
      rw [keep j c (by omega) (by omega) (cz c (by omega)), co j c e (by omega), sup j hjd]
      exact p3 j hjd c hc
  · by_cases e : c = k
    · subst e; rw [fin r hr2, if_neg (by omega)]
    · rw [keep r c hr2 (by omega) (cz c (by omega)), co r c (by omega) (by omega)]
      exact slow r (by omega) hr2 c (by omega)
end Go.Proofs.YtoeikpioonlmfaaGreat


namespace Go.Proofs.YtoeikpioonlmfaaGreat
open Go.Abs
set_option linter.unusedSectionVars false
set_option linter.unusedVariables false
set_option linter.unusedSimpArgs false
set_option maxHeartbeats 1000000
def stepR (m : List (List Int)) (d : Int) (done k : Nat) : List (List Int) × Int × Nat :=
  if fndR m k (m.length - done) done = m.length then (m, 0, done)
  else (elD (scl (swp m (fndR m k (m.length - done) done) done) done k) done k, (if fndR m k (m.length - done) done = done then d else (- d) % 10007) * mx (swp m (fndR m k (m.length - done) done) done) done k % 10007, done + 1)
def redR : Nat → Nat → List (List Int) × Int × Nat → List (List Int) × Int × Nat
  | 0, _, st => st
  | f + 1, k, st => if st.2.2 < st.1.length then redR f (k + 1) (stepR st.1 st.2.1 st.2.2 k) else st
theorem stepR_GI {n w : Nat} {W0 : Mx} {m : List (List Int)} {d : Int} {done k : Nat} (h : GI n w W0 m done k) (hk : k < w) (hd : done < n) : GI n w W0 (stepR m d done k).1 (stepR m d done k).2.2 (k + 1) := by
  have hl := h.len
  have fl := fndR_le m k (m.length - done) done
  unfold stepR
  by_cases e : fndR m k (m.length - done) done = m.length
  · rw [if_pos e]
    exact h.skip fun r h1 h2 => fndR_zero m k (m.length - done) done r h1 (by omega)
  · rw [if_neg e]
    exact h.step hk hd fl.1 (by omega) (fndR_ne m k (m.length - done) done (by omega))
theorem redR_GI {n w : Nat} {W0 : Mx} : ∀ (f k : Nat) (st : List (List Int) × Int × Nat), k + f = w → GI n w W0 st.1 st.2.2 k →
    ∃ k', k' ≤ w ∧ (k' = w ∨ (redR f k st).2.2 = n) ∧ GI n w W0 (redR f k st).1 (redR f k st).2.2 k'
  | 0, k, st, hk, h => ⟨k, by omega, .inl (by omega), h⟩
  | f + 1, k, st, hk, h => by
    rw [redR]
    have hl := h.len
    have hd := h.dle
    split
    · rename_i hlt
      exact redR_GI f (k + 1) _ (by omega) (stepR_GI h (by omega) (by omega))
    · rename_i hlt
      exact ⟨k, by omega, .inr (by omega), h⟩
def ldF (r : List Int) : Nat → Nat → Nat
  | 0, i => i
  | f + 1, i => if r[i]?.getD 0 = 0 then ldF r f (i + 1) else i
theorem ldF_le (r : List Int) : ∀ f i, i ≤ ldF r f i ∧ ldF r f i ≤ i + f
  | 0, i => by simp [ldF]
  | f + 1, i => by
    rw [ldF]
    split
    · have := ldF_le r f (i + 1); omega
    · omega
theorem ldF_zero (r : List Int) : ∀ f i j, i ≤ j → j < ldF r f i → r[j]?.getD 0 = 0
  | 0, i, j, h1, h2 => by rw [ldF] at h2; omega
  | f + 1, i, j, h1, h2 => by
    rw [ldF] at h2
    split at h2
    · rename_i h
      by_cases e : j = i
      · subst e; exact h
      · exact ldF_zero r f (i + 1) j (by omega) h2
    · omega
theorem ldF_ne (r : List Int) : ∀ f i, ldF r f i < i + f → r[ldF r f i]?.getD 0 ≠ 0
  | 0, i, h => by rw [ldF] at h; omega
  | f + 1, i, h => by
    rw [ldF] at h ⊢
    split
    · rename_i hz
      rw [if_pos hz] at h
      exact ldF_ne r f (i + 1) (by omega)
    · rename_i hz; exact hz
def leadL (r : List Int) : Nat := ldF r r.length 0
def oneB (n : Nat) (m : List (List Int)) (done : Nat) : Bool := decide (done = n) && decide (leadL (m[n - 1]?.getD []) = n - 1)
theorem piv_ge {p : Nat → Nat} {n : Nat} (h : ∀ j, j + 1 < n → p j < p (j + 1)) : ∀ j, j < n → j ≤ p j
  | 0, _ => by omega
  | j + 1, hj => by have := piv_ge h j (by omega); have := h j hj; omega
theorem piv_le {p : Nat → Nat} {n : Nat} (h : ∀ j, j + 1 < n → p j < p (j + 1)) : ∀ t j, j + t + 1 = n → p j + t ≤ p (n - 1)
  | 0, j, hj => by rw [show n - 1 = j by omega]; omega
  | t + 1, j, hj => by have := piv_le h t (j + 1) (by omega); have := h j (by omega); omega
theorem GI.one {n : Nat} {W0 : Mx} {m : List (List Int)} {done k : Nat} (h : GI n (n + 1) W0 m done k) (hn : 0 < n) (hk : k ≤ n + 1) (ho : oneB n m done = true) : ∀ r c, r < n → c < n → mx m r c = idM r c := by
  unfold oneB at ho
  simp only [Bool.and_eq_true, decide_eq_true_eq] at ho
  obtain ⟨hd, hl⟩ := ho
  subst hd
  obtain ⟨p, p1, p2, p3⟩ := h.piv
  have rl := (h.rws.at (i := done - 1) (by rw [h.len]; omega)).1
  have hne := ldF_ne (m[done - 1]?.getD []) (m[done - 1]?.getD []).length 0 (by
    have : ldF (m[done - 1]?.getD []) (m[done - 1]?.getD []).length 0 = done - 1 := hl
    omega)
  have hl2 : ldF (m[done - 1]?.getD []) (m[done - 1]?.getD []).length 0 = done - 1 := hl
  rw [hl2] at hne
  have hp : p (done - 1) ≤ done - 1 := by
    rcases Nat.lt_or_ge (done - 1) (p (done - 1)) with hlt | hge
    · exact (hne (p3 (done - 1) (by omega) (done - 1) hlt)).elim
    · exact hge
  intro r c hr hc
  have g1 := piv_ge p2 c hc
  have g2 := piv_le p2 (done - 1 - c) c (by omega)
  have e : p c = c := by omega
  have := (p1 c hc).2 r hr
  rw [e] at this
  exact this
theorem GI.none {n : Nat} {W0 : Mx} {m : List (List Int)} {done k : Nat} (h : GI n (n + 1) W0 m done k) (hn : 0 < n) (hk : k ≤ n + 1) (hf : k = n + 1 ∨ done = n) (ho : oneB n m done = false) : ∃ i, i < n ∧ ∀ c, c < n → mx m i c = 0 := by
  refine ⟨n - 1, by omega, fun c hc => ?_⟩
  have hdl := h.dle
  by_cases hd : done = n
  · subst hd
    obtain ⟨p, p1, p2, p3⟩ := h.piv
    have rl := (h.rws.at (i := done - 1) (by rw [h.len]; omega)).1
    have g1 := piv_ge p2 (done - 1) (by omega)
    have q := p1 (done - 1) (by omega)
    by_cases e : p (done - 1) = done - 1
    · have e1 : mx m (done - 1) (done - 1) = 1 := by
        have := q.2 (done - 1) (by omega)
        rw [e, if_pos rfl] at this
        exact this
      have l1 := ldF_le (m[done - 1]?.getD []) (m[done - 1]?.getD []).length 0
      have hl : leadL (m[done - 1]?.getD []) = done - 1 := by
        unfold leadL
        rcases Nat.lt_trichotomy (ldF (m[done - 1]?.getD []) (m[done - 1]?.getD []).length 0) (done - 1) with hlt | heq | hgt
        · have := ldF_ne (m[done - 1]?.getD []) (m[done - 1]?.getD []).length 0 (by omega)
          exact (this (p3 (done - 1) (by omega) _ (by omega))).elim
        · exact heq
        · have := ldF_zero (m[done - 1]?.getD []) (m[done - 1]?.getD []).length 0 (done - 1) (by omega) hgt
          have e2 : mx m (done - 1) (done - 1) = 0 := this
          rw [e1] at e2; omega
      unfold oneB at ho
      rw [hl] at ho
      simp at ho
    · exact p3 (done - 1) (by omega) c (by omega)
  · exact h.low (n - 1) (by omega) (by omega) c (by omega)
end Go.Proofs.YtoeikpioonlmfaaGreat


namespace Go.Proofs.YtoeikpioonlmfaaGreat
open Go.Abs
set_option linter.unusedSectionVars false
set_option linter.unusedVariables false
set_option linter.unusedSimpArgs false
set_option maxHeartbeats 1000000
theorem solve_no {n : Nat} {m : List (List Int)} (hn : 0 < n) (hl : m.length = n) (hr : Rws (n + 1) m) (ho : oneB n (redR (n + 1) 0 (m, 1, 0)).1 (redR (n + 1) 0 (m, 1, 0)).2.2 = false) : det n (mx m) % 10007 = 0 := by
  obtain ⟨k', h1, h2, h3⟩ := redR_GI (n + 1) 0 (m, 1, 0) (by omega) (GI.start hl hr)
  obtain ⟨i, hi, hz⟩ := h3.none hn h1 h2 ho
  exact h3.eqv.sing (by omega) hi (fun c hc => by rw [hz c hc]; rfl)
theorem solve_yes {n : Nat} {m : List (List Int)} (hn : 0 < n) (hl : m.length = n) (hr : Rws (n + 1) m) (ho : oneB n (redR (n + 1) 0 (m, 1, 0)).1 (redR (n + 1) 0 (m, 1, 0)).2.2 = true) :
    det n (mx m) % 10007 ≠ 0 ∧ ∀ k, k < n → mx (redR (n + 1) 0 (m, 1, 0)).1 k n = det n (updC (mx m) k (fun r => mx m r n)) % 10007 * (pw (det n (mx m) % 10007) 10005) % 10007 := by
  obtain ⟨k', h1, h2, h3⟩ := redR_GI (n + 1) 0 (m, 1, 0) (by omega) (GI.start hl hr)
  have hid := h3.one hn h1 ho
  obtain ⟨s, s1, s2⟩ := h3.eqv.full (fun r c hr hc => by rw [hid r c hr hc])
  have hne : det n (mx m) % 10007 ≠ 0 := fun h0 => by
    rw [← mul_mod_l, h0] at s1
    simp at s1
  refine ⟨hne, fun k hk => ?_⟩
  have iv := inv_ok (a := det n (mx m) % 10007) ⟨by omega, by omega⟩ hne
  have hN := mx_N h3.rws (show k < (redR (n + 1) 0 (m, 1, 0)).1.length by rw [h3.len]; exact hk) n
  have hs := s2 k hk
  rw [Int.emod_eq_of_lt hN.1 (by have := hN.2; omega)] at hs
  rw [hs]
  generalize det n (updC (mx m) k (fun r => mx m r n)) = dk
  generalize pw (det n (mx m) % 10007) 10005 = q at *
  generalize det n (mx m) = d at *
  have e1 : s % 10007 = q % 10007 := by
    have a1 : s * (d * q) % 10007 = s % 10007 := by
      rw [← mul_mod_r, ← mul_mod_l d q, iv, Int.mul_one]
    have a2 : s * (d * q) = d * s * q := by ac_rfl
    rw [a2, ← mul_mod_l, s1, Int.one_mul] at a1
    exact a1.symm
  rw [mul_mod_l, ← mul_mod_r dk s, e1, mul_mod_r]
def minL (a : List (List Int)) (k : Nat) : List (List Int) := (List.range (a.length - 1)).map fun r => (a[r + 1]?.getD []).take k ++ (a[r + 1]?.getD []).drop (k + 1)
theorem minL_len (a : List (List Int)) (k : Nat) : (minL a k).length = a.length - 1 := by simp [minL]
theorem minL_ok {n : Nat} {a : List (List Int)} (hl : a.length = n + 1) (hr : Rws (n + 1) a) {k : Nat} (hk : k < n + 1) : Rws n (minL a k) := fun x hx => by
  obtain ⟨r, h, rfl⟩ := List.mem_map.1 hx
  have hr2 : r + 1 < a.length := by have : r < a.length - 1 := by simpa using h
                                    omega
  have q := hr.at hr2
  refine ⟨by simp [q.1]; omega, fun y hy => ?_⟩
  rcases List.mem_append.1 hy with h | h
  · exact q.2 y (List.mem_of_mem_take h)
  · exact q.2 y (List.mem_of_mem_drop h)
theorem minL_mx {n : Nat} {a : List (List Int)} (hl : a.length = n + 1) (hr : Rws (n + 1) a) {k : Nat} (hk : k < n + 1) : ∀ r c, r < n → c < n → mx (minL a k) r c = mnc (mx a) k r c := fun r c h1 h2 => by
  have q := (hr.at (i := r + 1) (by omega)).1
  have e : (minL a k)[r]?.getD [] = (a[r + 1]?.getD []).take k ++ (a[r + 1]?.getD []).drop (k + 1) := by simp [minL, show r < a.length - 1 by omega]
  show ((minL a k)[r]?.getD [])[c]?.getD 0 = (a[r + 1]?.getD [])[if c < k then c else c + 1]?.getD 0
  rw [e]
  generalize a[r + 1]?.getD [] = row at *
  by_cases hc : c < k
  · rw [if_pos hc, List.getElem?_append_left (by simp; omega), List.getElem?_take_of_lt hc]
  · rw [if_neg hc, List.getElem?_append_right (by simp; omega), List.getElem?_drop]
    congr 2
    simp; omega
end Go.Proofs.YtoeikpioonlmfaaGreat


namespace Go.Proofs.YtoeikpioonlmfaaGreat
open Go.Abs
set_option linter.unusedSectionVars false
set_option linter.unusedVariables false
set_option linter.unusedSimpArgs false
set_option maxHeartbeats 1000000
def lsum (t : Nat → Int) : Nat → Int
  | 0 => 0
  | k + 1 => if k % 2 = 0 then (lsum t k + t k) % 10007 else (lsum t k - t k) % 10007
def restL (a : List (List Int)) (i : Nat) (q : Int) : List (List Int) := (List.range (a.length - 1)).map fun r => tb (fun j => (mx a (if r < i then r else r + 1) (j + 1) - mx a (if r < i then r else r + 1) 0 * q % 10007 * mx a i (j + 1) % 10007) % 10007) (a.length - 1)
def ldet : Nat → List (List Int) → Int
  | 0, _ => 1
  | n + 1, a => if n + 1 ≤ 4 then lsum (fun k => mx a 0 k * ldet n (minL a k) % 10007) (n + 1)
    else if fndR a 0 (n + 1) 0 = n + 1 then 0
    else if fndR a 0 (n + 1) 0 % 2 = 1 then (0 - mx a (fndR a 0 (n + 1) 0) 0 * ldet n (restL a (fndR a 0 (n + 1) 0) (pw (mx a (fndR a 0 (n + 1) 0) 0) 10005)) % 10007) % 10007
    else mx a (fndR a 0 (n + 1) 0) 0 * ldet n (restL a (fndR a 0 (n + 1) 0) (pw (mx a (fndR a 0 (n + 1) 0) 0) 10005)) % 10007
theorem lsum_is {t : Nat → Int} {u : Nat → Int} : ∀ n, (∀ k, k < n → t k % 10007 = u k % 10007) → lsum t n % 10007 = dsum (fun k => sgd k * u k) n % 10007
  | 0, _ => rfl
  | n + 1, h => by
    have ih := lsum_is n (fun k hk => h k (by omega))
    have hn := h n (by omega)
    rw [lsum, dsum]
    generalize dsum (fun k => sgd k * u k) n = z at *
    unfold sgd
    by_cases e : n % 2 = 0
    · rw [if_pos e, if_pos e]; omega
    · rw [if_neg e, if_neg e]; omega
theorem restL_ok {n : Nat} {a : List (List Int)} (hl : a.length = n + 1) (i : Nat) (q : Int) : (restL a i q).length = n ∧ Rws n (restL a i q) := by
  refine ⟨by simp [restL, hl], fun x hx => ?_⟩
  obtain ⟨r, _, rfl⟩ := List.mem_map.1 hx
  exact ⟨by simp [tb, hl], tb_N fun j _ => isN_mod _⟩
theorem restL_mx {n : Nat} {a : List (List Int)} (hl : a.length = n + 1) {i : Nat} (q : Int) : ∀ r c, r < n → c < n → mx (restL a i q) r c % 10007 = (mx a (if r < i then r else r + 1) (c + 1) + (- (mx a (if r < i then r else r + 1) 0 * q)) * mx a i (c + 1)) % 10007 := fun r c h1 h2 => by
  have e : (restL a i q)[r]?.getD [] = tb (fun j => (mx a (if r < i then r else r + 1) (j + 1) - mx a (if r < i then r else r + 1) 0 * q % 10007 * mx a i (j + 1) % 10007) % 10007) n := by simp [restL, hl, h1]
  have e2 : mx (restL a i q) r c = (mx a (if r < i then r else r + 1) (c + 1) - mx a (if r < i then r else r + 1) 0 * q % 10007 * mx a i (c + 1) % 10007) % 10007 := by
    show ((restL a i q)[r]?.getD [])[c]?.getD 0 = _
    rw [e]
    exact tb_get (fun j => (mx a (if r < i then r else r + 1) (j + 1) - mx a (if r < i then r else r + 1) 0 * q % 10007 * mx a i (j + 1) % 10007) % 10007) h2
  rw [e2, mul_mod_l, Int.neg_mul]
  generalize mx a (if r < i then r else r + 1) 0 * q * mx a i (c + 1) = z
  omega
theorem ldet_is : ∀ (n : Nat) (a : List (List Int)), a.length = n → Rws n a → ldet n a = det n (mx a) % 10007
  | 0, a, hl, hr => rfl
  | n + 1, a, hl, hr => by
    rw [ldet]
    split
    · have h1 := lsum_is (t := fun k => mx a 0 k * ldet n (minL a k) % 10007) (u := fun k => mx a 0 k * det n (mnc (mx a) k)) (n + 1) (fun k hk => by
        have q := ldet_is n (minL a k) (by rw [minL_len]; omega) (minL_ok hl hr hk)
        rw [det_congr (minL_mx hl hr hk)] at q
        show mx a 0 k * ldet n (minL a k) % 10007 % 10007 = _
        rw [q, mul_mod_r, Int.emod_emod_of_dvd _ (Int.dvd_refl _)])
      have h2 : lsum (fun k => mx a 0 k * ldet n (minL a k) % 10007) (n + 1) % 10007 = lsum (fun k => mx a 0 k * ldet n (minL a k) % 10007) (n + 1) := by
        rw [lsum]; split <;> exact Int.emod_emod_of_dvd _ (Int.dvd_refl _)
      rw [← h2, h1, det_row]
      congr 1
      exact dsum_congr fun k hk => by rw [Int.mul_assoc]
    · have fl := fndR_le a 0 (n + 1) 0
      split
      · rename_i hf
        rw [det, dsum_zero (fun i hi => by rw [fndR_zero a 0 (n + 1) 0 i (by omega) (by omega)]; simp)]
        rfl
      · rename_i hf
        have hne := fndR_ne a 0 (n + 1) 0 (by omega)
        generalize fndR a 0 (n + 1) 0 = i at *
        have hi : i < n + 1 := by omega
        have iv := inv_ok (mx_N hr (show i < a.length by omega) 0) hne
        have hp := det_pivot (p := 10007) (mx a) hi (q := pw (mx a i 0) 10005) (by rw [iv]; rfl)
        have ro := restL_ok hl i (pw (mx a i 0) 10005)
        have q := ldet_is n (restL a i (pw (mx a i 0) 10005)) ro.1 ro.2
        rw [det_cong (restL_mx hl (i := i) (pw (mx a i 0) 10005))] at q
        rw [hp]
        generalize det n (fun r c => mx a (if r < i then r else r + 1) (c + 1) + -(mx a (if r < i then r else r + 1) 0 * pw (mx a i 0) 10005) * mx a i (c + 1)) = d at *
        rw [q]
        generalize mx a i 0 = x at *
        unfold sgd
        split
        · rename_i h2
          rw [if_neg (by omega), mul_mod_r]
          have : -1 * x * d = - (x * d) := by rw [Int.neg_mul, Int.neg_mul, Int.one_mul]
          rw [this]
          generalize x * d = z
          omega
        · rename_i h2
          rw [if_pos (by omega), mul_mod_r, Int.one_mul]
end Go.Proofs.YtoeikpioonlmfaaGreat


namespace Go.Proofs.YtoeikpioonlmfaaGreat
open Go.Abs
set_option linter.unusedSectionVars false
set_option linter.unusedVariables false
set_option linter.unusedSimpArgs false
set_option maxHeartbeats 1000000
def widL (a : List (List Int)) (b : List Int) : List (List Int) := (List.range a.length).map fun i => a[i]?.getD [] ++ [b[i]?.getD 0]
def repL (a : List (List Int)) (k : Nat) (b : List Int) : List (List Int) := (List.range a.length).map fun i => (a[i]?.getD []).set k (b[i]?.getD 0)
theorem widL_ok {n : Nat} {a : List (List Int)} {b : List Int} (hl : a.length = n) (hr : Rws n a) (hb : Ns b) : (widL a b).length = n ∧ Rws (n + 1) (widL a b) := by
  refine ⟨by simp [widL, hl], fun x hx => ?_⟩
  obtain ⟨i, h, rfl⟩ := List.mem_map.1 hx
  have q := hr.at (show i < a.length by simpa using h)
  refine ⟨by simp [q.1], fun y hy => ?_⟩
  rcases List.mem_append.1 hy with h | h
  · exact q.2 y h
  · simp at h; subst h; exact hb.get i
theorem widL_mx {n : Nat} {a : List (List Int)} {b : List Int} (hl : a.length = n) (hr : Rws n a) : ∀ r, r < n → (∀ c, c < n → mx (widL a b) r c = mx a r c) ∧ mx (widL a b) r n = b[r]?.getD 0 := fun r h => by
  have q := (hr.at (i := r) (by omega)).1
  have e : (widL a b)[r]?.getD [] = a[r]?.getD [] ++ [b[r]?.getD 0] := by simp [widL, show r < a.length by omega]
  refine ⟨fun c hc => ?_, ?_⟩
  · show ((widL a b)[r]?.getD [])[c]?.getD 0 = (a[r]?.getD [])[c]?.getD 0
    rw [e, List.getElem?_append_left (by omega)]
  · show ((widL a b)[r]?.getD [])[n]?.getD 0 = _
    rw [e, List.getElem?_append_right (by omega), q, Nat.sub_self]; rfl
theorem repL_ok {n : Nat} {a : List (List Int)} {b : List Int} (hl : a.length = n) (hr : Rws n a) (hb : Ns b) (k : Nat) : (repL a k b).length = n ∧ Rws n (repL a k b) := by
  refine ⟨by simp [repL, hl], fun x hx => ?_⟩
  obtain ⟨i, h, rfl⟩ := List.mem_map.1 hx
  have q := hr.at (show i < a.length by simpa using h)
  refine ⟨by rw [List.length_set]; exact q.1, fun y hy => ?_⟩
  rcases List.mem_or_eq_of_mem_set hy with h | h
  · exact q.2 y h
  · subst h; exact hb.get i
theorem repL_mx {n : Nat} {a : List (List Int)} {b : List Int} (hl : a.length = n) (hr : Rws n a) {k : Nat} (hk : k < n) : ∀ r c, r < n → c < n → mx (repL a k b) r c = updC (mx a) k (fun r => b[r]?.getD 0) r c := fun r c h1 h2 => by
  have q := (hr.at (i := r) (by omega)).1
  have e : (repL a k b)[r]?.getD [] = (a[r]?.getD []).set k (b[r]?.getD 0) := by simp [repL, show r < a.length by omega]
  show ((repL a k b)[r]?.getD [])[c]?.getD 0 = _
  rw [e]
  unfold updC
  by_cases hc : c = k
  · subst hc; rw [if_pos rfl, List.getElem?_set_self (by omega)]; rfl
  · rw [if_neg hc, List.getElem?_set_ne (fun x => hc x.symm)]; rfl
theorem solve_is {n : Nat} {a : List (List Int)} {b : List Int} (hn : 0 < n) (hl : a.length = n) (hr : Rws n a) (hb : Ns b) :
    oneB n (redR (n + 1) 0 (widL a b, 1, 0)).1 (redR (n + 1) 0 (widL a b, 1, 0)).2.2 = decide (ldet n a ≠ 0) ∧
    (ldet n a ≠ 0 → ∀ k, k < n → mx (redR (n + 1) 0 (widL a b, 1, 0)).1 k n = ldet n (repL a k b) * pw (ldet n a) 10005 % 10007) := by
  have wo := widL_ok hl hr hb
  have wm := widL_mx (b := b) hl hr
  have d1 : det n (mx (widL a b)) = det n (mx a) := det_congr fun r c h1 h2 => (wm r h1).1 c h2
  have d2 : ∀ k, k < n → det n (updC (mx (widL a b)) k (fun r => mx (widL a b) r n)) = det n (mx (repL a k b)) := fun k hk => det_congr fun r c h1 h2 => by
    rw [repL_mx hl hr hk r c h1 h2]
    unfold updC
    by_cases hc : c = k
    · rw [if_pos hc, if_pos hc]; exact (wm r h1).2
    · rw [if_neg hc, if_neg hc]; exact (wm r h1).1 c h2
  have dl := ldet_is n a hl hr
  cases ho : oneB n (redR (n + 1) 0 (widL a b, 1, 0)).1 (redR (n + 1) 0 (widL a b, 1, 0)).2.2 with
  | false =>
    have := solve_no hn wo.1 wo.2 ho
    rw [d1, ← dl] at this
    exact ⟨by simp [this], fun h => (h this).elim⟩
  | true =>
    have := solve_yes hn wo.1 wo.2 ho
    rw [d1, ← dl] at this
    refine ⟨by simp [this.1], fun _ k hk => ?_⟩
    rw [this.2 k hk, d2 k hk, ldet_is n (repL a k b) (repL_ok hl hr hb k).1 (repL_ok hl hr hb k).2]
end Go.Proofs.YtoeikpioonlmfaaGreat


namespace Go.Proofs.YtoeikpioonlmfaaGreat
open Go.Abs CR
set_option linter.unusedSectionVars false
set_option linter.unusedVariables false
set_option linter.unusedSimpArgs false
set_option maxHeartbeats 1000000
section
variable {α : Type}
def mnR (M : Nat → Nat → α) (i : Nat) : Nat → Nat → α := fun r c => M (if r < i then r else r + 1) (c + 1)
end
section
variable {α : Type} [CR α]
def dR (f : Nat → α) : Nat → α
  | 0 => ofI 0
  | n + 1 => dR f n + f n
def dtR : Nat → (Nat → Nat → α) → α
  | 0, _ => ofI 1
  | n + 1, M => dR (fun i => ofI (sgd i) * M i 0 * dtR n (mnR M i)) (n + 1)
end
end Go.Proofs.YtoeikpioonlmfaaGreat


namespace Go.Proofs.YtoeikpioonlmfaaGreat
open Go.Abs CR
set_option linter.unusedSectionVars false
set_option linter.unusedVariables false
set_option linter.unusedSimpArgs false
set_option maxHeartbeats 1000000
section
variable {α : Type} [CR α]
end
end Go.Proofs.YtoeikpioonlmfaaGreat


namespace Go.Proofs.YtoeikpioonlmfaaGreat
open Go.Abs CR
set_option linter.unusedSectionVars false
set_option linter.unusedVariables false
set_option linter.unusedSimpArgs false
set_option maxHeartbeats 1000000
section
variable {α : Type} [CR α]
end
end Go.Proofs.YtoeikpioonlmfaaGreat

