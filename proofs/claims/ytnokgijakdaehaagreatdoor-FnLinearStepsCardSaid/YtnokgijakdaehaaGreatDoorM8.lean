/- Texts of the own layer and contracts, part 8: N4 Q36 N6 E24 E28 E29 E30 E31 N7 O W2 L49. -/
import Derived.Test.YtnokgijakdaehaaGreatDoorRows
import Derived.WalkKit
import Derived.ProofKit
import Derived.OpenShut
import Derived.Test.YtnokgijakdaehaaGreatDoorM7
namespace Go.Proofs.YtnokgijakdaehaaGreatDoor
open Go.RowKit Go.Shelf Go.Abs
set_option linter.unusedSectionVars false
set_option linter.unusedVariables false
set_option linter.unusedSimpArgs false
attribute [local go_sem] Oper.semAt_some
theorem avs_os {P : Program} {w : World} {F : Nat → Prop} {r : List Int} {vs : List Value} {os : List Nat} (h : RepL P w F (avs r) vs os) : os = [] := by
  induction r generalizing vs os with
  | nil => cases h; rfl
  | cons a r ih =>
    have e : avs (a :: r) = .val (.int .i64 a) :: avs r := rfl
    rw [e] at h
    cases h with
    | cons c v o cs vs os' h t =>
      cases h with
      | val _ _ => rw [ih t]; rfl
theorem omat_cells {P : Program} {w : World} {F : Nat → Prop} : ∀ {M : List (List Int)} {vs : List Value} {os : List Nat}, RepL P w F (omat M) vs os → ∀ b ∈ os, ∃ o, w.heap[b]? = some o ∧ o.isCells = true
  | [], vs, os, h => by cases h; intro b hb; simp at hb
  | r :: M, vs, os, h => by
    have e : omat (r :: M) = .own 2 r.length (avs r) :: omat M := rfl
    rw [e] at h
    cases h with
    | cons c v o cs vs os' h t =>
      intro b hb
      rcases List.mem_append.1 hb with hb | hb
      · generalize hc : avs r = ac at h
        generalize hl : r.length = n at h
        cases h with
        | own0 _ => simp at hb
        | own bb _ _ cap c _ os2 hbb hn hcc hll =>
          subst hc
          rw [avs_os hll] at hb
          have : b = bb := by simpa using hb
          subst this
          exact ⟨_, hbb, rfl⟩
      · exact omat_cells t b hb
theorem own_cells {P : Program} {w : World} {F : Nat → Prop} {e : TypeId} {n : Nat} {M : List (List Int)} {v : Value} {os : List Nat} (h : RepC P w F (.own e n (omat M)) v os) : ∀ b ∈ os, ∃ o, w.heap[b]? = some o ∧ o.isCells = true := by
  generalize hc : omat M = ac at h
  cases h with
  | own0 _ => intro b hb; simp at hb
  | own bb _ _ cap c _ os2 hbb hn hcc hll =>
    subst hc
    intro b hb
    rcases List.mem_cons.1 hb with rfl | hb
    · exact ⟨_, hbb, rfl⟩
    · exact omat_cells hll b hb
theorem Con.ownC {f : FuncId} {args : List AV} {e : TypeId} {n : Nat} {M : List (List Int)} (h0 : 0 < n) (h : Con Tryz.prog f args (.own e n (omat M))) (w : World) (vs : List Value) (hl : args.length = vs.length)
    (ha : ∀ tm oss, RepTL Tryz.prog w (fun b => b < w.heap.size) tm oss args vs []) :
    Calls Tryz.prog f vs.toArray w fun x w' => ∃ bb cap os, x = .returned (.slice (some ⟨bb, 0, none⟩) n cap) ∧ Below w.heap.size w w' ∧ RepC Tryz.prog w' (fun _ => False) (.own e n (omat M)) (.slice (some ⟨bb, 0, none⟩) n cap) os ∧ os.Nodup ∧ ∀ b ∈ os, w.heap.size ≤ b ∧ b < w'.heap.size := by
  refine (h.2 w vs hl ha).mono ?_
  rintro x w' ⟨v, os, rfl, hx, hr, hn, ho⟩
  have := (hr (fun _ => undef) (fun _ => [])).fresh (F' := fun _ => False) (by simp [freshOK])
  generalize hc : AV.own e n (omat M) = c at this
  cases this with
  | cell _ _ _ k =>
    subst hc
    generalize hc : omat M = ac at k
    cases k with
    | own0 _ => omega
    | own bb _ _ cap c _ os2 hbb hn2 hcc hll => subst hc; exact ⟨bb, cap, _, rfl, hx.below, .own bb e n cap c _ os2 hbb hn2 hcc hll, hn, ho⟩
  | any v => simp at hc
  | agg => simp at hc
  | tup => simp at hc
  | fn => simp at hc
  | bor => simp at hc
  | ptr => simp at hc
  | slp => simp at hc
def stA (B0 B1 : Nat) (vm : Value) (n0 n : Nat) (M : List (List Int)) (W : World) : Prop :=
  ∃ bb cap os, W.cell? ⟨B1, 0, none⟩ = some (.slice (some ⟨bb, 0, none⟩) n cap) ∧ W.frozen? ⟨B1, 0, none⟩ = false ∧ W.cell? ⟨B0, 0, none⟩ = some vm ∧ RepC Tryz.prog W (fun _ => False) (.own 25 n (omat M)) (.slice (some ⟨bb, 0, none⟩) n cap) os ∧ os.Nodup ∧ ∀ b ∈ os, n0 ≤ b
theorem stA_own (B0 B1 : Nat) (vm : Value) (n0 n : Nat) {α : Type} (g : α → List (List Int)) : Own (fun (x : α) W => stA B0 B1 vm n0 n (g x) W) := by
  rintro s A B row ⟨bb, cap, os, h1, h2, h3, h4, h5, h6⟩ hg hr
  refine ⟨bb, cap, os, cell_kept h1 hg hr, (frozen_kept h1 hg hr).trans h2, cell_kept h3 hg hr, h4.mono (fun _ h => h) (fun b hb => ?_), h5, h6⟩
  rcases hb with hb | hb
  · exact hb.elim
  · obtain ⟨o, ho, hc⟩ := own_cells h4 b hb
    exact grownBy_keeps_cells hg hr ho hc
theorem own_lt {W : World} {F : Nat → Prop} {e : TypeId} {n : Nat} {M : List (List Int)} {v : Value} {os : List Nat} (h : RepC Tryz.prog W F (.own e n (omat M)) v os) : ∀ b ∈ os, b < W.heap.size := fun b hb => by
  obtain ⟨o, ho, _⟩ := own_cells h b hb
  exact (Array.getElem?_eq_some_iff.1 ho).1
theorem own_sl {W : World} {e : TypeId} {n : Nat} {M : List (List Int)} {v : Value} {os : List Nat} (h : RepC Tryz.prog W (fun _ => False) (.own e n (omat M)) v os) : RepC Tryz.prog W (fun b => b < W.heap.size) (.sl n (mat M)) v [] := by
  have := h.frz (F' := fun b => b < W.heap.size) (fun _ h => h.elim) (own_lt h)
  rwa [frz, omat_frz] at this
set_option maxRecDepth 100000 in
set_option maxHeartbeats 4000000 in
theorem atMatrix_calls {n : Nat} (zs : List Int) (m : List (List Int)) (b off cap bm offm capm : Nat) (w : World) (hreach : zs.length * 8 ≤ 140737488351232) (hb : b < w.heap.size) (hc : ∀ j, j < zs.length → w.cell? ⟨b, off + j, none⟩ = some (.int .i64 (zs[j]?.getD 0))) (hN : Ns zs)
    (h0 : 0 < n) (hn : n ≤ 64) (hml : m.length = n) (hmr : Rws n m) (hm : RepC Tryz.prog w (fun b => b < w.heap.size) (.sl m.length (mat m)) (.slice (some ⟨bm, offm, none⟩) m.length capm) []) :
    Calls Tryz.prog 49 #[.slice (some ⟨b, off, none⟩) zs.length cap, .slice (some ⟨bm, offm, none⟩) m.length capm] w fun e W' => ∃ v os, e = .returned v ∧ Below w.heap.size w W' ∧
      RepC Tryz.prog W' (fun _ => False) (.own 25 m.length (omat (horM m ((upto (bkF hN zs.length) zs.length).map (·.2.1))))) v os ∧ os.Nodup ∧ ∀ b ∈ os, w.heap.size ≤ b ∧ b < W'.heap.size := by
  have cZ := zeroMatrix_c n hn
  refine (callsIn_wide (n := 9)).1 ?_
  refine callsIn_of_wp_marks Tryz.func49 rfl trivial ?_ rfl
  simp only [Tryz.ntmps49, List.size_toArray, List.length_cons, List.length_nil, Nat.reduceAdd, Nat.reduceSub, Array.replicate_succ, Array.replicate_zero, List.push_toArray, List.append_toArray, List.nil_append, List.cons_append]
  subst hml
  have bM := Boxed.new w 24 (.slice (some ⟨bm, offm, none⟩) m.length capm)
  gi_wp2_with (refine ⟨trivial, ?_⟩; gi_at_call 123; refine (callsIn_wide.2 (Con.ownC h0 cZ _ [.int .i64 m.length] rfl (fun tm oss => .cons _ _ [] _ _ [] (.cell _ _ _ (.val _ rfl)) (.nil _)))).mono ?_; rintro e w1 ⟨b0, cap0, os0, rfl, hb1, hr0, hn0, ho0⟩)
  gi_wp2_with (refine ⟨trivial, ?_⟩; gi_at_call 124; refine (back_in Fence.wide _ trivial rfl _ _ _ _).mono ?_; rintro e w' ⟨rfl, rfl⟩)
  have l1 : w.heap.size < w1.heap.size := by have := hb1.size; simp at this; omega
  have bS := Boxed.new w1 24 (.slice (some ⟨b0, 0, none⟩) m.length cap0)
  have bN := Boxed.new (w1.alloc (.cells #[.slice (some ⟨b0, 0, none⟩) m.length cap0] 24)) 25 (.slice (some ⟨b, off, none⟩) zs.length cap)
  simp only [World.size_alloc] at bN
  have hB1 : Below w.heap.size w w1 := ((Below.refl _ w).alloc (Nat.le_refl _) _).trans (hb1.mono (by simp))
  have hB0 : Below w.heap.size w ((w1.alloc (.cells #[.slice (some ⟨b0, 0, none⟩) m.length cap0] 24)).alloc (.cells #[.slice (some ⟨b, off, none⟩) zs.length cap] 25)) := (hB1.alloc (by omega) _).alloc (by simp; omega) _
  have hA1 : Below w1.heap.size w1 ((w1.alloc (.cells #[.slice (some ⟨b0, 0, none⟩) m.length cap0] 24)).alloc (.cells #[.slice (some ⟨b, off, none⟩) zs.length cap] 25)) := ((Below.refl _ w1).alloc (Nat.le_refl _) _).alloc (by simp) _
  have bS2 := bS.alloc (.cells #[.slice (some ⟨b, off, none⟩) zs.length cap] 25)
  have cM := (hA1.cell (p := ⟨w.heap.size, 0, none⟩) l1).trans ((hb1.cell (p := ⟨w.heap.size, 0, none⟩) (by simp)).trans bM.cell)
  refine wpIn_rangeFunc_ownG (F := Fence.wide) rfl (show 1 ≤ 9 by omega) (gf := 173) (lb := #[.pointer (some ⟨w1.heap.size + 1, 0, none⟩)]) rfl trivial (enters_of Tryz.func173 (by kernel_rfl) rfl)
    (back_stops Fence.wide 8 trivial rfl (by omega) (w1.heap.size + 1) b off cap zs hN hreach _ (by simp) (by simp; omega) bN.cell (fun j hj => (hB0.cell (p := ⟨b, off + j, none⟩) hb).trans (hc j hj)))
    (fun h k => h.trans k) (fun W l o o' _ hl ho _ => KpC.book W l o o' hl ho) (Below.refl _ _) (fun _ => rfl)
    (fun pre W => stA w.heap.size w1.heap.size (.slice (some ⟨bm, offm, none⟩) m.length capm) w.heap.size m.length (horM m (pre.map (·.2.1))) W ∧ Below w.heap.size w W)
    (fun _ _ _ => False)
    (OwnFrom.and (Own.from (stA_own _ _ _ _ _ _) _) (ownFrom_below (Nat.le_refl _) (by simp; omega)))
    (fun _ _ _ _ _ hs _ _ => hs)
    ⟨⟨b0, cap0, os0, bS2.cell, bS2.frozen, cM, hr0.mono (fun _ h => h) (fun b hb => by rcases hb with hb | hb; exact hb.elim; exact hA1.block b (ho0 b hb).2), hn0, fun b hb => by have := (ho0 b hb).1; simp at this; omega⟩, hB0⟩
    (fun x => { tmps := #[.slice (some ⟨b, off, none⟩) zs.length cap, .slice (some ⟨bm, offm, none⟩) m.length capm, undef, .pointer (some ⟨w.heap.size, 0, none⟩), .slice none 0 0, .pointer (some ⟨w1.heap.size, 0, none⟩), undef, .int .i64 x.2.1, .slice (some ⟨bm, offm, none⟩) m.length capm,
      .int .i64 m.length, .slice (some ⟨b0, 0, none⟩) m.length cap0, .slice (some ⟨b, off, none⟩) zs.length cap,
      .func (.func 173) #[] #[.pointer (some ⟨w1.heap.size + 1, 0, none⟩)], .int .i64 x.1, .int .i64 x.2.1, undef, undef, undef, undef, undef, undef], defers := [] }) ?assign ?body ?done ?stop
  case assign =>
    intro l x W K hK
    gi_wp2
    exact hK
  case body =>
    rintro l pre ⟨xi, xa, hxa⟩ W ⟨⟨bb, cp, os, hcS, hfS, hcM, hR, hnd, hos⟩, hB⟩ _
    have hsn := horM_snoc m (pre.map (·.2.1)) xa
    have hok := horM_ok h0 rfl hmr (pre.map (·.2.1))
    have hmap : (pre ++ [((xi, ⟨xa, hxa⟩) : BkT)]).map (·.2.1) = pre.map (·.2.1) ++ [xa] := by simp
    rw [← hmap] at hsn
    generalize hs : horM m (pre.map (·.2.1)) = M at *
    have cT := timesMatrix_c M m (by rw [hok.1]; omega) hn hok.2 h0 rfl hn hmr
    have tl : (tmM M m).length = m.length := by rw [tmM_len]; exact hok.1
    have tr := tmM_ok M m
    rw [(hmr.at h0).1] at tr
    have cA := addUnit_c (n := m.length) (tmM M m) xa tl hn tr hxa
    rw [← hsn, tl] at cA
    rw [hok.1] at cT
    have hF := own_sl hR
    have hmW : RepC Tryz.prog W (fun b => b < W.heap.size) (.sl m.length (mat m)) (.slice (some ⟨bm, offm, none⟩) m.length capm) [] := hm.mono (fun b h => Nat.lt_of_lt_of_le h hB.size) (fun b hb => hB.block b (by simpa using hb))
    have hlt : w1.heap.size < W.heap.size := by
      obtain ⟨o, ho, _⟩ := cells_of_cell hcS
      exact (Array.getElem?_eq_some_iff.1 ho).1
    gi_wp2_with (refine ⟨trivial, ?_⟩; gi_at_call 50; refine (CallsIn.inRound l (callsIn_wide.2 (Con.ownC h0 cT _ [_, _] rfl (fun tm oss => .cons _ _ [] _ _ [] (.cell _ _ _ hF) (.cons _ _ [] _ _ [] (.cell _ _ _ hmW) (.nil _)))))).mono ?_; rintro e W1 ⟨b1, cap1, os1, rfl, hbA, hr1, hn1, ho1⟩)
    have hF1 := own_sl hr1
    gi_wp2_with (refine ⟨trivial, ?_⟩; gi_at_call 125; refine (CallsIn.inRound l (callsIn_wide.2 (Con.ownC h0 cA _ [_, .int .i64 xa] rfl (fun tm oss => .cons _ _ [] _ _ [] (.cell _ _ _ hF1) (.cons _ _ [] _ _ [] (.cell _ _ _ (.val _ rfl)) (.nil _)))))).mono ?_; rintro e W2 ⟨b2, cap2, os2, rfl, hbC, hr2, hn2, ho2⟩; have hbB := hbA.trans (hbC.mono hbA.size); have c3 := (hbB.cell (p := ⟨w1.heap.size, 0, none⟩) hlt).trans hcS; have f3 := (hbB.frozen (p := ⟨w1.heap.size, 0, none⟩) hlt).trans hfS)
    have old : ∀ (p : Addr) (v : Value), p ≠ ⟨w1.heap.size, 0, none⟩ → W.cell? p = some v → (W2.setCell ⟨w1.heap.size, 0, none⟩ (.slice (some ⟨b2, 0, none⟩) m.length cap2)).cell? p = some v := fun p v hp hv => by
      obtain ⟨o, ho, _⟩ := cells_of_cell hv
      rw [World.cell?_setCell_other (h := Ne.symm hp)]
      exact (hbB.cell (Array.getElem?_eq_some_iff.1 ho).1).trans hv
    have ko : KeepsOthers W W2 := ⟨hbB.size, fun k o hk _ => (hbB.block k (Array.getElem?_eq_some_iff.1 hk).1).trans hk⟩
    refine ⟨(ko.trans (KeepsOthers.setCell _ _ _)).from _, ⟨fun v hv => old _ v (fun e => by injection e with e; omega) hv, fun j v hv => old _ v (fun e => by injection e with e; omega) hv⟩, ⟨b2, cap2, os2, ?_, by rw [World.frozen?_setCell]; exact f3, old _ _ (fun e => by injection e with e; omega) hcM, ?_, hn2, fun b hb => ?_⟩, ?_⟩
    · exact World.cell?_setCell_same' _ _ _ (by rw [c3]; rfl)
    · refine hr2.mono (fun _ h => h) (fun b hb => ?_)
      rcases hb with hb | hb
      · exact hb.elim
      · have := (ho2 b hb).1
        have := hbA.size
        exact Below.heap_setCell _ _ _ _ (by show b ≠ w1.heap.size; omega)
    · have := (ho2 b hb).1
      have := hbA.size
      omega
    · exact (hB.trans (hbB.mono (by omega))).setCell (p := ⟨w1.heap.size, 0, none⟩) (by show w.heap.size ≤ w1.heap.size; omega) _
  case done =>
    rintro D ys W hD rfl ⟨⟨bb, cp, os, hcS, hfS, hcM, hR, hnd, hos⟩, hB⟩ hK
    gi_wp2
    refine ⟨by simp, .inl ⟨_, _, rfl, run_takeDeferred hK, ?_⟩⟩
    refine ⟨_, results_tmp rfl _ _ _, ⟨_, os, rfl, hB.trans (belowK_b (w := w) (Nat.le_refl _) W D _ _ (by simp at hD; omega) hK rfl rfl), ?_, hnd, ?_⟩⟩
    · show RepC Tryz.prog (W.putObj D (Obj.deferred none)) (fun _ => False) _ (.slice (some ⟨bb, 0, none⟩) m.length cp) os
      refine hR.mono (fun _ h => h) (fun b hb => ?_)
      rcases hb with hb | hb
      · exact hb.elim
      · obtain ⟨o, ho, hc⟩ := own_cells hR b hb
        exact grownBy_keeps_cells (grownBy_putObj' W D _) (fun r e => by cases e; exact ⟨_, hK, rfl⟩) ho hc
    · intro b hb
      have := own_lt hR b hb
      exact ⟨hos b hb, by simpa using this⟩
  case stop =>
    rintro D c pre W _ _ h _
    exact h.elim
set_option maxRecDepth 100000 in
theorem atMatrix_c {n : Nat} (zs : List Int) (m : List (List Int)) (h1 : 1 ≤ zs.length) (h2 : zs.length ≤ 1000) (hN : Ns zs) (h0 : 0 < n) (hn : n ≤ 64) (hml : m.length = n) (hmr : Rws n m) :
    Con Tryz.prog 49 [.sl zs.length (avs zs), .sl m.length (mat m)] (.own 25 m.length (omat (horM m zs.reverse))) := by
  refine ⟨⟨_, Tryz.func49, by decide, rfl⟩, fun w vs hl ha => ?_⟩
  have k := ha (fun _ => undef) (fun _ => [])
  generalize hoz : ([] : List Nat) = oz at k
  cases k with
  | cons c v o cs vs os hc ht =>
    cases ht with
    | cons c2 v2 o2 cs2 vs2 os2 hc2 ht2 =>
      have e2 : vs2 = [] := by simpa using hl
      subst e2
      have hm : RepC Tryz.prog w (fun b => b < w.heap.size) (.sl m.length (mat m)) v2 [] := by
        have : o2 = [] := by
          have := congrArg List.length hoz
          simp at this
          exact List.length_eq_zero_iff.1 (by omega)
        subst this
        cases hc2 with
        | cell _ _ _ h => exact h
      have hm' := hm
      generalize hmn : m.length = mn at hm
      generalize hmm : mat m = mm at hm
      cases hm with
      | sl0 base cap => omega
      | sl bm offm _ capm ccm em frm csm hFm hbm hlrm hnm =>
        subst hmn; subst hmm
        generalize hn' : zs.length = l at hc
        generalize hcs : avs zs = ac at hc
        cases hc with
        | cell _ _ _ hc =>
          cases hc with
          | sl0 base cap => omega
          | sl b off _ cap cc e fr cs hF hb hlr hn2 =>
            subst hn'; subst hcs
            have cells : ∀ j, j < zs.length → w.cell? ⟨b, off + j, none⟩ = some (.int .i64 (zs[j]?.getD 0)) := fun j hj => by
              have := RepL_avs hlr j hj
              rw [List.getElem?_drop, Array.getElem?_toList] at this
              simp [World.cell?, hb, this]
            refine (atMatrix_calls (n := n) zs m b off cap bm offm capm w (by omega) hF cells hN h0 hn hml hmr hm').mono ?_
            rintro e w' ⟨v, os, rfl, hB, hr, hnd, ho⟩
            rw [back_list] at hr
            exact ⟨_, os, rfl, ⟨hB.os, hB.tape, hB.output, hB.size, hB.block, by rw [show dK = 0 from rfl]; omega⟩, fun tm oss => .cell _ _ _ (hr.mono (fun _ h => h.elim) (fun _ _ => rfl)), hnd, ho⟩
end Go.Proofs.YtnokgijakdaehaaGreatDoor


namespace Go.Proofs.YtnokgijakdaehaaGreatDoor
open Go.Abs
set_option linter.unusedSectionVars false
set_option linter.unusedVariables false
set_option linter.unusedSimpArgs false
set_option maxHeartbeats 1000000
def rowOk (A : List (List Int)) (r : List Int) : Bool := decide (r.length = (A[0]?.getD []).length) && numsB r
def matB (A : List (List Int)) : Bool := decide (1 ≤ A.length ∧ A.length ≤ 8) && (decide (1 ≤ (A[0]?.getD []).length ∧ (A[0]?.getD []).length ≤ 8) && A.all (rowOk A))
theorem matB_iff {A : List (List Int)} : matB A = true ↔ (1 ≤ A.length ∧ A.length ≤ 8) ∧ (1 ≤ (A[0]?.getD []).length ∧ (A[0]?.getD []).length ≤ 8) ∧ ∀ r ∈ A, r.length = (A[0]?.getD []).length ∧ Ns r := by
  unfold matB rowOk
  simp only [Bool.and_eq_true, decide_eq_true_eq, List.all_eq_true, numsB_N]
theorem lengthR_c (n : Nat) (cs : List AV) (hn : n ≤ 9223372036854775807) : Con Tryz.prog 115 [.sl n cs] (.int n) := by
  refine con_of_vc Tryz.mixed ⟨3, [], [], []⟩ Tryz.func115 (by decide) rfl (by simp) (by decide) (by simp [freshOK, freshL, go_sem]) ?_
  rw [Tryz.ntmps115]
  simp [go_sem]
  try omega
theorem at0 {A : List (List Int)} (h : 0 < A.length) : mat A = .sl (A[0]?.getD []).length (avs (A[0]?.getD [])) :: mat A.tail := by cases A with | nil => simp at h | cons x l => simp [mat]
set_option maxRecDepth 100000 in
theorem isMatrix_c (A : List (List Int)) (hl : A.length ≤ 9223372036854775807) (hr : ∀ r ∈ A, r.length ≤ 9223372036854775807) :
    Con Tryz.prog 43 [.sl A.length (mat A)] (.bool (matB A)) := by
  have cL := lengthR_c A.length (mat A) hl
  have cI := inRange_c (A.length : Int) 1 8
  by_cases h1 : 1 ≤ A.length ∧ A.length ≤ 8
  · have e1 : (decide ((1 : Int) ≤ A.length) && decide ((A.length : Int) ≤ 8)) = true := by simp; omega
    rw [e1] at cI
    have m0 := at0 (A := A) (by omega)
    have h0 : (A[0]?.getD []) ∈ A := by simp [show 0 < A.length by omega]
    have r0 := hr _ h0
    have fine : matB A = (decide (1 ≤ (A[0]?.getD []).length ∧ (A[0]?.getD []).length ≤ 8) && A.all (rowOk A)) := by unfold matB; rw [decide_eq_true h1]; rfl
    refine con_of_vc Tryz.mixed ⟨5, [], [], []⟩ Tryz.func43 (by decide) rfl (by simp) (by decide) (by simp [freshOK, freshL, go_sem]) ?_
    rw [Tryz.ntmps43]
    simp [go_sem]
    refine CallVC.of (cL) (by decide) ?_
    simp [go_sem]
    refine CallVC.of (cI) (by decide) ?_
    simp [go_sem]
    refine loop_inv (2 :: 4 :: List.range' 11 23) (fun i : Nat => [(11, .int i)]) (fun i => i ≤ A.length ∧ (∀ r ∈ A.take i, rowOk A r = true) ∧ (0 < i → 1 ≤ (A[0]?.getD []).length ∧ (A[0]?.getD []).length ≤ 8)) (fun i => A.length - i) 0 (by simp) (by simp [go_sem]) (by simp [go_sem]) ?_
    rintro i ⟨hi, hp, hq⟩
    simp [go_sem]
    refine ⟨fun h => ?_, fun h => ?_⟩ <;> simp at h
    · have hif := h
      have hx : A[i]?.getD [] ∈ A := by simp [h]
      have hx2 := hr _ hx
      have cl := length_c (A[i]?.getD []).length (avs (A[i]?.getD [])) hx2
      have ci := inRange_c ((A[i]?.getD []).length : Int) 1 8
      have cn := areNumbers_c (A[i]?.getD []) hx2
      have hno : rowOk A (A[i]?.getD []) = false → matB A = false := fun hh => by
        rw [fine]
        have : A.all (rowOk A) = false := by rw [List.all_eq_false]; exact ⟨_, hx, by simp [hh]⟩
        rw [this]; simp
      simp [go_sem, mat_drop hif]
      refine ⟨⟨hif, by rintro rfl; simp at hif⟩, ?_⟩
      generalize hR : A[i]?.getD [] = R at *
      by_cases c1 : R.length = (A[0]?.getD []).length
      · have c1' : (R.length : Int) = (A[0]?.getD []).length := by omega
        simp [go_sem, m0, c1']
        refine ⟨⟨by omega, by rintro rfl; simp at hif⟩, ?_⟩
        refine CallVC.of (cl) (by decide) ?_
        simp [go_sem]
        by_cases c2 : 1 ≤ R.length ∧ R.length ≤ 8
        · rw [show (decide ((1 : Int) ≤ R.length) && decide ((R.length : Int) ≤ 8)) = true by simp; omega] at ci
          refine CallVC.of (ci) (by decide) ?_
          simp [go_sem]
          cases hn : numsB R with
          | true =>
            rw [hn] at cn
            refine CallVC.of (cn) (by decide) ?_
            simp [go_sem]
            refine ⟨by omega, i + 1, ⟨by omega, take_all hif hp ?_, fun _ => by omega⟩, by omega, Off_reset _ _ _ (by simp), by omega⟩
            have : A[i] = R := by rw [← hR]; simp [hif]
            rw [this]; unfold rowOk; rw [hn, decide_eq_true c1]; rfl
          | false =>
            rw [hn] at cn
            refine CallVC.of (cn) (by decide) ?_
            simp [go_sem]
            exact hno (by unfold rowOk; rw [hn]; simp)
        · rw [show (decide ((1 : Int) ≤ R.length) && decide ((R.length : Int) ≤ 8)) = false by simp; omega] at ci
          refine CallVC.of (ci) (by decide) ?_
          simp [go_sem]
          rw [fine, decide_eq_false (by omega)]; rfl
      · have c1' : ¬ (R.length : Int) = (A[0]?.getD []).length := by omega
        simp [go_sem, m0, c1']
        exact ⟨⟨by omega, by rintro rfl; simp at hif⟩, hno (by unfold rowOk; rw [decide_eq_false c1]; rfl)⟩
    · simp [go_sem]
      rw [List.take_of_length_le h] at hp
      rw [fine, decide_eq_true (hq (by omega)), List.all_eq_true.2 hp]
      rfl
  · have e1 : (decide ((1 : Int) ≤ A.length) && decide ((A.length : Int) ≤ 8)) = false := by simp; omega
    rw [e1] at cI
    refine con_of_vc Tryz.mixed ⟨5, [], [], []⟩ Tryz.func43 (by decide) rfl (by simp) (by decide) (by simp [freshOK, freshL, go_sem]) ?_
    rw [Tryz.ntmps43]
    simp [go_sem]
    refine CallVC.of (cL) (by decide) ?_
    simp [go_sem]
    refine CallVC.of (cI) (by decide) ?_
    simp [go_sem]
    unfold matB
    rw [decide_eq_false h1]; rfl
set_option maxRecDepth 100000 in
theorem l01Matrix_c (A : List (List Int)) (hl : A.length ≤ 9223372036854775807) (hr : ∀ r ∈ A, r.length ≤ 9223372036854775807) :
    Con Tryz.prog 53 [.sl A.length (mat A)] (.int (if matB A = true then 0 else 1)) := by
  by_cases h1 : 1 ≤ A.length ∧ A.length ≤ 8
  · have m0 := at0 (A := A) (by omega)
    have h0 : (A[0]?.getD []) ∈ A := by simp [show 0 < A.length by omega]
    have r0 := hr _ h0
    have n1 : ¬ (A.length : Int) < 1 := by omega
    have n2 : ¬ (8 : Int) < A.length := by omega
    have n0 : ¬ A = [] := by rintro rfl; simp at h1
    by_cases h2 : 1 ≤ (A[0]?.getD []).length ∧ (A[0]?.getD []).length ≤ 8
    · have n3 : ¬ ((A[0]?.getD []).length : Int) < 1 := by omega
      have n4 : ¬ (8 : Int) < (A[0]?.getD []).length := by omega
      have fine : matB A = A.all (rowOk A) := by unfold matB; rw [decide_eq_true h1, decide_eq_true h2]; rfl
      refine con_of_vc Tryz.mixed ⟨4, [], [], []⟩ Tryz.func53 (by decide) rfl (by simp) (by decide) (by simp [freshOK, freshL, go_sem]) ?_
      rw [Tryz.ntmps53]
      simp [go_sem]
      simp [go_sem, n1, n2, m0, n3, n4]
      simp only [← m0]
      refine ⟨by omega, ?_⟩
      refine loop_inv (2 :: 3 :: List.range' 26 24) (fun i : Nat => [(3, .int i)]) (fun i => i ≤ A.length ∧ (∀ r ∈ A.take i, rowOk A r = true)) (fun i => A.length - i) 0 (by simp) (by simp [go_sem]) (by simp [go_sem]) ?_
      rintro i ⟨hi, hp⟩
      simp [go_sem]
      refine ⟨fun h => ?_, fun h => ?_⟩ <;> simp at h
      · have hif : i < A.length := by omega
        have hx : A[i]?.getD [] ∈ A := by simp [hif]
        have hx2 := hr _ hx
        have cn := l01Numbers_c (A[i]?.getD []) hx2
        have hno : rowOk A (A[i]?.getD []) = false → matB A = false := fun hh => by
          rw [fine, List.all_eq_false]; exact ⟨_, hx, by simp [hh]⟩
        simp [go_sem, mat_drop hif]
        simp [go_sem, m0]
        simp only [← m0]
        generalize hR : A[i]?.getD [] = R at *
        by_cases c1 : R.length = (A[0]?.getD []).length
        · have c1' : (R.length : Int) = (A[0]?.getD []).length := by omega
          simp [go_sem, mat_drop hif, hR, c1']
          refine ⟨by kernel_rfl, ⟨hif, n0⟩, ⟨by omega, n0⟩, ⟨hif, n0⟩, ?_⟩
          cases hn : numsB R with
          | true =>
            rw [hn] at cn
            refine CallD.of (cn) (by simp [roots, rootsL]) (by decide) ?_
            simp [go_sem]
            refine ⟨by kernel_rfl, ?_⟩
            simp [go_sem]
            refine ⟨by omega, i + 1, ⟨by omega, take_all hif hp ?_⟩, by omega, Off_reset _ _ _ (by simp), by omega⟩
            have : A[i] = R := by rw [← hR]; simp [hif]
            rw [this]; unfold rowOk; rw [hn, decide_eq_true c1]; rfl
          | false =>
            rw [hn] at cn
            refine CallD.of (cn) (by simp [roots, rootsL]) (by decide) ?_
            simp [go_sem]
            refine ⟨by kernel_rfl, ?_⟩
            simp [go_sem]
            rw [hno (by unfold rowOk; rw [hn]; simp)]
        · have c1' : ¬ (R.length : Int) = (A[0]?.getD []).length := by omega
          simp [go_sem, c1']
          refine ⟨by kernel_rfl, ⟨hif, n0⟩, ⟨by omega, n0⟩, ?_⟩
          refine ⟨by kernel_rfl, ?_⟩
          simp [go_sem]
          rw [hno (by unfold rowOk; rw [decide_eq_false c1]; rfl)]
      · simp [go_sem]
        rw [List.take_of_length_le (by omega)] at hp
        rw [fine, List.all_eq_true.2 hp]
    · have hm : matB A = false := by unfold matB; rw [decide_eq_true h1, decide_eq_false h2]; rfl
      rw [hm]
      by_cases n3 : ((A[0]?.getD []).length : Int) < 1
      · refine con_of_vc Tryz.mixed ⟨4, [], [], []⟩ Tryz.func53 (by decide) rfl (by simp) (by decide) (by simp [freshOK, freshL, go_sem]) ?_
        rw [Tryz.ntmps53]
        simp [go_sem]
        simp [go_sem, n1, n2, m0, n3]
        omega
      · have n4 : (8 : Int) < (A[0]?.getD []).length := by omega
        refine con_of_vc Tryz.mixed ⟨4, [], [], []⟩ Tryz.func53 (by decide) rfl (by simp) (by decide) (by simp [freshOK, freshL, go_sem]) ?_
        rw [Tryz.ntmps53]
        simp [go_sem]
        simp [go_sem, n1, n2, m0, n3, n4]
        omega
  · have hm : matB A = false := by unfold matB; rw [decide_eq_false h1]; rfl
    rw [hm]
    by_cases n1 : (A.length : Int) < 1
    · refine con_of_vc Tryz.mixed ⟨4, [], [], []⟩ Tryz.func53 (by decide) rfl (by simp) (by decide) (by simp [freshOK, freshL, go_sem]) ?_
      rw [Tryz.ntmps53]
      simp [go_sem]
      simp [go_sem, n1]
    · have n2 : (8 : Int) < A.length := by omega
      refine con_of_vc Tryz.mixed ⟨4, [], [], []⟩ Tryz.func53 (by decide) rfl (by simp) (by decide) (by simp [freshOK, freshL, go_sem]) ?_
      rw [Tryz.ntmps53]
      simp [go_sem]
      simp [go_sem, n1, n2]
end Go.Proofs.YtnokgijakdaehaaGreatDoor


namespace Go.Proofs.YtnokgijakdaehaaGreatDoor
open Go.Abs
set_option linter.unusedSectionVars false
set_option linter.unusedVariables false
set_option linter.unusedSimpArgs false
set_option maxHeartbeats 4000000
def linS (m : List (List Int)) (h : Int) : List (List Int) := (List.range m.length).map fun i => tb (fun k => (m[i]?.getD [])[k]?.getD 0 * h % 10007) (m[i]?.getD []).length
def linQ (A : List (List Int)) (B : List Int) (m : List (List Int)) (h : Int) : List (List Int) := horM (linS m h) (chL B.length A).reverse
def linX (A : List (List Int)) (B : List Int) (m : List (List Int)) (y : List Int) (h : Int) : List Int := tb (sysF m.length (linQ A B m h) (apL (chL B.length (lesM A B)) (linS m h) y)) m.length
def linC (A : List (List Int)) (B : List Int) (m : List (List Int)) (y : List Int) (h : Int) : Int :=
  if tabB A B = true then (if matB m = true then (if m.length = (m[0]?.getD []).length then (if y.length = m.length then (if numsB y = true then (if 0 ≤ h ∧ h ≤ 10006 then (if ldet m.length (linQ A B m h) = 0 then 5 else 0) else 2) else 2) else 2) else 1) else 1) else 1
def linV (A : List (List Int)) (B : List Int) (m : List (List Int)) (y : List Int) (h : Int) : List Int := if linC A B m y h = 0 then linX A B m y h else []
def linR (A : List (List Int)) (B : List Int) (m : List (List Int)) (y : List Int) (h : Int) : AV := .tup [.own 2 (linV A B m y h).length (avs (linV A B m y h)), .int (linC A B m y h)]
theorem linR_bad {A : List (List Int)} {B : List Int} {m : List (List Int)} {y : List Int} {h : Int} (c : Int) (hc : linC A B m y h = c) (h0 : c ≠ 0) : linR A B m y h = .tup [.own 2 0 [], .int c] := by
  have : linV A B m y h = [] := by unfold linV; rw [hc, if_neg h0]
  unfold linR
  rw [this, hc]; rfl
theorem linS_len (m : List (List Int)) (h : Int) : (linS m h).length = m.length := by simp [linS]
theorem linS_ok {n : Nat} {m : List (List Int)} (hr : Rws n m) (h : Int) : Rws n (linS m h) := fun x hx => by
  obtain ⟨i, hi, rfl⟩ := List.mem_map.1 hx
  have q := hr.at (show i < m.length by simpa using hi)
  exact ⟨by rw [tb_len]; exact q.1, tb_N fun k _ => isN_mod _⟩
theorem numsB_Ns {y : List Int} (h : numsB y = true) : Ns y := fun x hx => numsB_N.1 h x hx
theorem tim_take_succ (A : List (List Int)) (v : List Int) {k : Nat} (h : k < A.length) : tim (A.take (k + 1)) v = tim (A.take k) v ++ [dotI (A[k]?.getD []) v % 10007] := tim_take h
set_option maxRecDepth 100000 in
theorem LinearStep_w (A : List (List Int)) (B : List Int) (m : List (List Int)) (y : List Int) (h : Int) (hT : Tab A B) (hM1 : 1 ≤ m.length) (hM8 : m.length ≤ 8) (hr : Rws m.length m) (hE : m.length = (m[0]?.getD []).length)
    (hY : y.length = m.length) (hN : Ns y) (hh : isN h) (cI : Con Tryz.prog 42 [.agg [.sl A.length (mat A), .sl B.length (avs B)]] (.bool true)) (cM : Con Tryz.prog 43 [.sl m.length (mat m)] (.bool true))
    (cN : Con Tryz.prog 44 [.sl y.length (avs y)] (.bool true)) (cH : Con Tryz.prog 45 [.int h] (.bool true)) :
    Con Tryz.prog 9 [.agg [.sl A.length (mat A), .sl B.length (avs B)], .sl m.length (mat m), .sl y.length (avs y), .int h]
      (if ldet m.length (linQ A B m h) = 0 then .tup [.own 2 0 [], .int 5] else .tup [.own 2 m.length (avs (linX A B m y h)), .int 0]) := by
  have b8 := hT.le
  have hl := linS_len m h
  have hs := linS_ok hr h
  have cF := fraction_c A B hT
  have cQ := atMatrix_c (chL B.length A) (linS m h) (by simp) (by simp; omega) (chL_N _ _) (show 0 < m.length by omega) (by omega) hl hs
  have cP := atMatrix_c (chL B.length (lesM A B)) (linS m h) (by simp) (by simp; omega) (chL_N _ _) (show 0 < m.length by omega) (by omega) hl hs
  have hq : horM (linS m h) (chL B.length A).reverse = linQ A B m h := rfl
  have oQ := horM_ok (show 0 < m.length by omega) hl hs (chL B.length A).reverse
  have oP := horM_ok (show 0 < m.length by omega) hl hs (chL B.length (lesM A B)).reverse
  rw [hl, chL_len] at cQ cP
  rw [hq] at cQ oQ
  have cV := inverseOf_c (linQ A B m h) (show 0 < m.length by omega) oQ.1 (by omega) oQ.2
  rw [oQ.1] at cV
  have iB := invB_is (show 0 < m.length by omega) oQ.1 oQ.2
  have law := fun hb => lin_law (p := chL B.length (lesM A B)) (q := chL B.length A) (show 0 < m.length by omega) hl hs hY hN hb
  rw [hq] at law
  have wo := catL_ok oQ.1 oQ.2
  obtain ⟨k', g1, g2, g3⟩ := redR_GI (m.length + m.length) 0 (catL m.length (linQ A B m h), 1, 0) (by omega) (GI.start wo.1 wo.2)
  have bk := bckL_ok g3.len g3.rws
  have eI : invL m.length (linQ A B m h) = bckL m.length (redR (m.length + m.length) 0 (catL m.length (linQ A B m h), 1, 0)).1 := rfl
  have eB : invB m.length (linQ A B m h) = decide (leadL ((redR (m.length + m.length) 0 (catL m.length (linQ A B m h), 1, 0)).1[m.length - 1]?.getD []) < m.length) := rfl
  clear g3 g1 g2
  rw [← eI] at bk law
  have law2 : invB m.length (linQ A B m h) = true → tim (tmM (invL m.length (linQ A B m h)) (horM (linS m h) (chL B.length (lesM A B)).reverse)) y = linX A B m y h := fun hb => (law (by rw [eB] at hb; exact of_decide_eq_true hb)).2
  clear law eB eI
  have xl : (linX A B m y h).length = m.length := by simp [linX]
  generalize linQ A B m h = Q at *
  generalize linX A B m y h = X at *
  generalize invL m.length Q = K at *
  generalize horM (linS m h) (chL B.length (lesM A B)).reverse = H at *
  have cT := timesMatrix_c K H (by omega) (show m.length ≤ 64 by omega) bk.2 (by omega) oP.1 (show m.length ≤ 64 by omega) oP.2
  have tl : (tmM K H).length = m.length := by rw [tmM_len]; exact bk.1
  have tr := tmM_ok K H
  rw [(oP.2.at (show 0 < H.length by omega)).1] at tr
  rw [bk.1, oP.1] at cT
  generalize tmM K H = T at *
  have hS : linS m h = (List.range m.length).map fun i => tb (fun k => (m[i]?.getD [])[k]?.getD 0 * h % 10007) (m[i]?.getD []).length := rfl
  have hmod : h % 10007 = h := by have := hh.1; have := hh.2; omega
  have h0 : 0 < m.length := by omega
  have m0 := mat_drop (xss := m) (k := 0) h0
  simp only [List.drop_zero] at m0
  have m1 : AV.sl (m[0]?.getD []).length (avs (m[0]?.getD [])) :: mat m.tail = mat m := by cases m with | nil => simp at h0 | cons x l => simp [mat]
  have ne : ¬ m = [] := by rintro rfl; simp at h0
  have go : ∀ x : AV, freshOK x = true → (invB m.length Q = true → x = .tup [.own 2 m.length (avs X), .int 0]) → (invB m.length Q = false → x = .tup [.val (.slice none 0 0), .int 5]) →
      Con Tryz.prog 9 [.agg [.sl A.length (mat A), .sl B.length (avs B)], .sl m.length (mat m), .sl y.length (avs y), .int h] x := by
    intro x hf x1 x2
    refine con_of_vc Tryz.mixed ⟨20, [], [], []⟩ Tryz.func9 (by decide) rfl (by simp) (by decide) hf ?_
    rw [Tryz.ntmps9]
    simp [go_sem]
    refine CallVC.of (cI) (by decide) ?_
    simp [go_sem]
    refine CallVC.of (cM) (by decide) ?_
    simp [go_sem]
    simp [go_sem, m0]
    simp only [m1]
    refine ⟨⟨h0, ne⟩, ?_⟩
    simp [go_sem, hE.symm, hY]
    rw [hY] at cN
    refine CallVC.of (cN) (by decide) ?_
    simp [go_sem]
    refine CallVC.of (cH) (by decide) ?_
    simp [go_sem]
    refine loop_inv ([10, 12] ++ List.range' 57 11) (fun i : Nat => [(10, .own 25 i (omat ((List.range i).map fun i => tb (fun k => (m[i]?.getD [])[k]?.getD 0 * h % 10007) (m[i]?.getD []).length))), (57, .int i)]) (fun i => i ≤ m.length) (fun i => m.length - i) 0 (by simp) (by simp [go_sem, omat]) (by simp [go_sem]) ?_
    intro i hi
    by_cases hin : i < m.length
    · have hii : (i : Int) < m.length := by omega
      have ri := hr.at hin
      have cS := scaled_c (m[i]?.getD []) h ri.2 ⟨by have := hh.1; omega, by have := hh.2; omega⟩ (by omega)
      have ho := omat_range_succ (fun i => tb (fun k => (m[i]?.getD [])[k]?.getD 0 * h % 10007) (m[i]?.getD []).length) i
      rw [scalS, hmod] at cS
      rw [tb_len] at ho
      simp [go_sem, hii, mat_drop hin]
      refine ⟨ne, ?_⟩
      refine CallVC.of (cS) (by decide) ?_
      simp [go_sem]
      exact ⟨⟨by omega, by omega⟩, ⟨by omega, by omega⟩, i + 1, by omega, by omega, Off_reset _ _ _ (by simp), by rw [ho]; exact ⟨rfl, rfl⟩, by omega⟩
    · have e : i = m.length := by omega
      subst e
      have hii : ¬ (m.length : Int) < m.length := by omega
      rw [← hS]
      simp [go_sem, hii]
      refine CallVC.of (cF) (by decide) ?_
      simp [go_sem]
      refine CallVC.of (cQ) (by decide) ?_
      simp [go_sem]
      cases hb : invB m.length Q with
      | false =>
        rw [hb] at cV
        have hx := x2 hb
        subst hx
        simp only [Bool.false_eq_true, if_false] at cV
        refine CallVC.of (cV) (by decide) ?_
        simp [go_sem]
      | true =>
        rw [hb] at cV
        have hx := x1 hb
        subst hx
        simp only [if_true] at cV
        refine CallVC.of (cV) (by decide) ?_
        simp [go_sem]
        refine CallVC.of (cP) (by decide) ?_
        simp [go_sem]
        refine CallVC.of (cT) (by decide) ?_
        simp [go_sem]
        have law := law2 hb
        refine loop_inv ([17, 19] ++ List.range' 89 11) (fun i : Nat => [(17, .own 2 i (avs (tim (T.take i) y))), (89, .int i)]) (fun i => i ≤ m.length) (fun i => m.length - i) 0 (by simp) (by simp [go_sem, tim]) (by simp [go_sem, omat_kl]) ?_
        intro i hi
        by_cases hin : i < m.length
        · have hii : (i : Int) < m.length := by omega
          have hiT : i < T.length := by omega
          have ri := tr.at hiT
          have hg := omat_get (A := T) (k := i) hiT
          have ts := tim_take_succ T y hiT
          have cD := dot_c (T[i]?.getD []) y (by omega) (by omega) ri.2 hN
          rw [hY, ri.1] at cD
          rw [ri.1] at hg
          have rl := ri.1
          generalize T[i]?.getD [] = row at *
          simp [go_sem, hii, hg]
          refine CallVC.of (cD) (by decide) ?_
          simp [go_sem]
          exact ⟨⟨by omega, by omega⟩, ⟨by omega, by omega⟩, i + 1, by omega, by omega, Off_reset _ _ _ (by simp), by rw [ts, avs_snoc]; exact ⟨rfl, rfl⟩, by omega⟩
        · have e : i = m.length := by omega
          subst e
          have hii : ¬ (m.length : Int) < m.length := by omega
          have htk : T.take m.length = T := List.take_of_length_le (by omega)
          simp [go_sem, hii, htk, law]
  by_cases hz : ldet m.length Q = 0
  · rw [if_pos hz]
    refine Con.n1 _ (go _ (by simp [freshOK, freshL]) (fun hb => ?_) (fun _ => rfl))
    rw [iB] at hb
    exact (of_decide_eq_true hb hz).elim
  · rw [if_neg hz]
    refine go _ (by simp [freshOK, freshL]) (fun _ => rfl) (fun hb => ?_)
    rw [iB] at hb
    exact (of_decide_eq_false hb hz).elim
set_option maxRecDepth 100000 in
theorem LinearStep_c (A : List (List Int)) (B : List Int) (m : List (List Int)) (y : List Int) (h : Int) (hA : A.length ≤ 1048576) (hrA : ∀ r ∈ A, r.length ≤ 1048576) (hB : B.length ≤ 1048576) (hm : m.length ≤ 1048576) (hrm : ∀ r ∈ m, r.length ≤ 1048576) (hy : y.length ≤ 1048576) :
    Con Tryz.prog 9 [.agg [.sl A.length (mat A), .sl B.length (avs B)], .sl m.length (mat m), .sl y.length (avs y), .int h] (linR A B m y h) := by
  have cI := IsTableau_c A B (by omega) (by omega) (fun r h => by have := hrA r h; omega)
  have cM := isMatrix_c m (by omega) (fun r h => by have := hrm r h; omega)
  have cN := areNumbers_c y (by omega)
  have cH := IsNumber_c h
  by_cases hT : tabB A B = true
  · rw [hT] at cI
    by_cases hM : matB m = true
    · rw [hM] at cM
      have hM' := matB_iff.1 hM
      have h0 : 0 < m.length := by omega
      have m0 := mat_drop (xss := m) (k := 0) h0
      simp only [List.drop_zero] at m0
      have m1 : AV.sl (m[0]?.getD []).length (avs (m[0]?.getD [])) :: mat m.tail = mat m := by cases m with | nil => simp at h0 | cons x l => simp [mat]
      have ne : ¬ m = [] := by rintro rfl; simp at h0
      by_cases hE : m.length = (m[0]?.getD []).length
      · by_cases hY : y.length = m.length
        · by_cases hN : numsB y = true
          · rw [hN] at cN
            by_cases hh : 0 ≤ h ∧ h ≤ 10006
            · rw [decide_eq_true hh] at cH
              have w := LinearStep_w A B m y h (tabB_iff.1 hT) (by omega) (by omega) (fun r hr => by have := hM'.2.2 r hr; rw [← hE] at this; exact this) hE hY (numsB_Ns hN) ⟨hh.1, by omega⟩ cI cM cN cH
              have e : linC A B m y h = if ldet m.length (linQ A B m h) = 0 then 5 else 0 := by
                unfold linC; rw [if_pos hT, if_pos hM, if_pos hE, if_pos hY, if_pos hN, if_pos hh]
              by_cases hz : ldet m.length (linQ A B m h) = 0
              · rw [if_pos hz] at w e
                rw [linR_bad 5 e (by decide)]; exact w
              · rw [if_neg hz] at w e
                have xl : (linX A B m y h).length = m.length := by simp [linX]
                unfold linR linV
                rw [e, if_pos rfl, xl]; exact w
            · rw [decide_eq_false hh] at cH
              rw [linR_bad 2 (by unfold linC; rw [if_pos hT, if_pos hM, if_pos hE, if_pos hY, if_pos hN, if_neg hh]) (by decide)]
              refine Con.n1 _ ?_
              refine con_of_vc Tryz.mixed ⟨20, [], [], []⟩ Tryz.func9 (by decide) rfl (by simp) (by decide) (by simp [freshOK, freshL, go_sem]) ?_
              rw [Tryz.ntmps9]
              simp [go_sem]
              refine CallVC.of (cI) (by decide) ?_
              simp [go_sem]
              refine CallVC.of (cM) (by decide) ?_
              simp [go_sem]
              simp [go_sem, m0]
              simp only [m1]
              refine ⟨⟨h0, ne⟩, ?_⟩
              simp [go_sem, hE.symm, hY]
              rw [hY] at cN
              refine CallVC.of (cN) (by decide) ?_
              simp [go_sem]
              refine CallVC.of (cH) (by decide) ?_
              simp [go_sem]
          · have hN' : numsB y = false := by simpa using hN
            rw [hN'] at cN
            rw [linR_bad 2 (by unfold linC; rw [if_pos hT, if_pos hM, if_pos hE, if_pos hY, if_neg hN]) (by decide)]
            refine Con.n1 _ ?_
            refine con_of_vc Tryz.mixed ⟨20, [], [], []⟩ Tryz.func9 (by decide) rfl (by simp) (by decide) (by simp [freshOK, freshL, go_sem]) ?_
            rw [Tryz.ntmps9]
            simp [go_sem]
            refine CallVC.of (cI) (by decide) ?_
            simp [go_sem]
            refine CallVC.of (cM) (by decide) ?_
            simp [go_sem]
            simp [go_sem, m0]
            simp only [m1]
            refine ⟨⟨h0, ne⟩, ?_⟩
            simp [go_sem, hE.symm, hY]
            rw [hY] at cN
            refine CallVC.of (cN) (by decide) ?_
            simp [go_sem]
        · rw [linR_bad 2 (by unfold linC; rw [if_pos hT, if_pos hM, if_pos hE, if_neg hY]) (by decide)]
          refine Con.n1 _ ?_
          refine con_of_vc Tryz.mixed ⟨20, [], [], []⟩ Tryz.func9 (by decide) rfl (by simp) (by decide) (by simp [freshOK, freshL, go_sem]) ?_
          rw [Tryz.ntmps9]
          simp [go_sem]
          refine CallVC.of (cI) (by decide) ?_
          simp [go_sem]
          refine CallVC.of (cM) (by decide) ?_
          simp [go_sem]
          simp [go_sem, m0]
          simp only [m1]
          refine ⟨⟨h0, ne⟩, ?_⟩
          have hYi : ¬ (y.length : Int) = m.length := by omega
          simp [go_sem, hE.symm, hYi]
      · rw [linR_bad 1 (by unfold linC; rw [if_pos hT, if_pos hM, if_neg hE]) (by decide)]
        refine Con.n1 _ ?_
        refine con_of_vc Tryz.mixed ⟨20, [], [], []⟩ Tryz.func9 (by decide) rfl (by simp) (by decide) (by simp [freshOK, freshL, go_sem]) ?_
        rw [Tryz.ntmps9]
        simp [go_sem]
        refine CallVC.of (cI) (by decide) ?_
        simp [go_sem]
        refine CallVC.of (cM) (by decide) ?_
        simp [go_sem]
        simp [go_sem, m0]
        simp only [m1]
        refine ⟨⟨h0, ne⟩, ?_⟩
        have hEi : ¬ (m.length : Int) = (m[0]?.getD []).length := by omega
        simp [go_sem, hEi]
    · have hM' : matB m = false := by simpa using hM
      rw [hM'] at cM
      rw [linR_bad 1 (by unfold linC; rw [if_pos hT, if_neg hM]) (by decide)]
      refine Con.n1 _ ?_
      refine con_of_vc Tryz.mixed ⟨20, [], [], []⟩ Tryz.func9 (by decide) rfl (by simp) (by decide) (by simp [freshOK, freshL, go_sem]) ?_
      rw [Tryz.ntmps9]
      simp [go_sem]
      refine CallVC.of (cI) (by decide) ?_
      simp [go_sem]
      refine CallVC.of (cM) (by decide) ?_
      simp [go_sem]
  · have hT' : tabB A B = false := by simpa using hT
    rw [hT'] at cI
    rw [linR_bad 1 (by unfold linC; rw [if_neg hT]) (by decide)]
    refine Con.n1 _ ?_
    refine con_of_vc Tryz.mixed ⟨20, [], [], []⟩ Tryz.func9 (by decide) rfl (by simp) (by decide) (by simp [freshOK, freshL, go_sem]) ?_
    rw [Tryz.ntmps9]
    simp [go_sem]
    refine CallVC.of (cI) (by decide) ?_
    simp [go_sem]
end Go.Proofs.YtnokgijakdaehaaGreatDoor


namespace Go.Proofs.YtnokgijakdaehaaGreatDoor
open Go.Abs CR
set_option linter.unusedSectionVars false
set_option linter.unusedVariables false
set_option linter.unusedSimpArgs false
set_option maxHeartbeats 1000000
def Low (n : Nat) (M : Mx) : Prop := ∀ r c, r < n → c < n → r ≤ c → M r c = 0
theorem ad_low {n : Nat} {M : Mx} (h : Low n M) : ∀ (k j i : Nat), j < n → i < n → j < i → adS n M j i k = 0
  | 0, j, i, hj, hi, hji => by
    rw [ad_0 n M hj hi]; unfold idM; rw [if_neg (by omega)]
  | k + 1, j, i, hj, hi, hji => by
    rw [ad_step n M hj hi k, if_neg (by omega), Int.add_zero]
    refine dsum_zero fun c hc => ?_
    by_cases e : j ≤ c
    · rw [h j c hj hc e, Int.zero_mul]
    · rw [ad_low h k c i hc hi (by omega), Int.mul_zero]
theorem ch_low {n : Nat} {M : Mx} (h : Low n M) : ∀ k, chS n M k = if k = 0 then 1 else 0
  | 0 => ch_0 n M
  | k + 1 => by
    have e := ch_step n M k
    rw [dsum_zero (fun i hi => dsum_zero fun c hc => by
      by_cases e : i ≤ c
      · rw [h i c hi hc e, Int.zero_mul]
      · rw [ad_low h k c i hc hi (by omega), Int.mul_zero]), Int.neg_zero] at e
    rw [if_neg (by omega)]
    rcases Int.mul_eq_zero.1 e with h1 | h1
    · omega
    · exact h1
theorem ev_low {n : Nat} {M : Mx} (h : Low n M) : ∀ (k r : Nat), r < n → r < k → evN n M k r = 0
  | 0, r, _, hk => by omega
  | k + 1, r, hr, hk => dsum_zero fun c hc => by
    by_cases e : r ≤ c
    · rw [h r c hr hc e, Int.zero_mul]
    · rw [ev_low h k c hc (by omega), Int.mul_zero]
theorem rs_far {n : Nat} {A : Mx} (B : Nat → Int) (h : Low n A) {k : Nat} (hk : n < k) : rsS n A B k = 0 := by
  obtain ⟨j, rfl⟩ : ∃ j, k = j + 1 := ⟨k - 1, by omega⟩
  rw [rs_dot]
  exact dsum_zero fun r hr => by rw [ev_low h j r hr (by omega), Int.mul_zero]
theorem ch_les {A : List (List Int)} {B : List Int} (h : Tab A B) (hl : Low B.length (mx A)) (k : Nat) :
    (chL B.length (lesM A B))[k]?.getD 0 = rsS B.length (mx A) (fun r => B[r]?.getD 0) k % 10007 := by
  have e1 : chS B.length (mx (lesM A B)) k % 10007 = chS B.length (lessM (mx A) (fun r => B[r]?.getD 0)) k % 10007 := ch_mod (fun r c hr hc => les_mod h hr hc) k
  have e2 : chS B.length (mx A) = ofI 1 := funext fun k => by
    rw [ch_low hl]; cases k <;> rfl
  rw [chL_get, e1, ch_less, e2, mul1]
def pwM (n : Nat) (m : List (List Int)) (y : Nat → Int) : Nat → Nat → Int
  | 0 => y
  | k + 1 => act n m (pwM n m y k)
theorem linS_mx {n : Nat} {m : List (List Int)} (hl : m.length = n) (hr : Rws n m) (h : Int) {r c : Nat} (h1 : r < n) (h2 : c < n) : mx (linS m h) r c = mx m r c * h % 10007 := by
  have hr' : r < m.length := by omega
  have e : (linS m h)[r]?.getD [] = tb (fun k => (m[r]?.getD [])[k]?.getD 0 * h % 10007) (m[r]?.getD []).length := by simp [linS, hr']
  show ((linS m h)[r]?.getD [])[c]?.getD 0 = _
  rw [e]
  exact tb_get _ (by rw [(hr.at hr').1]; exact h2)
theorem act_lin {n : Nat} {m : List (List Int)} (hl : m.length = n) (hr : Rws n m) (h : Int) (v : Nat → Int) {r : Nat} (h1 : r < n) : act n (linS m h) v r % 10007 = h * act n m v r % 10007 := by
  rw [act, act, dsum_mul]
  refine dsum_mod fun c hc => ?_
  rw [linS_mx hl hr h h1 hc, mul_mod_l]
  congr 1
  ac_rfl
theorem apF_pw {n : Nat} {m : List (List Int)} (hl : m.length = n) (hr : Rws n m) (h : Int) (y : Nat → Int) : ∀ (l : List Int) (j : Nat) (v : Nat → Int),
    (∀ c, c < n → v c % 10007 = h ^ j * pwM n m y j c % 10007) → ∀ r, r < n →
    apF n (linS m h) l v r % 10007 = dsum (fun k => l[k]?.getD 0 * (h ^ (j + k) * pwM n m y (j + k) r)) l.length % 10007
  | [], j, v, hv, r, h1 => rfl
  | a :: l, j, v, hv, r, h1 => by
    rw [apF, List.length_cons, dsum_shift]
    refine mod_addc ?_ ?_
    · exact mod_mulc rfl (hv r h1)
    · have ih := apF_pw hl hr h y l (j + 1) (act n (linS m h) v) (fun c hc => by
        rw [act_lin hl hr h v hc]
        have e : act n m v c % 10007 = h ^ j * act n m (pwM n m y j) c % 10007 := by
          rw [act, act, dsum_mul]
          refine dsum_mod fun q hq => ?_
          rw [mod_mulc rfl (hv q hq)]
          congr 1
          ac_rfl
        rw [mod_mulc rfl e, Int.pow_succ]
        show _ = h ^ j * h * act n m (pwM n m y j) c % 10007
        congr 1
        ac_rfl) r h1
      rw [ih]
      congr 1
      refine dsum_congr fun k hk => ?_
      rw [show j + 1 + k = j + (k + 1) by omega, List.getElem?_cons_succ]
def xpF (A : List (List Int)) (B : List Int) (m : List (List Int)) (y : List Int) (h : Int) (r : Nat) : Int :=
  dsum (fun k => rsS B.length (mx A) (fun r => B[r]?.getD 0) k * (h ^ k * pwM m.length m (fun c => y[c]?.getD 0) k r)) 7 % 10007
theorem lin_is {A : List (List Int)} {B : List Int} {m : List (List Int)} {y : List Int} (h : Int) (hT : Tab A B) (hlow : Low B.length (mx A)) (h6 : B.length ≤ 6) (h0 : 0 < m.length) (hr : Rws m.length m) (hy : y.length = m.length) (hN : Ns y) :
    ldet m.length (linQ A B m h) ≠ 0 ∧ linX A B m y h = tb (xpF A B m y h) m.length := by
  have hl := linS_len m h
  have hs := linS_ok hr h
  have oQ := horM_ok h0 hl hs (chL B.length A).reverse
  have hq : horM (linS m h) (chL B.length A).reverse = linQ A B m h := rfl
  have qa : ∀ (v : Nat → Int) (r : Nat), r < m.length → act m.length (linQ A B m h) v r % 10007 = v r % 10007 := fun v r h1 => by
    rw [← hq, hor_act h0 hl hs _ _ _ h1, apF_pw rfl hr h v (chL B.length A) 0 v (fun c hc => by rw [Int.pow_zero, Int.one_mul]; rfl) r h1, chL_len, dsum_one (k := 0) (by omega) (fun i hi hne => by
      rw [chL_get, ch_low hlow, if_neg hne]; simp), chL_0]
    show 1 * (h ^ 0 * v r) % 10007 = _
    rw [Int.pow_zero, Int.one_mul, Int.one_mul]
  rw [hq] at oQ
  have qm : ∀ r c, r < m.length → c < m.length → mx (linQ A B m h) r c % 10007 = idM r c % 10007 := fun r c h1 h2 => by
    have e := qa (fun k => idM k c) r h1
    rw [act, dsum_one (k := c) h2 (fun i hi hne => by show _ * idM i c = 0; unfold idM; rw [if_neg hne, Int.mul_zero])] at e
    have e1 : idM c c = 1 := by unfold idM; rw [if_pos rfl]
    rw [e1, Int.mul_one] at e
    exact e
  have dn : ldet m.length (linQ A B m h) ≠ 0 := by
    rw [ldet_is _ _ oQ.1 oQ.2, det_cong qm, det_one]
    decide
  refine ⟨dn, ?_⟩
  unfold linX
  refine List.ext_getElem (by simp) fun r h1 h2 => ?_
  have hr1 : r < m.length := by simpa using h1
  have bN : Ns (apL (chL B.length (lesM A B)) (linS m h) y) := (sumK_ok (chL B.length (lesM A B)) (linS m h) hy (chL B.length (lesM A B)).length).2
  have sv := sys_solves h0 oQ.1 oQ.2 bN dn r hr1
  have e1 := qa (sysF m.length (linQ A B m h) (apL (chL B.length (lesM A B)) (linS m h) y)) r hr1
  rw [act, sv] at e1
  have e2 : sysF m.length (linQ A B m h) (apL (chL B.length (lesM A B)) (linS m h) y) r % 10007 = sysF m.length (linQ A B m h) (apL (chL B.length (lesM A B)) (linS m h) y) r := by
    unfold sysF
    exact Int.emod_emod_of_dvd _ (Int.dvd_refl _)
  rw [e2, apL_get hl hs hy hN hr1, Int.emod_emod_of_dvd _ (Int.dvd_refl _), apF_pw rfl hr h (fun c => y[c]?.getD 0) (chL B.length (lesM A B)) 0 (fun c => y[c]?.getD 0) (fun c hc => by rw [Int.pow_zero, Int.one_mul]; rfl) r hr1, chL_len] at e1
  have e3 : (tb (sysF m.length (linQ A B m h) (apL (chL B.length (lesM A B)) (linS m h) y)) m.length)[r] = sysF m.length (linQ A B m h) (apL (chL B.length (lesM A B)) (linS m h) y) r := by simp [tb]
  have e4 : (tb (xpF A B m y h) m.length)[r] = xpF A B m y h r := by simp [tb]
  rw [e3, e4, ← e1]
  unfold xpF
  have sp := dsum_split (fun k => rsS B.length (mx A) (fun r => B[r]?.getD 0) k * (h ^ k * pwM m.length m (fun c => y[c]?.getD 0) k r)) (B.length + 1) (6 - B.length)
  rw [show B.length + 1 + (6 - B.length) = 7 by omega, dsum_zero (n := 6 - B.length) (fun j hj => by
    rw [rs_far _ hlow (show B.length < B.length + 1 + j by omega), Int.zero_mul]), Int.add_zero] at sp
  rw [sp]
  refine dsum_mod fun k hk => ?_
  rw [ch_les hT hlow, mul_mod_l, Nat.zero_add]
end Go.Proofs.YtnokgijakdaehaaGreatDoor


namespace Go.Proofs.YtnokgijakdaehaaGreatDoor
open Go.Abs
set_option linter.unusedSectionVars false
set_option linter.unusedVariables false
set_option linter.unusedSimpArgs false
set_option maxHeartbeats 1000000
section
variable {A : List (List Int)} {B : List Int} {H : List (List Int)} {C : List Int}
theorem Ns_app {x y : List Int} (hx : Ns x) (hy : Ns y) : Ns (x ++ y) := fun a ha => by
  rcases List.mem_append.1 ha with h | h
  · exact hx a h
  · exact hy a h
theorem cmp_tab (hT : Tab A B) (hH : Tab H C) (h8 : B.length + C.length ≤ 8) : Tab (cmpA A B H) (B ++ C) := by
  have p := hT.pos
  refine ⟨by rw [List.length_append]; omega, by rw [List.length_append]; exact h8, by rw [List.length_append]; simp [cmpA, hT.len, hH.len], Ns_app hT.b hH.b, fun r hr => ?_⟩
  rw [List.length_append]
  rcases List.mem_append.1 hr with h | h
  · obtain ⟨q, hq, rfl⟩ := List.mem_map.1 h
    have a := hT.a q hq
    refine ⟨by rw [List.length_append, a.1, List.length_replicate, hH.len], Ns_app a.2 fun x hx => ?_⟩
    obtain ⟨_, rfl⟩ := List.mem_replicate.1 hx
    exact ⟨by omega, by omega⟩
  · obtain ⟨q, hq, rfl⟩ := List.mem_map.1 h
    have a := hH.a q hq
    exact ⟨by rw [List.length_append, a.1], Ns_app hT.b a.2⟩
variable {z : Int} {f : List (List Mon)} {L : List (List Int)}
end
end Go.Proofs.YtnokgijakdaehaaGreatDoor


namespace Go.Proofs.YtnokgijakdaehaaGreatDoor
open Go.Abs CR
set_option linter.unusedSectionVars false
set_option linter.unusedVariables false
set_option linter.unusedSimpArgs false
set_option maxHeartbeats 1000000
theorem conv_sum (g : Nat → Int) (M : Nat) (hg : ∀ i, M ≤ i → g i = 0) : ∀ (N : Nat) (f : Nat → Int) (w : Nat → Int), (∀ j, N ≤ j → f j = 0) →
    dsum (fun j => f j * dsum (fun i => g i * w (i + j)) M) N = dsum (fun l => cmul l f g * w l) (N + M)
  | 0, f, w, hf => by
    rw [dsum_zero (n := 0 + M) (fun l _ => by rw [cmul_nil g l f (fun i => hf i (Nat.zero_le _)), Int.zero_mul])]
    rfl
  | N + 1, f, w, hf => by
    have ih := conv_sum g M hg N (sh f) (fun l => w (l + 1)) (fun j hj => hf (j + 1) (by omega))
    have e1 : dsum (fun j => f (j + 1) * dsum (fun i => g i * w (i + (j + 1))) M) N = dsum (fun l => cmul l (sh f) g * w (l + 1)) (N + M) := by
      rw [← ih]
      exact dsum_congr fun j _ => rfl
    rw [dsum_shift, e1, show N + 1 + M = (N + M) + 1 by omega, dsum_shift]
    have e2 : dsum (fun l => cmul (l + 1) f g * w (l + 1)) (N + M) = dsum (fun l => f 0 * (g (l + 1) * w (l + 1)) + cmul l (sh f) g * w (l + 1)) (N + M) := dsum_congr fun l _ => by
      show (f 0 * g (l + 1) + cmul l (sh f) g) * w (l + 1) = _
      rw [Int.add_mul, Int.mul_assoc]
    rw [e2, dsum_plus, ← dsum_mul]
    have e3 : dsum (fun i => g i * w (i + 0)) M = g 0 * w 0 + dsum (fun l => g (l + 1) * w (l + 1)) (N + M) := by
      rw [← dsum_shift (fun i => g i * w i), show N + M + 1 = M + (N + 1) by omega, dsum_split, dsum_zero (n := N + 1) (fun i _ => by rw [hg (M + i) (by omega), Int.zero_mul]), Int.add_zero]
      rfl
    rw [e3, Int.mul_add]
    show f 0 * (g 0 * w 0) + f 0 * dsum (fun l => g (l + 1) * w (l + 1)) (N + M) + _ = f 0 * g 0 * w 0 + _
    rw [Int.mul_assoc, Int.add_assoc]
section
variable {n : Nat} {S : List (List Int)}
theorem pwM_act (v : Nat → Int) : ∀ k, pwM n S (act n S v) k = pwM n S v (k + 1)
  | 0 => rfl
  | k + 1 => by rw [pwM, pwM_act v k]; rfl
theorem pwM_add (v : Nat → Int) (k : Nat) : ∀ j, pwM n S (pwM n S v k) j = pwM n S v (j + k)
  | 0 => by rw [Nat.zero_add]; rfl
  | j + 1 => by rw [pwM, pwM_add v k j, show j + 1 + k = (j + k) + 1 by omega]; rfl
theorem apF_sum : ∀ (l : List Int) (v : Nat → Int) (r : Nat), apF n S l v r = dsum (fun k => l[k]?.getD 0 * pwM n S v k r) l.length
  | [], v, r => rfl
  | a :: l, v, r => by
    rw [apF, List.length_cons, dsum_shift, apF_sum l]
    congr 1
    exact dsum_congr fun k _ => by rw [pwM_act, List.getElem?_cons_succ]
theorem act_sum (c : Nat → Int) (u : Nat → Nat → Int) (N : Nat) (r : Nat) : act n S (fun x => dsum (fun k => c k * u k x) N) r = dsum (fun k => c k * act n S (u k) r) N := by
  unfold act
  rw [dsum_congr (g := fun x => dsum (fun k => c k * (mx S r x * u k x)) N) (fun x _ => by
    rw [dsum_mul]
    exact dsum_congr fun k _ => by ac_rfl), dsum_swap (fun x k => c k * (mx S r x * u k x))]
  exact dsum_congr fun k _ => by rw [dsum_mul]
theorem pwM_sum (c : Nat → Int) (u : Nat → Nat → Int) (N : Nat) : ∀ (j r : Nat), pwM n S (fun x => dsum (fun k => c k * u k x) N) j r = dsum (fun k => c k * pwM n S (u k) j r) N
  | 0, r => rfl
  | j + 1, r => by
    rw [pwM]
    have e : pwM n S (fun x => dsum (fun k => c k * u k x) N) j = fun r => dsum (fun k => c k * pwM n S (u k) j r) N := funext fun r => pwM_sum c u N j r
    rw [e, act_sum c (fun k => pwM n S (u k) j) N r]
    rfl
theorem apF_apF (l q : List Int) (v : Nat → Int) (r : Nat) : apF n S l (apF n S q v) r = dsum (fun j => l[j]?.getD 0 * dsum (fun i => q[i]?.getD 0 * pwM n S v (i + j) r) q.length) l.length := by
  rw [apF_sum]
  refine dsum_congr fun j _ => ?_
  have e : apF n S q v = fun x => dsum (fun i => q[i]?.getD 0 * pwM n S v i x) q.length := funext fun x => apF_sum q v x
  rw [e, pwM_sum (fun i => q[i]?.getD 0) (fun i => pwM n S v i)]
  congr 1
  exact dsum_congr fun i _ => by rw [pwM_add, Nat.add_comm]
theorem apF_swap (l q : List Int) (v : Nat → Int) (r : Nat) : apF n S l (apF n S q v) r = apF n S q (apF n S l v) r := by
  rw [apF_apF, apF_apF]
  rw [dsum_congr (g := fun j => dsum (fun i => l[j]?.getD 0 * (q[i]?.getD 0 * pwM n S v (i + j) r)) q.length) (fun j _ => dsum_mul _ _ _), dsum_swap (fun j i => l[j]?.getD 0 * (q[i]?.getD 0 * pwM n S v (i + j) r))]
  refine dsum_congr fun i _ => ?_
  rw [dsum_mul]
  exact dsum_congr fun j _ => by rw [Nat.add_comm]; ac_rfl
theorem get_far (l : List Int) {i : Nat} (h : l.length ≤ i) : l[i]?.getD 0 = 0 := by rw [List.getElem?_eq_none h]; rfl
theorem apF_prod {l q b : List Int} (hb : b.length = l.length + q.length ∨ b.length + 1 = l.length + q.length) (h : ∀ k, b[k]?.getD 0 % 10007 = cmul k (fun j => l[j]?.getD 0) (fun i => q[i]?.getD 0) % 10007) (v : Nat → Int) (r : Nat) :
    apF n S b v r % 10007 = apF n S l (apF n S q v) r % 10007 := by
  rw [apF_apF, conv_sum (fun i => q[i]?.getD 0) q.length (fun i hi => get_far q hi) l.length (fun j => l[j]?.getD 0) (fun k => pwM n S v k r) (fun j hj => get_far l hj), apF_sum]
  have e : dsum (fun k => b[k]?.getD 0 * pwM n S v k r) b.length = dsum (fun k => b[k]?.getD 0 * pwM n S v k r) (l.length + q.length) := by
    rcases hb with hb | hb
    · rw [hb]
    · rw [← hb]
      show _ = dsum (fun k => b[k]?.getD 0 * pwM n S v k r) b.length + b[b.length]?.getD 0 * pwM n S v b.length r
      rw [get_far b (Nat.le_refl _), Int.zero_mul, Int.add_zero]
  rw [e]
  exact dsum_mod fun k _ => mod_mulc (h k) rfl
end
structure Blk (s t : Nat) (A H M : Mx) (B : Nat → Int) : Prop where
  aa : ∀ r c, r < s → c < s → M r c = A r c
  ah : ∀ r c, r < s → c < t → M r (s + c) = 0
  ha : ∀ r c, r < t → c < s → M (s + r) c = B c
  hh : ∀ r c, r < t → c < t → M (s + r) (s + c) = H r c
section
variable {s t : Nat} {A H M : Mx} {B : Nat → Int}
theorem blk_ad (h : Blk s t A H M B) (lo : Low t H) : ∀ k, chS (s + t) M k = chS s A k ∧ (∀ j i, j < s → i < s → adS (s + t) M j i k = adS s A j i k) ∧ (∀ j i, j < s → i < t → adS (s + t) M j (s + i) k = 0) ∧ ∀ j i, j < t → i < t → j < i → adS (s + t) M (s + j) (s + i) k = 0
  | 0 => by
    refine ⟨by rw [ch_0, ch_0], fun j i hj hi => ?_, fun j i hj hi => ?_, fun j i hj hi hji => ?_⟩
    · rw [ad_0 _ _ (by omega) (by omega), ad_0 _ _ hj hi]
    · rw [ad_0 _ _ (by omega) (by omega)]; unfold idM; rw [if_neg (by omega)]
    · rw [ad_0 _ _ (by omega) (by omega)]; unfold idM; rw [if_neg (by omega)]
  | k + 1 => by
    obtain ⟨i0, i1, i2, i3⟩ := blk_ad h lo k
    have row : ∀ j i, j < s → i < s → dsum (fun c => M j c * adS (s + t) M c i k) (s + t) = dsum (fun c => A j c * adS s A c i k) s := fun j i hj hi => by
      rw [dsum_split, dsum_zero (n := t) (fun c hc => by rw [h.ah j c hj hc, Int.zero_mul]), Int.add_zero]
      exact dsum_congr fun c hc => by rw [h.aa j c hj hc, i1 c i hc hi]
    have low : ∀ j i, j < t → i < t → j ≤ i → dsum (fun c => M (s + j) c * adS (s + t) M c (s + i) k) (s + t) = 0 := fun j i hj hi hji => by
      rw [dsum_split, dsum_zero (n := s) (fun c hc => by rw [i2 c i hc hi, Int.mul_zero]), Int.zero_add]
      refine dsum_zero fun c hc => ?_
      rw [h.hh j c hj hc]
      by_cases e : j ≤ c
      · rw [lo j c hj hc e, Int.zero_mul]
      · rw [i3 c i hc hi (by omega), Int.mul_zero]
    have e0 : chS (s + t) M (k + 1) = chS s A (k + 1) := by
      have e1 := ch_step (s + t) M k
      have e2 := ch_step s A k
      rw [dsum_split, dsum_zero (n := t) (fun i hi => low i i hi hi (Nat.le_refl _)), Int.add_zero, dsum_congr (g := fun i => dsum (fun c => A i c * adS s A c i k) s) (fun i hi => row i i hi hi), ← e2] at e1
      exact Int.eq_of_mul_eq_mul_left (by omega) e1
    refine ⟨e0, fun j i hj hi => ?_, fun j i hj hi => ?_, fun j i hj hi hji => ?_⟩
    · rw [ad_step _ _ (by omega) (by omega), ad_step _ _ hj hi, row j i hj hi, e0]
    · rw [ad_step _ _ (by omega) (by omega), if_neg (by omega), Int.add_zero, dsum_split, dsum_zero (n := s) (fun c hc => by rw [i2 c i hc hi, Int.mul_zero]), dsum_zero (n := t) (fun c hc => by rw [h.ah j c hj hc, Int.zero_mul])]
      rfl
    · rw [ad_step _ _ (by omega) (by omega), if_neg (by omega), Int.add_zero, low j i hj hi (by omega)]
theorem blk_ev (h : Blk s t A H M B) : ∀ k, (∀ r, r < s → evN (s + t) M k r = evN s A k r) ∧ ∀ r, r < t → evN (s + t) M k (s + r) = cmul k (rsS s A B) (fun i => evN t H i r)
  | 0 => ⟨fun r _ => rfl, fun r _ => by show (1 : Int) = rsS s A B 0 * 1; rw [rsS_0]; rfl⟩
  | k + 1 => by
    obtain ⟨i1, i2⟩ := blk_ev h k
    refine ⟨fun r hr => ?_, fun r hr => ?_⟩
    · show dsum (fun c => M r c * evN (s + t) M k c) (s + t) = dsum (fun c => A r c * evN s A k c) s
      rw [dsum_split, dsum_zero (n := t) (fun c hc => by rw [h.ah r c hr hc, Int.zero_mul]), Int.add_zero]
      exact dsum_congr fun c hc => by rw [h.aa r c hr hc, i1 c hc]
    · show dsum (fun c => M (s + r) c * evN (s + t) M k c) (s + t) = _
      rw [dsum_split, dsum_congr (g := fun c => B c * evN s A k c) (fun c hc => by rw [h.ha r c hr hc, i1 c hc]), ← rs_dot, cmul_dsum]
      rw [dsum_congr (g := fun c => dsum (fun i => rsS s A B i * (H r c * evN t H (k - i) c)) (k + 1)) (fun c hc => by
        rw [h.hh r c hr hc, i2 c hc, cmul_dsum, dsum_mul]
        exact dsum_congr fun i _ => by ac_rfl), dsum_swap (fun c i => rsS s A B i * (H r c * evN t H (k - i) c))]
      show _ = dsum (fun i => rsS s A B i * evN t H (k + 1 - i) r) (k + 1) + rsS s A B (k + 1) * evN t H (k + 1 - (k + 1)) r
      rw [Nat.sub_self, Int.add_comm]
      congr 1
      · refine dsum_congr fun i hi => ?_
        rw [show k + 1 - i = (k - i) + 1 by omega]
        show _ = rsS s A B i * dsum (fun c => H r c * evN t H (k - i) c) t
        rw [dsum_mul]
      · show _ = rsS s A B (k + 1) * 1
        rw [Int.mul_one]
theorem blk_rs (h : Blk s t A H M B) (C D : Nat → Int) (d1 : ∀ r, r < s → D r = B r) (d2 : ∀ r, r < t → D (s + r) = C r) : rsS (s + t) M D = rsS t H C * rsS s A B := by
  refine funext fun k => ?_
  rw [mulC, ser_mul, cmul_dsum]
  cases k with
  | zero => rw [rsS_0]; show (1 : Int) = 0 + rsS s A B 0 * rsS t H C 0; rw [rsS_0, rsS_0]; rfl
  | succ k =>
    have ev := blk_ev h k
    rw [rs_dot, dsum_split, dsum_congr (g := fun r => B r * evN s A k r) (fun r hr => by rw [d1 r hr, ev.1 r hr]), ← rs_dot]
    rw [dsum_congr (g := fun r => dsum (fun i => rsS s A B i * (C r * evN t H (k - i) r)) (k + 1)) (fun r hr => by
      rw [d2 r hr, ev.2 r hr, cmul_dsum, dsum_mul]
      exact dsum_congr fun i _ => by ac_rfl), dsum_swap (fun r i => rsS s A B i * (C r * evN t H (k - i) r))]
    show _ = dsum (fun i => rsS s A B i * rsS t H C (k + 1 - i)) (k + 1) + rsS s A B (k + 1) * rsS t H C (k + 1 - (k + 1))
    rw [Nat.sub_self, rsS_0, Int.mul_one, Int.add_comm]
    congr 1
    refine dsum_congr fun i hi => ?_
    rw [show k + 1 - i = (k - i) + 1 by omega, rs_dot, dsum_mul]
end
end Go.Proofs.YtnokgijakdaehaaGreatDoor


namespace Go.Proofs.YtnokgijakdaehaaGreatDoor
open Go.Abs CR
set_option linter.unusedSectionVars false
set_option linter.unusedVariables false
set_option linter.unusedSimpArgs false
set_option maxHeartbeats 1000000
theorem apF_same {n : Nat} {S : List (List Int)} {b q : List Int} (h : ∀ k : Nat, b[k]?.getD 0 % 10007 = q[k]?.getD 0 % 10007) (v : Nat → Int) (r : Nat) : apF n S b v r % 10007 = apF n S q v r % 10007 := by
  have ext : ∀ (l : List Int) (N : Nat), dsum (fun k => l[k]?.getD 0 * pwM n S v k r) (l.length + N) = dsum (fun k => l[k]?.getD 0 * pwM n S v k r) l.length := fun l N => by
    rw [dsum_split, dsum_zero (n := N) (fun i _ => by rw [get_far l (by omega), Int.zero_mul]), Int.add_zero]
  rw [apF_sum, apF_sum, ← ext b q.length, ← ext q b.length, Nat.add_comm q.length]
  exact dsum_mod fun k _ => mod_mulc (h k) rfl
theorem act_unit {n : Nat} (Q : List (List Int)) {r c : Nat} (hc : c < n) : act n Q (fun k => idM k c) r = mx Q r c := by
  rw [act, dsum_one (k := c) hc (fun i hi hne => by show _ * idM i c = 0; unfold idM; rw [if_neg hne, Int.mul_zero])]
  have e1 : idM c c = 1 := by unfold idM; rw [if_pos rfl]
  rw [e1, Int.mul_one]
section
variable {A : List (List Int)} {B : List Int} {H : List (List Int)} {C : List Int}
theorem cmp_blk (hT : Tab A B) (hH : Tab H C) : Blk B.length C.length (mx A) (mx H) (mx (cmpA A B H)) (fun r => B[r]?.getD 0) := by
  have al : (A.map (fun r => r ++ List.replicate H.length (0 : Int))).length = B.length := by simp [hT.len]
  have rl : ∀ i, i < B.length → (A[i]?.getD []).length = B.length := fun i hi => (hT.rws.at (by rw [hT.len]; exact hi)).1
  have c1 : ∀ i, i < B.length → (cmpA A B H)[i]?.getD [] = A[i]?.getD [] ++ List.replicate H.length 0 := fun i hi => by
    unfold cmpA
    rw [app_lt _ (by rw [al]; exact hi)]
    have : i < A.length := by rw [hT.len]; exact hi
    simp [this]
  have c2 : ∀ i, i < C.length → (cmpA A B H)[B.length + i]?.getD [] = B ++ H[i]?.getD [] := fun i hi => by
    unfold cmpA
    have := app_ge (l := A.map (fun r => r ++ List.replicate H.length (0 : Int))) (m := H.map (fun r => B ++ r)) (q := i) []
    rw [al] at this
    rw [this]
    have : i < H.length := by rw [hH.len]; exact hi
    simp [this]
  refine ⟨fun r c hr hc => ?_, fun r c hr hc => ?_, fun r c hr hc => ?_, fun r c hr hc => ?_⟩
  · show ((cmpA A B H)[r]?.getD [])[c]?.getD 0 = _
    rw [c1 r hr, app_lt _ (by rw [rl r hr]; exact hc)]; rfl
  · show ((cmpA A B H)[r]?.getD [])[B.length + c]?.getD 0 = _
    have := app_ge (l := A[r]?.getD []) (m := List.replicate H.length (0 : Int)) (q := c) 0
    rw [rl r hr] at this
    rw [c1 r hr, this]
    have hc2 : c < H.length := by rw [hH.len]; exact hc
    simp [hc2]
  · show ((cmpA A B H)[B.length + r]?.getD [])[c]?.getD 0 = _
    rw [c2 r hr, app_lt _ hc]
  · show ((cmpA A B H)[B.length + r]?.getD [])[B.length + c]?.getD 0 = _
    rw [c2 r hr, app_ge]; rfl
theorem cmp_Q (hT : Tab A B) (hH : Tab H C) (lo : Low C.length (mx H)) (k : Nat) : (chL (B ++ C).length (cmpA A B H))[k]?.getD 0 = (chL B.length A)[k]?.getD 0 := by
  rw [chL_get, chL_get, List.length_append, (blk_ad (cmp_blk hT hH) lo k).1]
theorem cmp_P (hT : Tab A B) (hH : Tab H C) (h8 : B.length + C.length ≤ 8) (lo : Low C.length (mx H)) (k : Nat) :
    (chL (B ++ C).length (lesM (cmpA A B H) (B ++ C)))[k]?.getD 0 % 10007 = cmul k (fun j => (chL C.length (lesM H C))[j]?.getD 0) (fun i => (chL B.length (lesM A B))[i]?.getD 0) % 10007 := by
  have hC := cmp_tab hT hH h8
  have e1 : chS (B ++ C).length (mx (lesM (cmpA A B H) (B ++ C))) k % 10007 = chS (B ++ C).length (lessM (mx (cmpA A B H)) (fun r => (B ++ C)[r]?.getD 0)) k % 10007 := ch_mod (fun r c hr hc => les_mod hC hr hc) k
  have e2 : chS (B ++ C).length (mx (cmpA A B H)) = chS B.length (mx A) := funext fun k => by rw [List.length_append]; exact (blk_ad (cmp_blk hT hH) lo k).1
  have e3 : rsS (B ++ C).length (mx (cmpA A B H)) (fun r => (B ++ C)[r]?.getD 0) = rsS C.length (mx H) (fun r => C[r]?.getD 0) * rsS B.length (mx A) (fun r => B[r]?.getD 0) := by
    rw [List.length_append]
    exact blk_rs (cmp_blk hT hH) _ _ (fun r hr => app_lt _ hr) (fun r hr => app_ge _)
  rw [chL_get, Int.emod_emod_of_dvd _ (Int.dvd_refl _), e1, ch_less, e2, e3, mulA, ← ch_less, ser_mul]
  refine cmul_mod k (fun i _ => ?_) (fun i _ => ?_)
  · rw [ch_les hH lo, Int.emod_emod_of_dvd _ (Int.dvd_refl _)]
  · rw [chL_get, Int.emod_emod_of_dvd _ (Int.dvd_refl _)]
    exact (ch_mod (fun r c hr hc => les_mod hT hr hc) i).symm
variable {m : List (List Int)} {y : List Int} {h : Int}
theorem linX_len : (linX A B m y h).length = m.length := by simp [linX]
theorem linX_N : Ns (linX A B m y h) := tb_N fun i _ => isN_mod _
theorem linX_at {r : Nat} (hr : r < m.length) : (linX A B m y h)[r]?.getD 0 = sysF m.length (linQ A B m h) (apL (chL B.length (lesM A B)) (linS m h) y) r := by
  unfold linX; exact tb_get _ hr
theorem linQ_act (h0 : 0 < m.length) (hr : Rws m.length m) (v : Nat → Int) {r : Nat} (h1 : r < m.length) : act m.length (linQ A B m h) v r % 10007 = apF m.length (linS m h) (chL B.length A) v r % 10007 :=
  hor_act h0 (linS_len m h) (linS_ok hr h) (chL B.length A) v r h1
theorem linX_solves (h0 : 0 < m.length) (hr : Rws m.length m) (hy : y.length = m.length) (hN : Ns y) (hd : ldet m.length (linQ A B m h) ≠ 0) {r : Nat} (h1 : r < m.length) :
    apF m.length (linS m h) (chL B.length A) (fun c => (linX A B m y h)[c]?.getD 0) r % 10007 = apF m.length (linS m h) (chL B.length (lesM A B)) (fun c => y[c]?.getD 0) r % 10007 := by
  have hl := linS_len m h
  have hs := linS_ok hr h
  have oQ := horM_ok h0 hl hs (chL B.length A).reverse
  have hq : horM (linS m h) (chL B.length A).reverse = linQ A B m h := rfl
  rw [hq] at oQ
  have bN : Ns (apL (chL B.length (lesM A B)) (linS m h) y) := (sumK_ok (chL B.length (lesM A B)) (linS m h) hy (chL B.length (lesM A B)).length).2
  have sv := sys_solves h0 oQ.1 oQ.2 bN hd r h1
  rw [← linQ_act h0 hr _ h1, act_cong (linQ A B m h) (v' := sysF m.length (linQ A B m h) (apL (chL B.length (lesM A B)) (linS m h) y)) (fun c hc => by rw [linX_at hc]) r, act, sv, apL_get hl hs hy hN h1, Int.emod_emod_of_dvd _ (Int.dvd_refl _)]
theorem lin_comp (hT : Tab A B) (hH : Tab H C) (h8 : B.length + C.length ≤ 8) (h6 : C.length ≤ 6) (lo : Low C.length (mx H)) (h0 : 0 < m.length) (hr : Rws m.length m) (hy : y.length = m.length) (hN : Ns y) (hd : ldet m.length (linQ A B m h) ≠ 0) :
    ldet m.length (linQ H C m h) ≠ 0 ∧ ldet m.length (linQ (cmpA A B H) (B ++ C) m h) ≠ 0 ∧ linX (cmpA A B H) (B ++ C) m y h = linX H C m (linX A B m y h) h := by
  have hl := linS_len m h
  have hs := linS_ok hr h
  have hdH := (lin_is h hH lo h6 h0 hr (linX_len (A := A) (B := B) (y := y) (h := h)) linX_N).1
  have oX := horM_ok h0 hl hs (chL B.length A).reverse
  have oB := horM_ok h0 hl hs (chL (B ++ C).length (cmpA A B H)).reverse
  have hqX : horM (linS m h) (chL B.length A).reverse = linQ A B m h := rfl
  have hqB : horM (linS m h) (chL (B ++ C).length (cmpA A B H)).reverse = linQ (cmpA A B H) (B ++ C) m h := rfl
  rw [hqX] at oX
  rw [hqB] at oB
  have qB : ∀ (v : Nat → Int) (r : Nat), r < m.length → act m.length (linQ (cmpA A B H) (B ++ C) m h) v r % 10007 = apF m.length (linS m h) (chL B.length A) v r % 10007 := fun v r h1 => by
    rw [linQ_act h0 hr v h1]
    exact apF_same (fun k => by rw [cmp_Q hT hH lo]) v r
  have dB : ldet m.length (linQ (cmpA A B H) (B ++ C) m h) ≠ 0 := by
    have e : ldet m.length (linQ (cmpA A B H) (B ++ C) m h) = ldet m.length (linQ A B m h) := by
      rw [ldet_is _ _ oB.1 oB.2, ldet_is _ _ oX.1 oX.2]
      refine det_cong fun r c h1 h2 => ?_
      rw [← act_unit _ h2, ← act_unit _ h2, qB _ r h1, linQ_act h0 hr _ h1]
    rw [e]; exact hd
  refine ⟨hdH, dB, ?_⟩
  have one : ∀ (v : Nat → Int) (r : Nat), apF m.length (linS m h) (chL C.length H) v r % 10007 = v r % 10007 := fun v r => by
    rw [apF_same (q := [1]) (fun k => by
      rw [chL_get, ch_low lo]
      cases k with
      | zero => rfl
      | succ k => simp) v r]
    show (1 * v r + 0) % 10007 = _
    rw [Int.one_mul, Int.add_zero]
  have s2 : ∀ r, r < m.length → (linX H C m (linX A B m y h) h)[r]?.getD 0 % 10007 = apF m.length (linS m h) (chL C.length (lesM H C)) (fun c => (linX A B m y h)[c]?.getD 0) r % 10007 := fun r h1 => by
    have e := linX_solves (A := H) (B := C) (h := h) h0 hr (linX_len (A := A) (B := B) (y := y) (h := h)) linX_N hdH h1
    rw [one] at e
    exact e
  have s1 : ∀ r, r < m.length → _ := fun r h1 => linX_solves (A := A) (B := B) (h := h) h0 hr hy hN hd (r := r) h1
  have bN : Ns (apL (chL (B ++ C).length (lesM (cmpA A B H) (B ++ C))) (linS m h) y) := (sumK_ok _ (linS m h) hy _).2
  have un := solve_uniq (e := fun c => (linX H C m (linX A B m y h) h)[c]?.getD 0) h0 oB.1 oB.2 bN dB (fun r h1 => by
    show act m.length (linQ (cmpA A B H) (B ++ C) m h) (fun c => (linX H C m (linX A B m y h) h)[c]?.getD 0) r % 10007 = _
    rw [qB _ r h1, apL_get hl hs hy hN h1, Int.emod_emod_of_dvd _ (Int.dvd_refl _)]
    rw [apF_cong (linS m h) (chL B.length A) (v' := apF m.length (linS m h) (chL C.length (lesM H C)) (fun c => (linX A B m y h)[c]?.getD 0)) (fun c hc => s2 c hc) r h1, apF_swap]
    rw [apF_cong (linS m h) (chL C.length (lesM H C)) (v' := apF m.length (linS m h) (chL B.length (lesM A B)) (fun c => y[c]?.getD 0)) (fun c hc => s1 c hc) r h1]
    exact (apF_prod (.inr (by rw [chL_len, chL_len, chL_len, List.length_append]; omega)) (cmp_P hT hH h8 lo) _ r).symm)
  refine List.ext_getElem (by rw [linX_len, linX_len]) fun k k1 k2 => ?_
  have hk : k < m.length := by rw [linX_len] at k1; exact k1
  have e1 := linX_at (A := cmpA A B H) (B := B ++ C) (y := y) (h := h) hk
  have e2 : sysF m.length (linQ (cmpA A B H) (B ++ C) m h) (apL (chL (B ++ C).length (lesM (cmpA A B H) (B ++ C))) (linS m h) y) k = (linX H C m (linX A B m y h) h)[k]?.getD 0 % 10007 := un k hk
  have nx := (linX_N (A := H) (B := C) (m := m) (y := linX A B m y h) (h := h)).get k
  rw [e2, Int.emod_eq_of_lt nx.1 (by have := nx.2; omega), List.getElem?_eq_getElem k1, List.getElem?_eq_getElem k2] at e1
  exact e1
end
end Go.Proofs.YtnokgijakdaehaaGreatDoor


namespace Go.Proofs.YtnokgijakdaehaaGreatDoor
open Go.Abs
set_option linter.unusedSectionVars false
set_option linter.unusedVariables false
set_option linter.unusedSimpArgs false
set_option maxHeartbeats 1000000
theorem apF_one {S : List (List Int)} {w : Int} (hw : mx S 0 0 % 10007 = w % 10007) : ∀ (l : List Int) (v : Nat → Int), apF 1 S l v 0 % 10007 = hor w l.reverse * v 0 % 10007
  | [], v => by show (0 : Int) % 10007 = 0 * v 0 % 10007; rw [Int.zero_mul]
  | a :: l, v => by
    have e0 : act 1 S v 0 % 10007 = w * v 0 % 10007 := by
      show (0 + mx S 0 0 * v 0) % 10007 = _
      rw [Int.zero_add]
      exact mod_mulc hw rfl
    have ih := apF_one hw l (act 1 S v)
    rw [apF, List.reverse_cons, hor_snoc, mul_mod_l, Int.add_mul, Int.add_comm (a * v 0)]
    refine mod_addc ?_ rfl
    rw [ih, mod_mulc rfl e0, Int.mul_assoc]
theorem one_step {A : List (List Int)} {B : List Int} {m : List (List Int)} {y : List Int} {h : Int} (h1 : m.length = 1) (hr : Rws m.length m) (hy : y.length = m.length) (hN : Ns y) (hd : ldet m.length (linQ A B m h) ≠ 0) :
    saB A B (h * (m[0]?.getD [])[0]?.getD 0 % 10007) ≠ 0 ∧
    (linX A B m y h)[0]?.getD 0 = hor (h * (m[0]?.getD [])[0]?.getD 0 % 10007) (chL B.length (lesM A B)).reverse * pw (saB A B (h * (m[0]?.getD [])[0]?.getD 0 % 10007)) 10005 % 10007 * y[0]?.getD 0 % 10007 := by
  have h0 : 0 < m.length := by omega
  have hl := linS_len m h
  have hs := linS_ok hr h
  have oQ := horM_ok h0 hl hs (chL B.length A).reverse
  have hq : horM (linS m h) (chL B.length A).reverse = linQ A B m h := rfl
  rw [hq] at oQ
  have hw : mx (linS m h) 0 0 % 10007 = (h * (m[0]?.getD [])[0]?.getD 0 % 10007) % 10007 := by
    rw [linS_mx rfl hr h h0 h0, Int.mul_comm]; rfl
  have hQ : mx (linQ A B m h) 0 0 % 10007 = saB A B (h * (m[0]?.getD [])[0]?.getD 0 % 10007) := by
    have e := linQ_act (A := A) (B := B) (h := h) h0 hr (fun k => idM k 0) h0
    rw [act_unit _ h0, h1, apF_one hw] at e
    have e1 : idM 0 0 = 1 := rfl
    rw [e1, Int.mul_one] at e
    have hn := hor_N (h * (m[0]?.getD [])[0]?.getD 0 % 10007) (chL B.length A).reverse
    rw [e]
    exact Int.emod_eq_of_lt hn.1 (by have := hn.2; omega)
  have sv := linX_solves (A := A) (B := B) h0 hr hy hN hd h0
  rw [h1, apF_one hw, apF_one hw] at sv
  have nz : saB A B (h * (m[0]?.getD [])[0]?.getD 0 % 10007) ≠ 0 := by
    intro z
    apply hd
    rw [ldet_is _ _ oQ.1 oQ.2, h1]
    show (0 + sgd 0 * mx (linQ A B m h) 0 0 * 1) % 10007 = 0
    have s0 : sgd 0 = 1 := rfl
    rw [s0, Int.zero_add, Int.one_mul, Int.mul_one, hQ, z]
  refine ⟨nz, ?_⟩
  have bN := hor_N (h * (m[0]?.getD [])[0]?.getD 0 % 10007) (chL B.length A).reverse
  have iv := inv_ok (a := saB A B (h * (m[0]?.getD [])[0]?.getD 0 % 10007)) bN nz
  have xN := (linX_N (A := A) (B := B) (m := m) (y := y) (h := h)).get 0
  have eb : hor (h * (m[0]?.getD [])[0]?.getD 0 % 10007) (chL B.length A).reverse = saB A B (h * (m[0]?.getD [])[0]?.getD 0 % 10007) := rfl
  rw [eb] at sv
  generalize saB A B (h * (m[0]?.getD [])[0]?.getD 0 % 10007) = b at *
  generalize hor (h * (m[0]?.getD [])[0]?.getD 0 % 10007) (chL B.length (lesM A B)).reverse = P at *
  generalize (linX A B m y h)[0]?.getD 0 = x at *
  generalize y[0]?.getD 0 = u at *
  generalize pw b 10005 = i at *
  have e1 : i * (b * x) % 10007 = x % 10007 := by
    rw [← Int.mul_assoc, Int.mul_comm i b, ← mul_mod_l, iv, Int.one_mul]
  have e2 : i * (b * x) % 10007 = i * (P * u) % 10007 := mod_mulc rfl sv
  rw [mul_mod_l]
  have e3 : i * (P * u) = P * i * u := by ac_rfl
  rw [← e3, ← e2, e1]
  exact (Int.emod_eq_of_lt xN.1 (by have := xN.2; omega)).symm
end Go.Proofs.YtnokgijakdaehaaGreatDoor


namespace Go.Proofs.YtnokgijakdaehaaGreatDoor
open Go.Abs
set_option linter.unusedSectionVars false
set_option linter.unusedVariables false
set_option linter.unusedSimpArgs false
set_option maxHeartbeats 4000000
theorem omat_cols_succ (n : Nat) (q : List Int) (m : List (List Int)) (i : Nat) : omat ((List.range (i + 1)).map fun k => apL q m (unR n k)) = omat ((List.range i).map fun k => apL q m (unR n k)) ++ [.own 2 n (avs (apL q m (unR n i)))] := by
  have := omat_range_succ (fun k => apL q m (unR n k)) i
  rw [show (apL q m (unR n i)).length = n from (sumK_ok q m (unR_len n i) _).1] at this
  exact this
set_option maxRecDepth 100000 in
theorem specLinearStep_w (A : List (List Int)) (B : List Int) (m : List (List Int)) (y : List Int) (h : Int) (hT : Tab A B) (hM1 : 1 ≤ m.length) (hM8 : m.length ≤ 8) (hr : Rws m.length m) (hE : m.length = (m[0]?.getD []).length)
    (hY : y.length = m.length) (hN : Ns y) (hh : isN h) (cI : Con Tryz.prog 52 [.agg [.sl A.length (mat A), .sl B.length (avs B)]] (.bool true)) (cM : Con Tryz.prog 53 [.sl m.length (mat m)] (.int 0))
    (cN : Con Tryz.prog 54 [.sl y.length (avs y)] (.bool true)) (cH : Con Tryz.prog 55 [.int h] (.bool true)) :
    Con Tryz.prog 10 [.agg [.sl A.length (mat A), .sl B.length (avs B)], .sl m.length (mat m), .sl y.length (avs y), .int h]
      (if ldet m.length (linQ A B m h) = 0 then .tup [.own 2 0 [], .int 5] else .tup [.own 2 m.length (avs (linX A B m y h)), .int 0]) := by
  have b8 := hT.le
  have h0 : 0 < m.length := by omega
  have hl := linS_len m h
  have hs := linS_ok hr h
  have cF := l19Fraction_c A B hT
  have cU := l19Unit_c m.length (by omega)
  have aU := fun k => l19Apply_c (chL B.length A) (linS m h) (unR m.length k) (by simp; omega) (chL_N _ _) h0 (by omega) hl hs (unR_len _ _) (unR_N _ _)
  have cA := l19Apply_c (chL B.length (lesM A B)) (linS m h) y (by simp; omega) (chL_N _ _) h0 (by omega) hl hs hY hN
  rw [hl, chL_len, hY] at cA
  have tu := cols_turn (q := chL B.length A) h0 hl hs
  have hq : horM (linS m h) (chL B.length A).reverse = linQ A B m h := rfl
  have oQ := horM_ok h0 hl hs (chL B.length A).reverse
  rw [hq] at tu oQ
  have oA := sumK_ok (chL B.length (lesM A B)) (linS m h) hY (chL B.length (lesM A B)).length
  have oA1 : (apL (chL B.length (lesM A B)) (linS m h) y).length = m.length := oA.1
  have oA2 : Ns (apL (chL B.length (lesM A B)) (linS m h) y) := oA.2
  have cV := l01Solve_c (linQ A B m h) (apL (chL B.length (lesM A B)) (linS m h) y) oQ.1 (by omega) oQ.2 oA2 (by omega)
  rw [oQ.1, oA1] at cV
  have cl : (colsL m.length (chL B.length A) (linS m h)).length = m.length := by simp [colsL]
  have cr : ∀ k, k < m.length → (colsL m.length (chL B.length A) (linS m h))[k]?.getD [] = apL (chL B.length A) (linS m h) (unR m.length k) := fun k hk => by simp [colsL, hk]
  have rl : ∀ r ∈ colsL m.length (chL B.length A) (linS m h), r.length = m.length := fun r hr => by
    obtain ⟨k, _, rfl⟩ := List.mem_map.1 hr
    exact (sumK_ok _ _ (unR_len _ _) _).1
  have r0 : ((colsL m.length (chL B.length A) (linS m h))[0]?.getD []).length = m.length := by rw [cr 0 h0]; exact (sumK_ok _ _ (unR_len _ _) _).1
  have cT := l14Turn_c (colsL m.length (chL B.length A) (linS m h)) (by omega) (by omega) (fun r hr => by rw [r0]; exact rl r hr) (by omega)
  rw [turnS_len, r0, tu, cl] at cT
  have hC : colsL m.length (chL B.length A) (linS m h) = (List.range m.length).map fun k => apL (chL B.length A) (linS m h) (unR m.length k) := rfl
  have hX : linX A B m y h = tb (sysF m.length (linQ A B m h) (apL (chL B.length (lesM A B)) (linS m h) y)) m.length := rfl
  have sR : solR m.length (linQ A B m h) (apL (chL B.length (lesM A B)) (linS m h) y) = .tup [.own 2 (if ldet m.length (linQ A B m h) = 0 then [] else linX A B m y h).length (avs (if ldet m.length (linQ A B m h) = 0 then [] else linX A B m y h)), .bool (decide (ldet m.length (linQ A B m h) ≠ 0))] := rfl
  rw [sR] at cV
  have xl : (linX A B m y h).length = m.length := by simp [linX]
  have un := unM_ok m.length
  have ur := fun k (hk : k < m.length) => unM_row (n := m.length) hk
  clear hX sR hq
  generalize linQ A B m h = Q at *
  generalize linX A B m y h = X at *
  generalize apL (chL B.length (lesM A B)) (linS m h) y = Z at *
  have hS : linS m h = (List.range m.length).map fun i => tb (fun k => (m[i]?.getD [])[k]?.getD 0 * h % 10007) (m[i]?.getD []).length := rfl
  have m0 := mat_drop (xss := m) (k := 0) h0
  simp only [List.drop_zero] at m0
  have m1 : AV.sl (m[0]?.getD []).length (avs (m[0]?.getD [])) :: mat m.tail = mat m := by cases m with | nil => simp at h0 | cons x l => simp [mat]
  have ne : ¬ m = [] := by rintro rfl; simp at h0
  have go : ∀ x : AV, freshOK x = true → (ldet m.length Q ≠ 0 → x = .tup [.own 2 m.length (avs X), .int 0]) → (ldet m.length Q = 0 → x = .tup [.val (.slice none 0 0), .int 5]) →
      Con Tryz.prog 10 [.agg [.sl A.length (mat A), .sl B.length (avs B)], .sl m.length (mat m), .sl y.length (avs y), .int h] x := by
    intro x hf x1 x2
    refine con_of_vc Tryz.mixed ⟨19, [], [], []⟩ Tryz.func10 (by decide) rfl (by simp) (by decide) hf ?_
    rw [Tryz.ntmps10]
    simp [go_sem]
    refine CallVC.of (cI) (by decide) ?_
    simp [go_sem]
    refine CallVC.of (cM) (by decide) ?_
    simp [go_sem]
    simp [go_sem, m0]
    simp only [m1]
    refine ⟨⟨h0, ne⟩, ?_⟩
    simp [go_sem, hE.symm, hY]
    rw [hY] at cN
    refine CallVC.of (cN) (by decide) ?_
    simp [go_sem]
    refine CallVC.of (cH) (by decide) ?_
    simp [go_sem]
    refine loop_inv ([10, 11] ++ List.range' 52 15) (fun i : Nat => [(10, .own 25 i (omat ((List.range i).map fun i => tb (fun k => (m[i]?.getD [])[k]?.getD 0 * h % 10007) (m[i]?.getD []).length))), (11, .int i)]) (fun i => i ≤ m.length) (fun i => m.length - i) 0 (by simp) (by simp [go_sem, omat]) (by simp [go_sem]) ?_
    intro i hi
    by_cases hin : i < m.length
    · have hii : (i : Int) < m.length := by omega
      have ri := hr.at hin
      have cS := l02Times_c (m[i]?.getD []) h ri.2 hh (by omega)
      have ho := omat_range_succ (fun i => tb (fun k => (m[i]?.getD [])[k]?.getD 0 * h % 10007) (m[i]?.getD []).length) i
      rw [tb_len] at ho
      simp [go_sem, hii, mat_drop hin]
      refine ⟨ne, ?_⟩
      refine CallVC.of (cS) (by decide) ?_
      simp [go_sem]
      exact ⟨by omega, by omega, i + 1, by omega, by omega, Off_reset _ _ _ (by simp), by rw [ho]; exact ⟨rfl, rfl⟩, by omega⟩
    · have e : i = m.length := by omega
      subst e
      have hii : ¬ (m.length : Int) < m.length := by omega
      rw [← hS]
      simp [go_sem, hii]
      refine CallVC.of (cF) (by decide) ?_
      simp [go_sem]
      refine CallVC.of (cU) (by decide) ?_
      simp [go_sem]
      refine loop_inv ([14, 16] ++ List.range' 76 16) (fun i : Nat => [(14, .own 25 i (omat ((List.range i).map fun k => apL (chL B.length A) (linS m h) (unR m.length k)))), (16, .int i)]) (fun i => i ≤ m.length) (fun i => m.length - i) 0 (by simp) (by simp [go_sem, omat]) (by simp [go_sem, omat_kl]) ?_
      intro i hi
      by_cases hin : i < m.length
      · have hii : (i : Int) < m.length := by omega
        have hiU : i < (unM m.length).length := by omega
        have hg := omat_get (A := unM m.length) (k := i) hiU
        have a := aU i
        have ho := omat_cols_succ m.length (chL B.length A) (linS m h) i
        rw [ur i hin, unR_len] at hg
        rw [chL_len, hl, unR_len] at a
        have une : ¬ unM m.length = [] := by intro hx; rw [hx] at hiU; simp at hiU
        simp [go_sem, hii, hg]
        refine CallVC.of (a) (by decide) ?_
        simp [go_sem]
        exact ⟨by omega, by omega, i + 1, by omega, by omega, Off_reset _ _ _ (by simp), by rw [ho]; exact ⟨rfl, rfl⟩, by omega⟩
      · have e : i = m.length := by omega
        subst e
        have hii : ¬ (m.length : Int) < m.length := by omega
        rw [← hC]
        simp [go_sem, hii]
        refine CallVC.of (cT) (by decide) ?_
        simp [go_sem]
        refine CallVC.of (cA) (by decide) ?_
        simp [go_sem]
        by_cases hz : ldet m.length Q = 0
        · have hx := x2 hz
          subst hx
          simp only [hz, if_true, ne_eq, not_true_eq_false, decide_false] at cV
          refine CallVC.of (cV) (by decide) ?_
          simp [go_sem]
        · have hx := x1 hz
          subst hx
          simp only [hz, if_false, ne_eq, not_false_eq_true, decide_true, xl] at cV
          refine CallVC.of (cV) (by decide) ?_
          simp [go_sem]
  by_cases hz : ldet m.length Q = 0
  · rw [if_pos hz]
    exact Con.n1 _ (go _ (by simp [freshOK, freshL]) (fun hb => (hb hz).elim) (fun _ => rfl))
  · rw [if_neg hz]
    exact go _ (by simp [freshOK, freshL]) (fun _ => rfl) (fun hb => (hz hb).elim)
set_option maxRecDepth 100000 in
theorem specLinearStep_c (A : List (List Int)) (B : List Int) (m : List (List Int)) (y : List Int) (h : Int) (hA : A.length ≤ 1048576) (hrA : ∀ r ∈ A, r.length ≤ 1048576) (hB : B.length ≤ 1048576) (hm : m.length ≤ 1048576) (hrm : ∀ r ∈ m, r.length ≤ 1048576) (hy : y.length ≤ 1048576) :
    Con Tryz.prog 10 [.agg [.sl A.length (mat A), .sl B.length (avs B)], .sl m.length (mat m), .sl y.length (avs y), .int h] (linR A B m y h) := by
  have cI := l09Is_c A B (by omega) (by omega) (fun r h => by have := hrA r h; omega)
  have cM := l01Matrix_c m (by omega) (fun r h => by have := hrm r h; omega)
  have cN := l01Numbers_c y (by omega)
  have cH := specIsNumber_c h
  by_cases hT : tabB A B = true
  · rw [hT] at cI
    by_cases hM : matB m = true
    · rw [if_pos hM] at cM
      have hM' := matB_iff.1 hM
      have h0 : 0 < m.length := by omega
      have m0 := mat_drop (xss := m) (k := 0) h0
      simp only [List.drop_zero] at m0
      have m1 : AV.sl (m[0]?.getD []).length (avs (m[0]?.getD [])) :: mat m.tail = mat m := by cases m with | nil => simp at h0 | cons x l => simp [mat]
      have ne : ¬ m = [] := by rintro rfl; simp at h0
      by_cases hE : m.length = (m[0]?.getD []).length
      · by_cases hY : y.length = m.length
        · by_cases hN : numsB y = true
          · rw [hN] at cN
            by_cases hh : 0 ≤ h ∧ h ≤ 10006
            · rw [decide_eq_true hh] at cH
              have w := specLinearStep_w A B m y h (tabB_iff.1 hT) (by omega) (by omega) (fun r hr => by have := hM'.2.2 r hr; rw [← hE] at this; exact this) hE hY (numsB_Ns hN) ⟨hh.1, by omega⟩ cI cM cN cH
              have e : linC A B m y h = if ldet m.length (linQ A B m h) = 0 then 5 else 0 := by
                unfold linC; rw [if_pos hT, if_pos hM, if_pos hE, if_pos hY, if_pos hN, if_pos hh]
              by_cases hz : ldet m.length (linQ A B m h) = 0
              · rw [if_pos hz] at w e
                rw [linR_bad 5 e (by decide)]; exact w
              · rw [if_neg hz] at w e
                have xl : (linX A B m y h).length = m.length := by simp [linX]
                unfold linR linV
                rw [e, if_pos rfl, xl]; exact w
            · rw [decide_eq_false hh] at cH
              rw [linR_bad 2 (by unfold linC; rw [if_pos hT, if_pos hM, if_pos hE, if_pos hY, if_pos hN, if_neg hh]) (by decide)]
              refine Con.n1 _ ?_
              refine con_of_vc Tryz.mixed ⟨19, [], [], []⟩ Tryz.func10 (by decide) rfl (by simp) (by decide) (by simp [freshOK, freshL, go_sem]) ?_
              rw [Tryz.ntmps10]
              simp [go_sem]
              refine CallVC.of (cI) (by decide) ?_
              simp [go_sem]
              refine CallVC.of (cM) (by decide) ?_
              simp [go_sem]
              simp [go_sem, m0]
              simp only [m1]
              refine ⟨⟨h0, ne⟩, ?_⟩
              simp [go_sem, hE.symm, hY]
              rw [hY] at cN
              refine CallVC.of (cN) (by decide) ?_
              simp [go_sem]
              refine CallVC.of (cH) (by decide) ?_
              simp [go_sem]
          · have hN' : numsB y = false := by simpa using hN
            rw [hN'] at cN
            rw [linR_bad 2 (by unfold linC; rw [if_pos hT, if_pos hM, if_pos hE, if_pos hY, if_neg hN]) (by decide)]
            refine Con.n1 _ ?_
            refine con_of_vc Tryz.mixed ⟨19, [], [], []⟩ Tryz.func10 (by decide) rfl (by simp) (by decide) (by simp [freshOK, freshL, go_sem]) ?_
            rw [Tryz.ntmps10]
            simp [go_sem]
            refine CallVC.of (cI) (by decide) ?_
            simp [go_sem]
            refine CallVC.of (cM) (by decide) ?_
            simp [go_sem]
            simp [go_sem, m0]
            simp only [m1]
            refine ⟨⟨h0, ne⟩, ?_⟩
            simp [go_sem, hE.symm, hY]
            rw [hY] at cN
            refine CallVC.of (cN) (by decide) ?_
            simp [go_sem]
        · rw [linR_bad 2 (by unfold linC; rw [if_pos hT, if_pos hM, if_pos hE, if_neg hY]) (by decide)]
          refine Con.n1 _ ?_
          refine con_of_vc Tryz.mixed ⟨19, [], [], []⟩ Tryz.func10 (by decide) rfl (by simp) (by decide) (by simp [freshOK, freshL, go_sem]) ?_
          rw [Tryz.ntmps10]
          simp [go_sem]
          refine CallVC.of (cI) (by decide) ?_
          simp [go_sem]
          refine CallVC.of (cM) (by decide) ?_
          simp [go_sem]
          simp [go_sem, m0]
          simp only [m1]
          refine ⟨⟨h0, ne⟩, ?_⟩
          have hYi : ¬ (y.length : Int) = m.length := by omega
          simp [go_sem, hE.symm, hYi]
      · rw [linR_bad 1 (by unfold linC; rw [if_pos hT, if_pos hM, if_neg hE]) (by decide)]
        refine Con.n1 _ ?_
        refine con_of_vc Tryz.mixed ⟨19, [], [], []⟩ Tryz.func10 (by decide) rfl (by simp) (by decide) (by simp [freshOK, freshL, go_sem]) ?_
        rw [Tryz.ntmps10]
        simp [go_sem]
        refine CallVC.of (cI) (by decide) ?_
        simp [go_sem]
        refine CallVC.of (cM) (by decide) ?_
        simp [go_sem]
        simp [go_sem, m0]
        simp only [m1]
        refine ⟨⟨h0, ne⟩, ?_⟩
        have hEi : ¬ (m.length : Int) = (m[0]?.getD []).length := by omega
        simp [go_sem, hEi]
    · rw [if_neg hM] at cM
      rw [linR_bad 1 (by unfold linC; rw [if_pos hT, if_neg hM]) (by decide)]
      refine Con.n1 _ ?_
      refine con_of_vc Tryz.mixed ⟨19, [], [], []⟩ Tryz.func10 (by decide) rfl (by simp) (by decide) (by simp [freshOK, freshL, go_sem]) ?_
      rw [Tryz.ntmps10]
      simp [go_sem]
      refine CallVC.of (cI) (by decide) ?_
      simp [go_sem]
      refine CallVC.of (cM) (by decide) ?_
      simp [go_sem]
  · have hT' : tabB A B = false := by simpa using hT
    rw [hT'] at cI
    rw [linR_bad 1 (by unfold linC; rw [if_neg hT]) (by decide)]
    refine Con.n1 _ ?_
    refine con_of_vc Tryz.mixed ⟨19, [], [], []⟩ Tryz.func10 (by decide) rfl (by simp) (by decide) (by simp [freshOK, freshL, go_sem]) ?_
    rw [Tryz.ntmps10]
    simp [go_sem]
    refine CallVC.of (cI) (by decide) ?_
    simp [go_sem]
end Go.Proofs.YtnokgijakdaehaaGreatDoor


namespace Go.Proofs.YtnokgijakdaehaaGreatDoor
open Go.ChangeShapes Go.WideShapes Go.ChangeAt Go.RowKit Go.Abs Go.Deep
set_option linter.unusedSectionVars false
set_option linter.unusedVariables false
section
variable {H : Type} {enc : TypeId × Value → H} {w : World} {sp : Nat → Bool} {held : Bool} {base : Nat}
theorem kids : Kids Tryz.prog (· < Tryz.prog.types.size) := kids_rows (by kernel_rfl) (by kernel_rfl)
theorem full : ∀ t e, t < Tryz.prog.types.size → Tryz.prog.underlying t = some (.slice e) → 0 < Tryz.prog.cellsOf e := slices_full_of Tryz.prog (by kernel_rfl)
theorem flat1 {α β : Type} (g : α → β) : ∀ qs : List α, qs.flatMap (fun a => [g a]) = qs.map g
  | [] => rfl
  | a :: qs => by rw [List.flatMap_cons, flat1 g qs]; rfl
theorem rep_one {F : Nat → Prop} {tm : Nat → Value} {oss : Nat → List Nat} {c : AV} {v : Value} (h : RepL Tryz.prog w F [c] [v] []) : RepT Tryz.prog w F tm oss c v [] := .cell _ _ _ (RepL.one h)
set_option maxRecDepth 100000 in
theorem repV {F : Nat → Prop} {tm : Nat → Value} {oss : Nat → List Nat} {t e : TypeId} {v : Value} {c : AV} {r : Reach} {b0 : Nat} (ht : Tryz.prog.underlying t = some (.slice e)) (hv : Value.okWide Tryz.prog w r b0 t v) (h : RepL Tryz.prog w F [c] v.cells.toList []) :
    RepT Tryz.prog w F tm oss c v [] := by
  have hc : v.cells.toList = [v] := by
    simp only [Value.okWide, ht] at hv
    cases v <;> simp_all [Value.cells, Cell.okWide, Cell.ok]
  rw [hc] at h
  exact rep_one h
end
end Go.Proofs.YtnokgijakdaehaaGreatDoor


namespace Go.Proofs.YtnokgijakdaehaaGreatDoor
open Go.Abs
set_option linter.unusedSectionVars false
set_option linter.unusedVariables false
set_option linter.unusedSimpArgs false
set_option maxHeartbeats 1000000
open Go.ChangeShapes Go.WideShapes Go.ChangeAt Go.RowKit Go.Deep
theorem big_c (c : List Int) (hl : c.length ≤ 9223372036854775807) : Con Tryz.prog 7 [.sl c.length (bys c)] (.bool (decide (4096 < c.length))) := by
  refine con_of_vc Tryz.mixed ⟨3, [], [], []⟩ Tryz.func7 (by decide) rfl (by simp) (by decide) (by simp [freshOK, freshL, go_sem]) ?_
  rw [Tryz.ntmps7]
  simp [go_sem]
  omega
section
variable {H : Type} {enc : TypeId × Value → H} {w : World} {sp : Nat → Bool} {held : Bool} {base : Nat}
theorem open_bys {n : Nat} {cs : List Value} {x : DataW H × List MemPlace} (h : DataW.trod enc Tryz.prog w base sp held n 22 cs = some x) :
    ∃ xs : List Int, (∀ z ∈ xs, 0 ≤ z ∧ z ≤ 255) ∧ xs.length ≤ 9223372036854775807 ∧ RepL Tryz.prog w (fun b => b < w.heap.size) [.sl xs.length (bys xs)] cs [] ∧ cs.length = 1 := by
  obtain ⟨qs, h1, h2, h3, h4⟩ := open_sl (f := fun z : Int => [AV.val (.int .u8 z)]) (Good := fun z => (Lit.int .u8 z).wf = true) Tryz.underlying22 (s := 1) (by kernel_rfl) (by decide) (fun _ => rfl)
    (fun n cs y hy => by obtain ⟨z, k1, k2, _⟩ := open_i Tryz.underlying5 hy; exact ⟨z, k1, k2⟩) h
  refine ⟨qs, fun z hz => ?_, h2, by rw [flat1] at h3; exact h3, h4⟩
  have := h1 z hz
  simp [Lit.wf, IntKind.min, IntKind.max, IntKind.signed, IntKind.bits] at this
  omega
end
end Go.Proofs.YtnokgijakdaehaaGreatDoor


namespace Go.Proofs.YtnokgijakdaehaaGreatDoor
open Go.Abs
set_option linter.unusedSectionVars false
set_option linter.unusedVariables false
set_option linter.unusedSimpArgs false
set_option maxHeartbeats 4000000
theorem heun_all : ∃ (H : List (List Int)) (C : List Int), Tab H C ∧ Con Tryz.prog 14 [.val (.string ⟨#[104, 101, 117, 110]⟩)] (.tup [.agg [.own 25 2 (omat H), .own 2 2 (avs C)], .int 0]) ∧ H.length = 2 ∧ C.length = 2 ∧ Low C.length (mx H) :=
  ⟨[[0, 0], [1, 0]], [5004, 5004], tabB_iff.1 (by decide), nm_heun, rfl, rfl, fun r c hr hc hrc => by
    have h2 : ([5004, 5004] : List Int).length = 2 := rfl
    rw [h2] at hr hc
    match r, c, hr, hc, hrc with
    | 0, 0, _, _, _ => rfl
    | 0, 1, _, _, _ => rfl
    | 1, 1, _, _, _ => rfl⟩
theorem linC_ok {A : List (List Int)} {B : List Int} {m : List (List Int)} {y : List Int} {h : Int} (e : linC A B m y h = 0) :
    Tab A B ∧ (1 ≤ m.length ∧ m.length ≤ 8) ∧ Rws m.length m ∧ y.length = m.length ∧ Ns y ∧ isN h ∧ ldet m.length (linQ A B m h) ≠ 0 := by
  unfold linC at e
  by_cases a1 : tabB A B = true
  · by_cases a2 : matB m = true
    · by_cases a3 : m.length = (m[0]?.getD []).length
      · by_cases a4 : y.length = m.length
        · by_cases a5 : numsB y = true
          · by_cases a6 : 0 ≤ h ∧ h ≤ 10006
            · by_cases a7 : ldet m.length (linQ A B m h) = 0
              · simp [a1, a2, ← a3, a4, a5, a6, a7] at e
              · have hm := matB_iff.1 a2
                exact ⟨tabB_iff.1 a1, hm.1, fun r hr => ⟨by rw [a3]; exact (hm.2.2 r hr).1, (hm.2.2 r hr).2⟩, a4, numsB_N.1 a5, ⟨a6.1, by have := a6.2; omega⟩, a7⟩
            · simp [a1, a2, ← a3, a4, a5, a6] at e
          · simp [a1, a2, ← a3, a4, a5] at e
        · simp [a1, a2, ← a3, a4] at e
      · simp [a1, a2, a3] at e
    · simp [a1, a2] at e
  · simp [a1] at e
theorem linR_mk {A : List (List Int)} {B : List Int} {m : List (List Int)} {y : List Int} {h : Int} (hT : Tab A B) (hm : 1 ≤ m.length ∧ m.length ≤ 8) (hr : Rws m.length m) (hy : y.length = m.length) (hN : Ns y) (hh : isN h) (hd : ldet m.length (linQ A B m h) ≠ 0) :
    linR A B m y h = .tup [.own 2 m.length (avs (linX A B m y h)), .int 0] := by
  have r0 := (hr.at (show 0 < m.length by omega)).1
  have hM : matB m = true := matB_iff.2 ⟨hm, by omega, fun r h => ⟨by have := (hr r h).1; omega, (hr r h).2⟩⟩
  have lc : linC A B m y h = 0 := by
    unfold linC
    rw [if_pos (tabB_iff.2 hT), if_pos hM, if_pos r0.symm, if_pos hy, if_pos (numsB_N.2 hN), if_pos ⟨hh.1, by have := hh.2; omega⟩, if_neg hd]
  have e : linV A B m y h = linX A B m y h := by unfold linV; rw [if_pos lc]
  unfold linR
  rw [e, lc, linX_len]
set_option maxRecDepth 100000 in
theorem FnLinearSteps_c (c : List Int) (hl : c.length ≤ 9223372036854775807) (hb : ∀ x ∈ c, 0 ≤ x ∧ x ≤ 255) : Con Tryz.prog 3 [.sl c.length (bys c)] (.bool true) := by
  have cB := big_c c hl
  by_cases hc4 : 4096 < c.length
  · refine con_of_vc Tryz.mixed ⟨21, [], [2000000 + 8], []⟩ Tryz.func3 (by decide) rfl (by simp) (by decide) (by simp [freshOK, freshL, go_sem]) ?_
    rw [Tryz.ntmps3]
    simp [go_sem]
    refine CallVC.of (cB) (by decide) ?_
    simp [go_sem]
    simp [go_sem, hc4]
  · have hc : Byt c := ⟨by omega, hb⟩
    have cD := DrawLinearStep_f c hc
    refine con_of_vc Tryz.mixed ⟨21, [], [2000000 + 8], []⟩ Tryz.func3 (by decide) rfl (by simp) (by decide) (by simp [freshOK, freshL, go_sem]) ?_
    rw [Tryz.ntmps3]
    simp [go_sem]
    refine CallVC.of (cB) (by decide) ?_
    simp [go_sem]
    simp [go_sem, hc4]
    refine ⟨_, cD, ?_⟩
    rintro _ _ ⟨rfl, A, B, m, y, h, hz, hm4, hr3, hy4, rfl⟩
    obtain ⟨z1, z2, z3⟩ := hz
    have c1 := LinearStep_c A B m y h (by omega) (fun r h => by have := z3 r h; omega) (by omega) (by omega) (fun r h => by have := hr3 r h; omega) (by omega)
    have c2 := specLinearStep_c A B m y h (by omega) (fun r h => by have := z3 r h; omega) (by omega) (by omega) (fun r h => by have := hr3 r h; omega) (by omega)
    by_cases hE : linC A B m y h = 0
    · obtain ⟨hT, hm, hr, hy, hN, hh, hd⟩ := linC_ok hE
      rw [linR_mk hT hm hr hy hN hh hd] at c1 c2
      have xl := linX_len (A := A) (B := B) (m := m) (y := y) (h := h)
      have xN := linX_N (A := A) (B := B) (m := m) (y := y) (h := h)
      have b8 := hT.le
      have al := hT.len
      obtain ⟨H, C, hH, c5, hl1, hl2, lo⟩ := heun_all
      have c6 := ComposeTableaus_c A B H C hT hH
      have h0 : 0 < m.length := by omega
      have cS := StabilityAt_c A B (h * (m[0]?.getD [])[0]?.getD 0 % 10007) (by omega) (fun r h => by have := z3 r h; omega) (by omega)
      have os := fun e1 => one_step (A := A) (B := B) (h := h) e1 hr hy hN hd
      have cL := likeInts_c (linX A B m y h) (linX A B m y h) (by omega)
      rw [xl] at cL
      simp only [decide_true] at cL
      have zN := isN_mod (h * (m[0]?.getD [])[0]?.getD 0)
      have f1 := mul_fits hh ((hr.at h0).2.get 0)
      by_cases h8 : B.length + C.length ≤ 8
      · obtain ⟨d1, d2, d3⟩ := lin_comp (m := m) (y := y) (h := h) hT hH h8 (by omega) lo h0 hr hy hN hd
        have c7 := LinearStep_c (cmpA A B H) (B ++ C) m y h (by simp [cmpA]; omega) (fun r h => by have := ((cmp_tab hT hH h8).a r h).1; rw [List.length_append] at this; omega) (by rw [List.length_append]; omega) (by omega) (fun r h => by have := hr3 r h; omega) (by omega)
        have c8 := LinearStep_c H C m (linX A B m y h) h (by omega) (fun r h => by have := (hH.a r h).1; omega) (by omega) (by omega) (fun r h => by have := hr3 r h; omega) (by omega)
        rw [linR_mk (cmp_tab hT hH h8) hm hr hy hN hh d2, d3] at c7
        rw [linR_mk hH hm hr xl xN hh d1, xl] at c8
        have cl : (cmpA A B H).length = A.length + H.length := by simp [cmpA]
        rw [cl, List.length_append, hl1, hl2] at c7
        rw [hl1, hl2] at c8
        rw [if_pos h8, hl1, hl2] at c6
        have xl2 := linX_len (A := H) (B := C) (m := m) (y := linX A B m y h) (h := h)
        generalize linX H C m (linX A B m y h) h = W at *
        have cK := likeInts_c W W (by omega)
        rw [xl2] at cK
        simp only [decide_true] at cK
        generalize linX A B m y h = X at *
        simp [go_sem]
        refine CallVC.of (c1) (by decide) ?_
        simp [go_sem]
        refine CallVC.of (c2) (by decide) ?_
        simp [go_sem]
        refine CallVC.of (cL) (by decide) ?_
        simp [go_sem]
        by_cases y1 : y.length = 1
        · have m1 : m.length = 1 := by omega
          obtain ⟨o1, o2⟩ := os m1
          obtain ⟨r0, rfl⟩ := List.length_eq_one_iff.1 m1
          have rl := (hr r0 (by simp)).1
          obtain ⟨x, rfl⟩ := List.length_eq_one_iff.1 rl
          obtain ⟨u, rfl⟩ := List.length_eq_one_iff.1 y1
          obtain ⟨v, rfl⟩ := List.length_eq_one_iff.1 xl
          simp only [List.getElem?_cons_zero, Option.getD_some] at o1 o2 cS zN f1
          have sE : saE A B (h * x % 10007) = 0 := by
            unfold saE; rw [if_pos (tabB_iff.2 hT), if_pos ⟨zN.1, by have := zN.2; omega⟩, if_neg o1]
          have sX : saX A B (h * x % 10007) = hor (h * x % 10007) (chL B.length (lesM A B)).reverse * pw (saB A B (h * x % 10007)) 10005 % 10007 := by unfold saX; rw [if_pos sE]
          have RN : isN (saX A B (h * x % 10007)) := by rw [sX]; exact isN_mod _
          unfold saR at cS
          rw [sE] at cS
          rw [← sX] at o2
          generalize saX A B (h * x % 10007) = R at *
          subst o2
          have uN := hN u (by simp)
          have f2 := mul_fits RN uN
          have cM1 := mod5_c (h * x) f1.1 f1.2
          have cM2 := mod5_c (R * u) f2.1 f2.2
          have mm : mat [[x]] = [.sl 1 [.int x]] := rfl
          have au : avs [u] = [.int u] := rfl
          have av : avs [R * u % 10007] = [.int (R * u % 10007)] := rfl
          simp [go_sem]
          refine ⟨by kernel_rfl, ?_⟩
          simp [go_sem, mm]
          refine ⟨f1, ?_⟩
          refine CallD.of (cM1) (by simp [roots, rootsL]) (by decide) ?_
          simp [go_sem]
          refine CallD.of (cS) (by simp [roots, rootsL]) (by decide) ?_
          simp [go_sem]
          refine ⟨by kernel_rfl, ?_⟩
          simp [go_sem]
          simp [go_sem, au, av]
          refine ⟨by kernel_rfl, f2, ?_⟩
          refine CallD.of (cM2) (by simp [roots, rootsL]) (by decide) ?_
          simp [go_sem]
          refine ⟨by kernel_rfl, ?_⟩
          simp [go_sem]
          refine CallVC.of (c5) (by decide) ?_
          simp [go_sem]
          refine CallVC.of (c6) (by decide) ?_
          simp [go_sem]
          refine CallVC.of (c7) (by decide) ?_
          simp [go_sem]
          refine CallVC.of (c8) (by decide) ?_
          simp [go_sem]
          refine CallVC.of (cK) (by decide) ?_
          simp [go_sem]
        · have y1i : ¬ (y.length : Int) = 1 := by omega
          simp [go_sem, y1i]
          refine CallVC.of (c5) (by decide) ?_
          simp [go_sem]
          refine CallVC.of (c6) (by decide) ?_
          simp [go_sem]
          refine CallVC.of (c7) (by decide) ?_
          simp [go_sem]
          refine CallVC.of (c8) (by decide) ?_
          simp [go_sem]
          refine CallVC.of (cK) (by decide) ?_
          simp [go_sem]
      · rw [if_neg h8, hl1, hl2] at c6
        generalize linX A B m y h = X at *
        simp [go_sem]
        refine CallVC.of (c1) (by decide) ?_
        simp [go_sem]
        refine CallVC.of (c2) (by decide) ?_
        simp [go_sem]
        refine CallVC.of (cL) (by decide) ?_
        simp [go_sem]
        by_cases y1 : y.length = 1
        · have m1 : m.length = 1 := by omega
          obtain ⟨o1, o2⟩ := os m1
          obtain ⟨r0, rfl⟩ := List.length_eq_one_iff.1 m1
          have rl := (hr r0 (by simp)).1
          obtain ⟨x, rfl⟩ := List.length_eq_one_iff.1 rl
          obtain ⟨u, rfl⟩ := List.length_eq_one_iff.1 y1
          obtain ⟨v, rfl⟩ := List.length_eq_one_iff.1 xl
          simp only [List.getElem?_cons_zero, Option.getD_some] at o1 o2 cS zN f1
          have sE : saE A B (h * x % 10007) = 0 := by
            unfold saE; rw [if_pos (tabB_iff.2 hT), if_pos ⟨zN.1, by have := zN.2; omega⟩, if_neg o1]
          have sX : saX A B (h * x % 10007) = hor (h * x % 10007) (chL B.length (lesM A B)).reverse * pw (saB A B (h * x % 10007)) 10005 % 10007 := by unfold saX; rw [if_pos sE]
          have RN : isN (saX A B (h * x % 10007)) := by rw [sX]; exact isN_mod _
          unfold saR at cS
          rw [sE] at cS
          rw [← sX] at o2
          generalize saX A B (h * x % 10007) = R at *
          subst o2
          have uN := hN u (by simp)
          have f2 := mul_fits RN uN
          have cM1 := mod5_c (h * x) f1.1 f1.2
          have cM2 := mod5_c (R * u) f2.1 f2.2
          have mm : mat [[x]] = [.sl 1 [.int x]] := rfl
          have au : avs [u] = [.int u] := rfl
          have av : avs [R * u % 10007] = [.int (R * u % 10007)] := rfl
          simp [go_sem]
          refine ⟨by kernel_rfl, ?_⟩
          simp [go_sem, mm]
          refine ⟨f1, ?_⟩
          refine CallD.of (cM1) (by simp [roots, rootsL]) (by decide) ?_
          simp [go_sem]
          refine CallD.of (cS) (by simp [roots, rootsL]) (by decide) ?_
          simp [go_sem]
          refine ⟨by kernel_rfl, ?_⟩
          simp [go_sem]
          simp [go_sem, au, av]
          refine ⟨by kernel_rfl, f2, ?_⟩
          refine CallD.of (cM2) (by simp [roots, rootsL]) (by decide) ?_
          simp [go_sem]
          refine ⟨by kernel_rfl, ?_⟩
          simp [go_sem]
          refine CallVC.of (c5) (by decide) ?_
          simp [go_sem]
          refine CallVC.of (c6) (by decide) ?_
          simp [go_sem]
        · have y1i : ¬ (y.length : Int) = 1 := by omega
          simp [go_sem, y1i]
          refine CallVC.of (c5) (by decide) ?_
          simp [go_sem]
          refine CallVC.of (c6) (by decide) ?_
          simp [go_sem]
    · unfold linR at c1 c2
      have cL := likeInts_c (linV A B m y h) (linV A B m y h) (by
        unfold linV; rw [if_neg hE]; simp)
      simp only [decide_true] at cL
      simp [go_sem]
      refine CallVC.of (c1) (by decide) ?_
      simp [go_sem]
      refine CallVC.of (c2) (by decide) ?_
      simp [go_sem]
      refine CallVC.of (cL) (by decide) ?_
      simp [go_sem]
      simp [go_sem, hE]
end Go.Proofs.YtnokgijakdaehaaGreatDoor

