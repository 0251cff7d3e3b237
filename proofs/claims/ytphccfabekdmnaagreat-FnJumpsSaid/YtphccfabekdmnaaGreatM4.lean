/- Texts of the own layer and contracts, part 4: AbsX AbsW3 AbsY. -/
import Derived.Test.YtphccfabekdmnaaGreatM3
set_option linter.unusedSectionVars false
set_option linter.unusedVariables false
set_option linter.unusedSimpArgs false
set_option maxHeartbeats 4000000
set_option maxRecDepth 100000
namespace Go.Abs
variable [DrawK]
open Go.RowKit (Below)
theorem weak_ofA {W V : List Nat} {T : List (Nat × AV)} {S0 S : St} (h1 : Off W S0 S) (h2 : Trk S T) (h3 : Nb V T) (hV : ∀ i, i ∈ W → i ∉ V → (T.lookup i).isSome = true) (hVW : ∀ i ∈ V, i ∈ W) : Weak S (reset W T S0) := by
 intro P N G w0 a w h
 obtain ⟨F, oss, h⟩ := h
 let oss' : Nat → List Nat := fun i => if (T.lookup i).isNone && W.contains i then [] else oss i
 have hsub : ∀ i b, b ∈ oss' i → b ∈ oss i := fun i b hb => by
  simp only [oss'] at hb; split at hb
  ·simp at hb
  ·exact hb
 have hkV : ∀ s p u, ¬ s ∈ V → walkIn w (oss s) (tmo a s) p u → walkIn w (oss' s) (tmo a s) p u := by
  intro s p u hs k
  have : oss' s = oss s := by
   simp only [oss']
   refine if_neg ?_
   by_cases hw : s ∈ W
   ·have := hV s hw hs
    cases hl : T.lookup s with
    | none => rw [hl] at this; simp at this
    | some v => simp
   ·simp [hw]
  rw [this]; exact k
 have hk : ∀ s p u, ¬ s ∈ W → walkIn w (oss s) (tmo a s) p u → walkIn w (oss' s) (tmo a s) p u := fun s p u hs => hkV s p u fun h => hs (hVW s h)
 refine ⟨F, oss', { sz := h.sz, kp := h.kp, df := h.df, ext := h.ext, fB := h.fB, fN := h.fN, gw := h.gw, oG := fun i b hb => h.oG i b (hsub i b hb), xG := by simp, fw := h.fw, rep := fun i => ?_, own := fun i b hb => h.own i b (hsub i b hb), nd := fun i => ?_, dj := fun i j b hi hj => h.dj i j b (hsub i b hi) (hsub j b hj), xo := by simp, xn := List.nodup_nil, xd := by simp }⟩
 ·show RepT P w F (tmo a) oss' (match T.lookup i with | some v => v | none => if W.contains i then .any else kl W (S0 i)) (tmo a i) (oss' i)
  split
  ·rename_i v hl
   have e : oss' i = oss i := by simp only [oss']; rw [if_neg (by simp [hl])]
   rw [e]
   have := h.rep i
   rw [h2.lookup hl] at this
   have k := RepT.kl V (fun _ h => h) hkV this (fun _ _ => rfl)
   rwa [h3.lookup hl] at k
  ·rename_i hl
   split
   ·rename_i hc
    have e : oss' i = [] := by simp only [oss']; rw [if_pos (by simp [hl]; simpa using hc)]
    rw [e]; exact .any _
   ·rename_i hc
    have e : oss' i = oss i := by simp only [oss']; rw [if_neg (by simp; intro _; simpa using hc)]
    rw [e, ← h1 i (by simpa using hc)]
    exact RepT.kl W (fun _ h => h) hk (h.rep i) (fun _ _ => rfl)
 ·simp only [oss']; split
  ·exact List.nodup_nil
  ·exact h.nd i
def loopIA {α : Type} (W V : List Nat) (T : α → List (Nat × AV)) (inv : α → Prop) (μ : α → Nat) (x : α) (S0 : St) (Q : Exit → St → Prop) : Exit → St → Prop
 | .normal, S => ∃ y, inv y ∧ μ y < μ x ∧ Off W S0 S ∧ Trk S (T y) ∧ Nb V (T y)
 | e, S => Q e S
@[go_sem] theorem loopIA_normal {α : Type} (W V : List Nat) (T : α → List (Nat × AV)) (inv : α → Prop) (μ : α → Nat) (x : α) (S0 : St) (Q : Exit → St → Prop) (S : St) :
  loopIA W V T inv μ x S0 Q .normal S = ∃ y, inv y ∧ μ y < μ x ∧ Off W S0 S ∧ Trk S (T y) ∧ Nb V (T y) := rfl
@[go_sem] theorem loopIA_ret {α : Type} (W V : List Nat) (T : α → List (Nat × AV)) (inv : α → Prop) (μ : α → Nat) (x : α) (S0 : St) (Q : Exit → St → Prop) (S : St) :
  loopIA W V T inv μ x S0 Q .ret S = Q .ret S := rfl
@[go_sem] theorem loopIA_exit {α : Type} (W V : List Nat) (T : α → List (Nat × AV)) (inv : α → Prop) (μ : α → Nat) (x : α) (S0 : St) (Q : Exit → St → Prop) (S : St) (id : Nat) :
  loopIA W V T inv μ x S0 Q (.exit id) S = Q (.exit id) S := rfl
section
variable {P : Program} {N : Nat × List Nat}
theorem loop_invA {cf : Cfg} {b : Code} {Q : Exit → St → Prop} {S0 : St} {α : Type} (W V : List Nat) (T : α → List (Nat × AV)) (inv : α → Prop) (μ : α → Nat) (x0 : α)
  (hV : ∀ x i, i ∈ W → i ∉ V → ((T x).lookup i).isSome = true) (hVW : ∀ i ∈ V, i ∈ W)
  (h0 : inv x0) (h1 : Trk S0 (T x0)) (h2 : Nb V (T x0)) (h : ∀ x, inv x → vc P cf N b (loopIA W V T inv μ x S0 Q) (reset W (T x) S0)) : LoopVC (vc P cf N b) Q S0 := by
 refine ⟨fun n S => ∃ x, inv x ∧ n = μ x ∧ S = reset W (T x) S0, ⟨μ x0, _, weak_ofA (Off.refl W S0) h1 h2 (hV x0) hVW, x0, h0, rfl, rfl⟩, ?_⟩
 rintro n S ⟨x, hx, rfl, rfl⟩
 refine vc_mono (fun e S hq => ?_) (h x hx)
 cases e with
 | normal =>
  obtain ⟨y, y1, y2, y3, y4, y5⟩ := hq
  exact ⟨μ y, y2, _, weak_ofA y3 y4 y5 (hV y) hVW, y, y1, rfl, rfl⟩
 | _ => exact hq
end
end Go.Abs


namespace Go.Abs
variable [DrawK]
open Go.RowKit (Below)
open Go.Proofs Go.Sort Go.Shelf Go.RowKit Go.Lib
section
variable {P : Program} {ρ : Ren}
theorem inssort_mcon1 (L : SlLaysF.n20 P ρ) (hen : Enters P (ρ.f 20)) {β : Type} (B : β → AV) (cf : β → β → Int)
  (hO : SWO (ltOf cf)) (g : FuncId) (e : TypeId) (hce : P.cellsOf e = 1) (xs : List β) (hfr : freshL (xs.flatMap fun x => [B x]) = true)
  (hc : ∀ x ∈ xs, ∀ y ∈ xs, @Con ⟨1⟩ P g [frz (B x), frz (B y)] (.int (cf x y))) (hsz : xs.length < 4611686018427387904) :
  ∃ ys : List β, ys.Perm xs ∧ ys.Pairwise (fun x y => ¬ cf y x < 0) ∧ MCon P (ρ.f 20) [.own e xs.length (xs.flatMap fun x => [B x]), .val (.int .i64 0), .val (.int .i64 xs.length), .val (.func (.func g) #[] #[])] (.tup []) [.own e xs.length (ys.flatMap fun x => [B x]), .any, .any, .any] := by
 let A : β → List AV := fun x => [B x]
 let k : Nat := 1
 have hk : ∀ x ∈ xs, (A x).length = k := fun _ _ => rfl
 have inv : ∀ {w : World} {vs : List Value} {os : List Nat} {F : Nat → Prop}, [AV.own e xs.length (xs.flatMap A), .val (.int .i64 0), .val (.int .i64 xs.length), .val (.func (.func g) #[] #[])].length = vs.length →
   (∀ tm oss, RepTL P w F tm oss [AV.own e xs.length (xs.flatMap A), .val (.int .i64 0), .val (.int .i64 xs.length), .val (.func (.func g) #[] #[])] vs os) →
   ∃ v, vs = [v, .int .i64 0, .int .i64 xs.length, .func (.func g) #[] #[]] ∧ RepC P w F (.own e xs.length (xs.flatMap A)) v os := by
  intro w vs os F hl hrep
  have hr := hrep (fun _ => undef) (fun _ => [])
  obtain ⟨v1, v2, v3, v4, rfl⟩ : ∃ v1 v2 v3 v4, vs = [v1, v2, v3, v4] := by
   match vs, hl with
   | [a, b, c, d], _ => exact ⟨a, b, c, d, rfl⟩
  cases hr with
  | cons _ _ o1 _ _ o2 h1 h2 =>
   cases h2 with
   | cons _ _ o3 _ _ o4 h3 h4 =>
    cases h4 with
    | cons _ _ o5 _ _ o6 h5 h6 =>
     cases h6 with
     | cons _ _ o7 _ _ o8 h7 h8 =>
      cases h8
      have e3 : o3 = [] := h3.noOwn (by simp [hasOwn])
      have e5 : o5 = [] := h5.noOwn (by simp [hasOwn])
      have e7 : o7 = [] := h7.noOwn (by simp [hasOwn])
      subst e3 e5 e7
      rw [h3.val_eq, h5.val_eq, h7.val_eq]
      exact ⟨v1, rfl, by simpa using h1.ofKids (by simp [kids])⟩
 by_cases hx0 : xs = []
 ·subst hx0
  refine ⟨[], List.Perm.refl _, List.Pairwise.nil, hen, ?_⟩
  intro w vs os hl hos hosl hrep
  obtain ⟨v, rfl, hv⟩ := inv hl hrep
  have key : ∃ p cap, v = .slice p 0 cap := by
   rcases hv.own_inv with ⟨_, _, h, _⟩ | ⟨b, cap, c, os', _, h, _⟩
   ·exact ⟨none, 0, h⟩
   ·exact ⟨_, cap, h⟩
  obtain ⟨p, cap, rfl⟩ := key
  refine (AnyF.insertionSortCmpFunc_none (P := P) (ρ := ρ) { L with } p cap (.func (.func g) #[] #[]) w).mono ?_
  rintro e' w' ⟨rfl, rfl⟩
  refine ⟨_, [], os, rfl, Ext.refl _ _, fun F tm oss => .tup [] [] [] rfl (.nil _), fun F tm oss => ?_, rfl, by simpa using hos, fun b hb => ?_⟩
  ·have := RepTL.cons (tm := tm) (oss := oss) _ _ _ _ _ _ (RepT.cell _ _ _ (hv.fresh (F' := F) (by simp [freshOK, freshL]))) (RepTL.cons .any (.int .i64 0) [] _ _ _ (.any _) (RepTL.cons .any (.int .i64 0) [] _ _ _ (.any _) (RepTL.cons .any (.func (.func g) #[] #[]) [] [] [] [] (.any _) (.nil _))))
   simpa using this
  ·simp at hb
   exact ⟨.inl hb, hosl b hb⟩
 ·have hn0 : 0 < xs.length := List.length_pos_iff.2 hx0
  let inst : Inhabited (Fin xs.length) := ⟨⟨0, hn0⟩⟩
  let d : Array (Fin xs.length) := Array.ofFn id
  have hd : d.size = xs.length := by simp [d]
  have hdv : ∀ i : Nat, i < xs.length → (d[i]!).1 = i := fun i hi => by
   rw [getElem!_pos d i (by rw [hd]; exact hi)]; simp [d]
  let cf' : Fin xs.length → Fin xs.length → Int := fun i j => cf xs[i] xs[j]
  have hO' : SWO (ltOf cf') := ⟨fun x => hO.irrefl _, fun x y z => hO.trans _ _ _, fun x y z => hO.ntrans _ _ _⟩
  have hsort := insertionSort_holds (lt := ltOf cf') hO' d 0 d.size (Nat.zero_le _) (Nat.le_refl _)
  let d' := Sort.insertionSort (ltOf cf') d 0 d.size
  have hp : d'.toList.Perm d.toList := by
   have := hsort.1.2.2
   have e1 : d'.size = d.size := hsort.1.1
   have e2 : d'.extract 0 d.size = d' := by rw [← e1]; exact Array.extract_size
   have e3 : d.extract 0 d.size = d := Array.extract_size
   change (d'.extract 0 d.size).toList.Perm _ at this
   rw [e2, e3] at this
   exact this
  have hd' : d'.size = xs.length := hsort.1.1.trans hd
  have hnd : d.toList.Nodup := by
   refine List.pairwise_iff_getElem.2 fun i j hi hj hij => ?_
   simp [d, Fin.ext_iff]
   omega
  refine ⟨d'.toList.map fun i => xs[i], ?_, ?_, hen, ?_⟩
  ·have e1 : d.toList.map (fun i => xs[i]) = xs := by
    simp only [d, Array.toList_ofFn]
    apply List.ext_getElem <;> simp
   have := hp.map (fun i : Fin xs.length => xs[i])
   rw [e1] at this
   exact this
  ·rw [List.pairwise_map]
   refine List.pairwise_iff_getElem.2 fun i j hi hj hij => ?_
   have := hsort.2 i j (Nat.zero_le _) hij (by simpa [hd, hd'] using hj)
   have a1 : d'[i]! = d'.toList[i] := by rw [getElem!_pos d' i (by simpa using hi)]; simp
   have a2 : d'[j]! = d'.toList[j] := by rw [getElem!_pos d' j (by simpa using hj)]; simp
   change ltOf cf' d'[j]! d'[i]! = false at this
   rw [a1, a2] at this
   simpa [ltOf, cf'] using this
  ·intro w vs os hl hos hosl hrep
   obtain ⟨v, rfl, hv⟩ := inv hl hrep
   rcases hv.own_inv with ⟨h0, _⟩ | ⟨b, cap, c, os', rfl, rfl, hb, hnc, hcs, hL⟩
   ·omega
   rw [hce] at hcs
   have hle : xs.length * k ≤ c.size := Nat.le_trans (Nat.mul_le_mul_right k hnc) hcs
   have hnod := List.nodup_cons.1 hos
   obtain ⟨f, f1, f2, f3, f4⟩ := RepL.els A k hk hL hnod.2
   have hbz : b < w.heap.size := hosl b (by simp)
   let enc : Fin xs.length → List Value := fun i => (c.toList.drop (i.1 * k)).take k
   have hek : ∀ x, (enc x).length = k := fun i => by
    have e1 : i.1 * k + k ≤ xs.length * k := by
     have := Nat.mul_le_mul_right k (show i.1 + 1 ≤ xs.length from i.2)
     rw [Nat.add_mul, Nat.one_mul] at this
     exact this
    simp only [enc, List.length_take, List.length_drop, Array.length_toList]
    omega
   have he1 : ∀ x, ∀ v ∈ enc x, v.oneCell' = true := fun i v hv => by
    have h1 := (f1 i.1 i.2).oneCell v
    rw [hk _ (List.getElem_mem i.2)] at h1
    refine h1 ?_
    rw [List.take_take, Nat.min_self]
    exact hv
   let en1 : Fin xs.length → Value := fun i => c.toList[i.1]?.getD undef
   have hen1 : ∀ i, enc i = [en1 i] := fun i => by
    have hi : i.1 < c.toList.length := by
     have h0 := i.2
     have h1 : xs.length * 1 ≤ c.size := hle
     have h2 : c.toList.length = c.size := Array.length_toList
     omega
    show (c.toList.drop (i.1 * 1)).take 1 = [c.toList[i.1]?.getD undef]
    rw [Nat.mul_one, List.drop_eq_getElem_cons hi, List.getElem?_eq_getElem hi]
    rfl
   have hsw : ∀ m (dk : Array (Fin xs.length)) os2, sortWorld en1 w b 0 m dk os2 = sortWorldK enc k w b 0 m dk os2 := fun m dk os2 => by
    have e1 : enc = fun i => [en1 i] := funext hen1
    rw [e1]
    exact sortW1 en1 w b 0 m dk os2
   have h11 : OneCell en1 := fun i => he1 i (en1 i) (by rw [hen1]; simp)
   have hcmp : CmpLays1 P g #[] en1 cf' b 0 d.size w := by
    intro m os2 dk hdk x y
    rw [hsw]
    let W := sortWorldK enc k w b 0 m dk os2
    have hW : ∀ z, z < w.heap.size ∧ z ≠ b → W.heap[z]? = w.heap[z]? := fun z hz => sortW_heap enc k w b 0 m dk os2 hz.1 hz.2
    have hWs : w.heap.size ≤ W.heap.size := (Ext.sorted enc k w b m dk os2 (G := fun z => z < w.heap.size ∧ z ≠ b) (fun _ h => h)).size
    have hx : ∀ i : Fin xs.length, RepC P W (fun z => z < W.heap.size) (frz (B xs[i])) (en1 i) [] := fun i => by
     have h1 := (f1 i.1 i.2).frz (F' := fun z => z < w.heap.size ∧ z ≠ b) (fun z hz => ⟨hz.1, fun e => hz.2 (by simp [e])⟩)
      (fun z hz => ⟨hosl z (by simp [f2 _ z hz]), fun e => hnod.1 (e ▸ f2 _ z hz)⟩)
     have h2 := h1.mono (fun z hz => Nat.lt_of_lt_of_le hz.1 hWs) (fun z hz => by
      rcases hz with hz | hz
      ·exact hW z hz
      ·simp at hz)
     have e2 : (c.toList.drop (i.1 * k)).take k = [en1 i] := hen1 i
     rw [e2] at h2
     exact h2.one
    have hcc := (hc xs[x] (List.getElem_mem x.2) xs[y] (List.getElem_mem y.2)).2 W [en1 x, en1 y] rfl
     (fun tm oss => .cons _ _ [] _ _ [] (.cell _ _ _ (hx x)) (.cons _ _ [] _ _ [] (.cell _ _ _ (hx y)) (.nil _)))
    refine hcc.mono ?_
    rintro e' w' ⟨v, o, rfl, h1, h2, _⟩
    refine ⟨?_, @Ext.grown ⟨1⟩ _ _ rfl h1⟩
    rw [(h2 (fun _ => undef) (fun _ => [])).val_eq]
   have hH : HoldsK enc k w b 0 d := holdsK_cells hn0 k w b hb hle d hd hdv
   have hH1 : Holds en1 w b 0 d := fun j hj => by
    have h := hH j (by rw [size_flatK]; show j < d.size * 1; omega)
    have e1 : (flatK enc k d)[j]! = en1 d[j]! := by
     rw [get_flatK enc k d j (by show j < d.size * 1; omega), hen1]
     show [en1 d[j / 1]!][j % 1]! = _
     rw [Nat.div_one, Nat.mod_one]; rfl
    rw [e1] at h
    exact h
   have key := Any.insertionSortCmpFunc_s L en1 cf' g #[] b 0 cap 0 d.size d d w w (fun args w => run_callFunc (hc _ (List.getElem_mem hn0) _ (List.getElem_mem hn0)).1 args) hcmp ⟨h11, hH1, hbz⟩ rfl (SW.start hH1) (Nat.zero_le _) (Nat.le_refl _) (by rw [hd]; exact hsz)
   rw [hd] at key
   refine key.mono ?_
   rintro e' w' ⟨rfl, m, os2, hw'⟩
   rw [hsw] at hw'
   subst hw'
   have hd2 : Sort.insertionSort (ltOf cf') d 0 xs.length = d' := by simp only [d', hd]
   rw [hd2]
   have hnd' : d'.toList.Nodup := hp.nodup_iff.2 hnd
   obtain ⟨j1, j2⟩ := RepL.join (P := P) (w := w) A k hk (by simpa using hle) f1 f3 f4 d'.toList hnd'
   have hEx := Ext.sorted enc k w b m d' os2 (G := fun z => z < w.heap.size ∧ z ∉ b :: os') (fun z hz => ⟨hz.1, fun e => hz.2 (by simp [e])⟩)
   have hsub : ∀ z, z ∈ d'.toList.flatMap (fun i => f i.1) → z ∈ os' := fun z hz => by
    obtain ⟨i, _, h⟩ := List.mem_flatMap.1 hz
    exact f2 _ z h
   refine ⟨_, [], b :: d'.toList.flatMap (fun i => f i.1), rfl, hEx, fun F tm oss => .tup [] [] [] rfl (.nil _), fun F tm oss => ?_, rfl, ?_, fun z hz => ?_⟩
   ·have hcells : (putCells id 0 (flatK enc k d') c).toList.take (xs.length * k) = d'.toList.flatMap enc := by
     apply List.ext_getElem?
     intro j
     by_cases hj : j < xs.length * k
     ·rw [flatMap_get enc k hek _ _ (by simpa [hd'] using hj)]
      have hjc : j < c.size := by omega
      rw [List.getElem?_take_of_lt hj]
      have g1 := get_flatK enc k d' j (by rw [hd']; exact hj)
      rw [getElem!_pos _ j (by rw [size_flatK, hd']; exact hj)] at g1
      have k0 : 0 < k := Nat.one_pos
      have hq : j / k < d'.size := by rw [hd']; exact Nat.div_lt_of_lt_mul (by rw [Nat.mul_comm]; exact hj)
      rw [getElem!_pos d' (j / k) hq] at g1
      simp [putCells, hjc, hd', hj, hq]
      simpa [Array.getElem?_eq_getElem hq] using g1
     ·rw [List.getElem?_eq_none (by simp; omega), List.getElem?_eq_none]
      rw [flatMap_len enc k hek, Array.length_toList, hd']
      omega
    have hL2 : RepL P (sortWorldK enc k w b 0 m d' os2) F ((d'.toList.map fun i => xs[i]).flatMap A) (putCells id 0 (flatK enc k d') c).toList (d'.toList.flatMap fun i => f i.1) := by
     refine RepL.of_take (k := xs.length * k) ?_
     rw [hcells]
     have j3 : freshL ((d'.toList.map fun i => xs[i]).flatMap A) = true := by
      refine freshL_mem.2 fun c hc => ?_
      obtain ⟨x, hx, h⟩ := List.mem_flatMap.1 hc
      obtain ⟨i, _, rfl⟩ := List.mem_map.1 hx
      exact freshL_mem.1 hfr c (List.mem_flatMap.2 ⟨_, List.getElem_mem i.2, h⟩)
     refine (RepL.mono (F := fun z => z < w.heap.size ∧ z ∉ b :: os') (fun _ h => h) j1 (fun z hz => ?_)).fresh j3
     rcases hz with hz | hz
     ·exact hEx.block z hz
     ·exact sortW_heap enc k w b 0 m d' os2 (hosl z (by simp [hsub z hz])) (fun e => hnod.1 (e ▸ hsub z hz))
    have hown : RepC P (sortWorldK enc k w b 0 m d' os2) F (.own e xs.length ((d'.toList.map fun i => xs[i]).flatMap A)) (.slice (some ⟨b, 0, none⟩) xs.length cap) (b :: d'.toList.flatMap fun i => f i.1) :=
     .own b e xs.length cap _ _ _ (sortW_blk enc k w b 0 m d' os2 hb) hnc (by rw [hce]; simpa [putCells] using hcs) hL2
    have := RepTL.cons (tm := tm) (oss := oss) _ _ _ _ _ _ (RepT.cell _ _ _ hown) (RepTL.cons .any (.int .i64 0) [] _ _ _ (.any _) (RepTL.cons .any (.int .i64 xs.length) [] _ _ _ (.any _) (RepTL.cons .any (.func (.func g) #[] #[]) [] [] [] [] (.any _) (.nil _))))
    simpa using this
   ·simp only [List.nil_append]
    exact List.nodup_cons.2 ⟨fun h => hnod.1 (hsub _ h), j2⟩
   ·simp only [List.not_mem_nil, false_or, List.mem_cons] at hz
    refine ⟨.inl ?_, ?_⟩
    ·rcases hz with rfl | hz
     ·simp
     ·simp [hsub z hz]
    ·refine Nat.lt_of_lt_of_le ?_ hEx.size
     rcases hz with rfl | hz
     ·exact hbz
     ·exact hosl z (by simp [hsub z hz])
end
end Go.Abs


namespace Go.Abs
variable [DrawK]
open Go.RowKit (Below)
section
variable {P : Program} {N : Nat × List Nat} {G : Nat → Prop} {w0 : W0} {w w' : World} {S : St} {a : Act} {F : Nat → Prop} {oss : Nat → List Nat} {X : List Nat}
theorem mapM_split {tm : Nat → Value} {rs : List ResultVar} {kp : List Nat} {vals : List Value} (h : ((rs ++ kp.map ResultVar.tmp).mapM (resOne tm)).run P w = .ok vals w) (hl : vals.length = (rs ++ kp.map ResultVar.tmp).length) :
  ∃ v1, (rs.mapM (resOne tm)).run P w = .ok v1 w ∧ vals = v1 ++ kp.map tm ∧ v1.length = rs.length := by
 rw [List.mapM_append, Sem.run_bind] at h
 cases h1 : (rs.mapM (resOne tm)).run P w with
 | halt x w1 => rw [h1] at h; simp at h
 | ok v1 w1 =>
  rw [h1] at h
  simp only [Result.andThen_ok, Sem.run_bind, mapM_tmps, Sem.run_pure] at h
  injection h with e1 e2
  subst e1 e2
  exact ⟨v1, rfl, rfl, by simpa using hl⟩
theorem ret_soundH {N : Nat × List Nat} (h : StRel P N G w0 S a w) {os : List Nat} (hG : ∀ b, b < w0.1.heap.size → b ∉ os → G b) {fn : Func} {kp : List Nat} (hkN : ∀ i ∈ kp, i ∈ N.2) {n : Nat} {cs : List AV} (hc : retAV P S (fn.results.toList ++ kp.map .tmp) = some cs) {vs : List Value} (hv : ∀ i ∈ kp, vs[i]? = some (w0.2 i)) (hvl : vs.length = n) :
  ∃ v, (results fn a.tmps).run P w = .ok v w ∧ ∃ (v' : Value) (orr oo : List Nat) (F' : Nat → Prop), Ending.returned v = .returned v' ∧ Ext G w0.1 w ∧ (∀ b, w0.3 b → F' b) ∧
   (∀ b, F' b → w0.3 b ∨ ((b ∈ os ∨ w0.1.heap.size ≤ b) ∧ b < w.heap.size)) ∧
   (∀ tm oss, RepT P w F' tm oss (retOf (cs.take fn.results.toList.length)) v' orr) ∧ (∀ tm oss, RepTL P w F' tm oss (outsOf kp (cs.drop fn.results.toList.length) n) vs oo) ∧ (outsOf kp (cs.drop fn.results.toList.length) n).length = vs.length ∧ (orr ++ oo).Nodup ∧
   ∀ b, b ∈ orr ∨ b ∈ oo → (b ∈ os ∨ w0.1.heap.size ≤ b) ∧ b < w.heap.size ∧ ¬ F' b := by
 obtain ⟨F, oss, h⟩ := h
 obtain ⟨F', oss', oc, vals, S', k1, k2, k3, k4, k5, k6⟩ := h.ret hc
 simp only [List.append_nil] at k2
 obtain ⟨v1, h1, rfl, hv1⟩ := mapM_split k1 k5
 have hnG : ∀ b, ¬ G b → b ∈ os ∨ w0.1.heap.size ≤ b := fun b hb => by
  rcases Nat.lt_or_ge b w0.1.heap.size with hlt | hge
  ·by_cases hx : b ∈ os
   ·exact .inl hx
   ·exact (hb (hG b hlt hx)).elim
  ·exact .inr hge
 have hown : ∀ b ∈ oc, (b ∈ os ∨ w0.1.heap.size ≤ b) ∧ b < w.heap.size ∧ ¬ F' b := fun b hb => ⟨hnG b (k2.xG b hb), (k2.xo b hb).2, (k2.xo b hb).1⟩
 have hclen : cs.length = fn.results.toList.length + kp.length := by rw [k4]; simp [hv1]
 obtain ⟨o1, o2, rfl, s1, s2⟩ := k3.split fn.results.toList.length
 have hx := k2.xn
 have hx2 := List.nodup_append.1 hx
 have e1 : (v1 ++ kp.map (tmo a)).take fn.results.toList.length = v1 := List.take_left' hv1
 have e2 : (v1 ++ kp.map (tmo a)).drop fn.results.toList.length = kp.map (tmo a) := List.drop_left' hv1
 rw [e1] at s1
 rw [e2] at s2
 have hkv : kp.map (tmo a) = kp.map w0.2 := List.map_congr_left (fun i hi => k2.kp i (hkN i hi))
 rw [hkv] at s2
 let vl : Nat → Value := fun i => vs.getD i undef
 have hvl2 : kp.map w0.2 = kp.map vl := List.map_congr_left (fun i hi => by simp [vl, List.getD, hv i hi])
 rw [hvl2] at s2
 have hrange : (List.range n).map vl = vs := by
  subst hvl
  apply List.ext_getElem?
  intro i
  rw [List.getElem?_map]
  by_cases hi : i < vs.length
  ·simp [hi, vl, List.getD]
  ·simp [hi]
 obtain ⟨oo, q1, q2, q3⟩ := outs_repG (by rw [List.length_drop, hclen]; omega) s2 n hx2.2.1
 rw [hrange] at q1
 have hrl : (cs.take fn.results.toList.length).length = fn.results.toList.length := by rw [List.length_take]; omega
 refine ⟨_, results_run fn a.tmps h1, _, o1, oo, F', rfl, k2.ext, k2.fB, fun b hb => ?_, fun tm oss => ?_, q1, by simp [outsOf, hvl], List.nodup_append.2 ⟨hx2.1, q3, fun x hx y hy => hx2.2.2 x hx y (q2 y hy)⟩,
  fun b hb => hown b (by rcases hb with hb | hb; exact List.mem_append.2 (.inl hb); exact List.mem_append.2 (.inr (q2 b hb)))⟩
 ·rcases k2.fN b hb with h | h
  ·exact .inl h
  ·exact .inr ⟨hnG b h, k2.fw b hb⟩
 have s1 := s1.all tm oss
 unfold retOf
 split
 ·rename_i c hcs
  rw [hcs] at s1 hrl
  obtain ⟨x, rfl⟩ := List.length_eq_one_iff.1 (hv1.trans hrl.symm)
  simp only [List.length_cons, List.length_nil, Nat.zero_add, dite_true, List.getElem_cons_zero] at s1 ⊢
  generalize ho : o1 = o1' at s1
  cases s1 with
  | cons _ _ p1 _ _ p2 g1 g2 =>
   cases g2
   simp only [List.append_nil] at ho
   subst ho
   rw [List.append_nil]
   exact g1
 ·rename_i hne
  have hl : v1.length ≠ 1 := by
   intro e
   rw [hv1, ← hrl] at e
   obtain ⟨c, hc'⟩ := List.length_eq_one_iff.1 e
   exact hne c hc'
  rw [dif_neg hl]
  exact .tup _ _ _ (by rw [hrl, hv1]) s1
theorem rcon_of_vcH (hm : P.follows .mixedOrders = true) {f : FuncId} {fn : Func} {c : Code} (cf : Cfg) {args : List AV} {R : AV → List AV → Prop} (kp : List Nat) (hfn : P.funcs[f]? = some fn) (hname : (fn.name == "runtime.NumGoroutine") = false) (hb : fn.body = some c)
  (hkl : ∀ i ∈ kp, i < args.length) (hn : args.length ≤ fn.ntmps) (hd : dstsOk (fn.ntmps, kp) c = true)
  (h : vc P cf (fn.ntmps, kp) c (retR P fn.results.toList kp args.length R) (initS args)) : RCon P f args R := by
 refine ⟨⟨fn, hfn, hname, by simp [hb]⟩, ?_⟩
 intro w vs os F0 hl hos hosl hF0 hrep
 refine calls_of_wp hfn hb ?_
 have hgetv : ∀ i v, vs[i]? = some v → tmo { tmps := vs.toArray ++ Array.replicate (fn.ntmps - vs.toArray.size) undef, defers := [] } i = v := by
  intro i v hi
  have hlt : i < vs.length := (List.getElem?_eq_some_iff.1 hi).1
  have h3 : (vs.toArray ++ Array.replicate (fn.ntmps - vs.toArray.size) undef)[i]? = some v := by
   rw [Array.getElem?_append_left (by simpa using hlt)]; simpa using hi
  simp only [List.size_toArray] at h3
  simp [tmo, h3]
 obtain ⟨f, f1, f2, f3, f4⟩ := (hrep (tmo { tmps := vs.toArray ++ Array.replicate (fn.ntmps - vs.toArray.size) undef, defers := [] }) (fun _ => [])).parts
 obtain ⟨n1, n2⟩ := f4 hos
 have hst : StRel P (fn.ntmps, kp) (fun b => b < w.heap.size ∧ b ∉ os) ⟨w, fun i => vs.getD i undef, F0⟩ (initS args) { tmps := vs.toArray ++ Array.replicate (fn.ntmps - vs.toArray.size) undef, defers := [] } w := by
  refine ⟨F0, f, { sz := ?_, kp := fun i hi => ?_, df := rfl, ext := Ext.refl _ _, fB := fun _ h => h, fN := fun _ h => .inl h, gw := fun _ h => h.1, oG := fun i b hb h => h.2 (f3 i b hb), xG := by simp, fw := hF0, rep := fun i => ?_, own := fun i b hb => ⟨(hosl b (f3 i b hb)).2, (hosl b (f3 i b hb)).1⟩, nd := n1, dj := n2, xo := by simp, xn := List.nodup_nil, xd := by simp }⟩
  ·simp; omega
  ·have hlt : i < vs.length := by rw [← hl]; exact hkl i hi
   rw [hgetv i vs[i] (List.getElem?_eq_getElem hlt)]
   simp [List.getD, hlt]
  ·unfold initS
   split
   ·rename_i c hi
    obtain ⟨v, h1, h2⟩ := f1 i c hi
    rw [hgetv i v h1]
    exact RepT.mono (fun _ h => h) (fun s p u k => walkIn_mono (by simp) (fun _ _ => rfl) k) h2 (fun _ _ => rfl)
   ·rename_i hi
    rw [f2 i (by simpa using hi)]
    exact .any _
 refine vc_sound hm hd hst h (fun e S a w' hq hr => ?_)
 have fin : (∃ cs, retAV P S (fn.results.toList ++ kp.map .tmp) = some cs ∧ R (retOf (cs.take fn.results.toList.length)) (outsOf kp (cs.drop fn.results.toList.length) args.length)) →
   ∃ v, (results fn a.tmps).run P w' = .ok v w' ∧ (∃ (r : AV) (outs : List AV), R r outs ∧ ∃ (v' : Value) (orr oo : List Nat) (F' : Nat → Prop), Ending.returned v = .returned v' ∧ Ext (fun b => b < w.heap.size ∧ b ∉ os) w w' ∧ (∀ b, F0 b → F' b) ∧
   (∀ b, F' b → F0 b ∨ ((b ∈ os ∨ w.heap.size ≤ b) ∧ b < w'.heap.size)) ∧
   (∀ tm oss, RepT P w' F' tm oss r v' orr) ∧ (∀ tm oss, RepTL P w' F' tm oss outs vs oo) ∧ outs.length = vs.length ∧ (orr ++ oo).Nodup ∧
   ∀ b, b ∈ orr ∨ b ∈ oo → (b ∈ os ∨ w.heap.size ≤ b) ∧ b < w'.heap.size ∧ ¬ F' b) := by
  rintro ⟨cs, h1, hR⟩
  obtain ⟨v, q1, q2⟩ := ret_soundH (w0 := ⟨w, fun i => vs.getD i undef, F0⟩) hr (fun b h1 h2 => ⟨h1, h2⟩) (fun i hi => hi) h1
   (fun i hi => by have hlt : i < vs.length := by rw [← hl]; exact hkl i hi
                   simp [List.getD, hlt]) hl.symm
  exact ⟨v, q1, _, _, hR, q2⟩
 have hdf : a.defers = [] := by obtain ⟨_, _, h⟩ := hr; exact h.df
 cases e with
 | normal => exact ⟨hdf, fin hq⟩
 | ret => exact ⟨hdf, fin hq⟩
 | _ => exact hq.elim
end
section
variable {P : Program} {cf : Cfg} {N : Nat × List Nat} {ops : Array Oper}
theorem vcY_mono {q : Nat → Nat → Bool} {R : Nat → List Upd} {K K' : St → Prop} (hK : ∀ S, K S → K' S) : ∀ (l : List Nat) (tr : List Ent) (S : St), vcY P cf N ops q R l K tr S → vcY P cf N ops q R l K' tr S := by
 intro l
 induction l with
 | nil => intro tr S h; exact ⟨h.1, hK _ h.2⟩
 | cons i0 l ih =>
  have run : ∀ (S0 : St) (o : Oper) (i : Nat) (G : List Nat) (tr : List Ent) (S : St), runD P cf N i o G (fixK cf R i o S0 (vcY P cf N ops q R l K)) tr S → runD P cf N i o G (fixK cf R i o S0 (vcY P cf N ops q R l K')) tr S := by
   intro S0 o i G tr S h
   unfold runD at h ⊢
   split at h
   ·split at h
    ·rename_i hmu
     rw [if_pos hmu]
     unfold MCallD at h ⊢
     split at h
     ·split at h
      ·split at h
       ·obtain ⟨h1, r, outs, h2, h3⟩ := h
        refine ⟨h1, r, outs, h2, ?_⟩
        split at h3
        ·refine ⟨h3.1, ?_⟩
         replace h3 := h3.2
         split at h3
         ·exact ⟨h3.1, h3.2.1, ih _ _ h3.2.2⟩
         ·exact ⟨h3.1, ih _ _ h3.2⟩
        ·exact h3
       ·exact h
      ·exact h
     ·split at h
      ·split at h
       ·split at h
        ·obtain ⟨h1, r, outs, h2, h3⟩ := h
         refine ⟨h1, r, outs, h2, ?_⟩
         split at h3
         ·refine ⟨h3.1, ?_⟩
          replace h3 := h3.2
          split at h3
          ·exact ⟨h3.1, h3.2.1, ih _ _ h3.2.2⟩
          ·exact h3
         ·exact h3
        ·exact h
       ·exact h
      ·exact h
     ·split at h
      ·obtain ⟨h1, r, outs, h2, h3⟩ := h
       refine ⟨h1, r, outs, h2, ?_⟩
       split at h3
       ·refine ⟨h3.1, ?_⟩
        replace h3 := h3.2
        split at h3
        ·exact ⟨h3.1, h3.2.1, ih _ _ h3.2.2⟩
        ·exact h3
       ·exact h3
      ·exact h
     ·exact h
    ·rename_i hmu
     rw [if_neg hmu]
     split at h
     ·obtain ⟨h1, r, h2, h3, h4⟩ := h
      refine ⟨h1, r, h2, h3, ?_⟩
      split at h4
      ·exact ⟨h4.1, h4.2.1, ih _ _ h4.2.2⟩
      ·exact ⟨h4.1, ih _ _ h4.2⟩
     ·exact h
   ·split at h
    ·exact ⟨h.1, h.2.1, h.2.2.1, ih _ _ h.2.2.2⟩
    ·exact h
  intro tr S h
  unfold vcY at h ⊢
  cases ho : ops[i0]? with
  | none => rw [ho] at h; exact h.elim
  | some o =>
  rw [ho] at h
  simp only at h ⊢
  split at h
  ·exact run _ _ _ _ _ _ h
  ·exact h
theorem DrawVC5.mono {q : Exc} {n : Nat} {K K' : St → Prop} {S : St} (h : DrawVC5 P cf N ops q n K S) (hK : ∀ S, K S → K' S) : DrawVC5 P cf N ops q n K' S := by
 obtain ⟨R, h0, h1, h2⟩ := h
 exact ⟨R, h0, vcY_mono hK _ _ _ h1, vcY_mono hK _ _ _ h2⟩
theorem DrawVC4.mono {q : Exc} {n : Nat} {K K' : St → Prop} {S : St} (h : DrawVC4 P cf N ops q n K S) (hK : ∀ S, K S → K' S) : DrawVC4 P cf N ops q n K' S := by
 obtain ⟨R, h0, h1, h2, h3⟩ := h
 exact ⟨R, h0, vcY_mono hK _ _ _ h1, vcY_mono hK _ _ _ h2, vcY_mono hK _ _ _ h3⟩
end
end Go.Abs

