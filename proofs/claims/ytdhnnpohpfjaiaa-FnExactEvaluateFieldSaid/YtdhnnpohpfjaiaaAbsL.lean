/- A whole function: what its conditions give of a call. It holds over any program. -/
import Derived.Test.YtdhnnpohpfjaiaaAbsV
set_option linter.unusedVariables false
set_option linter.unusedSimpArgs false
namespace Go.Abs
open Go.RowKit (Below)

section
variable {P : Program} {N : Nat × List Nat} {G : Nat → Prop} {w0 : World × (Nat → Value)} {w w' : World} {S : St} {a : Act} {F : Nat → Prop} {oss : Nat → List Nat} {X : List Nat}

def resOne (tm : Nat → Value) : ResultVar → Sem Value
  | .tmp t => pure (tm t)
  | .cell a t => do loadVar t (← asAddr (tm a))

mutual
theorem RepT.fresh {F' : Nat → Prop} {tm : Nat → Value} {c : AV} {v : Value} {os : List Nat} (h : RepT P w F tm oss c v os) (hf : freshOK c = true) : RepT P w F' tm oss c v os := by
  cases h with
  | any v => exact .any v
  | cell c v os h => exact .cell _ _ _ (h.fresh hf)
  | agg cs vs os hl h => exact .agg cs vs os hl (RepTL.fresh h (by simpa [freshOK] using hf))
  | tup cs vs os hl h => exact .tup cs vs os hl (RepTL.fresh h (by simpa [freshOK] using hf))
  | fn f cs vs os hl h => exact .fn f cs vs os hl (RepTL.fresh h (by simpa [freshOK] using hf))
  | bor s p v h => simp [freshOK] at hf
  | ptr s p off u b h hb => simp [freshOK] at hf
  | slp s p off n cap u b h hb hn => simp [freshOK] at hf
theorem RepTL.fresh {F' : Nat → Prop} {tm : Nat → Value} {cs : List AV} {vs : List Value} {os : List Nat} (h : RepTL P w F tm oss cs vs os) (hf : freshL cs = true) : RepTL P w F' tm oss cs vs os := by
  cases h with
  | nil vs => exact .nil vs
  | cons c v os cs vs os' h t =>
    simp [freshL] at hf
    exact .cons c v os cs vs os' (RepT.fresh h hf.1) (RepTL.fresh t hf.2)
end

mutual
theorem RepT.bare {F' : Nat → Prop} {tm tm' : Nat → Value} {oss' : Nat → List Nat} {c : AV} {v : Value} {os : List Nat} (h : RepT P w F tm oss c v os) (hf : freshOK c = true) : RepT P w F' tm' oss' c v os := by
  cases h with
  | any v => exact .any v
  | cell c v os h => exact .cell _ _ _ (h.fresh hf)
  | agg cs vs os hl h => exact .agg cs vs os hl (RepTL.bare h (by simpa [freshOK] using hf))
  | tup cs vs os hl h => exact .tup cs vs os hl (RepTL.bare h (by simpa [freshOK] using hf))
  | fn f cs vs os hl h => exact .fn f cs vs os hl (RepTL.bare h (by simpa [freshOK] using hf))
  | bor s p v h => simp [freshOK] at hf
  | ptr s p off u b h hb => simp [freshOK] at hf
  | slp s p off n cap u b h hb hn => simp [freshOK] at hf
theorem RepTL.bare {F' : Nat → Prop} {tm tm' : Nat → Value} {oss' : Nat → List Nat} {cs : List AV} {vs : List Value} {os : List Nat} (h : RepTL P w F tm oss cs vs os) (hf : freshL cs = true) : RepTL P w F' tm' oss' cs vs os := by
  cases h with
  | nil vs => exact .nil vs
  | cons c v os cs vs os' h t =>
    simp [freshL] at hf
    exact .cons c v os cs vs os' (RepT.bare h hf.1) (RepTL.bare t hf.2)
end

/-- The results, taken out. -/
theorem Core.ret : ∀ {rs : List ResultVar} {S : St} {F : Nat → Prop} {oss : Nat → List Nat} {X : List Nat} (_ : Core P N G w0 S a w F oss X) {cs : List AV}, retAV P S rs = some cs →
    ∃ F' oss' oc vs S', (rs.mapM (resOne (tmo a))).run P w = .ok vs w ∧ Core P N G w0 S' a w F' oss' (oc ++ X) ∧ (∀ tm oss'', RepTL P w F' tm oss'' cs vs oc) ∧ cs.length = vs.length ∧ vs.length = rs.length ∧ (∀ b, F b → F' b)
  | [], S, F, oss, X, h, cs, hc => by
    simp [retAV] at hc; subst hc
    exact ⟨F, oss, [], [], S, rfl, h, fun _ _ => .nil _, rfl, rfl, fun _ h => h⟩
  | .tmp t :: rs, S, F, oss, X, h, cs, hc => by
    rw [retAV] at hc
    have fin : ∀ {S1 : St} {F1 : Nat → Prop} {oss1 : Nat → List Nat} {c : AV} {o1 : List Nat} {ds : List AV}, Core P N G w0 S1 a w F1 oss1 (o1 ++ X) → (∀ tm oss'', RepT P w F1 tm oss'' c (tmo a t) o1) →
        (∀ b, F b → F1 b) → retAV P S1 rs = some ds →
        ∃ F' oss' oc vs S', ((ResultVar.tmp t :: rs).mapM (resOne (tmo a))).run P w = .ok vs w ∧ Core P N G w0 S' a w F' oss' (oc ++ X) ∧ (∀ tm oss'', RepTL P w F' tm oss'' (c :: ds) vs oc) ∧ (c :: ds).length = vs.length ∧ vs.length = (ResultVar.tmp t :: rs).length ∧ (∀ b, F b → F' b) := by
      intro S1 F1 oss1 c o1 ds k1 k2 k3 h2
      obtain ⟨F2, oss2, oc2, vs, S', m1, m2, m3, m4, m5, m6⟩ := Core.ret k1 h2
      refine ⟨F2, oss2, o1 ++ oc2, tmo a t :: vs, S', ?_, ?_, fun tm oss'' => ?_, by simp [m4], by simp [m5], fun b hb => m6 b (k3 b hb)⟩
      · simp [List.mapM_cons, resOne, m1]
      · refine m2.sub (fun b hb => ?_) ?_
        · simp only [List.mem_append] at hb ⊢
          rcases hb with (hb | hb) | hb
          · exact .inr (.inl hb)
          · exact .inl hb
          · exact .inr (.inr hb)
        · have := m2.xn
          simp only [List.nodup_append, List.mem_append] at this ⊢
          obtain ⟨n1, ⟨n2, n3, n4⟩, n5⟩ := this
          refine ⟨⟨n2, n1, fun x hx y hy e => n5 y hy x (.inl hx) e.symm⟩, n3, fun x hx y hy => ?_⟩
          rcases hx with hx | hx
          · exact n4 x hx y hy
          · exact n5 x hx y (.inr hy)
      · exact .cons _ _ _ _ _ _ (RepT.mono (tm := tm) (oss := oss'') m6 (fun _ _ _ h => h) (k2 tm oss'') (fun _ _ => rfl)) (m3 tm oss'')
    split at hc
    · rename_i cs' hS
      have hr := h.rep t
      rw [hS] at hr
      split at hc
      · split at hc
        · rename_i hroots
          split at hc
          · rename_i ds h2
            injection hc with hc; subst hc
            obtain ⟨k1, k2⟩ := h.take t
            exact fin k1 (fun tm oss'' => roots_nil_rep hr (by simpa [roots] using hroots)) (fun _ h => h) h2
          · simp at hc
        · simp at hc
      · split at hc
        · rename_i lf S1 h1
          split at hc
          · rename_i es h3
            split at hc
            · rename_i ds h2
              injection hc with hc; subst hc
              obtain ⟨us, oc, oss1, k1, k2⟩ := h.tkLs h1
              generalize hu : tmo a t = u at hr
              generalize oss t = ot at hr
              cases hr with
              | cell _ _ _ hc => cases hc
              | agg _ vs os hl hL =>
                have h3' : fillB cs' (lf ++ []) = some (es, []) := by simpa using h3
                obtain ⟨m1, m2⟩ := fillB_rep (F0 := F) (fun _ h => h) hL k2 h3'
                refine fin k1 (fun tm oss'' => ?_) (fun _ h => h) h2
                rw [hu]
                exact .agg es vs oc (m2.trans hl) (m1 tm oss'')
            · simp at hc
          · simp at hc
        · simp at hc
    · split at hc
      · rename_i c U h1
        split at hc
        · rename_i ds h2
          injection hc with hc; subst hc
          obtain ⟨F1, oss1, oc1, k1, k2, k3⟩ := h.tk h1
          exact fin k1 (fun tm oss'' => .cell _ _ _ k2) k3 h2
        · simp at hc
      · simp at hc
  | .cell t ty :: rs, S, F, oss, X, h, cs, hc => by
    rw [retAV] at hc
    split at hc
    · rename_i e bs m hS hT
      split at hc
      · rename_i hlen
        split at hc
        · rename_i ds h2
          injection hc with hc; subst hc
          obtain ⟨k1, k2⟩ := h.take t
          have k3 := k2.ofKids (by simp [hS, kl, kids])
          rw [hS, kl] at k3
          generalize hu : tmo a t = u at k3
          generalize ho : oss t = ot at k3 k1
          cases k3 with
          | box b _ c _ ol hb hl =>
            have k4 := k1.sub (X' := ol ++ X) (fun z hz => by simp only [List.mem_append, List.mem_cons] at hz ⊢; rcases hz with hz | hz <;> simp [hz]) (List.nodup_cons.1 k1.xn).2
            obtain ⟨F2, oss2, oc2, vs, S', m1, m2, m3, m4, m5, m6⟩ := Core.ret k4 h2
            have hll := hl.length_le
            have hrun : (loadVar ty ⟨b, 0, none⟩).run P w = .ok (.agg (c.toList.take bs.length).toArray) w :=
              run_loadAgg hT (by rw [List.length_take, ← hlen]; omega) (fun j v hj => by
                rw [cell_of hb, Nat.zero_add]
                simp only [List.getElem?_take] at hj
                split at hj
                · simpa using hj
                · simp at hj)
            refine ⟨F2, oss2, ol ++ oc2, .agg (c.toList.take bs.length).toArray :: vs, S', ?_, ?_, fun tm oss'' => ?_, by simp [m4], by simp [m5], m6⟩
            · simp [List.mapM_cons, resOne, m1, hu, asAddr, hrun]
            · refine m2.sub (fun z hz => ?_) ?_
              · simp only [List.mem_append] at hz ⊢
                rcases hz with (hz | hz) | hz
                · exact .inr (.inl hz)
                · exact .inl hz
                · exact .inr (.inr hz)
              · have := m2.xn
                simp only [List.nodup_append, List.mem_append] at this ⊢
                obtain ⟨n1, ⟨n2, n3, n4⟩, n5⟩ := this
                refine ⟨⟨n2, n1, fun x hx y hy e => n5 y hy x (.inl hx) e.symm⟩, n3, fun x hx y hy => ?_⟩
                rcases hx with hx | hx
                · exact n4 x hx y hy
                · exact n5 x hx y (.inr hy)
            · refine .cons _ _ _ _ _ _ (.agg _ _ _ (by rw [List.length_take]; omega) ?_) (m3 tm oss'')
              exact ((hl.mono (F' := F2) m6 (fun _ _ => rfl)).take).toT
        · simp at hc
      · simp at hc
    · simp at hc

theorem results_run (fn : Func) (tmps : Array Value) {vs : List Value} (h : (fn.results.toList.mapM (resOne (fun i => tmps.getD i undef))).run P w = .ok vs w) :
    (results fn tmps).run P w = .ok (if h : vs.length = 1 then vs[0] else .tuple vs.toArray) w := by
  have e : (fn.results.mapM (resOne (fun i => tmps.getD i undef))).run P w = .ok vs.toArray w := by
    have : fn.results = fn.results.toList.toArray := by simp
    rw [this, List.mapM_toArray, Sem.run_map, h]; rfl
  have e2 : (results fn tmps) = (fn.results.mapM (resOne (fun i => tmps.getD i undef)) >>= fun vs => pure (if h : vs.size = 1 then vs[0] else .tuple vs)) := by
    unfold results
    congr 1
  rw [e2, Sem.run_bind, e]
  simp

theorem RepTL.init {tm : Nat → Value} : ∀ {cs : List AV} {vs : List Value} {os : List Nat}, RepTL P w F tm oss cs vs os → os = [] → ∀ (i : Nat) (c : AV), cs[i]? = some c → ∃ v, vs[i]? = some v ∧ RepT P w F tm oss c v []
  | [], vs, os, h, ho, i, c, hi => by simp at hi
  | d :: cs, vs, os, h, ho, i, c, hi => by
    cases h with
    | cons d v o1 cs vs o2 h t =>
      obtain ⟨rfl, rfl⟩ := List.append_eq_nil_iff.1 ho
      cases i with
      | zero => simp at hi; subst hi; exact ⟨v, rfl, h⟩
      | succ i => simp at hi; simpa using RepTL.init t rfl i c hi

theorem ret_sound (h : StRel P N (fun b => b < w0.1.heap.size) w0 S a w) {fn : Func} {r : AV} (hf : freshOK r = true) {cs : List AV} (hc : retAV P S fn.results.toList = some cs) (hr : retOf cs = r) :
    ∃ v, (results fn a.tmps).run P w = .ok v w ∧ ∃ v' os, Ending.returned v = .returned v' ∧ Below w0.1.heap.size w0.1 w ∧
      (∀ tm oss, RepT P w (fun b => w0.1.heap.size ≤ b ∧ b < w.heap.size ∧ b ∉ os) tm oss r v' os) ∧ os.Nodup ∧ ∀ b ∈ os, w0.1.heap.size ≤ b ∧ b < w.heap.size := by
  obtain ⟨F, oss, h⟩ := h
  obtain ⟨F', oss', oc, vs, S', k1, k2, k3, k4, k5, k6⟩ := h.ret hc
  simp only [List.append_nil] at k2
  have hown : ∀ b ∈ oc, w0.1.heap.size ≤ b ∧ b < w.heap.size := fun b hb => ⟨by
    have := (k2.xo b hb).1
    rcases Nat.lt_or_ge b w0.1.heap.size with hlt | hge
    · exact (this (k2.fB b hlt)).elim
    · exact hge, (k2.xo b hb).2⟩
  refine ⟨_, results_run fn a.tmps k1, _, oc, rfl, k2.ext.below, fun tm oss'' => ?_, k2.xn, hown⟩
  subst hr
  unfold retOf at hf ⊢
  split
  · rename_i c
    have hl : vs.length = 1 := by simpa using k4.symm
    obtain ⟨v, rfl⟩ : ∃ v, vs = [v] := List.length_eq_one_iff.1 hl
    simp only [List.length_cons, List.length_nil, Nat.zero_add, dite_true, List.getElem_cons_zero]
    have := k3 tm oss''
    generalize ho : oc = oc' at this
    cases this with
    | cons _ _ o1 _ _ o2 h1 h2 =>
      cases h2
      simp only [List.append_nil] at ho
      subst ho
      simp at *
      exact RepT.fresh h1 hf
  · rename_i hne
    have hl : vs.length ≠ 1 := by
      intro e
      rw [← k4] at e
      obtain ⟨c, rfl⟩ := List.length_eq_one_iff.1 e
      exact hne c rfl
    rw [dif_neg hl]
    split at hf
    · rename_i c; exact (hne c rfl).elim
    · exact RepT.fresh (.tup _ _ _ k4 (k3 tm oss'')) hf

/-- A FUNCTION's CONTRACT, out of its conditions. -/
theorem acalls_of_vc (hm : P.follows .mixedOrders = true) {f : FuncId} {fn : Func} {c : Code} (cf : Cfg) {args : List AV} {r : AV} (hfn : P.funcs[f]? = some fn) (hb : fn.body = some c)
    (hn : args.length ≤ fn.ntmps) (hd : dstsOk (fn.ntmps, []) c = true) (hf : freshOK r = true)
    (h : vc P cf (fn.ntmps, []) c (retQ P fn.results.toList r) (initS args)) : ACalls P f args r := by
  intro w vs hl hrep
  refine calls_of_wp hfn hb ?_
  have hst : StRel P (fn.ntmps, []) (fun b => b < w.heap.size) (w, fun _ => undef) (initS args) { tmps := vs.toArray ++ Array.replicate (fn.ntmps - vs.toArray.size) undef, defers := [] } w := by
    refine ⟨fun b => b < w.heap.size, fun _ => [], { sz := ?_, kp := by simp, df := rfl, ext := Ext.refl _ _, fB := fun _ h => h, fw := fun _ h => h, rep := fun i => ?_, own := by simp, nd := fun _ => List.nodup_nil, dj := by simp, xo := by simp, xn := List.nodup_nil, xd := by simp }⟩
    · simp; omega
    · unfold initS
      split
      · rename_i c hi
        obtain ⟨v, h1, h2⟩ := (hrep (tmo { tmps := vs.toArray ++ Array.replicate (fn.ntmps - vs.toArray.size) undef, defers := [] }) (fun _ => [])).init rfl i c hi
        have hlt : i < vs.length := (List.getElem?_eq_some_iff.1 h1).1
        have : tmo { tmps := vs.toArray ++ Array.replicate (fn.ntmps - vs.toArray.size) undef, defers := [] } i = v := by
          have h3 : (vs.toArray ++ Array.replicate (fn.ntmps - vs.toArray.size) undef)[i]? = some v := by
            rw [Array.getElem?_append_left (by simpa using hlt)]; simpa using h1
          simp only [List.size_toArray] at h3
          simp [tmo, h3]
        rw [this]; exact h2
      · exact .any _
  refine vc_sound hm hd hst h (fun e S a w' hq hr => ?_)
  cases e with
  | normal =>
    obtain ⟨cs, h1, h2⟩ := hq
    exact ⟨(by obtain ⟨_, _, h⟩ := hr; exact h.df), ret_sound (w0 := (w, fun _ => undef)) hr hf h1 h2⟩
  | ret =>
    obtain ⟨cs, h1, h2⟩ := hq
    exact ⟨(by obtain ⟨_, _, h⟩ := hr; exact h.df), ret_sound (w0 := (w, fun _ => undef)) hr hf h1 h2⟩
  | _ => exact hq.elim

theorem con_of_vc (hm : P.follows .mixedOrders = true) {f : FuncId} {fn : Func} {c : Code} (cf : Cfg) {args : List AV} {r : AV} (hfn : P.funcs[f]? = some fn) (hname : (fn.name == "runtime.NumGoroutine") = false) (hb : fn.body = some c)
    (hn : args.length ≤ fn.ntmps) (hd : dstsOk (fn.ntmps, []) c = true) (hf : freshOK r = true)
    (h : vc P cf (fn.ntmps, []) c (retQ P fn.results.toList r) (initS args)) : Con P f args r :=
  ⟨⟨fn, hfn, hname, by simp [hb]⟩, acalls_of_vc hm cf hfn hb hn hd hf h⟩

/-- Each argument's own blocks. -/
theorem RepTL.parts {tm : Nat → Value} : ∀ {cs : List AV} {vs : List Value} {os : List Nat}, RepTL P w F tm oss cs vs os →
    ∃ f : Nat → List Nat, (∀ (i : Nat) (c : AV), cs[i]? = some c → ∃ v, vs[i]? = some v ∧ RepT P w F tm oss c v (f i)) ∧ (∀ i, cs.length ≤ i → f i = []) ∧ (∀ i b, b ∈ f i → b ∈ os) ∧
      (os.Nodup → (∀ i, (f i).Nodup) ∧ ∀ i j b, b ∈ f i → b ∈ f j → i = j)
  | [], vs, os, h => ⟨fun _ => [], by simp, by simp, by simp, fun _ => ⟨fun _ => List.nodup_nil, by simp⟩⟩
  | c :: cs, vs, os, h => by
    cases h with
    | cons _ v o1 _ vs o2 h t =>
      obtain ⟨f, f1, f2, f3, f4⟩ := RepTL.parts t
      refine ⟨fun i => match i with | 0 => o1 | i + 1 => f i, fun i d hi => ?_, fun i hi => ?_, fun i b hb => ?_, fun hn => ⟨fun i => ?_, fun i j b hi hj => ?_⟩⟩
      · cases i with
        | zero => simp at hi; subst hi; exact ⟨v, rfl, h⟩
        | succ i => simp at hi; simpa using f1 i d hi
      · cases i with
        | zero => simp at hi
        | succ i => exact f2 i (by simpa using hi)
      · cases i with
        | zero => simp only at hb; simp [hb]
        | succ i => simp only at hb; simp [f3 i b hb]
      · have hn := List.nodup_append.1 hn
        cases i with
        | zero => exact hn.1
        | succ i => exact (f4 hn.2.1).1 i
      · have hn := List.nodup_append.1 hn
        cases i with
        | zero => cases j with
          | zero => rfl
          | succ j => exact (hn.2.2 b hi b (f3 j b hj) rfl).elim
        | succ i => cases j with
          | zero => exact (hn.2.2 b hj b (f3 i b hi) rfl).elim
          | succ j => rw [(f4 hn.2.1).2 i j b hi hj]

/-- What stands behind the call in the kept parameters; of the others nothing is told. -/
def outsOf (kp : List Nat) (cs : List AV) (n : Nat) : List AV := (List.range n).map fun i => match kp.idxOf? i with
  | some j => cs.getD j .any
  | none => .any

/-- At a return of a function that writes into what it was handed: the results, then the kept parameters. -/
def retM (P : Program) (rs : List ResultVar) (kp : List Nat) (n : Nat) (r : AV) (outs : List AV) : Exit → St → Prop
  | .normal, S => ∃ cs, retAV P S (rs ++ kp.map .tmp) = some cs ∧ retOf (cs.take rs.length) = r ∧ outsOf kp (cs.drop rs.length) n = outs ∧ freshL cs = true
  | .ret, S => ∃ cs, retAV P S (rs ++ kp.map .tmp) = some cs ∧ retOf (cs.take rs.length) = r ∧ outsOf kp (cs.drop rs.length) n = outs ∧ freshL cs = true
  | _, _ => False

theorem RepTL.split {tm : Nat → Value} : ∀ {cs : List AV} {vs : List Value} {os : List Nat} (k : Nat), RepTL P w F tm oss cs vs os → cs.length = vs.length →
    ∃ o1 o2, os = o1 ++ o2 ∧ RepTL P w F tm oss (cs.take k) (vs.take k) o1 ∧ RepTL P w F tm oss (cs.drop k) (vs.drop k) o2
  | cs, vs, os, 0, h, hl => ⟨[], os, rfl, .nil _, by simpa using h⟩
  | [], vs, os, k + 1, h, hl => by cases h; exact ⟨[], [], rfl, by simp; exact .nil _, by simp; exact .nil _⟩
  | c :: cs, vs, os, k + 1, h, hl => by
    cases h with
    | cons _ v o1 _ vs o2 h t =>
      obtain ⟨p1, p2, rfl, h1, h2⟩ := RepTL.split k t (by simpa using hl)
      exact ⟨o1 ++ p1, p2, by simp, by simpa using RepTL.cons _ _ _ _ _ _ h h1, by simpa using h2⟩

theorem RepTL.noF {F' : Nat → Prop} {tm tm' : Nat → Value} {oss' : Nat → List Nat} {cs : List AV} {vs : List Value} {os : List Nat} (h : RepTL P w F tm oss cs vs os) (hf : freshL cs = true) : RepTL P w F' tm' oss' cs vs os := h.bare hf

theorem mapM_tmps (tm : Nat → Value) : ∀ kp : List Nat, ((kp.map ResultVar.tmp).mapM (resOne tm)).run P w = .ok (kp.map tm) w
  | [] => rfl
  | k :: kp => by
    rw [List.map_cons, List.map_cons, List.mapM_cons, Sem.run_bind]
    have := mapM_tmps tm kp
    simp only [resOne, Sem.run_pure, Result.andThen_ok, Sem.run_bind, this]

theorem RepTL.getD {tm : Nat → Value} : ∀ {cs : List AV} {vs : List Value} {os : List Nat}, RepTL P w F tm oss cs vs os → ∀ j, j < cs.length → ∃ v o, vs[j]? = some v ∧ RepT P w F tm oss (cs.getD j .any) v o ∧ ∀ b ∈ o, b ∈ os
  | [], vs, os, h, j, hj => by simp at hj
  | c :: cs, vs, os, h, j, hj => by
    cases h with
    | cons _ v o1 _ vs o2 h t =>
      cases j with
      | zero => exact ⟨v, o1, rfl, h, fun b hb => by simp [hb]⟩
      | succ j =>
        obtain ⟨u, o, e1, e2, e3⟩ := RepTL.getD t j (by simpa using hj)
        exact ⟨u, o, by simpa using e1, by simpa using e2, fun b hb => by simp [e3 b hb]⟩

theorem idx_spec {kp : List Nat} {i j : Nat} (h : kp.idxOf? i = some j) : j < kp.length ∧ kp[j]? = some i := by
  have := List.idxOf?_eq_some_iff.1 h
  obtain ⟨h1, h2, _⟩ := this
  exact ⟨h1, by rw [List.getElem?_eq_getElem h1]; exact congrArg some (by simpa using h2)⟩

theorem freshL_getD : ∀ {cs : List AV} (j : Nat), freshL cs = true → freshOK (cs.getD j .any) = true
  | [], j, _ => by simp [freshOK]
  | c :: cs, 0, h => by simp [freshL] at h; simpa using h.1
  | c :: cs, j + 1, h => by simp [freshL] at h; simpa using freshL_getD j h.2

/-- The parameters behind the call, as a row. -/
theorem outs_rep {F' : Nat → Prop} {tm : Nat → Value} {kp : List Nat} (hkp : kp.Nodup) {cs : List AV} (hf : freshL cs = true) (hlen : cs.length = kp.length) {o : List Nat} {vals : Nat → Value}
    (h : RepTL P w F' tm oss cs (kp.map vals) o) (n : Nat) (ho : o.Nodup) : ∃ oo, (∀ F tm oss, RepTL P w F tm oss (outsOf kp cs n) ((List.range n).map vals) oo) ∧ (∀ b, b ∈ oo → b ∈ o) ∧ oo.Nodup := by
  obtain ⟨f, f1, f2, f3, f4⟩ := h.parts
  obtain ⟨n1, n2⟩ := f4 ho
  let g : Nat → List Nat := fun i => match kp.idxOf? i with
    | some j => f j
    | none => []
  have hg : ∀ i b, b ∈ g i → b ∈ o := fun i b hb => by
    simp only [g] at hb
    split at hb
    · exact f3 _ b hb
    · simp at hb
  have main : ∀ m, m ≤ n → ∃ oo, (∀ F tm oss, RepTL P w F tm oss (((List.range' (n - m) m)).map fun i => match kp.idxOf? i with | some j => cs.getD j .any | none => .any) ((List.range' (n - m) m).map vals) oo) ∧
      (∀ b, b ∈ oo → ∃ i, n - m ≤ i ∧ b ∈ g i) ∧ oo.Nodup := by
    intro m
    induction m with
    | zero => intro _; exact ⟨[], fun _ _ _ => .nil _, by simp, List.nodup_nil⟩
    | succ m ih =>
      intro hm
      obtain ⟨oo, k1, k2, k3⟩ := ih (by omega)
      have e : List.range' (n - (m + 1)) (m + 1) = (n - (m + 1)) :: List.range' (n - m) m := by
        rw [List.range'_succ]; congr 1; congr 1; omega
      rw [e]
      refine ⟨g (n - (m + 1)) ++ oo, fun F tm oss => ?_, fun b hb => ?_, ?_⟩
      · refine .cons _ _ _ _ _ _ ?_ (k1 F tm oss)
        simp only [g]
        split
        · rename_i j hj
          have hjl := idx_spec hj
          have hjc : cs[j]? = some (cs.getD j .any) := by
            have hl : j < cs.length := by omega
            simp [List.getD, List.getElem?_eq_getElem hl]
          obtain ⟨v, e1, e2⟩ := f1 j _ hjc
          have hv : v = vals (n - (m + 1)) := by
            rw [List.getElem?_map, hjl.2] at e1
            simpa using e1.symm
          subst hv
          exact e2.bare (freshL_getD j hf)
        · exact .any _
      · rcases List.mem_append.1 hb with hb | hb
        · exact ⟨_, Nat.le_refl _, hb⟩
        · obtain ⟨i, h1, h2⟩ := k2 b hb
          exact ⟨i, by omega, h2⟩
      · refine List.nodup_append.2 ⟨?_, k3, fun x hx y hy e => ?_⟩
        · simp only [g]; split; exact n1 _; exact List.nodup_nil
        · subst e
          obtain ⟨i, h1, h2⟩ := k2 x hy
          simp only [g] at hx h2
          split at hx
          · rename_i j hj
            split at h2
            · rename_i j' hj'
              have := n2 j j' x hx h2
              subst this
              have e1 := (idx_spec hj).2
              rw [(idx_spec hj').2] at e1
              injection e1 with e1
              omega
            · simp at h2
          · simp at hx
  obtain ⟨oo, k1, k2, k3⟩ := main n (Nat.le_refl _)
  refine ⟨oo, fun F tm oss => ?_, fun b hb => ?_, k3⟩
  · have := k1 F tm oss
    rw [Nat.sub_self, ← List.range_eq_range'] at this
    exact this
  · obtain ⟨i, _, h2⟩ := k2 b hb
    exact hg i b h2

theorem ret_soundM {N : Nat × List Nat} (h : StRel P N G w0 S a w) {os : List Nat} (hG : ∀ b, b < w0.1.heap.size → b ∉ os → G b) {fn : Func} {rts kp : List Nat} (hrs : fn.results.toList = rts.map .tmp) (hkp : kp.Nodup)
    (hkN : ∀ i ∈ kp, i ∈ N.2) {n : Nat} {cs : List AV} (hc : retAV P S (fn.results.toList ++ kp.map .tmp) = some cs) (hf : freshL cs = true) {vs : List Value} (hv : ∀ i ∈ kp, vs[i]? = some (w0.2 i)) (hvl : vs.length = n) :
    ∃ v, (results fn a.tmps).run P w = .ok v w ∧ ∃ v' orr oo, Ending.returned v = .returned v' ∧ Ext G w0.1 w ∧
      (∀ F tm oss, RepT P w F tm oss (retOf (cs.take rts.length)) v' orr) ∧ (∀ F tm oss, RepTL P w F tm oss (outsOf kp (cs.drop rts.length) n) vs oo) ∧ (outsOf kp (cs.drop rts.length) n).length = vs.length ∧ (orr ++ oo).Nodup ∧
      ∀ b, b ∈ orr ∨ b ∈ oo → (b ∈ os ∨ w0.1.heap.size ≤ b) ∧ b < w.heap.size := by
  obtain ⟨F, oss, h⟩ := h
  obtain ⟨F', oss', oc, vals, S', k1, k2, k3, k4, k5, k6⟩ := h.ret hc
  simp only [List.append_nil] at k2
  rw [hrs, ← List.map_append, mapM_tmps] at k1
  injection k1 with k1
  subst k1
  have hown : ∀ b ∈ oc, (b ∈ os ∨ w0.1.heap.size ≤ b) ∧ b < w.heap.size := fun b hb => ⟨by
    have := (k2.xo b hb).1
    rcases Nat.lt_or_ge b w0.1.heap.size with hlt | hge
    · by_cases hx : b ∈ os
      · exact .inl hx
      · exact (this (k2.fB b (hG b hlt hx))).elim
    · exact .inr hge, (k2.xo b hb).2⟩
  have h1 : (fn.results.toList.mapM (resOne (fun i => a.tmps.getD i undef))).run P w = .ok (rts.map (tmo a)) w := by
    rw [hrs]; exact mapM_tmps _ _
  have hclen : cs.length = rts.length + kp.length := by rw [k4]; simp
  obtain ⟨o1, o2, rfl, s1, s2⟩ := (k3 (tmo a) oss').split rts.length k4
  have hx := k2.xn
  have hx2 := List.nodup_append.1 hx
  have freshT : ∀ (l : List AV) (k : Nat), freshL l = true → freshL (l.take k) = true ∧ freshL (l.drop k) = true := by
    intro l
    induction l with
    | nil => intro k _; simp [freshL]
    | cons c l ih =>
      intro k hl
      simp [freshL] at hl
      cases k with
      | zero => simp [freshL, hl]
      | succ k => simpa [freshL, hl.1] using ih k hl.2
  have hf1 := (freshT cs rts.length hf).1
  have hf2 := (freshT cs rts.length hf).2
  have e1 : ((rts ++ kp).map (tmo a)).take rts.length = rts.map (tmo a) := by
    rw [List.map_append, List.take_left' (by simp)]
  have e2 : ((rts ++ kp).map (tmo a)).drop rts.length = kp.map (tmo a) := by
    rw [List.map_append, List.drop_left' (by simp)]
  rw [e1] at s1
  rw [e2] at s2
  have hkv : kp.map (tmo a) = kp.map w0.2 := List.map_congr_left (fun i hi => k2.kp i (hkN i hi))
  rw [hkv] at s2
  -- the parameters' own values
  let vl : Nat → Value := fun i => vs.getD i undef
  have hvl2 : kp.map w0.2 = kp.map vl := List.map_congr_left (fun i hi => by simp [vl, List.getD, hv i hi])
  rw [hvl2] at s2
  have hrange : (List.range n).map vl = vs := by
    subst hvl
    apply List.ext_getElem?
    intro i
    rw [List.getElem?_map]
    by_cases hi : i < vs.length
    · simp [hi, vl, List.getD]
    · simp [hi]
  obtain ⟨oo, q1, q2, q3⟩ := outs_rep hkp hf2 (by rw [List.length_drop, hclen]; omega) s2 n hx2.2.1
  rw [hrange] at q1
  have hrl : (cs.take rts.length).length = rts.length := by rw [List.length_take]; omega
  refine ⟨_, results_run fn a.tmps h1, _, o1, oo, rfl, k2.ext, fun F tm oss => ?_, q1, by simp [outsOf, hvl], List.nodup_append.2 ⟨hx2.1, q3, fun x hx y hy => hx2.2.2 x hx y (q2 y hy)⟩,
    fun b hb => hown b (by rcases hb with hb | hb; exact List.mem_append.2 (.inl hb); exact List.mem_append.2 (.inr (q2 b hb)))⟩
  unfold retOf
  split
  · rename_i c hcs
    rw [hcs] at s1 hrl hf1
    obtain ⟨t, rfl⟩ := List.length_eq_one_iff.1 hrl.symm
    simp only [List.map_cons, List.map_nil, List.length_cons, List.length_nil, Nat.zero_add, dite_true, List.getElem_cons_zero] at s1 ⊢
    generalize ho : o1 = o1' at s1
    cases s1 with
    | cons _ _ p1 _ _ p2 g1 g2 =>
      cases g2
      simp only [List.append_nil] at ho
      subst ho
      simp [freshL] at hf1
      rw [List.append_nil]
      exact g1.bare hf1
  · rename_i hne
    have hl : (rts.map (tmo a)).length ≠ 1 := by
      intro e
      rw [List.length_map, ← hrl] at e
      obtain ⟨c, hc'⟩ := List.length_eq_one_iff.1 e
      exact hne c hc'
    rw [dif_neg hl]
    exact (RepT.tup _ _ _ (by rw [hrl]; simp) s1).bare (by simpa [freshOK] using hf1)

/-- The contract of a function that writes into what it is handed. -/
theorem mcon_of_vc (hm : P.follows .mixedOrders = true) {f : FuncId} {fn : Func} {c : Code} (cf : Cfg) {args : List AV} {r : AV} {outs : List AV} (rts kp : List Nat) (hfn : P.funcs[f]? = some fn) (hname : (fn.name == "runtime.NumGoroutine") = false) (hb : fn.body = some c)
    (hrs : fn.results.toList = rts.map .tmp) (hkp : kp.Nodup) (hkl : ∀ i ∈ kp, i < args.length) (hn : args.length ≤ fn.ntmps) (hd : dstsOk (fn.ntmps, kp) c = true)
    (h : vc P cf (fn.ntmps, kp) c (retM P fn.results.toList kp args.length r outs) (initS args)) : MCon P f args r outs := by
  refine ⟨⟨fn, hfn, hname, by simp [hb]⟩, ?_⟩
  intro w vs os hl hos hosl hrep
  refine calls_of_wp hfn hb ?_
  have hgetv : ∀ i v, vs[i]? = some v → tmo { tmps := vs.toArray ++ Array.replicate (fn.ntmps - vs.toArray.size) undef, defers := [] } i = v := by
    intro i v hi
    have hlt : i < vs.length := (List.getElem?_eq_some_iff.1 hi).1
    have h3 : (vs.toArray ++ Array.replicate (fn.ntmps - vs.toArray.size) undef)[i]? = some v := by
      rw [Array.getElem?_append_left (by simpa using hlt)]; simpa using hi
    simp only [List.size_toArray] at h3
    simp [tmo, h3]
  obtain ⟨f, f1, f2, f3, f4⟩ := (hrep (tmo { tmps := vs.toArray ++ Array.replicate (fn.ntmps - vs.toArray.size) undef, defers := [] }) (fun _ => [])).parts
  obtain ⟨n1, n2⟩ := f4 hos
  have hst : StRel P (fn.ntmps, kp) (fun b => b < w.heap.size ∧ b ∉ os) (w, fun i => vs.getD i undef) (initS args) { tmps := vs.toArray ++ Array.replicate (fn.ntmps - vs.toArray.size) undef, defers := [] } w := by
    refine ⟨fun b => b < w.heap.size ∧ b ∉ os, f, { sz := ?_, kp := fun i hi => ?_, df := rfl, ext := Ext.refl _ _, fB := fun _ h => h, fw := fun _ h => h.1, rep := fun i => ?_, own := fun i b hb => ⟨fun h => h.2 (f3 i b hb), hosl b (f3 i b hb)⟩, nd := n1, dj := n2, xo := by simp, xn := List.nodup_nil, xd := by simp }⟩
    · simp; omega
    · have hlt : i < vs.length := by rw [← hl]; exact hkl i hi
      rw [hgetv i vs[i] (List.getElem?_eq_getElem hlt)]
      simp [List.getD, hlt]
    · unfold initS
      split
      · rename_i c hi
        obtain ⟨v, h1, h2⟩ := f1 i c hi
        rw [hgetv i v h1]
        exact RepT.mono (fun _ h => h) (fun s p u k => walkIn_mono (by simp) (fun _ _ => rfl) k) h2 (fun _ _ => rfl)
      · rename_i hi
        rw [f2 i (by simpa using hi)]
        exact .any _
  refine vc_sound hm hd hst h (fun e S a w' hq hr => ?_)
  have fin : (∃ cs, retAV P S (fn.results.toList ++ kp.map .tmp) = some cs ∧ retOf (cs.take fn.results.toList.length) = r ∧ outsOf kp (cs.drop fn.results.toList.length) args.length = outs ∧ freshL cs = true) →
      ∃ v, (results fn a.tmps).run P w' = .ok v w' ∧ (∃ v' orr oo, Ending.returned v = .returned v' ∧ Ext (fun b => b < w.heap.size ∧ b ∉ os) w w' ∧
      (∀ F tm oss, RepT P w' F tm oss r v' orr) ∧ (∀ F tm oss, RepTL P w' F tm oss outs vs oo) ∧ outs.length = vs.length ∧ (orr ++ oo).Nodup ∧
      ∀ b, b ∈ orr ∨ b ∈ oo → (b ∈ os ∨ w.heap.size ≤ b) ∧ b < w'.heap.size) := by
    rintro ⟨cs, h1, rfl, rfl, hfr⟩
    have hrl : fn.results.toList.length = rts.length := by rw [hrs]; simp
    rw [hrl]
    exact ret_soundM (w0 := (w, fun i => vs.getD i undef)) hr (fun b h1 h2 => ⟨h1, h2⟩) hrs hkp (fun i hi => hi) h1 hfr
      (fun i hi => by have hlt : i < vs.length := by rw [← hl]; exact hkl i hi
                      simp [List.getD, hlt]) hl.symm
  have hdf : a.defers = [] := by obtain ⟨_, _, h⟩ := hr; exact h.df
  cases e with
  | normal => exact ⟨hdf, fin hq⟩
  | ret => exact ⟨hdf, fin hq⟩
  | _ => exact hq.elim
end
end Go.Abs
