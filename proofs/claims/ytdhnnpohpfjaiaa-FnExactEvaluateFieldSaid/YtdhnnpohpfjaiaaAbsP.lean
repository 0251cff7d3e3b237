/- From a contract to what a row asks of the call. It holds over any program. (post_of_below is the guide's lemma of that name, turned to this place.) -/
import Derived.Test.YtdhnnpohpfjaiaaAbsN
import Derived.Below
import Derived.ChangeSame
set_option linter.unusedVariables false
set_option linter.unusedSimpArgs false
namespace Go.Abs
open Go.RowKit Go.WideShapes Go.ChangeShapes
theorem RepT.val_eq {P : Program} {w : World} {F : Nat → Prop} {tm : Nat → Value} {oss : Nat → List Nat} {u v : Value} {os : List Nat} (h : RepT P w F tm oss (.val u) v os) : v = u := by
  generalize hc : AV.val u = c at h
  cases h with
  | cell c v os h => subst hc; cases h; rfl
  | _ => simp at hc

/-- A function that answers true, called. -/
theorem Con.calls {P : Program} {f : FuncId} {args : List AV} (h : Con P f args (.bool true)) {vs : List Value} (hl : args.length = vs.length) {w : World}
    (ha : ∀ tm oss, RepTL P w (fun b => b < w.heap.size) tm oss args vs []) :
    Calls P f vs.toArray w fun e w' => e = .returned (.bool true) ∧ Below w.heap.size w w' :=
  (h.2 w vs hl ha).mono fun e w' ⟨v, os, he, hb, hr, _⟩ => ⟨by rw [he, (hr (fun _ => undef) (fun _ => [])).val_eq], hb⟩

theorem RepTL.valS {P : Program} {w : World} {F : Nat → Prop} {tm : Nat → Value} {oss : Nat → List Nat} : ∀ {vs : List Value}, (∀ v ∈ vs, v.oneCell' = true) → RepTL P w F tm oss (vs.map .val) vs []
  | [], _ => .nil _
  | v :: vs, h => .cons _ _ [] _ _ [] (.cell _ _ _ (.val _ (h v (by simp)))) (RepTL.valS (fun v hv => h v (by simp [hv])))

/-- A nil slice is an empty one of ours. -/
theorem RepT.nil_own {P : Program} {w : World} {F : Nat → Prop} {tm : Nat → Value} {oss : Nat → List Nat} {v : Value} {os : List Nat} (e : TypeId) (h : RepT P w F tm oss (.val (.slice none 0 0)) v os) : RepT P w F tm oss (.own e 0 []) v os := by
  generalize hc : AV.val (.slice none 0 0) = c at h
  cases h with
  | cell c v os h => subst hc; cases h; exact .cell _ _ _ (.own0 e)
  | _ => simp at hc
/-- ds tells what cs tells, nil slices as empty ones of ours. -/
inductive WkL : List AV → List AV → Prop
  | nil : WkL [] []
  | same (c : AV) (cs ds : List AV) (h : WkL cs ds) : WkL (c :: cs) (c :: ds)
  | own (e : TypeId) (cs ds : List AV) (h : WkL cs ds) : WkL (.val (.slice none 0 0) :: cs) (.own e 0 [] :: ds)
theorem WkL.len {cs ds : List AV} (h : WkL cs ds) : cs.length = ds.length := by
  induction h with
  | nil => rfl
  | same => simpa
  | own => simpa
theorem WkL.rep {P : Program} {w : World} {F : Nat → Prop} {tm : Nat → Value} {oss : Nat → List Nat} {cs ds : List AV} (h : WkL cs ds) : ∀ {vs : List Value} {os : List Nat}, RepTL P w F tm oss cs vs os → RepTL P w F tm oss ds vs os := by
  induction h with
  | nil => intro vs os h; exact h
  | same c cs ds h ih =>
    intro vs os k
    cases k with
    | cons _ v o1 _ vs o2 k1 k2 => exact .cons _ _ _ _ _ _ k1 (ih k2)
  | own e cs ds h ih =>
    intro vs os k
    cases k with
    | cons _ v o1 _ vs o2 k1 k2 => exact .cons _ _ _ _ _ _ (k1.nil_own e) (ih k2)
theorem Con.wk {P : Program} {f : FuncId} {args cs ds : List AV} (h : Con P f args (.tup cs)) (hw : WkL cs ds) : Con P f args (.tup ds) := by
  refine ⟨h.1, fun w vs hl ha => (h.2 w vs hl ha).mono ?_⟩
  rintro e w' ⟨v, os, he, hb, hr, hn, ho⟩
  refine ⟨v, os, he, hb, fun tm oss => ?_, hn, ho⟩
  have := hr tm oss
  generalize hc : AV.tup cs = c at this
  cases this with
  | cell c v os h => subst hc; cases h
  | tup cs' vs os hl h =>
    injection hc with hc; subst hc
    exact .tup _ _ _ (by rw [← hl, hw.len]) (hw.rep h)
  | _ => simp at hc
theorem Con.n1 {P : Program} {f : FuncId} {args : List AV} {x : AV} (e : TypeId) (h : Con P f args (.tup [.val (.slice none 0 0), x])) : Con P f args (.tup [.own e 0 [], x]) :=
  h.wk (.own e _ _ (.same _ _ _ .nil))
theorem Con.n2 {P : Program} {f : FuncId} {args : List AV} {x : AV} (e e' : TypeId) (h : Con P f args (.tup [.val (.slice none 0 0), .val (.slice none 0 0), x])) : Con P f args (.tup [.own e 0 [], .own e' 0 [], x]) :=
  h.wk (.own e _ _ (.own e' _ _ (.same _ _ _ .nil)))

section
variable {H : Type} {enc : TypeId × Value → H} {P : Program}
theorem post_of_below {f : Func} {s : ChangeSpec} {apart fresh handsOn again : Bool} {W W' : World} {args : Array Value} {v : Value} {ds gs : List (DataW H)} {before pa pv : List MemPlace}
    (hW : DataW.Whole enc P f.params.toList s.vars apart W args.toList ds gs before)
    (hres : ∀ (b : Nat) (sp : Nat → Bool) (hd : Bool), DataW.TrodAll enc P W' b sp hd f.resultTypes.toList (v.resultList f.resultTypes.size) (s.fn H (ds ++ gs)).results [])
    (hargs : ∀ sp : Nat → Bool, (∀ p ∈ before, sp p.block = true) → DataW.TrodAll enc P W' 0 sp true f.params.toList args.toList (s.fn H (ds ++ gs)).args pa)
    (hvars : ∀ sp : Nat → Bool, (∀ p ∈ before, sp p.block = true) → DataW.TrodVars enc P W' sp s.vars (s.fn H (ds ++ gs)).vars pv)
    (hps : before = pa ++ pv) (hb : Below W.heap.size W W')
    (hok : ∀ (j : Nat) (t : TypeId) (r : Value), f.resultTypes[j]? = some t → (v.resultList f.resultTypes.size)[j]? = some r → Value.okWide P W' .any 0 t r) :
    s.post enc P f apart fresh handsOn again W args v W' := by
  have hlt : ∀ p ∈ before, p.block < W.heap.size := fun p hp => hW.lt p hp
  have hold : ∀ p ∈ before, (fun b => decide (b < W.heap.size)) p.block = true := fun p hp => by simpa using hlt p hp
  refine ⟨ds, gs, before, [], pa, pv, hW, hres _ _ _, hargs _ hold, hvars _ hold, World.keptBut_mono (fun p hp => ⟨hp, ?_⟩) (hb.frame (· ∈ before)), fun _ => ?_⟩
  · rw [hps, List.mem_append] at hp
    exact Or.inr hp
  · obtain ⟨_, _, _, _, _, hz, hn⟩ := hW
    refine ⟨hok, _, _, ([] ++ pa) ++ pv, ⟨[] ++ pa, pv, trodAll_append (hargs _ (fun _ _ => rfl)) (hres _ _ _), hvars _ (fun _ _ => rfl), rfl, ?_, ?_⟩, ?_⟩
    · intro b off hp
      have hin : MemPlace.cell b off ∈ before := by rw [hps]; simpa using hp
      rw [hb.frozen (hlt _ hin)]
      exact hz b off hin
    · intro ha
      have := hn ha
      rw [hps] at this
      simpa using this
    · intro p hp _
      rw [hps]
      simpa using hp
end
end Go.Abs
