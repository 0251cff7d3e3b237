/- The statement FnExactTreeSeries: what comes in is opened; the walk is taken from the contract. -/
import Derived.Test.YtbeekabpflaihaaGreatM7
namespace Go.Proofs.YtbeekabpflaihaaGreat.fnExactTreeSeries
open Go.ChangeShapes Go.WideShapes Go.ChangeAt Go.RowKit Go.Abs
set_option linter.unusedVariables false

theorem own : ownKnob Tryz.prog.godebug = none := by kernel_rfl

set_option maxRecDepth 100000 in
theorem lifted (os : Os) (started : os.Started) (H : Type) (enc : TypeId × Value → H) :
    ReturnsInHanded {} Tryz.checked os 3 .any (Rows.fnExactTreeSeriesSpec.pre6 enc Tryz.prog Tryz.f3 Rows.fnExactTreeSeriesRow.domain false) (Rows.fnExactTreeSeriesSpec.post enc Tryz.prog Tryz.f3 false true false false) := by
  refine returnsInHanded_of_change (C := Tryz.checked) own started (by kernel_rfl) Tryz.func3
    (ChangeSpec.witness6 (enc := enc) (C := Tryz.checked) false ⟨#[], #[.slice none 0 0, .agg #[.int .i64 0, .slice none 0 0], .slice none 0 0], []⟩ 8 (by kernel_rfl) (by kernel_rfl) (by kernel_rfl) (by kernel_rfl)) ?_
  intro W base args ds gs before hval0 hW hcnd _
  have hval : ∀ (j : Nat) t v, Tryz.f3.params[j]? = some t → args[j]? = some v → Value.okWide Tryz.prog W .any base t v := hval0
  have hW' := hW
  obtain ⟨p, q, hA0, hV, rfl, hfz, hnd⟩ := hW
  have hA : DataW.TrodAll enc Tryz.prog W 0 (fun _ => true) true Tryz.f3.params.toList args.toList ds p := hA0
  have hA1 := hA
  have hlt : ∀ x ∈ p, x.block < W.heap.size := fun x hx => hW'.lt x (List.mem_append_left _ hx)
  rw [Tryz.params3] at hA hval
  obtain ⟨v0, vs0, d0, ds0, p0, q0, hargs0, hds0, hp0, h0, r0⟩ := trodAll_cons hA
  obtain ⟨v1, vs1, d1, ds1, p1, q1, hargs1, hds1, hp1, h1, r1⟩ := trodAll_cons r0
  obtain ⟨v2, vs2, d2, ds2, p2, q2, hargs2, hds2, hp2, h2, r2⟩ := trodAll_cons r1
  obtain ⟨e1, e2, e3⟩ := trodAll_nil r2
  obtain rfl : args = #[v0, v1, v2] := by cases args; simp_all
  obtain rfl : ds = [d0, d1, d2] := by simp_all
  obtain ⟨rfl, rfl⟩ := trodVars_none hV
  simp only [List.append_nil] at hW'
  skip
  obtain ⟨n0, hn0⟩ := h0
  obtain ⟨a0, g0, l0, rp0, _⟩ := open_vec hn0
  obtain ⟨z1, a1, l1, rp1⟩ := open_fld (hval 1 25 v1 rfl rfl) h1
  obtain ⟨n2, hn2⟩ := h2
  obtain ⟨a2, g2, l2, rp2, _⟩ := open_vec hn2
  have cc : Con Tryz.prog 3 [.sl a0.length (avs a0), .agg [.int z1, .sl a1.length (prt a1)], .sl a2.length (avs a2)] (.bool true) := Go.Proofs.YtbeekabpflaihaaGreat.law41_c a0 z1 a1 a2 l0 l1 l2
  refine (Con.calls cc (vs := [v0, v1, v2]) rfl (fun tm oss => .cons _ _ [] _ _ [] (repV Tryz.underlying22 (hval 0 22 v0 rfl rfl) rp0) (.cons _ _ [] _ _ [] (rp1 tm oss) (.cons _ _ [] _ _ [] (repV Tryz.underlying22 (hval 2 22 v2 rfl rfl) rp2) (.nil _))))).mono fun e W' ⟨he, hg⟩ => ?_
  subst he
  exact ⟨_, rfl, Go.Abs.post_of_below (pa := p) (pv := []) hW' (fun _ _ _ => (trodAll_cons_mk (shut_bool Tryz.underlying4 _) trodAll_mk0)) (fun s hs => args_again kids full (by kernel_rfl) hg hA1 hlt hs) (fun _ _ => rfl) (by simp)
    hg (ok_one (by kernel_rfl) rfl (okWide_bool_mk Tryz.underlying4 _))⟩

theorem over : Rows.fnExactTreeSeriesRow.holds Tryz.pinned (OpenSpec.ofChange Rows.fnExactTreeSeriesSpec) :=
  OpenClaim.holds_of_wide 3 Tryz.f3 rfl rfl rfl rfl rfl rfl rfl ⟨rfl, rfl, rfl, rfl, rfl⟩ rfl rfl rfl rfl rfl (by kernel_rfl) Tryz.func3 (by kernel_rfl)
    (of_decide_eq_true (by kernel_rfl)) (by unfold Func.isWrapper; first | (rw [if_pos (by decide +kernel)]; kernel_rfl) | (rw [if_neg (by decide +kernel)]; exact ⟨rfl, rfl⟩))
    (fun os started H enc _ => lifted os started H enc)

theorem proved : Rows.FnExactTreeSeriesSaid :=
  over
end Go.Proofs.YtbeekabpflaihaaGreat.fnExactTreeSeries
