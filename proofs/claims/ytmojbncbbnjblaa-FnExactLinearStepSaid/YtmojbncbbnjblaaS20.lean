/- The statement FnExactLinearStep: what comes in is opened; the walk is taken from the contract. -/
import Derived.Test.YtmojbncbbnjblaaM6
namespace Go.Proofs.Ytmojbncbbnjblaa.fnExactLinearStep
open Go.ChangeShapes Go.WideShapes Go.ChangeAt Go.RowKit Go.Abs
set_option linter.unusedVariables false

theorem own : ownKnob Try.prog.godebug = none := by kernel_rfl

set_option maxRecDepth 100000 in
theorem lifted (os : Os) (started : os.Started) (H : Type) (enc : TypeId × Value → H) :
    ReturnsInHanded {} Try.checked os 7 .any (Rows.fnExactLinearStepSpec.pre6 enc Try.prog Try.f7 Rows.fnExactLinearStepRow.domain false) (Rows.fnExactLinearStepSpec.post enc Try.prog Try.f7 false true false false) := by
  refine returnsInHanded_of_change (C := Try.checked) own started (by kernel_rfl) Try.func7
    (ChangeSpec.witness6 (enc := enc) (C := Try.checked) false ⟨#[], #[.agg #[.slice none 0 0, .slice none 0 0], .slice none 0 0, .slice none 0 0, .int .i64 0], []⟩ 8 (by kernel_rfl) (by kernel_rfl) (by kernel_rfl) (by kernel_rfl)) ?_
  intro W base args ds gs before hval0 hW hcnd _
  have hval : ∀ (j : Nat) t v, Try.f7.params[j]? = some t → args[j]? = some v → Value.okWide Try.prog W .any base t v := hval0
  have hW' := hW
  obtain ⟨p, q, hA0, hV, rfl, hfz, hnd⟩ := hW
  have hA : DataW.TrodAll enc Try.prog W 0 (fun _ => true) true Try.f7.params.toList args.toList ds p := hA0
  have hA1 := hA
  have hlt : ∀ x ∈ p, x.block < W.heap.size := fun x hx => hW'.lt x (List.mem_append_left _ hx)
  rw [Try.params7] at hA hval
  obtain ⟨v0, vs0, d0, ds0, p0, q0, hargs0, hds0, hp0, h0, r0⟩ := trodAll_cons hA
  obtain ⟨v1, vs1, d1, ds1, p1, q1, hargs1, hds1, hp1, h1, r1⟩ := trodAll_cons r0
  obtain ⟨v2, vs2, d2, ds2, p2, q2, hargs2, hds2, hp2, h2, r2⟩ := trodAll_cons r1
  obtain ⟨v3, vs3, d3, ds3, p3, q3, hargs3, hds3, hp3, h3, r3⟩ := trodAll_cons r2
  obtain ⟨e1, e2, e3⟩ := trodAll_nil r3
  obtain rfl : args = #[v0, v1, v2, v3] := by cases args; simp_all
  obtain rfl : ds = [d0, d1, d2, d3] := by simp_all
  obtain ⟨rfl, rfl⟩ := trodVars_none hV
  simp only [List.append_nil] at hW'
  skip
  obtain ⟨a0, b0, g0, l0, gb0, lb0, rp0⟩ := open_tabl (hval 0 58 v0 rfl rfl) h0
  obtain ⟨n1, hn1⟩ := h1
  obtain ⟨a1, g1, l1, rp1, _⟩ := open_mat hn1
  obtain ⟨n2, hn2⟩ := h2
  obtain ⟨a2, g2, l2, rp2, _⟩ := open_vec hn2
  obtain ⟨a3, rfl, rfl, rfl, w3⟩ := open_int Try.underlying2 (hval 3 2 v3 rfl rfl) h3
  have cc : Con Try.prog 7 [.agg [.sl a0.length (mat a0), .sl b0.length (avs b0)], .sl a1.length (mat a1), .sl a2.length (avs a2), .val (.int .i64 a3)] (.bool true) := law20_c a0 b0 a1 a2 a3 l0 (fun r hr => (g0 r hr).2) lb0 l1 (fun r hr => (g1 r hr).2) l2
  refine (Con.calls cc (vs := [v0, v1, v2, .int .i64 a3]) rfl (fun tm oss => .cons _ _ [] _ _ [] (rp0 tm oss) (.cons _ _ [] _ _ [] (repV Try.underlying30 (hval 1 30 v1 rfl rfl) rp1) (.cons _ _ [] _ _ [] (repV Try.underlying27 (hval 2 27 v2 rfl rfl) rp2) (.cons _ _ [] _ _ [] (.cell _ _ _ (.val _ rfl)) (.nil _)))))).mono fun e W' ⟨he, hg⟩ => ?_
  subst he
  exact ⟨_, rfl, Go.Abs.post_of_below (pa := p) (pv := []) hW' (fun _ _ _ => (trodAll_cons_mk (shut_bool Try.underlying4 _) trodAll_mk0)) (fun s hs => args_again kids full (by kernel_rfl) hg hA1 hlt hs) (fun _ _ => rfl) (by simp)
    hg (ok_one (by kernel_rfl) rfl (okWide_bool_mk Try.underlying4 _))⟩

theorem over : Rows.fnExactLinearStepRow.holds Try.pinned (OpenSpec.ofChange Rows.fnExactLinearStepSpec) :=
  OpenClaim.holds_of_wide 7 Try.f7 rfl rfl rfl rfl rfl rfl rfl ⟨rfl, rfl, rfl, rfl, rfl⟩ rfl rfl rfl rfl rfl (by kernel_rfl) Try.func7 (by kernel_rfl)
    (of_decide_eq_true (by kernel_rfl)) (by unfold Func.isWrapper; first | (rw [if_pos (by decide +kernel)]; kernel_rfl) | (rw [if_neg (by decide +kernel)]; exact ⟨rfl, rfl⟩))
    (fun os started H enc _ => lifted os started H enc)

theorem proved : Rows.FnExactLinearStepSaid :=
  over
end Go.Proofs.Ytmojbncbbnjblaa.fnExactLinearStep
