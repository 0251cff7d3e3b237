/- The statement's function over the exponential's rational approximations, walked: it answers true. -/
import Derived.Test.YtdhnnpohpfjaiaaC3
namespace Go.Proofs.Ytdhnnpohpfjaiaa
open Go.Abs
set_option linter.unusedVariables false
set_option linter.unusedSimpArgs false
set_option maxHeartbeats 1000000
theorem law2_c (m n : Int) : Con Try.prog 4 [.int m, .int n] (.bool true) := by
  refine con_of_vc Try.mixed ⟨16, [], [13]⟩ Try.func4 (by decide) rfl (by simp) (by decide) rfl ?_
  rw [Try.ntmps4]
  simp [go_sem]
  refine CallVC.of (specExponentialPade_c _ _) (by decide) ?_
  have hc := ExponentialPade_c m n
  generalize hp : pade m n = r at hc
  unfold pade at hp
  by_cases h : 0 ≤ m ∧ m ≤ 8 ∧ 0 ≤ n ∧ n ≤ 8
  · rw [if_pos h] at hp
    subst hp
    generalize hx : padeL false m.toNat n.toNat (m.toNat + 1) = xs at hc
    generalize hy : padeL true n.toNat m.toNat (n.toNat + 1) = ys at hc
    have lx : m.toNat + 1 = xs.length := by rw [← hx]; simp
    have ly : n.toNat + 1 = ys.length := by rw [← hy]; simp
    rw [lx, ly] at hc
    rw [lx, ly]
    have bx : xs.length ≤ 9 := by omega
    have bY : ys.length ≤ 9 := by omega
    have e1 := eqInt64S_c xs xs (by omega)
    have e2 := eqInt64S_c ys ys (by omega)
    have m1 := markInt64S_c 2 xs 1 (by omega) (by omega)
    have m2 := markInt64S_c 2 ys (1 + xs.length) (by omega) (by omega)
    have t1 := heldInt64S_c ((List.range xs.length).map (fun (i : Nat) => 1 + (i : Int))) 1 (by omega) (by simp; omega)
    have t2 := heldInt64S_c ((List.range ys.length).map (fun (i : Nat) => 1 + (xs.length : Int) + i)) (1 + xs.length) (by omega) (by simp; omega)
    rw [held_mark, List.length_map, List.length_range] at t1 t2
    have h1 : ¬ (1 + (xs.length : Int) < 0) := by omega
    have h2 : ¬ (1 + (xs.length : Int) + ys.length < 0) := by omega
    simp [go_sem]
    refine CallVC.of hc (by decide) ?_
    simp [go_sem]
    refine CallVC.of e1 (by decide) ?_
    simp [go_sem]
    refine CallVC.of e2 (by decide) ?_
    simp [go_sem]
    refine ⟨_, _, m1, ?_⟩
    simp [go_sem]
    refine ⟨_, _, m2, ?_⟩
    simp [go_sem]
    refine CallVC.of t1 (by decide) ?_
    simp [go_sem, h1]
    refine CallVC.of t2 (by decide) ?_
    simp [go_sem, h2]
    refine CallVC.of hc (by decide) ?_
    simp [go_sem]
    refine CallVC.of e1 (by decide) ?_
    simp [go_sem]
    refine CallVC.of e2 (by decide) ?_
    simp [go_sem]
    refine CallVC.of t1 (by decide) ?_
    simp [go_sem, h1]
    refine CallVC.of t2 (by decide) ?_
    simp [go_sem, h2]
  · rw [if_neg h] at hp
    subst hp
    have e := eqInt64S_c [] [] (by simp)
    have t := heldInt64S_c [] 1 (by omega) (by simp)
    simp [held] at e t
    simp [go_sem]
    refine CallVC.of hc (by decide) ?_
    simp [go_sem]
    refine CallVC.of e (by decide) ?_
    simp [go_sem]
    refine CallVC.of e (by decide) ?_
    simp [go_sem]
    refine ⟨_, _, markInt64S_0 1, ?_⟩
    simp [go_sem]
    refine ⟨_, _, markInt64S_0 1, ?_⟩
    simp [go_sem]
    refine CallVC.of t (by decide) ?_
    simp [go_sem]
    refine CallVC.of t (by decide) ?_
    simp [go_sem]
    refine CallVC.of hc (by decide) ?_
    simp [go_sem]
    refine CallVC.of e (by decide) ?_
    simp [go_sem]
    refine CallVC.of e (by decide) ?_
    simp [go_sem]
    refine CallVC.of t (by decide) ?_
    simp [go_sem]
    refine CallVC.of t (by decide) ?_
    simp [go_sem]
end Go.Proofs.Ytdhnnpohpfjaiaa
