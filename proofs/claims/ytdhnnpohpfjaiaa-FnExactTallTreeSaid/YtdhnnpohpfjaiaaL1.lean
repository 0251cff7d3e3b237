/- The statement's function over tall trees, walked: it answers true. -/
import Derived.Test.YtdhnnpohpfjaiaaC1
namespace Go.Proofs.Ytdhnnpohpfjaiaa
open Go.Abs
set_option maxHeartbeats 1000000
theorem law1_c (n : Int) : Con Try.prog 3 [.int n] (.bool true) := by
  refine con_of_vc Try.mixed ⟨11, [], [13]⟩ Try.func3 (by decide) rfl (by simp) (by decide) rfl ?_
  rw [Try.ntmps3]
  simp [go_sem]
  refine CallVC.of (specTallTree_c _) (by decide) ?_
  unfold tall
  by_cases hn : 1 ≤ n ∧ n ≤ 8
  · have hl : (AV.tup [.own 2 n.toNat (avs (upTo n.toNat)), .int 0]) = tall n := by unfold tall; rw [if_pos hn]
    obtain ⟨k, rfl⟩ : ∃ k : Nat, n = k := ⟨n.toNat, by omega⟩
    rw [Int.toNat_natCast] at hl
    have e := eqInt64S_c (upTo k) (upTo k) (by simp; omega)
    have m := markInt64S_c 2 (upTo k) 1 (by omega) (by simp; omega)
    have t := heldInt64S_c ((List.range k).map (fun (i : Nat) => 1 + (i : Int))) 1 (by omega) (by simp; omega)
    have hc := TallTree_c k
    rw [← hl] at hc
    rw [upTo_len] at e m
    rw [held_mark, List.length_map, List.length_range] at t
    rw [if_pos hn]
    simp [go_sem]
    refine CallVC.of hc (by decide) ?_
    simp [go_sem]
    refine CallVC.of e (by decide) ?_
    simp [go_sem]
    refine ⟨_, _, m, ?_⟩
    simp [go_sem]
    refine CallVC.of t (by decide) ?_
    have h1 : ¬ (1 + (k : Int) < 0) := by omega
    simp [go_sem, h1]
    refine CallVC.of hc (by decide) ?_
    simp [go_sem]
    refine CallVC.of e (by decide) ?_
    simp [go_sem]
    refine CallVC.of t (by decide) ?_
    simp [go_sem, h1]
  · have hl : (AV.tup [.val (.slice none 0 0), .int 2]) = tall n := by unfold tall; rw [if_neg hn]
    have e := eqInt64S_c [] [] (by simp)
    have t := heldInt64S_c [] 1 (by omega) (by simp)
    have hc := TallTree_c n
    rw [← hl] at hc
    simp at e t
    rw [if_neg hn]
    simp [go_sem]
    refine CallVC.of hc (by decide) ?_
    simp [go_sem]
    refine CallVC.of e (by decide) ?_
    simp [go_sem]
    refine ⟨_, _, markInt64S_0 1, ?_⟩
    simp [go_sem]
    refine CallVC.of t (by decide) ?_
    simp [go_sem, held]
    refine CallVC.of hc (by decide) ?_
    simp [go_sem]
    refine CallVC.of e (by decide) ?_
    simp [go_sem]
    refine CallVC.of t (by decide) ?_
    simp [go_sem, held]
end Go.Proofs.Ytdhnnpohpfjaiaa
