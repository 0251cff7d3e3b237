/- Texts of the own layer and contracts, part 7: W0 E10 B0 B1 B10 B11 B12 B13 E8 B2 B3 C3 B4 B5 B6 B7 B8 B9 B14 B15 B16 R1 R2 R3 R7 R8 R9 E9 E3 E12 E27 Q36 Q35 Q37 Q38 E34 E28 U3 T0 T1 T2 T3 W17 R4 W16 W20 E11 W21 T4 V2 V0 V1 W1 W3 W22 W23 W24 W40 W41 W42 O. -/
import Derived.Test.YtnokgijakdaehaaGreatDoorRows
import Derived.WalkKit
import Derived.ProofKit
import Derived.OpenShut
import Derived.Test.YtnokgijakdaehaaGreatDoorM6
namespace Go.Proofs.YtnokgijakdaehaaGreatDoor
open Go.Abs
set_option linter.unusedSectionVars false
set_option linter.unusedVariables false
set_option linter.unusedSimpArgs false
set_option maxHeartbeats 1000000
def bys (c : List Int) : List AV := c.map fun x => .val (.int .u8 x)
@[simp] theorem bys_len (c : List Int) : (bys c).length = c.length := by simp [bys]
theorem bys_drop {c : List Int} {k : Nat} (h : k < c.length) : (bys c).drop k = .val (.int .u8 (c[k]?.getD 0)) :: bys (c.drop (k + 1)) := by
  rw [bys, ← List.map_drop, List.drop_eq_getElem_cons h, List.map_cons]; simp [h, bys]
def Byt (c : List Int) : Prop := c.length ≤ 4096 ∧ ∀ x ∈ c, 0 ≤ x ∧ x ≤ 255
theorem Byt.get {c : List Int} (h : Byt c) (k : Nat) : 0 ≤ c[k]?.getD 0 ∧ c[k]?.getD 0 ≤ 255 := by
  rcases Nat.lt_or_ge k c.length with hk | hk
  · simp [hk]; exact h.2 _ (List.getElem_mem hk)
  · simp [hk]
abbrev Src := Nat × Int
def srcA (c : List Int) (σ : Src) : AV := .box 136 [.sl c.length (bys c), .int σ.1, .val (.int .u64 σ.2)]
theorem srcA_eq (c : List Int) (σ : Src) : srcA c σ = .box 136 [.sl c.length (bys c), .int σ.1, .val (.int .u64 σ.2)] := rfl
def dicA (c : List Int) (σ : Src) : AV := .box 110 [.sl c.length (bys c), .int σ.1, .val (.int .u64 σ.2)]
def nxH (h : Int) : Int := IntKind.u64.wrap (IntKind.u64.wrap (h * 6364136223846793005) + 1442695040888963407)
def nxX (h : Int) : Int := andI IntKind.u64 (shrI IntKind.u64 (nxH h) 33) 16777215
def byV (c : List Int) (k : Nat) : Int := if k < c.length then c[k]?.getD 0 else 0
def nx1 (c : List Int) (σ : Src) (n : Int) : Int := if n < 1 then 0 else (nxX σ.2 + byV c σ.1).tmod n
def nx2 (c : List Int) (σ : Src) (n : Int) : Src := if n < 1 then σ else (if σ.1 < c.length then σ.1 + 1 else σ.1, nxH σ.2)
def SOk (σ : Src) : Prop := σ.1 ≤ 4096
theorem nx2_ok {c : List Int} (hc : Byt c) {σ : Src} (h : SOk σ) (n : Int) : SOk (nx2 c σ n) := by
  unfold SOk nx2 at *
  have := hc.1
  split
  · exact h
  · simp only; split <;> omega
theorem nxX_b (h : Int) : 0 ≤ nxX h ∧ nxX h ≤ 16777215 := by
  unfold nxX andI
  generalize shrI IntKind.u64 (nxH h) 33 = y
  have h1 : (BitVec.ofInt IntKind.u64.bits y &&& BitVec.ofInt IntKind.u64.bits 16777215).toNat ≤ 16777215 := by
    rw [BitVec.toNat_and]
    exact Nat.le_trans Nat.and_le_right (by decide)
  generalize (BitVec.ofInt IntKind.u64.bits y &&& BitVec.ofInt IntKind.u64.bits 16777215).toNat = m at *
  simp [IntKind.wrap, IntKind.signed, IntKind.bits]
  omega
theorem byV_b {c : List Int} (hc : Byt c) (k : Nat) : 0 ≤ byV c k ∧ byV c k ≤ 255 := by
  unfold byV
  split
  · exact hc.get k
  · omega
theorem nx1_b {c : List Int} (hc : Byt c) (σ : Src) {n : Int} (hn : 1 ≤ n) : 0 ≤ nx1 c σ n ∧ nx1 c σ n < n := by
  have h1 := nxX_b σ.2
  have h2 := byV_b hc σ.1
  unfold nx1
  rw [if_neg (by omega), Int.tmod_eq_emod_of_nonneg (by omega)]
  exact ⟨Int.emod_nonneg _ (by omega), Int.emod_lt_of_pos _ (by omega)⟩
set_option maxRecDepth 100000 in
theorem l01Next_c (c : List Int) (σ : Src) (n : Int) (hc : Byt c) (hs : SOk σ) : GCon Tryz.prog 38 [srcA c σ, .int n] (.int (nx1 c σ n)) [srcA c (nx2 c σ n), .any] := by
  have hx := nxX_b σ.2
  have hy := byV_b hc σ.1
  have hcl := hc.1
  unfold SOk at hs
  unfold nx1 nx2
  by_cases h0 : n < 1
  · rw [if_pos h0, if_pos h0]
    unfold srcA
    refine gcon_of_vc Tryz.mixed ⟨6, [], [], []⟩ [4] [0] Tryz.func38 (by decide) rfl rfl (by simp) (by simp) (by decide) ?_
    rw [Tryz.ntmps38]
    simp [go_sem]
    simp [go_sem, h0]
  · rw [if_neg h0, if_neg h0]
    unfold srcA
    have e1 : nxH σ.2 = IntKind.u64.wrap (IntKind.u64.wrap (σ.2 * 6364136223846793005) + 1442695040888963407) := rfl
    have e2 : nxX σ.2 = andI IntKind.u64 (shrI IntKind.u64 (nxH σ.2) 33) 16777215 := rfl
    generalize nxX σ.2 = x at *
    generalize nxH σ.2 = h' at *
    have n0 : ¬ n = 0 := by omega
    by_cases hk : σ.1 < c.length
    · have hb : byV c σ.1 = c[σ.1]?.getD 0 := by unfold byV; rw [if_pos hk]
      have hne : ¬ c = [] := by rintro rfl; simp at hk
      rw [if_pos hk]
      rw [hb] at hy ⊢
      refine gcon_of_vc Tryz.mixed ⟨6, [], [], []⟩ [4] [0] Tryz.func38 (by decide) rfl rfl (by simp) (by simp) (by decide) ?_
      rw [Tryz.ntmps38]
      simp [go_sem]
      simp [go_sem, h0, ← e1, ← e2]
      refine ⟨⟨by omega, by omega⟩, by kernel_rfl, ?_⟩
      refine ⟨by kernel_rfl, ?_⟩
      simp [go_sem]
      have hD := bys_drop hk
      generalize c[σ.1]?.getD 0 = b at *
      simp [go_sem, hk, hD]
      refine ⟨by kernel_rfl, by intro e; exact hne (by simpa [bys] using e), ⟨by omega, by omega⟩, ⟨by omega, by omega⟩, ?_⟩
      refine ⟨by kernel_rfl, ?_⟩
      simp [go_sem]
      exact ⟨⟨by omega, by omega⟩, n0⟩
    · have hb : byV c σ.1 = 0 := by unfold byV; rw [if_neg hk]
      rw [if_neg hk]
      rw [hb] at hy ⊢
      refine gcon_of_vc Tryz.mixed ⟨6, [], [], []⟩ [4] [0] Tryz.func38 (by decide) rfl rfl (by simp) (by simp) (by decide) ?_
      rw [Tryz.ntmps38]
      simp [go_sem]
      simp [go_sem, h0, ← e1, ← e2]
      refine ⟨⟨by omega, by omega⟩, by kernel_rfl, ?_⟩
      refine ⟨by kernel_rfl, ?_⟩
      simp [go_sem]
      simp [go_sem, hk]
      exact n0
set_option maxRecDepth 100000 in
theorem below_c (c : List Int) (σ : Src) (n : Int) (hc : Byt c) (hs : SOk σ) : GCon Tryz.prog 25 [dicA c σ, .int n] (.int (nx1 c σ n)) [dicA c (nx2 c σ n), .any] := by
  have hx := nxX_b σ.2
  have hy := byV_b hc σ.1
  have hcl := hc.1
  unfold SOk at hs
  unfold nx1 nx2
  by_cases h0 : n < 1
  · rw [if_pos h0, if_pos h0]
    unfold dicA
    refine gcon_of_vc Tryz.mixed ⟨6, [], [], []⟩ [4] [0] Tryz.func25 (by decide) rfl rfl (by simp) (by simp) (by decide) ?_
    rw [Tryz.ntmps25]
    simp [go_sem]
    simp [go_sem, h0]
  · rw [if_neg h0, if_neg h0]
    unfold dicA
    have e1 : nxH σ.2 = IntKind.u64.wrap (IntKind.u64.wrap (σ.2 * 6364136223846793005) + 1442695040888963407) := rfl
    have e2 : nxX σ.2 = andI IntKind.u64 (shrI IntKind.u64 (nxH σ.2) 33) 16777215 := rfl
    generalize nxX σ.2 = x at *
    generalize nxH σ.2 = h' at *
    have n0 : ¬ n = 0 := by omega
    by_cases hk : σ.1 < c.length
    · have hb : byV c σ.1 = c[σ.1]?.getD 0 := by unfold byV; rw [if_pos hk]
      have hne : ¬ c = [] := by rintro rfl; simp at hk
      rw [if_pos hk]
      rw [hb] at hy ⊢
      refine gcon_of_vc Tryz.mixed ⟨6, [], [], []⟩ [4] [0] Tryz.func25 (by decide) rfl rfl (by simp) (by simp) (by decide) ?_
      rw [Tryz.ntmps25]
      simp [go_sem]
      simp [go_sem, h0, ← e1, ← e2]
      refine ⟨⟨by omega, by omega⟩, by kernel_rfl, ?_⟩
      refine ⟨by kernel_rfl, ?_⟩
      simp [go_sem]
      have hD := bys_drop hk
      generalize c[σ.1]?.getD 0 = b at *
      simp [go_sem, hk, hD]
      refine ⟨by kernel_rfl, by intro e; exact hne (by simpa [bys] using e), ⟨by omega, by omega⟩, ⟨by omega, by omega⟩, ?_⟩
      refine ⟨by kernel_rfl, ?_⟩
      simp [go_sem]
      exact ⟨⟨by omega, by omega⟩, n0⟩
    · have hb : byV c σ.1 = 0 := by unfold byV; rw [if_neg hk]
      rw [if_neg hk]
      rw [hb] at hy ⊢
      refine gcon_of_vc Tryz.mixed ⟨6, [], [], []⟩ [4] [0] Tryz.func25 (by decide) rfl rfl (by simp) (by simp) (by decide) ?_
      rw [Tryz.ntmps25]
      simp [go_sem]
      simp [go_sem, h0, ← e1, ← e2]
      refine ⟨⟨by omega, by omega⟩, by kernel_rfl, ?_⟩
      refine ⟨by kernel_rfl, ?_⟩
      simp [go_sem]
      simp [go_sem, hk]
      exact n0
theorem getI {xs : List Int} {v : Int} (h0 : 0 ≤ v) (h1 : v < xs.length) : ∃ k : Nat, v = k ∧ k < xs.length ∧ v.toNat = k := ⟨v.toNat, by omega, by omega, rfl⟩
def pk (c : List Int) (σ : Src) (xs : List Int) : Int := xs[(nx1 c σ xs.length).toNat]?.getD 0
theorem pk_mem (c : List Int) (hc : Byt c) (σ : Src) {xs : List Int} (hx : 0 < xs.length) : pk c σ xs ∈ xs := by
  have h := nx1_b hc σ (n := xs.length) (by omega)
  unfold pk
  have hk : (nx1 c σ xs.length).toNat < xs.length := by omega
  simp [hk]
set_option maxRecDepth 100000 in
theorem l01Pick_c (c : List Int) (σ : Src) (xs : List Int) (hc : Byt c) (hs : SOk σ) (hx : 0 < xs.length) (hxl : xs.length ≤ 1000) :
    GCon Tryz.prog 108 [srcA c σ, .own 2 xs.length (avs xs)] (.int (pk c σ xs)) [srcA c (nx2 c σ xs.length), .any] := by
  have cN := l01Next_c c σ xs.length hc hs
  have hb := nx1_b hc σ (n := xs.length) (by omega)
  unfold pk
  obtain ⟨k, hk, hkl, hkt⟩ := getI hb.1 hb.2
  rw [hkt]
  rw [hk] at cN
  unfold srcA at *
  refine gcon_of_vc Tryz.mixed ⟨5, [], [1000000 + 38], []⟩ [4] [0] Tryz.func108 (by decide) rfl rfl (by simp) (by simp) (by decide) ?_
  rw [Tryz.ntmps108]
  simp [go_sem]
  refine ⟨_, _, cN, ?_⟩
  simp [go_sem]
  have hA := avs_at hkl
  simp [go_sem, hA]
  exact hkl
theorem l01Frac_c (p q : Int) (hp : fits p) (hq : fits q) : Con Tryz.prog 168 [.int p, .int q] (.int (p % 10007 * pw (q % 10007) 10005 % 10007)) := by
  have hf : fits (p % 10007 * pw (q % 10007) 10005) := mul_fits (isN_mod _) (isN_mod _)
  refine con_of_vc Tryz.mixed ⟨5, [], [], []⟩ Tryz.func168 (by decide) rfl (by simp) (by decide) (by simp [freshOK, freshL, go_sem]) ?_
  rw [Tryz.ntmps168]
  simp [go_sem]
  refine CallVC.of (l01Mod_c p hp.1 hp.2) (by decide) ?_
  simp [go_sem]
  refine CallVC.of (l01Mod_c q hq.1 hq.2) (by decide) ?_
  simp [go_sem]
  refine CallVC.of (l01Inv_c _ (isN_mod q)) (by decide) ?_
  simp [go_sem]
  refine CallVC.of (l01Mul_c _ _ hf) (by decide) ?_
  simp [go_sem]
def nbV (c : List Int) (σ : Src) : Int × Src :=
  if nx1 c σ 5 = 0 then (nx1 c (nx2 c σ 5) 10007, nx2 c (nx2 c σ 5) 10007)
  else if nx1 c σ 5 = 1 then (pk c (nx2 c σ 5) [0, 1, 0, 1, 10006, 2], nx2 c (nx2 c σ 5) 6)
  else ((nx1 c (nx2 c σ 5) 15 - 7) % 10007 * pw ((1 + nx1 c (nx2 c (nx2 c σ 5) 15) 12) % 10007) 10005 % 10007, nx2 c (nx2 c (nx2 c σ 5) 15) 12)
theorem nbV_ok {c : List Int} (hc : Byt c) {σ : Src} (hs : SOk σ) : isN (nbV c σ).1 ∧ SOk (nbV c σ).2 := by
  have s1 := nx2_ok hc hs 5
  unfold nbV
  split
  · exact ⟨nx1_b hc (nx2 c σ 5) (n := 10007) (by omega), nx2_ok hc s1 _⟩
  · split
    · refine ⟨?_, nx2_ok hc s1 _⟩
      have := pk_mem c hc (nx2 c σ 5) (xs := [0, 1, 0, 1, 10006, 2]) (by simp)
      simp at this
      simp only
      constructor <;> omega
    · exact ⟨isN_mod _, nx2_ok hc (nx2_ok hc s1 _) _⟩
set_option maxRecDepth 100000 in
theorem l01Number_c (c : List Int) (σ : Src) (hc : Byt c) (hs : SOk σ) : GCon Tryz.prog 110 [srcA c σ] (.int (nbV c σ).1) [srcA c (nbV c σ).2] := by
  have s1 := nx2_ok hc hs 5
  have s2 := nx2_ok hc s1 15
  have c1 := l01Next_c c σ 5 hc hs
  have c2 := l01Next_c c (nx2 c σ 5) 10007 hc s1
  have c3 := l01Pick_c c (nx2 c σ 5) [0, 1, 0, 1, 10006, 2] hc s1 (by simp) (by simp)
  have c4 := l01Next_c c (nx2 c σ 5) 15 hc s1
  have c5 := l01Next_c c (nx2 c (nx2 c σ 5) 15) 12 hc s2
  have b4 := nx1_b hc (nx2 c σ 5) (n := 15) (by omega)
  have b5 := nx1_b hc (nx2 c (nx2 c σ 5) 15) (n := 12) (by omega)
  have c6 := l01Frac_c (nx1 c (nx2 c σ 5) 15 - 7) (1 + nx1 c (nx2 c (nx2 c σ 5) 15) 12) ⟨by omega, by omega⟩ ⟨by omega, by omega⟩
  unfold nbV
  have e3 : (([0, 1, 0, 1, 10006, 2] : List Int).length : Int) = 6 := rfl
  rw [e3] at c3
  generalize pk c (nx2 c σ 5) [0, 1, 0, 1, 10006, 2] = pv at *
  generalize nx1 c (nx2 c (nx2 c σ 5) 15) 12 = v5 at *
  generalize nx2 c (nx2 c (nx2 c σ 5) 15) 12 = t5 at *
  generalize nx1 c (nx2 c σ 5) 15 = v4 at *
  generalize nx2 c (nx2 c σ 5) 15 = t4 at *
  generalize nx2 c (nx2 c σ 5) 6 = t3 at *
  generalize nx1 c (nx2 c σ 5) 10007 = v2 at *
  generalize nx2 c (nx2 c σ 5) 10007 = t2 at *
  generalize nx1 c σ 5 = v1 at *
  generalize nx2 c σ 5 = t1 at *
  unfold srcA at *
  by_cases h0 : v1 = 0
  · rw [if_pos h0]
    refine gcon_of_vc Tryz.mixed ⟨3, [], [1000000 + 38, 1000000 + 108], []⟩ [2] [0] Tryz.func110 (by decide) rfl rfl (by simp) (by simp) (by decide) ?_
    rw [Tryz.ntmps110]
    simp [go_sem]
    refine ⟨_, _, c1, ?_⟩
    simp [go_sem]
    simp [go_sem, h0]
    refine ⟨_, _, c2, ?_⟩
    simp [go_sem]
  · rw [if_neg h0]
    by_cases h1 : v1 = 1
    · rw [if_pos h1]
      refine gcon_of_vc Tryz.mixed ⟨3, [], [1000000 + 38, 1000000 + 108], []⟩ [2] [0] Tryz.func110 (by decide) rfl rfl (by simp) (by simp) (by decide) ?_
      rw [Tryz.ntmps110]
      simp [go_sem]
      refine ⟨_, _, c1, ?_⟩
      simp [go_sem]
      simp [go_sem, h0, h1]
      refine ⟨_, _, c3, ?_⟩
      simp [go_sem]
    · rw [if_neg h1]
      refine gcon_of_vc Tryz.mixed ⟨3, [], [1000000 + 38, 1000000 + 108], []⟩ [2] [0] Tryz.func110 (by decide) rfl rfl (by simp) (by simp) (by decide) ?_
      rw [Tryz.ntmps110]
      simp [go_sem]
      refine ⟨_, _, c1, ?_⟩
      simp [go_sem]
      simp [go_sem, h0, h1]
      refine ⟨_, _, c4, ?_⟩
      simp [go_sem]
      refine ⟨⟨by omega, by omega⟩, ?_⟩
      refine ⟨_, _, c5, ?_⟩
      simp [go_sem]
      refine ⟨⟨by omega, by omega⟩, ?_⟩
      refine CallVC.of (c6) (by decide) ?_
      simp [go_sem]
theorem mod5_c (n : Int) (h0 : -9223372036854775808 ≤ n) (h1 : n ≤ 9223372036854775807) : Con Tryz.prog 13 [.int n] (.int (n % 10007)) := by
  have e := num_law n
  have b := num_low n
  refine con_of_vc Tryz.mixed ⟨3, [], [], []⟩ Tryz.func13 (by decide) rfl (by simp) (by decide) (by simp [freshOK, freshL, go_sem]) ?_
  rw [Tryz.ntmps13]
  simp [go_sem]
  simp [go_sem, e]
  omega
def n5V (c : List Int) (σ : Src) : Int × Src :=
  if nx1 c σ 2 = 0 then (nx1 c (nx2 c σ 2) 10007, nx2 c (nx2 c σ 2) 10007)
  else ((nx1 c (nx2 c σ 2) 9 - 4) % 10007, nx2 c (nx2 c σ 2) 9)
theorem n5V_ok {c : List Int} (hc : Byt c) {σ : Src} (hs : SOk σ) : isN (n5V c σ).1 ∧ SOk (n5V c σ).2 := by
  have s1 := nx2_ok hc hs 2
  unfold n5V
  split
  · exact ⟨nx1_b hc (nx2 c σ 2) (n := 10007) (by omega), nx2_ok hc s1 _⟩
  · exact ⟨isN_mod _, nx2_ok hc s1 _⟩
set_option maxRecDepth 100000 in
theorem number5_c (c : List Int) (σ : Src) (hc : Byt c) (hs : SOk σ) : GCon Tryz.prog 100 [dicA c σ] (.int (n5V c σ).1) [dicA c (n5V c σ).2] := by
  have s1 := nx2_ok hc hs 2
  have c1 := below_c c σ 2 hc hs
  have c2 := below_c c (nx2 c σ 2) 10007 hc s1
  have c4 := below_c c (nx2 c σ 2) 9 hc s1
  have b4 := nx1_b hc (nx2 c σ 2) (n := 9) (by omega)
  have c6 := mod5_c (nx1 c (nx2 c σ 2) 9 - 4) (by omega) (by omega)
  unfold n5V
  generalize nx1 c (nx2 c σ 2) 9 = v4 at *
  generalize nx2 c (nx2 c σ 2) 9 = t4 at *
  generalize nx1 c (nx2 c σ 2) 10007 = v2 at *
  generalize nx2 c (nx2 c σ 2) 10007 = t2 at *
  generalize nx1 c σ 2 = v1 at *
  generalize nx2 c σ 2 = t1 at *
  unfold dicA at *
  by_cases h0 : v1 = 0
  · rw [if_pos h0]
    refine gcon_of_vc Tryz.mixed ⟨3, [], [1000000 + 25], []⟩ [2] [0] Tryz.func100 (by decide) rfl rfl (by simp) (by simp) (by decide) ?_
    rw [Tryz.ntmps100]
    simp [go_sem]
    refine ⟨_, _, c1, ?_⟩
    simp [go_sem]
    simp [go_sem, h0]
    refine ⟨_, _, c2, ?_⟩
    simp [go_sem]
  · rw [if_neg h0]
    refine gcon_of_vc Tryz.mixed ⟨3, [], [1000000 + 25], []⟩ [2] [0] Tryz.func100 (by decide) rfl rfl (by simp) (by simp) (by decide) ?_
    rw [Tryz.ntmps100]
    simp [go_sem]
    refine ⟨_, _, c1, ?_⟩
    simp [go_sem]
    simp [go_sem, h0]
    refine ⟨_, _, c4, ?_⟩
    simp [go_sem]
    refine ⟨⟨by omega, by omega⟩, ?_⟩
    refine CallVC.of (c6) (by decide) ?_
    simp [go_sem]
def lsV (f : Src → Int × Src) : Nat → Src → List Int × Src
  | 0, σ => ([], σ)
  | n + 1, σ => ((f σ).1 :: (lsV f n (f σ).2).1, (lsV f n (f σ).2).2)
theorem lsV_ok {f : Src → Int × Src} (hf : ∀ σ, SOk σ → isN (f σ).1 ∧ SOk (f σ).2) : ∀ (n : Nat) (σ : Src), SOk σ → (lsV f n σ).1.length = n ∧ Ns (lsV f n σ).1 ∧ SOk (lsV f n σ).2
  | 0, σ, h => ⟨rfl, by simp [lsV, Ns], h⟩
  | n + 1, σ, h => by
    have h1 := hf σ h
    have h2 := lsV_ok hf n _ h1.2
    refine ⟨by simp [lsV, h2.1], fun x hx => ?_, h2.2.2⟩
    rcases List.mem_cons.1 hx with rfl | hx
    · exact h1.1
    · exact h2.2.1 x hx
set_option maxRecDepth 100000 in
theorem list5_c (c : List Int) (σ : Src) (n : Nat) (hc : Byt c) (hs : SOk σ) (hn : n ≤ 100000) :
    GCon Tryz.prog 32 [dicA c σ, .int n] (.own 2 n (avs (lsV (n5V c) n σ).1)) [dicA c (lsV (n5V c) n σ).2, .any] := by
  unfold dicA
  refine gcon_of_vc Tryz.mixed ⟨6, [], [1000000 + 100], []⟩ [4] [0] Tryz.func32 (by decide) rfl rfl (by simp) (by simp) (by decide) ?_
  rw [Tryz.ntmps32]
  simp [go_sem]
  refine loop_inv (0 :: 1 :: 5 :: List.range' 7 9) (fun x : List Int × Src × Nat => [(0, .box 110 [.sl c.length (bys c), .int x.2.1.1, .val (.int .u64 x.2.1.2)]), (1, .int x.2.2), (5, .own 2 x.1.length (avs x.1))]) (fun x => SOk x.2.1 ∧ x.1.length + x.2.2 = n ∧ x.1 ++ (lsV (n5V c) x.2.2 x.2.1).1 = (lsV (n5V c) n σ).1 ∧ (lsV (n5V c) x.2.2 x.2.1).2 = (lsV (n5V c) n σ).2) (fun x => x.2.2) ([], σ, n) ⟨hs, by simp, rfl, rfl⟩ (by simp [go_sem, avs]) (by simp [go_sem]) ?_
  rintro ⟨acc, τ, k⟩ ⟨h1, h2, h3, h4⟩
  simp only at h1 h2 h3 h4
  simp [go_sem]
  refine ⟨fun h => ?_, fun h => ?_⟩ <;> simp at h
  · obtain ⟨j, rfl⟩ : ∃ j, k = j + 1 := ⟨k - 1, by omega⟩
    have cN := number5_c c τ hc h1
    have hok := n5V_ok hc h1
    unfold dicA at cN
    simp only [lsV] at h3 h4
    generalize n5V c τ = r at *
    simp [go_sem]
    refine ⟨_, _, cN, ?_⟩
    simp [go_sem]
    refine ⟨⟨by omega, by omega⟩, by omega, acc ++ [r.1], r.2.1, r.2.2, j, ⟨hok.2, by simp; omega, by simpa using h3, h4⟩, by omega, Off_reset _ _ _ (by simp), ?_⟩
    simp [avs]
  · have e : k = 0 := by omega
    subst e
    simp only [lsV, List.append_nil] at h3 h4
    simp [go_sem]
    rw [← h3, ← h4]
    simp at h2
    simp [h2]
set_option maxRecDepth 100000 in
theorem l01From_r (c : List Int) (hc : Byt c) : RCon Tryz.prog 36 [.sl c.length (bys c)] (fun r o => o = [.any] ∧ ∃ h, r = srcA c (0, h)) := by
  have hcl := hc.1
  unfold srcA
  refine rcon_of_vcH Tryz.mixed ⟨5, [], [], []⟩ [] Tryz.func36 (by decide) rfl (by simp) (by simp) (by decide) ?_
  rw [Tryz.ntmps36]
  simp [go_sem]
  refine loop_inv (3 :: 4 :: List.range' 12 25) (fun x : Nat × Int => [(3, .box 136 [.sl c.length (bys c), .int 0, .val (.int .u64 x.2)]), (4, .int x.1)]) (fun x => x.1 ≤ c.length) (fun x => c.length - x.1) (0, IntKind.u64.wrap (5381 + IntKind.u64.wrap c.length)) (by simp) (by simp [go_sem]) (by simp [go_sem]) ?_
  rintro ⟨i, h⟩ hi
  simp only at hi
  by_cases hic : i < c.length
  · have h4 : (i : Int) < 4096 := by omega
    have hne : ¬ c = [] := by rintro rfl; simp at hic
    have hD := bys_drop hic
    have hb := hc.get i
    generalize c[i]?.getD 0 = b at *
    simp [go_sem, hic, h4, hD]
    refine ⟨by kernel_rfl, by intro e; exact hne (by simpa [bys] using e), ?_⟩
    refine ⟨by kernel_rfl, ?_⟩
    simp [go_sem]
    exact ⟨⟨by omega, by omega⟩, i + 1, by omega, by omega, Off_reset _ _ _ (by simp), by omega⟩
  · simp [go_sem, hic]
set_option maxRecDepth 100000 in
theorem likeInts_c (a b : List Int) (ha : a.length ≤ 9223372036854775807) : Con Tryz.prog 11 [.sl a.length (avs a), .sl b.length (avs b)] (.bool (decide (a = b))) := by
  by_cases hl : a.length = b.length
  · refine con_of_vc Tryz.mixed ⟨6, [], [], []⟩ Tryz.func11 (by decide) rfl (by simp) (by decide) (by simp [freshOK, freshL, go_sem]) ?_
    rw [Tryz.ntmps11]
    simp [go_sem]
    simp [go_sem, hl]
    refine loop_inv (4 :: 5 :: List.range' 11 15) (fun i : Nat => [(5, .int i)]) (fun i => i ≤ a.length ∧ ∀ j, j < i → a[j]?.getD 0 = b[j]?.getD 0) (fun i => a.length - i) 0 (by simp) (by simp [go_sem]) (by simp [go_sem]) ?_
    rintro i ⟨hi, hj⟩
    simp [go_sem]
    refine ⟨fun h => ?_, fun h => ?_⟩ <;> simp at h
    · have hia : i < a.length := by omega
      have hib : i < b.length := by omega
      have na : ¬ a = [] := by rintro rfl; simp at hia
      have nb : ¬ b = [] := by rintro rfl; simp at hib
      simp [go_sem, avs_drop hia, avs_drop hib]
      refine ⟨by kernel_rfl, ⟨hib, na⟩, ⟨hib, nb⟩, ?_⟩
      refine ⟨by kernel_rfl, ?_⟩
      simp [go_sem]
      refine ⟨fun h2 => ?_, fun h2 => ?_⟩ <;> simp at h2
      · have e : ¬ a = b := fun e => h2 (by rw [e])
        simp [go_sem, e]
      · simp [go_sem]
        refine ⟨by omega, i + 1, ⟨by omega, fun j hj2 => ?_⟩, by omega, Off_reset _ _ _ (by simp), by omega⟩
        rcases Nat.lt_or_ge j i with h3 | h3
        · exact hj j h3
        · have : j = i := by omega
          subst this
          exact h2
    · have e : a = b := by
        refine List.ext_getElem hl fun k h1 h2 => ?_
        have := hj k (by omega)
        simpa [h1, h2] using this
      simp [go_sem, e]
  · have e : ¬ a = b := fun e => hl (by rw [e])
    have hl2 : ¬ (a.length : Int) = b.length := by omega
    refine con_of_vc Tryz.mixed ⟨6, [], [], []⟩ Tryz.func11 (by decide) rfl (by simp) (by decide) (by simp [freshOK, freshL, go_sem]) ?_
    rw [Tryz.ntmps11]
    simp [go_sem]
    simp [go_sem, hl2, e]
end Go.Proofs.YtnokgijakdaehaaGreatDoor


namespace Go.Proofs.YtnokgijakdaehaaGreatDoor
open Go.Abs
set_option linter.unusedSectionVars false
set_option linter.unusedVariables false
set_option linter.unusedSimpArgs false
set_option maxHeartbeats 1000000
end Go.Proofs.YtnokgijakdaehaaGreatDoor


namespace Go.Proofs.YtnokgijakdaehaaGreatDoor
set_option linter.unusedSectionVars false
set_option linter.unusedVariables false
set_option linter.unusedSimpArgs false
set_option maxHeartbeats 1000000
abbrev Mx := Nat → Nat → Int
def sgd (i : Nat) : Int := if i % 2 = 0 then 1 else -1
theorem sgd_succ (i : Nat) : sgd (i + 1) = - sgd i := by
  unfold sgd
  by_cases h : i % 2 = 0
  · rw [if_pos h, if_neg (by omega)]
  · rw [if_neg h, if_pos (by omega)]; rfl
def dsum (f : Nat → Int) : Nat → Int
  | 0 => 0
  | n + 1 => dsum f n + f n
theorem dsum_congr {f g : Nat → Int} : ∀ {n : Nat}, (∀ i, i < n → f i = g i) → dsum f n = dsum g n
  | 0, _ => rfl
  | n + 1, h => by rw [dsum, dsum, dsum_congr (fun i hi => h i (by omega)), h n (by omega)]
theorem dsum_lin (f g : Nat → Int) (k : Int) : ∀ n : Nat, dsum (fun i => f i + k * g i) n = dsum f n + k * dsum g n
  | 0 => by simp [dsum]
  | n + 1 => by rw [dsum, dsum, dsum, dsum_lin f g k n, Int.mul_add]; omega
theorem dsum_zero {f : Nat → Int} : ∀ {n : Nat}, (∀ i, i < n → f i = 0) → dsum f n = 0
  | 0, _ => rfl
  | n + 1, h => by rw [dsum, dsum_zero (fun i hi => h i (by omega)), h n (by omega)]; rfl
theorem dsum_one {f : Nat → Int} {k : Nat} : ∀ {n : Nat}, k < n → (∀ i, i < n → i ≠ k → f i = 0) → dsum f n = f k
  | 0, h, _ => by omega
  | n + 1, h, hz => by
    rw [dsum]
    by_cases e : k = n
    · subst e
      rw [dsum_zero (fun i hi => hz i (by omega) (by omega)), Int.zero_add]
    · rw [dsum_one (n := n) (by omega) (fun i hi hne => hz i (by omega) hne), hz n (by omega) (by omega), Int.add_zero]
theorem dsum_two {f : Nat → Int} {k : Nat} : ∀ {n : Nat}, k + 1 < n → (∀ i, i < n → i ≠ k → i ≠ k + 1 → f i = 0) → dsum f n = f k + f (k + 1)
  | 0, h, _ => by omega
  | n + 1, h, hz => by
    rw [dsum]
    by_cases e : k + 1 = n
    · subst e
      rw [dsum_one (k := k) (by omega) (fun i hi hne => hz i (by omega) hne (by omega))]
    · rw [dsum_two (n := n) (by omega) (fun i hi h1 h2 => hz i (by omega) h1 h2), hz n (by omega) (by omega) (by omega), Int.add_zero]
def mnr (M : Mx) (i : Nat) : Mx := fun r c => M (if r < i then r else r + 1) (c + 1)
def det : Nat → Mx → Int
  | 0, _ => 1
  | n + 1, M => dsum (fun i => sgd i * M i 0 * det n (mnr M i)) (n + 1)
def updR (M : Mx) (i : Nat) (w : Nat → Int) : Mx := fun r => if r = i then w else M r
theorem updR_self (M : Mx) (i : Nat) : updR M i (M i) = M := funext fun r => by
  unfold updR; split
  · rename_i h; rw [h]
  · rfl
theorem updR_at (M : Mx) (i : Nat) (w : Nat → Int) : updR M i w i = w := by simp [updR]
theorem updR_ne (M : Mx) {i r : Nat} (w : Nat → Int) (h : r ≠ i) : updR M i w r = M r := by simp [updR, h]
theorem updR_upd (M : Mx) (i : Nat) (v w : Nat → Int) : updR (updR M i v) i w = updR M i w := funext fun r => by
  unfold updR; split <;> rfl
theorem updR_comm (M : Mx) {i j : Nat} (h : i ≠ j) (v w : Nat → Int) : updR (updR M i v) j w = updR (updR M j w) i v := funext fun r => by
  unfold updR
  by_cases h1 : r = i
  · subst h1; rw [if_neg h, if_pos rfl, if_pos rfl]
  · rw [if_neg h1, if_neg h1]
theorem mnr_self (M : Mx) (i : Nat) (w : Nat → Int) : mnr (updR M i w) i = mnr M i := funext fun r => funext fun c => by
  unfold mnr updR
  rw [if_neg (by split <;> omega)]
theorem mnr_ne (M : Mx) {i j : Nat} (w : Nat → Int) (h : j ≠ i) : mnr (updR M i w) j = updR (mnr M j) (if i < j then i else i - 1) (fun c => w (c + 1)) := funext fun r => funext fun c => by
  unfold mnr updR
  by_cases h1 : (if r < j then r else r + 1) = i
  · have h2 : r = if i < j then i else i - 1 := by
      split at h1 <;> split <;> omega
    rw [if_pos h1, if_pos h2]
  · have h2 : ¬ r = if i < j then i else i - 1 := by
      split at h1 <;> split <;> omega
    rw [if_neg h1, if_neg h2]
theorem det_cong {p : Int} : ∀ {n : Nat} {M N : Mx}, (∀ r c, r < n → c < n → M r c % p = N r c % p) → det n M % p = det n N % p
  | 0, _, _, _ => rfl
  | n + 1, M, N, h => by
    rw [det, det]
    have gen : ∀ m : Nat, m ≤ n + 1 → dsum (fun i => sgd i * M i 0 * det n (mnr M i)) m % p = dsum (fun i => sgd i * N i 0 * det n (mnr N i)) m % p := by
      intro m
      induction m with
      | zero => intro _; rfl
      | succ m ih =>
        intro hm
        rw [dsum, dsum, Int.add_emod, ih (by omega), Int.add_emod (dsum (fun i => sgd i * N i 0 * det n (mnr N i)) m)]
        have e1 := h m 0 (by omega) (by omega)
        have e2 := det_cong (p := p) (n := n) (M := mnr M m) (N := mnr N m) (fun r c hr hc => h _ _ (by split <;> omega) (by omega))
        have e3 : (sgd m * M m 0 * det n (mnr M m)) % p = (sgd m * N m 0 * det n (mnr N m)) % p := by
          rw [Int.mul_emod, Int.mul_emod (sgd m), e1, e2, ← Int.mul_emod (sgd m), ← Int.mul_emod]
        rw [e3]
    exact gen _ (Nat.le_refl _)
theorem det_lin : ∀ {n : Nat} (M : Mx) {i : Nat} (u v : Nat → Int) (k : Int), i < n → det n (updR M i (fun c => u c + k * v c)) = det n (updR M i u) + k * det n (updR M i v)
  | 0, _, _, _, _, _, h => by omega
  | n + 1, M, i, u, v, k, h => by
    rw [det, det, det, ← dsum_lin]
    refine dsum_congr fun j hj => ?_
    by_cases e : j = i
    · subst e
      simp only [mnr_self, updR_at]
      generalize det n (mnr M j) = d
      rw [Int.mul_add, Int.add_mul]
      congr 1
      ac_rfl
    · simp only [mnr_ne M _ e, updR_ne M _ e]
      rw [det_lin (n := n) (mnr M j) (fun c => u (c + 1)) (fun c => v (c + 1)) k (by split <;> omega), Int.mul_add]
      congr 1
      ac_rfl
theorem det_adj : ∀ {n : Nat} (M : Mx) {i : Nat}, i + 1 < n → M i = M (i + 1) → det n M = 0
  | 0, _, _, h, _ => by omega
  | n + 1, M, i, h, he => by
    rw [det, dsum_two (k := i) h]
    · have hm : mnr M (i + 1) = mnr M i := funext fun r => funext fun c => by
        unfold mnr
        by_cases h1 : r < i
        · rw [if_pos (by omega), if_pos h1]
        · by_cases h2 : r = i
          · subst h2; rw [if_pos (by omega), if_neg (by omega), he]
          · rw [if_neg (by omega), if_neg (by omega)]
      rw [hm, ← he, sgd_succ, Int.neg_mul, Int.neg_mul]
      omega
    · intro j hj h1 h2
      have hz : det n (mnr M j) = 0 := by
        by_cases hlt : i < j
        · refine det_adj (mnr M j) (i := i) (by omega) (funext fun c => ?_)
          unfold mnr
          rw [if_pos hlt, if_pos (by omega), he]
        · obtain ⟨i', rfl⟩ : ∃ i', i = i' + 1 := ⟨i - 1, by omega⟩
          refine det_adj (mnr M j) (i := i') (by omega) (funext fun c => ?_)
          unfold mnr
          rw [if_neg (by omega), if_neg (by omega), he]
      rw [hz, Int.mul_zero]
theorem det_swap1 {n : Nat} (M : Mx) {i : Nat} (h : i + 1 < n) (u v : Nat → Int) : det n (updR (updR M i u) (i + 1) v) = - det n (updR (updR M i v) (i + 1) u) := by
  have hne : i ≠ i + 1 := by omega
  have z := fun w : Nat → Int => det_adj (n := n) (updR (updR M i w) (i + 1) w) h (by rw [updR_at, updR_ne _ _ hne, updR_at])
  have s := z (fun c => u c + 1 * v c)
  rw [det_lin _ u v 1 h, updR_comm _ hne, updR_comm _ hne, det_lin _ u v 1 (by omega), det_lin _ u v 1 (by omega)] at s
  have zu := z u
  have zv := z v
  rw [updR_comm _ hne] at zu zv
  rw [updR_comm _ hne, updR_comm (M) hne v u]
  omega
theorem det_eq : ∀ {n : Nat} (k : Nat) (M : Mx) {i : Nat}, i + k + 1 < n → M i = M (i + k + 1) → det n M = 0
  | n, 0, M, i, h, he => det_adj M h he
  | n, k + 1, M, i, h, he => by
    have hne : i + k + 1 ≠ i + (k + 1) + 1 := by omega
    have e0 : M = updR (updR M (i + k + 1) (M (i + k + 1))) (i + k + 1 + 1) (M (i + k + 1 + 1)) := by rw [updR_self, updR_self]
    rw [e0, det_swap1 M (i := i + k + 1) (by omega)]
    have := det_eq k (updR (updR M (i + k + 1) (M (i + k + 1 + 1))) (i + k + 1 + 1) (M (i + k + 1))) (i := i) (n := n) (by omega) (by
      rw [updR_ne _ _ (show i ≠ i + k + 1 + 1 by omega), updR_ne _ _ (show i ≠ i + k + 1 by omega), updR_ne _ _ (show i + k + 1 ≠ i + k + 1 + 1 by omega), updR_at]
      exact he)
    rw [this]; rfl
theorem det_same {n : Nat} (M : Mx) {i j : Nat} (hi : i < n) (hj : j < n) (hne : i ≠ j) (he : M i = M j) : det n M = 0 := by
  by_cases h : i < j
  · have e : j = i + (j - i - 1) + 1 := by omega
    rw [e] at he
    exact det_eq (j - i - 1) M (by omega) he
  · have e : i = j + (i - j - 1) + 1 := by omega
    rw [e] at he
    exact det_eq (i - j - 1) M (by omega) he.symm
theorem det_add {n : Nat} (M : Mx) {i j : Nat} (hi : i < n) (hj : j < n) (hne : i ≠ j) (k : Int) : det n (updR M i (fun c => M i c + k * M j c)) = det n M := by
  rw [det_lin M (M i) (M j) k hi, updR_self, det_same (updR M i (M j)) hi hj hne (by rw [updR_at, updR_ne _ _ (fun e => hne e.symm)]), Int.mul_zero, Int.add_zero]
theorem det_nil {n : Nat} (M : Mx) {i : Nat} (hi : i < n) (hz : ∀ c, M i c = 0) : det n M = 0 := by
  have := det_lin M (M i) (M i) 1 hi
  have e : (fun c => M i c + 1 * M i c) = M i := funext fun c => by rw [hz c]; rfl
  rw [e, updR_self] at this
  omega
theorem det_scale {n : Nat} (M : Mx) {i : Nat} (hi : i < n) (k : Int) : det n (updR M i (fun c => k * M i c)) = k * det n M := by
  have := det_lin M (fun _ => 0) (M i) k hi
  simp only [Int.zero_add] at this
  rw [this, updR_self, det_nil (updR M i (fun _ => 0)) hi (fun c => by rw [updR_at]), Int.zero_add]
theorem det_swap {n : Nat} (M : Mx) {i j : Nat} (hi : i < n) (hj : j < n) (hne : i ≠ j) (u v : Nat → Int) : det n (updR (updR M i u) j v) = - det n (updR (updR M i v) j u) := by
  have z := fun w : Nat → Int => det_same (n := n) (updR (updR M i w) j w) hi hj hne (by rw [updR_at, updR_ne _ _ hne, updR_at])
  have s := z (fun c => u c + 1 * v c)
  rw [det_lin _ u v 1 hj, updR_comm _ hne, updR_comm _ hne, det_lin _ u v 1 hi, det_lin _ u v 1 hi] at s
  have zu := z u
  have zv := z v
  rw [updR_comm _ hne] at zu zv
  rw [updR_comm _ hne, updR_comm (M) hne v u]
  omega
def idM : Mx := fun r c => if r = c then 1 else 0
theorem mnr_id : mnr idM 0 = idM := funext fun r => funext fun c => by simp [mnr, idM]
theorem det_one : ∀ n : Nat, det n idM = 1
  | 0 => rfl
  | n + 1 => by
    rw [det, dsum_one (k := 0) (by omega) (fun i hi hne => by simp [idM, hne]), mnr_id, det_one n]
    simp [sgd, idM]
def updC (M : Mx) (k : Nat) (b : Nat → Int) : Mx := fun r c => if c = k then b r else M r c
theorem det_col : ∀ {n k : Nat} (b : Nat → Int), k < n → det n (updC idM k b) = b k
  | 0, _, _, h => by omega
  | n + 1, 0, b, _ => by
    rw [det, dsum_one (k := 0) (by omega)]
    · have e : mnr (updC idM 0 b) 0 = idM := funext fun r => funext fun c => by simp [mnr, updC, idM]
      rw [e, det_one]
      simp [sgd, updC]
    · intro i hi hne
      rw [det_nil (mnr (updC idM 0 b) i) (i := 0) (by omega) (fun c => by
        have : (0 : Nat) < i := by omega
        simp [mnr, updC, idM, this]), Int.mul_zero]
  | n + 1, k + 1, b, h => by
    rw [det, dsum_one (k := 0) (by omega)]
    · have e : mnr (updC idM (k + 1) b) 0 = updC idM k (fun r => b (r + 1)) := funext fun r => funext fun c => by simp [mnr, updC, idM]
      rw [e, det_col _ (by omega)]
      simp [sgd, updC, idM]
    · intro i hi hne
      have : updC idM (k + 1) b i 0 = 0 := by simp [updC, idM, hne]
      rw [this]; simp
end Go.Proofs.YtnokgijakdaehaaGreatDoor


namespace Go.Proofs.YtnokgijakdaehaaGreatDoor
set_option linter.unusedSectionVars false
set_option linter.unusedVariables false
set_option linter.unusedSimpArgs false
set_option maxHeartbeats 1000000
theorem dsum_shift (f : Nat → Int) : ∀ n, dsum f (n + 1) = f 0 + dsum (fun i => f (i + 1)) n
  | 0 => by simp [dsum]
  | n + 1 => by rw [dsum, dsum_shift f n, dsum]; omega
theorem dsum_mul (k : Int) (f : Nat → Int) : ∀ n, k * dsum f n = dsum (fun i => k * f i) n
  | 0 => by simp [dsum]
  | n + 1 => by rw [dsum, dsum, Int.mul_add, dsum_mul k f n]
theorem dsum_plus (f g : Nat → Int) : ∀ n, dsum (fun i => f i + g i) n = dsum f n + dsum g n
  | 0 => by simp [dsum]
  | n + 1 => by rw [dsum, dsum, dsum, dsum_plus f g n]; omega
def clr (M : Mx) (i : Nat) (w : Nat → Int) (t : Nat) : Mx := fun r => if r < t ∧ r ≠ i then fun c => M r c + w r * M i c else M r
theorem clr_zero (M : Mx) (i : Nat) (w : Nat → Int) : clr M i w 0 = M := funext fun r => by unfold clr; rw [if_neg (by omega)]
theorem det_clr {n : Nat} (M : Mx) {i : Nat} (hi : i < n) (w : Nat → Int) : ∀ t, t ≤ n → det n (clr M i w t) = det n M
  | 0, _ => by rw [clr_zero]
  | t + 1, ht => by
    rw [← det_clr M hi w t (by omega)]
    by_cases e : t = i
    · have : clr M i w (t + 1) = clr M i w t := funext fun r => by
        unfold clr
        by_cases h : r < t ∧ r ≠ i
        · rw [if_pos h, if_pos ⟨by omega, h.2⟩]
        · rw [if_neg h, if_neg (by omega)]
      rw [this]
    · have hi2 : clr M i w t i = M i := by unfold clr; rw [if_neg (by omega)]
      have ht2 : clr M i w t t = M t := by unfold clr; rw [if_neg (by omega)]
      have : clr M i w (t + 1) = updR (clr M i w t) t (fun c => clr M i w t t c + w t * clr M i w t i c) := funext fun r => by
        rw [hi2, ht2]
        unfold updR
        by_cases h : r = t
        · subst h; rw [if_pos rfl]; unfold clr; rw [if_pos ⟨by omega, e⟩]
        · rw [if_neg h]
          unfold clr
          by_cases h2 : r < t ∧ r ≠ i
          · rw [if_pos h2, if_pos ⟨by omega, h2.2⟩]
          · rw [if_neg h2, if_neg (by omega)]
      rw [this, det_add _ (by omega) hi e]
theorem dsum_cong {p : Int} {f g : Nat → Int} : ∀ {n : Nat}, (∀ i, i < n → f i % p = g i % p) → dsum f n % p = dsum g n % p
  | 0, _ => rfl
  | n + 1, h => by rw [dsum, dsum, Int.add_emod, dsum_cong (fun i hi => h i (by omega)), h n (by omega), ← Int.add_emod]
end Go.Proofs.YtnokgijakdaehaaGreatDoor


namespace Go.Proofs.YtnokgijakdaehaaGreatDoor
open Go.Abs CR
set_option linter.unusedSectionVars false
set_option linter.unusedVariables false
set_option linter.unusedSimpArgs false
set_option maxHeartbeats 1000000
section
variable {α : Type}
def mnR (M : Nat → Nat → α) (i : Nat) : Nat → Nat → α := fun r c => M (if r < i then r else r + 1) (c + 1)
end
section
variable {α : Type} [CR α]
def dR (f : Nat → α) : Nat → α
  | 0 => ofI 0
  | n + 1 => dR f n + f n
def dtR : Nat → (Nat → Nat → α) → α
  | 0, _ => ofI 1
  | n + 1, M => dR (fun i => ofI (sgd i) * M i 0 * dtR n (mnR M i)) (n + 1)
end
end Go.Proofs.YtnokgijakdaehaaGreatDoor


namespace Go.Proofs.YtnokgijakdaehaaGreatDoor
open Go.Abs CR
set_option linter.unusedSectionVars false
set_option linter.unusedVariables false
set_option linter.unusedSimpArgs false
set_option maxHeartbeats 1000000
section
variable {α : Type} [CR α]
end
end Go.Proofs.YtnokgijakdaehaaGreatDoor


namespace Go.Proofs.YtnokgijakdaehaaGreatDoor
open Go.Abs CR
set_option linter.unusedSectionVars false
set_option linter.unusedVariables false
set_option linter.unusedSimpArgs false
set_option maxHeartbeats 1000000
section
variable {α : Type} [CR α]
end
end Go.Proofs.YtnokgijakdaehaaGreatDoor


namespace Go.Proofs.YtnokgijakdaehaaGreatDoor
open Go.Abs CR
set_option linter.unusedSectionVars false
set_option linter.unusedVariables false
set_option linter.unusedSimpArgs false
set_option maxHeartbeats 1000000
theorem cmul_nil (b : Ser Int) : ∀ (k : Nat) (a : Ser Int), (∀ i, a i = 0) → cmul k a b = 0
  | 0, a, h => by show a 0 * b 0 = 0; rw [h 0, Int.zero_mul]
  | k + 1, a, h => by
    show a 0 * b (k + 1) + cmul k (sh a) b = 0
    rw [h 0, cmul_nil b k (sh a) (fun i => h (i + 1)), Int.zero_mul]; rfl
theorem cmul_lin {a : Ser Int} (h : ∀ i, a (i + 2) = 0) (b : Ser Int) (k : Nat) : cmul (k + 1) a b = a 0 * b (k + 1) + a 1 * b k := by
  show a 0 * b (k + 1) + cmul k (sh a) b = _
  congr 1
  cases k with
  | zero => rfl
  | succ k =>
    show sh a 0 * b (k + 1) + cmul k (sh (sh a)) b = _
    rw [cmul_nil b k (sh (sh a)) (fun i => h i), Int.add_zero]; rfl
def Ev (z : Int) (d : Nat) (f : Ser Int) (v : Int) : Prop := (∀ k, d < k → f k = 0) ∧ dsum (fun k => f k * z ^ k) (d + 1) = v
theorem Ev.zero (z : Int) (d : Nat) : Ev z d (ofI 0) 0 := by
  have h0 : ∀ k, (ofI 0 : Ser Int) k = 0 := fun k => by cases k <;> rfl
  exact ⟨fun k _ => h0 k, dsum_zero fun k _ => by rw [h0, Int.zero_mul]⟩
theorem Ev.add {z : Int} {d : Nat} {f g : Ser Int} {v w : Int} (h : Ev z d f v) (k : Ev z d g w) : Ev z d (f + g) (v + w) := by
  refine ⟨fun i hi => by rw [ser_add, h.1 i hi, k.1 i hi]; rfl, ?_⟩
  rw [← h.2, ← k.2, ← dsum_plus]
  exact dsum_congr fun i hi => by rw [ser_add, Int.add_mul]
theorem Ev.lin {z : Int} {d : Nat} {f g : Ser Int} {w : Int} (hf : ∀ i, f (i + 2) = 0) (k : Ev z d g w) : Ev z (d + 1) (f * g) ((f 0 + f 1 * z) * w) := by
  have at1 : ∀ i, (f * g) (i + 1) = f 0 * g (i + 1) + f 1 * g i := fun i => cmul_lin hf g i
  have at0 : (f * g) 0 = f 0 * g 0 := rfl
  refine ⟨fun i hi => ?_, ?_⟩
  · obtain ⟨j, rfl⟩ : ∃ j, i = j + 1 := ⟨i - 1, by omega⟩
    rw [at1, k.1 (j + 1) (by omega), k.1 j (by omega)]; omega
  · have e1 : dsum (fun i => (f * g) (i + 1) * z ^ (i + 1)) (d + 1) = dsum (fun i => f 0 * (g (i + 1) * z ^ (i + 1)) + (f 1 * z) * (g i * z ^ i)) (d + 1) :=
      dsum_congr fun i hi => by
        rw [at1, Int.add_mul, Int.pow_succ]
        congr 1
        · rw [Int.mul_assoc]
        · rw [Int.mul_assoc, Int.mul_assoc]
          congr 1
          rw [← Int.mul_assoc, Int.mul_comm]
    have e2 : dsum (fun i => g i * z ^ i) (d + 1 + 1) = w := by
      show dsum (fun i => g i * z ^ i) (d + 1) + g (d + 1) * z ^ (d + 1) = w
      rw [k.2, k.1 (d + 1) (by omega), Int.zero_mul, Int.add_zero]
    rw [dsum_shift] at e2
    rw [dsum_shift, e1, dsum_lin, at0, ← dsum_mul, k.2, Int.add_mul]
    have e3 : f 0 * w = f 0 * (g 0 * z ^ 0) + f 0 * dsum (fun i => g (i + 1) * z ^ (i + 1)) (d + 1) := by rw [← Int.mul_add, e2]
    rw [e3, Int.mul_assoc (f 0) (g 0), Int.add_assoc]
theorem Ev.dR {z : Int} {d : Nat} {f : Nat → Ser Int} {v : Nat → Int} : ∀ {n : Nat}, (∀ i, i < n → Ev z d (f i) (v i)) → Ev z d (dR f n) (dsum v n)
  | 0, _ => Ev.zero z d
  | n + 1, h => Ev.add (Ev.dR (n := n) (fun i hi => h i (by omega))) (h n (by omega))
theorem Ev.det {z : Int} : ∀ (n : Nat) (A : Nat → Nat → Ser Int), (∀ r c i, A r c (i + 2) = 0) → Ev z n (dtR n A) (det n (fun r c => A r c 0 + A r c 1 * z))
  | 0, A, _ => by
    refine ⟨fun k hk => ?_, ?_⟩
    · obtain ⟨j, rfl⟩ : ∃ j, k = j + 1 := ⟨k - 1, by omega⟩
      rfl
    · show (0 : Int) + 1 * z ^ 0 = 1
      rw [Int.pow_zero]; rfl
  | n + 1, A, h => by
    rw [dtR, Go.Proofs.YtnokgijakdaehaaGreatDoor.det]
    refine Ev.dR fun i hi => ?_
    have q := Ev.lin (f := ofI (sgd i) * A i 0) (fun t => by
      show cmul (t + 2) (sOf (sgd i)) (A i 0) = 0
      rw [cmul_comm, cmul_of, h, Int.zero_mul]) (Ev.det (z := z) n (mnR A i) (fun r c t => h _ _ _))
    have e : ∀ t, (ofI (sgd i) * A i 0) t = sgd i * A i 0 t := fun t => by
      show cmul t (sOf (sgd i)) (A i 0) = _
      rw [cmul_comm, cmul_of]; exact Int.mul_comm _ _
    rw [e, e, Int.mul_assoc, ← Int.mul_add] at q
    exact q
end Go.Proofs.YtnokgijakdaehaaGreatDoor


namespace Go.Proofs.YtnokgijakdaehaaGreatDoor
open Go.Abs CR
set_option linter.unusedSectionVars false
set_option linter.unusedVariables false
set_option linter.unusedSimpArgs false
set_option maxHeartbeats 1000000
section
variable {α : Type} [CR α]
end
def serEq (a b : Ser Int) : Prop := ∀ k, a k % 10007 = b k % 10007
theorem mod_mulc {a b c d : Int} (h : a % 10007 = b % 10007) (k : c % 10007 = d % 10007) : (a * c) % 10007 = (b * d) % 10007 := by
  rw [Int.mul_emod, h, k, ← Int.mul_emod]
theorem mod_addc {a b c d : Int} (h : a % 10007 = b % 10007) (k : c % 10007 = d % 10007) : (a + c) % 10007 = (b + d) % 10007 := by
  rw [Int.add_emod, h, k, ← Int.add_emod]
theorem cmul_mod (n : Nat) : ∀ {a b c d : Ser Int}, (∀ i, i ≤ n → a i % 10007 = b i % 10007) → (∀ i, i ≤ n → c i % 10007 = d i % 10007) → cmul n a c % 10007 = cmul n b d % 10007 := by
  induction n with
  | zero => intro a b c d h k; exact mod_mulc (h 0 (Nat.le_refl _)) (k 0 (Nat.le_refl _))
  | succ n ih =>
    intro a b c d h k
    rw [cmul, cmul]
    exact mod_addc (mod_mulc (h 0 (by omega)) (k (n + 1) (by omega))) (ih (fun i hi => h (i + 1) (by omega)) (fun i hi => k i (by omega)))
end Go.Proofs.YtnokgijakdaehaaGreatDoor


namespace Go.Proofs.YtnokgijakdaehaaGreatDoor
set_option linter.unusedSectionVars false
set_option linter.unusedVariables false
set_option linter.unusedSimpArgs false
set_option maxHeartbeats 1000000
def sel (W : Mx) (g : Nat → Nat) : Mx := fun r c => W r (g c)
theorem sel_upd (W : Mx) (i : Nat) (w : Nat → Int) (g : Nat → Nat) : sel (updR W i w) g = updR (sel W g) i (fun c => w (g c)) := funext fun r => funext fun c => by
  unfold sel updR; split <;> rfl
theorem sel_clr (W : Mx) (i : Nat) (w : Nat → Int) (t : Nat) (g : Nat → Nat) : sel (clr W i w t) g = clr (sel W g) i w t := funext fun r => funext fun c => by
  unfold sel clr; split <;> rfl
def RowEq (n w : Nat) (W W' : Mx) : Prop := ∃ s t : Int, s * t % 10007 = 1 ∧ ∀ g : Nat → Nat, (∀ c, c < n → g c < w) → det n (sel W g) * s % 10007 = det n (sel W' g) % 10007
theorem RowEq.refl (n w : Nat) (W : Mx) : RowEq n w W W := ⟨1, 1, rfl, fun g hg => by rw [Int.mul_one]⟩
theorem mul_mod_l (a b : Int) : a % 10007 * b % 10007 = a * b % 10007 := by rw [Int.mul_emod, Int.emod_emod_of_dvd _ (Int.dvd_refl _), ← Int.mul_emod]
theorem mul_mod_r (a b : Int) : a * (b % 10007) % 10007 = a * b % 10007 := by rw [Int.mul_emod, Int.emod_emod_of_dvd _ (Int.dvd_refl _), ← Int.mul_emod]
theorem RowEq.trans {n w : Nat} {W X Y : Mx} (h : RowEq n w W X) (k : RowEq n w X Y) : RowEq n w W Y := by
  obtain ⟨s, t, h1, h2⟩ := h
  obtain ⟨s', t', k1, k2⟩ := k
  refine ⟨s * s', t * t', ?_, fun g hg => ?_⟩
  · have e : s * s' * (t * t') = (s * t) * (s' * t') := by ac_rfl
    rw [e, Int.mul_emod, h1, k1]; rfl
  · rw [← k2 g hg, ← Int.mul_assoc, ← mul_mod_l, h2 g hg, mul_mod_l]
theorem RowEq.cong {n w : Nat} {W W' : Mx} (h : ∀ r c, r < n → c < w → W r c % 10007 = W' r c % 10007) : RowEq n w W W' :=
  ⟨1, 1, rfl, fun g hg => by rw [Int.mul_one]; exact det_cong fun r c hr hc => h r (g c) hr (hg c hc)⟩
theorem RowEq.clr {n w : Nat} (W : Mx) {i : Nat} (hi : i < n) (u : Nat → Int) : RowEq n w W (clr W i u n) :=
  ⟨1, 1, rfl, fun g hg => by rw [Int.mul_one, sel_clr, det_clr _ hi u n (Nat.le_refl _)]⟩
theorem RowEq.scale {n w : Nat} (W : Mx) {i : Nat} (hi : i < n) {k k' : Int} (hk : k * k' % 10007 = 1) : RowEq n w W (updR W i (fun c => k * W i c)) :=
  ⟨k, k', hk, fun g hg => by
    rw [sel_upd]
    have := det_scale (sel W g) hi k
    have e : (fun c => k * sel W g i c) = fun c => k * W i (g c) := rfl
    rw [e] at this
    rw [this, Int.mul_comm]⟩
theorem RowEq.swap {n w : Nat} (W : Mx) {i j : Nat} (hi : i < n) (hj : j < n) (hne : i ≠ j) : RowEq n w W (updR (updR W i (W j)) j (W i)) :=
  ⟨-1, -1, rfl, fun g hg => by
    rw [sel_upd, sel_upd]
    have e : sel W g = updR (updR (sel W g) i (fun c => W i (g c))) j (fun c => W j (g c)) := by
      have e1 : (fun c => W i (g c)) = sel W g i := rfl
      have e2 : (fun c => W j (g c)) = sel W g j := rfl
      rw [e1, e2, updR_self, updR_self]
    have h := det_swap (sel W g) hi hj hne (fun c => W j (g c)) (fun c => W i (g c))
    rw [h, ← e]
    congr 1
    omega⟩
theorem RowEq.full {n : Nat} {W W' : Mx} (h : RowEq n (n + 1) W W') (hid : ∀ r c, r < n → c < n → W' r c % 10007 = idM r c % 10007) :
    ∃ s : Int, det n W * s % 10007 = 1 ∧ ∀ k, k < n → W' k n % 10007 = det n (updC W k (fun r => W r n)) * s % 10007 := by
  obtain ⟨s, t, h1, h2⟩ := h
  refine ⟨s, ?_, fun k hk => ?_⟩
  · have := h2 id (fun c hc => by show c < n + 1; omega)
    have e : ∀ X : Mx, sel X id = X := fun X => rfl
    rw [e, e, det_cong (p := 10007) (N := idM) hid, det_one] at this
    exact this
  · have := h2 (fun c => if c = k then n else c) (fun c hc => by show (if c = k then n else c) < n + 1; split <;> omega)
    have e : sel W (fun c => if c = k then n else c) = updC W k (fun r => W r n) := funext fun r => funext fun c => by
      by_cases hc : c = k
      · simp [sel, updC, hc]
      · simp [sel, updC, hc]
    rw [e] at this
    rw [this, det_cong (p := 10007) (N := updC idM k (fun r => W' r n)), det_col _ hk]
    intro r c hr hc
    by_cases hck : c = k
    · simp [sel, updC, hck]
    · simp [sel, updC, hck]; exact hid r c hr hc
end Go.Proofs.YtnokgijakdaehaaGreatDoor


namespace Go.Proofs.YtnokgijakdaehaaGreatDoor
open Go.Abs
set_option linter.unusedSectionVars false
set_option linter.unusedVariables false
set_option linter.unusedSimpArgs false
set_option maxHeartbeats 1000000
def mx (m : List (List Int)) : Mx := fun r c => (m[r]?.getD [])[c]?.getD 0
def swp (m : List (List Int)) (i d : Nat) : List (List Int) := if i = d then m else (m.set i (m[d]?.getD [])).set d (m[i]?.getD [])
def scl (m : List (List Int)) (d k : Nat) : List (List Int) := m.set d (scalS (m[d]?.getD []) (pw (mx m d k) 10005))
def elD (m : List (List Int)) (d k : Nat) : List (List Int) := (List.range m.length).map fun r => if r = d then m[d]?.getD [] else plusS (m[r]?.getD []) (m[d]?.getD []) (- mx m r k)
def Rws (w : Nat) (m : List (List Int)) : Prop := ∀ r ∈ m, r.length = w ∧ Ns r
theorem Rws.at {w : Nat} {m : List (List Int)} (h : Rws w m) {i : Nat} (hi : i < m.length) : (m[i]?.getD []).length = w ∧ Ns (m[i]?.getD []) := h _ (by simp [hi])
theorem Rws.set {w : Nat} {m : List (List Int)} (h : Rws w m) {i : Nat} {r : List Int} (hr : r.length = w ∧ Ns r) : Rws w (m.set i r) := fun x hx => by
  rcases List.mem_or_eq_of_mem_set hx with hx | rfl
  · exact h x hx
  · exact hr
@[simp] theorem swp_len (m : List (List Int)) (i d : Nat) : (swp m i d).length = m.length := by unfold swp; split <;> simp
@[simp] theorem scl_len (m : List (List Int)) (d k : Nat) : (scl m d k).length = m.length := by simp [scl]
@[simp] theorem elD_len (m : List (List Int)) (d k : Nat) : (elD m d k).length = m.length := by simp [elD]
theorem swp_ok {w : Nat} {m : List (List Int)} (h : Rws w m) {i d : Nat} (hi : i < m.length) (hd : d < m.length) : Rws w (swp m i d) := by
  unfold swp
  split
  · exact h
  · exact (h.set (h.at hd)).set (h.at hi)
theorem scl_ok {w : Nat} {m : List (List Int)} (h : Rws w m) {d k : Nat} (hd : d < m.length) : Rws w (scl m d k) := h.set ⟨by rw [scalS_len]; exact (h.at hd).1, scalS_N _ _⟩
theorem elD_ok {w : Nat} {m : List (List Int)} (h : Rws w m) {d k : Nat} (hd : d < m.length) : Rws w (elD m d k) := fun x hx => by
  obtain ⟨r, hr, rfl⟩ := List.mem_map.1 hx
  have hr2 : r < m.length := by simpa using hr
  split
  · exact h.at hd
  · exact ⟨by rw [plusS_len]; exact (h.at hr2).1, plusS_N _ _ _⟩
theorem swp_mx {m : List (List Int)} {i d : Nat} (hi : i < m.length) (hd : d < m.length) : mx (swp m i d) = updR (updR (mx m) i (mx m d)) d (mx m i) := funext fun r => funext fun c => by
  unfold swp
  split
  · rename_i e; subst e; rw [updR_upd, updR_self]
  · rename_i e
    unfold mx updR
    by_cases h1 : r = d
    · subst h1
      rw [List.getElem?_set_self (by simpa using hd), if_pos rfl]; rfl
    · rw [List.getElem?_set_ne (fun x => h1 x.symm), if_neg h1]
      by_cases h2 : r = i
      · subst h2; rw [List.getElem?_set_self hi, if_pos rfl]; rfl
      · rw [List.getElem?_set_ne (fun x => h2 x.symm), if_neg h2]
theorem scl_at {w : Nat} {m : List (List Int)} (h : Rws w m) {d k : Nat} (hd : d < m.length) {r c : Nat} (hc : c < w) : mx (scl m d k) r c = if r = d then mx m d c * (pw (mx m d k) 10005 % 10007) % 10007 else mx m r c := by
  unfold scl
  show ((m.set d (scalS (m[d]?.getD []) (pw (mx m d k) 10005)))[r]?.getD [])[c]?.getD 0 = _
  by_cases e : r = d
  · subst e
    rw [List.getElem?_set_self hd, if_pos rfl]
    exact tb_get (fun i => (m[r]?.getD [])[i]?.getD 0 * (pw (mx m r k) 10005 % 10007) % 10007) (by rw [(h.at hd).1]; exact hc)
  · rw [List.getElem?_set_ne (fun x => e x.symm), if_neg e]; rfl
theorem elD_at {w : Nat} {m : List (List Int)} (h : Rws w m) {d k : Nat} {r c : Nat} (hr : r < m.length) (hc : c < w) : mx (elD m d k) r c = if r = d then mx m d c else (mx m r c + (- mx m r k) % 10007 * mx m d c) % 10007 := by
  have e0 : (elD m d k)[r]?.getD [] = if r = d then m[d]?.getD [] else plusS (m[r]?.getD []) (m[d]?.getD []) (- mx m r k) := by simp [elD, hr]
  show ((elD m d k)[r]?.getD [])[c]?.getD 0 = _
  rw [e0]
  by_cases e : r = d
  · rw [if_pos e, if_pos e]; rfl
  · rw [if_neg e, if_neg e]
    exact tb_get (fun i => ((m[r]?.getD [])[i]?.getD 0 + (- mx m r k) % 10007 * (m[d]?.getD [])[i]?.getD 0) % 10007) (by rw [(h.at hr).1]; exact hc)
end Go.Proofs.YtnokgijakdaehaaGreatDoor


namespace Go.Proofs.YtnokgijakdaehaaGreatDoor
open Go.Abs
set_option linter.unusedSectionVars false
set_option linter.unusedVariables false
set_option linter.unusedSimpArgs false
set_option maxHeartbeats 1000000
theorem pw_N (a k : Int) : isN (pw a k) := isN_mod _
end Go.Proofs.YtnokgijakdaehaaGreatDoor


namespace Go.Proofs.YtnokgijakdaehaaGreatDoor
set_option linter.unusedSectionVars false
set_option linter.unusedVariables false
set_option maxRecDepth 100000
def fp : Nat → Nat → Nat → Nat
  | 0, _, _ => 1
  | f + 1, a, n => Nat.rec (1 % 10007) (fun _ _ => Nat.rec (fp f (Nat.mod (Nat.mul a a) 10007) (Nat.div n 2)) (fun _ _ => Nat.mod (Nat.mul a (fp f (Nat.mod (Nat.mul a a) 10007) (Nat.div n 2))) 10007) (Nat.mod n 2)) n
def chB (g : Nat → Nat) : Nat → Nat → Bool
  | 0, lo => Nat.beq (g lo) 1
  | d + 1, lo => and (chB g d lo) (chB g d (lo + 2 ^ d))
def ivN (a : Nat) : Nat := a * fp 15 a 10005 % 10007
theorem fp_eq : ∀ (f a n : Nat), n < 2 ^ f → fp f a n = a ^ n % 10007
  | 0, a, n, h => by
    have : n = 0 := by simp at h; exact h
    subst this; rfl
  | f + 1, a, 0, _ => by show 1 % 10007 = a ^ 0 % 10007; rw [Nat.pow_zero]
  | f + 1, a, n + 1, h => by
    have hh : (n + 1) / 2 < 2 ^ f := by rw [Nat.pow_succ] at h; omega
    have ih := fp_eq f (a * a % 10007) ((n + 1) / 2) hh
    have sq : (a * a % 10007) ^ ((n + 1) / 2) % 10007 = a ^ (2 * ((n + 1) / 2)) % 10007 := by
      rw [← Nat.pow_mod, Nat.pow_mul, Nat.pow_two]
    rw [sq] at ih
    have e0 : fp (f + 1) a (n + 1) = Nat.rec (fp f (a * a % 10007) ((n + 1) / 2)) (fun _ _ => a * fp f (a * a % 10007) ((n + 1) / 2) % 10007) ((n + 1) % 2) := rfl
    rw [e0, ih]
    rcases Nat.mod_two_eq_zero_or_one (n + 1) with h2 | h2
    · rw [h2]
      show a ^ (2 * ((n + 1) / 2)) % 10007 = a ^ (n + 1) % 10007
      rw [show 2 * ((n + 1) / 2) = n + 1 by omega]
    · rw [h2]
      show a * (a ^ (2 * ((n + 1) / 2)) % 10007) % 10007 = a ^ (n + 1) % 10007
      rw [show n + 1 = 2 * ((n + 1) / 2) + 1 by omega, Nat.pow_succ, Nat.mul_mod, Nat.mod_mod, ← Nat.mul_mod, Nat.mul_comm]
      rw [show (2 * ((n + 1) / 2) + 1) / 2 = (n + 1) / 2 by omega]
theorem chB_ok (g : Nat → Nat) : ∀ (d lo : Nat), chB g d lo = true → ∀ a, lo ≤ a → a < lo + 2 ^ d → g a = 1
  | 0, lo, h, a, h1, h2 => by
    have : a = lo := by simp at h2; omega
    subst this
    rw [chB] at h
    exact Nat.eq_of_beq_eq_true h
  | d + 1, lo, h, a, h1, h2 => by
    rw [chB, Bool.and_eq_true] at h
    rw [Nat.pow_succ] at h2
    by_cases hl : a < lo + 2 ^ d
    · exact chB_ok g d lo h.1 a h1 hl
    · exact chB_ok g d (lo + 2 ^ d) h.2 a (by omega) (by omega)
set_option maxHeartbeats 4000000 in
theorem chB_1 : chB ivN 13 1 = true := by decide +kernel
theorem chB_2 : chB ivN 10 8193 = true := by decide +kernel
theorem chB_3 : chB ivN 9 9217 = true := by decide +kernel
theorem chB_4 : chB ivN 8 9495 = true := by decide +kernel
theorem chB_5 : chB ivN 8 9751 = true := by decide +kernel
theorem inv_nat {a : Nat} (h0 : a ≠ 0) (h : a < 10007) : ivN a = 1 := by
  by_cases h1 : a < 8193
  · exact chB_ok ivN 13 1 chB_1 a (by omega) (by omega)
  by_cases h2 : a < 9217
  · exact chB_ok ivN 10 8193 chB_2 a (by omega) (by omega)
  by_cases h3 : a < 9729
  · exact chB_ok ivN 9 9217 chB_3 a (by omega) (by omega)
  by_cases h4 : a < 9751
  · exact chB_ok ivN 8 9495 chB_4 a (by omega) (by omega)
  · exact chB_ok ivN 8 9751 chB_5 a (by omega) (by omega)
theorem fp_pow (n e : Nat) (he : e < 2 ^ 15) : ((fp 15 n e : Nat) : Int) = pw (n : Int) (e : Int) := by
  rw [fp_eq 15 n e he]
  unfold pw
  rw [Int.toNat_natCast, Int.natCast_emod, Int.natCast_pow]; rfl
theorem fp_pw (n : Nat) : ((fp 15 n 10005 : Nat) : Int) = pw (n : Int) 10005 := fp_pow n 10005 (by decide)
theorem inv_ok {a : Int} (h : isN a) (h0 : a ≠ 0) : a * pw a 10005 % 10007 = 1 := by
  obtain ⟨n, rfl⟩ : ∃ n : Nat, a = n := ⟨a.toNat, by have := h.1; omega⟩
  have hn : n < 10007 := by have := h.2; omega
  have hv := inv_nat (a := n) (by omega) hn
  rw [← fp_pw, ← Int.natCast_mul]
  unfold ivN at hv
  generalize n * fp 15 n 10005 = z at *
  omega
end Go.Proofs.YtnokgijakdaehaaGreatDoor


namespace Go.Proofs.YtnokgijakdaehaaGreatDoor
open Go.Abs
set_option linter.unusedSectionVars false
set_option linter.unusedVariables false
set_option linter.unusedSimpArgs false
set_option maxHeartbeats 1000000
structure GI (n w : Nat) (W0 : Mx) (m : List (List Int)) (done k : Nat) : Prop where
  len : m.length = n
  rws : Rws w m
  eqv : RowEq n w W0 (mx m)
  dle : done ≤ n
  piv : ∃ piv : Nat → Nat, (∀ j, j < done → piv j < k ∧ ∀ r, r < n → mx m r (piv j) = if r = j then 1 else 0) ∧ (∀ j, j + 1 < done → piv j < piv (j + 1)) ∧ (∀ j, j < done → ∀ c, c < piv j → mx m j c = 0)
  low : ∀ r, done ≤ r → r < n → ∀ c, c < k → mx m r c = 0
theorem GI.start {n w : Nat} {m : List (List Int)} (hl : m.length = n) (hr : Rws w m) : GI n w (mx m) m 0 0 :=
  ⟨hl, hr, RowEq.refl n w _, by omega, ⟨fun _ => 0, fun j hj => by omega, fun j hj => by omega, fun j hj => by omega⟩, fun r _ _ c hc => by omega⟩
theorem GI.skip {n w : Nat} {W0 : Mx} {m : List (List Int)} {done k : Nat} (h : GI n w W0 m done k) (hz : ∀ r, done ≤ r → r < n → mx m r k = 0) : GI n w W0 m done (k + 1) := by
  obtain ⟨h1, h2, h3, h4, ⟨p, p1, p2, p3⟩, h6⟩ := h
  refine ⟨h1, h2, h3, h4, ⟨p, fun j hj => ⟨by have := (p1 j hj).1; omega, (p1 j hj).2⟩, p2, p3⟩, fun r hr hn c hc => ?_⟩
  by_cases e : c = k
  · subst e; exact hz r hr hn
  · exact h6 r hr hn c (by omega)
theorem mx_N {w : Nat} {m : List (List Int)} (h : Rws w m) {r : Nat} (hr : r < m.length) (c : Nat) : isN (mx m r c) := (h.at hr).2.get c
theorem GI.step {n w : Nat} {W0 : Mx} {m : List (List Int)} {done k i : Nat} (h : GI n w W0 m done k) (hk : k < w) (hd : done < n) (h1 : done ≤ i) (h2 : i < n) (hne : mx m i k ≠ 0) :
    GI n w W0 (elD (scl (swp m i done) done k) done k) (done + 1) (k + 1) := by
  obtain ⟨hl, hr, he, hdl, ⟨p, p1, p2, p3⟩, hlow⟩ := h
  have il : i < m.length := by omega
  have dl : done < m.length := by omega
  have sm := swp_mx il dl
  have sr := swp_ok hr il dl
  have sl := swp_len m i done
  have se : RowEq n w W0 (mx (swp m i done)) := by
    by_cases e : i = done
    · have : swp m i done = m := by unfold swp; rw [if_pos e]
      rw [this]; exact he
    · rw [sm]; exact he.trans (RowEq.swap _ h2 hd e)
  have sd : ∀ c, mx (swp m i done) done c = mx m i c := fun c => by rw [sm, updR_at]
  have slow : ∀ r, done ≤ r → r < n → ∀ c, c < k → mx (swp m i done) r c = 0 := fun r hr1 hr2 c hc => by
    rw [sm]
    unfold updR
    by_cases a1 : r = done
    · rw [if_pos a1]; exact hlow i h1 h2 c hc
    · rw [if_neg a1]
      by_cases a2 : r = i
      · rw [if_pos a2]; exact hlow done (Nat.le_refl _) hd c hc
      · rw [if_neg a2]; exact hlow r hr1 hr2 c hc
  have sup : ∀ r, r < done → mx (swp m i done) r = mx m r := fun r hr1 => by
    rw [sm, updR_ne _ _ (by omega), updR_ne _ _ (by omega)]
  have snz : mx (swp m i done) done k ≠ 0 := by rw [sd]; exact hne
  generalize swp m i done = a at *
  have al : a.length = n := by omega
  have ad : done < a.length := by omega
  have cr := scl_ok (k := k) sr ad
  have cl := scl_len a done k
  have cat := fun r c (hc : c < w) => scl_at (k := k) sr ad (r := r) hc
  have iv := inv_ok (mx_N sr ad k) snz
  have ce : RowEq n w (mx a) (mx (scl a done k)) := by
    refine (RowEq.scale (mx a) hd (k := pw (mx a done k) 10005) (k' := mx a done k) (by rw [Int.mul_comm]; exact iv)).trans (RowEq.cong fun r c hr1 hc => ?_)
    rw [cat r c hc]
    unfold updR
    by_cases e : r = done
    · subst e
      rw [if_pos rfl, if_pos rfl, mul_mod_r, Int.emod_emod_of_dvd _ (Int.dvd_refl _), Int.mul_comm]
    · rw [if_neg e, if_neg e]
  have ck : mx (scl a done k) done k = 1 := by rw [cat _ _ hk, if_pos rfl, mul_mod_r]; exact iv
  have cz : ∀ c, c < k → mx (scl a done k) done c = 0 := fun c hc => by
    rw [cat _ _ (by omega), if_pos rfl, slow done (Nat.le_refl _) hd c hc]; simp
  have co : ∀ r c, r ≠ done → c < w → mx (scl a done k) r c = mx a r c := fun r c hr1 hc => by rw [cat _ _ hc, if_neg hr1]
  generalize scl a done k = b at *
  have bl : b.length = n := by omega
  have bd : done < b.length := by omega
  have er := elD_ok (k := k) cr bd
  have el := elD_len b done k
  have eat := fun r c (hr1 : r < n) (hc : c < w) => elD_at (d := done) (k := k) cr (r := r) (c := c) (by omega) hc
  have ee : RowEq n w (mx b) (mx (elD b done k)) := by
    refine (RowEq.clr (mx b) hd (fun r => - mx b r k)).trans (RowEq.cong fun r c hr1 hc => ?_)
    rw [eat r c hr1 hc]
    unfold clr
    by_cases e : r = done
    · subst e; rw [if_neg (by omega), if_pos rfl]
    · rw [if_pos ⟨hr1, e⟩, if_neg e, Int.emod_emod_of_dvd _ (Int.dvd_refl _), Int.add_emod, Int.add_emod (mx b r c), mul_mod_l]
  have keep : ∀ r c, r < n → c < w → mx b done c = 0 → mx (elD b done k) r c = mx b r c := fun r c hr1 hc hz => by
    rw [eat r c hr1 hc]
    by_cases e : r = done
    · rw [if_pos e, e]
    · rw [if_neg e, hz, Int.mul_zero, Int.add_zero]
      have := mx_N cr (show r < b.length by omega) c
      exact Int.emod_eq_of_lt this.1 (by have := this.2; omega)
  have fin : ∀ r, r < n → mx (elD b done k) r k = if r = done then 1 else 0 := fun r hr1 => by
    rw [eat r k hr1 hk, ck]
    by_cases e : r = done
    · rw [if_pos e, if_pos e]
    · rw [if_neg e, if_neg e, Int.mul_one]; omega
  refine ⟨by omega, er, (se.trans ce).trans ee, by omega, ⟨fun j => if j = done then k else p j, fun j hj => ?_, fun j hj => ?_, fun j hj c hc => ?_⟩, fun r hr1 hr2 c hc => ?_⟩
  · by_cases e : j = done
    · subst e
      simp only [if_true]
      exact ⟨by omega, fin⟩
    · have hjd : j < done := by omega
      have q := p1 j hjd
      simp only [if_neg e]
      refine ⟨by omega, fun r hr1 => ?_⟩
      rw [keep r (p j) hr1 (by omega) (cz _ q.1)]
      by_cases e2 : r = done
      · subst e2; rw [cz _ q.1, if_neg (by omega)]
      · rw [co r (p j) e2 (by omega)]
        by_cases e3 : r < done
        · rw [sup r e3]; exact q.2 r hr1
        · rw [slow r (by omega) hr1 (p j) q.1, if_neg (by omega)]
  · by_cases e : j + 1 = done
    · have q := p1 j (by omega)
      simp only [if_pos e, if_neg (show ¬ j = done by omega)]
      exact q.1
    · simp only [if_neg e, if_neg (show ¬ j = done by omega)]
      exact p2 j (by omega)
  · by_cases e : j = done
    · subst e
      simp only [if_true] at hc
      rw [keep j c (by omega) (by omega) (cz c hc), cz c hc]
    · have hjd : j < done := by omega
      have q := p1 j hjd
      simp only [if_neg e] at hc
      rw [keep j c (by omega) (by omega) (cz c (by omega)), co j c e (by omega), sup j hjd]
      exact p3 j hjd c hc
  · by_cases e : c = k
    · subst e; rw [fin r hr2, if_neg (by omega)]
    · rw [keep r c hr2 (by omega) (cz c (by omega)), co r c (by omega) (by omega)]
      exact slow r (by omega) hr2 c (by omega)
end Go.Proofs.YtnokgijakdaehaaGreatDoor


namespace Go.Proofs.YtnokgijakdaehaaGreatDoor
open Go.Abs
set_option linter.unusedSectionVars false
set_option linter.unusedVariables false
set_option linter.unusedSimpArgs false
set_option maxHeartbeats 1000000
def ldF (r : List Int) : Nat → Nat → Nat
  | 0, i => i
  | f + 1, i => if r[i]?.getD 0 = 0 then ldF r f (i + 1) else i
theorem ldF_le (r : List Int) : ∀ f i, i ≤ ldF r f i ∧ ldF r f i ≤ i + f
  | 0, i => by simp [ldF]
  | f + 1, i => by
    rw [ldF]
    split
    · have := ldF_le r f (i + 1); omega
    · omega
theorem ldF_zero (r : List Int) : ∀ f i j, i ≤ j → j < ldF r f i → r[j]?.getD 0 = 0
  | 0, i, j, h1, h2 => by rw [ldF] at h2; omega
  | f + 1, i, j, h1, h2 => by
    rw [ldF] at h2
    split at h2
    · rename_i h
      by_cases e : j = i
      · subst e; exact h
      · exact ldF_zero r f (i + 1) j (by omega) h2
    · omega
theorem ldF_ne (r : List Int) : ∀ f i, ldF r f i < i + f → r[ldF r f i]?.getD 0 ≠ 0
  | 0, i, h => by rw [ldF] at h; omega
  | f + 1, i, h => by
    rw [ldF] at h ⊢
    split
    · rename_i hz
      rw [if_pos hz] at h
      exact ldF_ne r f (i + 1) (by omega)
    · rename_i hz; exact hz
def leadL (r : List Int) : Nat := ldF r r.length 0
def oneB (n : Nat) (m : List (List Int)) (done : Nat) : Bool := decide (done = n) && decide (leadL (m[n - 1]?.getD []) = n - 1)
theorem piv_ge {p : Nat → Nat} {n : Nat} (h : ∀ j, j + 1 < n → p j < p (j + 1)) : ∀ j, j < n → j ≤ p j
  | 0, _ => by omega
  | j + 1, hj => by have := piv_ge h j (by omega); have := h j hj; omega
theorem piv_le {p : Nat → Nat} {n : Nat} (h : ∀ j, j + 1 < n → p j < p (j + 1)) : ∀ t j, j + t + 1 = n → p j + t ≤ p (n - 1)
  | 0, j, hj => by rw [show n - 1 = j by omega]; omega
  | t + 1, j, hj => by have := piv_le h t (j + 1) (by omega); have := h j (by omega); omega
theorem GI.one {n : Nat} {W0 : Mx} {m : List (List Int)} {done k : Nat} (h : GI n (n + 1) W0 m done k) (hn : 0 < n) (hk : k ≤ n + 1) (ho : oneB n m done = true) : ∀ r c, r < n → c < n → mx m r c = idM r c := by
  unfold oneB at ho
  simp only [Bool.and_eq_true, decide_eq_true_eq] at ho
  obtain ⟨hd, hl⟩ := ho
  subst hd
  obtain ⟨p, p1, p2, p3⟩ := h.piv
  have rl := (h.rws.at (i := done - 1) (by rw [h.len]; omega)).1
  have hne := ldF_ne (m[done - 1]?.getD []) (m[done - 1]?.getD []).length 0 (by
    have : ldF (m[done - 1]?.getD []) (m[done - 1]?.getD []).length 0 = done - 1 := hl
    omega)
  have hl2 : ldF (m[done - 1]?.getD []) (m[done - 1]?.getD []).length 0 = done - 1 := hl
  rw [hl2] at hne
  have hp : p (done - 1) ≤ done - 1 := by
    rcases Nat.lt_or_ge (done - 1) (p (done - 1)) with hlt | hge
    · exact (hne (p3 (done - 1) (by omega) (done - 1) hlt)).elim
    · exact hge
  intro r c hr hc
  have g1 := piv_ge p2 c hc
  have g2 := piv_le p2 (done - 1 - c) c (by omega)
  have e : p c = c := by omega
  have := (p1 c hc).2 r hr
  rw [e] at this
  exact this
theorem GI.none {n : Nat} {W0 : Mx} {m : List (List Int)} {done k : Nat} (h : GI n (n + 1) W0 m done k) (hn : 0 < n) (hk : k ≤ n + 1) (hf : k = n + 1 ∨ done = n) (ho : oneB n m done = false) : ∃ i, i < n ∧ ∀ c, c < n → mx m i c = 0 := by
  refine ⟨n - 1, by omega, fun c hc => ?_⟩
  have hdl := h.dle
  by_cases hd : done = n
  · subst hd
    obtain ⟨p, p1, p2, p3⟩ := h.piv
    have rl := (h.rws.at (i := done - 1) (by rw [h.len]; omega)).1
    have g1 := piv_ge p2 (done - 1) (by omega)
    have q := p1 (done - 1) (by omega)
    by_cases e : p (done - 1) = done - 1
    · have e1 : mx m (done - 1) (done - 1) = 1 := by
        have := q.2 (done - 1) (by omega)
        rw [e, if_pos rfl] at this
        exact this
      have l1 := ldF_le (m[done - 1]?.getD []) (m[done - 1]?.getD []).length 0
      have hl : leadL (m[done - 1]?.getD []) = done - 1 := by
        unfold leadL
        rcases Nat.lt_trichotomy (ldF (m[done - 1]?.getD []) (m[done - 1]?.getD []).length 0) (done - 1) with hlt | heq | hgt
        · have := ldF_ne (m[done - 1]?.getD []) (m[done - 1]?.getD []).length 0 (by omega)
          exact (this (p3 (done - 1) (by omega) _ (by omega))).elim
        · exact heq
        · have := ldF_zero (m[done - 1]?.getD []) (m[done - 1]?.getD []).length 0 (done - 1) (by omega) hgt
          have e2 : mx m (done - 1) (done - 1) = 0 := this
          rw [e1] at e2; omega
      unfold oneB at ho
      rw [hl] at ho
      simp at ho
    · exact p3 (done - 1) (by omega) c (by omega)
  · exact h.low (n - 1) (by omega) (by omega) c (by omega)
end Go.Proofs.YtnokgijakdaehaaGreatDoor


namespace Go.Proofs.YtnokgijakdaehaaGreatDoor
open Go.Abs
set_option linter.unusedSectionVars false
set_option linter.unusedVariables false
set_option linter.unusedSimpArgs false
set_option maxHeartbeats 1000000
end Go.Proofs.YtnokgijakdaehaaGreatDoor


namespace Go.Proofs.YtnokgijakdaehaaGreatDoor
open Go.Abs
set_option linter.unusedSectionVars false
set_option linter.unusedVariables false
set_option linter.unusedSimpArgs false
set_option maxHeartbeats 1000000
end Go.Proofs.YtnokgijakdaehaaGreatDoor


namespace Go.Proofs.YtnokgijakdaehaaGreatDoor
open Go.Abs
set_option linter.unusedSectionVars false
set_option linter.unusedVariables false
set_option linter.unusedSimpArgs false
set_option maxHeartbeats 1000000
end Go.Proofs.YtnokgijakdaehaaGreatDoor


namespace Go.Proofs.YtnokgijakdaehaaGreatDoor
open Go.Abs
set_option linter.unusedSectionVars false
set_option linter.unusedVariables false
set_option linter.unusedSimpArgs false
set_option maxHeartbeats 1000000
def Nul (n w : Nat) (m : List (List Int)) (x : Nat → Int) : Prop := ∀ r, r < n → dsum (fun c => mx m r c * x c) w % 10007 = 0
theorem Nul.swp {n w : Nat} {m : List (List Int)} {x : Nat → Int} (h : Nul n w m x) (hl : m.length = n) {i d : Nat} (hi : i < n) (hd : d < n) : Nul n w (swp m i d) x := by
  intro r hr
  rw [swp_mx (by omega) (by omega)]
  by_cases e1 : r = d
  · subst e1; rw [updR_at]; exact h i hi
  · rw [updR_ne _ _ e1]
    by_cases e2 : r = i
    · subst e2; rw [updR_at]; exact h d hd
    · rw [updR_ne _ _ e2]; exact h r hr
theorem Nul.scl {n w : Nat} {m : List (List Int)} {x : Nat → Int} (h : Nul n w m x) (hl : m.length = n) (hr : Rws w m) {d k : Nat} (hd : d < n) : Nul n w (scl m d k) x := by
  intro r hrn
  by_cases e : r = d
  · subst e
    have e1 : dsum (fun c => mx (Go.Proofs.YtnokgijakdaehaaGreatDoor.scl m r k) r c * x c) w % 10007 = dsum (fun c => (pw (mx m r k) 10005 % 10007) * (mx m r c * x c)) w % 10007 := dsum_cong fun c hc => by
      rw [scl_at hr (by omega) hc, if_pos rfl, mul_mod_l]
      congr 1
      rw [Int.mul_comm (mx m r c), Int.mul_assoc]
    rw [e1, ← dsum_mul, ← mul_mod_r, h r hrn]; simp
  · have e1 : dsum (fun c => mx (Go.Proofs.YtnokgijakdaehaaGreatDoor.scl m d k) r c * x c) w % 10007 = dsum (fun c => mx m r c * x c) w % 10007 := dsum_cong fun c hc => by
      rw [scl_at hr (by omega) hc, if_neg e]
    rw [e1]; exact h r hrn
theorem Nul.elD {n w : Nat} {m : List (List Int)} {x : Nat → Int} (h : Nul n w m x) (hl : m.length = n) (hr : Rws w m) {d k : Nat} (hd : d < n) : Nul n w (elD m d k) x := by
  intro r hrn
  by_cases e : r = d
  · have e1 : dsum (fun c => mx (Go.Proofs.YtnokgijakdaehaaGreatDoor.elD m d k) r c * x c) w % 10007 = dsum (fun c => mx m d c * x c) w % 10007 := dsum_cong fun c hc => by
      rw [elD_at hr (by omega) hc, if_pos e]
    rw [e1]; exact h d hd
  · have e1 : dsum (fun c => mx (Go.Proofs.YtnokgijakdaehaaGreatDoor.elD m d k) r c * x c) w % 10007 = dsum (fun c => mx m r c * x c + ((- mx m r k) % 10007) * (mx m d c * x c)) w % 10007 := dsum_cong fun c hc => by
      rw [elD_at hr (by omega) hc, if_neg e, mul_mod_l, Int.add_mul, Int.mul_assoc]
    rw [e1, dsum_lin, Int.add_emod, h r hrn, ← mul_mod_r, h d hd]; simp
end Go.Proofs.YtnokgijakdaehaaGreatDoor


namespace Go.Proofs.YtnokgijakdaehaaGreatDoor
open Go.Abs
set_option linter.unusedSectionVars false
set_option linter.unusedVariables false
set_option linter.unusedSimpArgs false
set_option maxHeartbeats 1000000
end Go.Proofs.YtnokgijakdaehaaGreatDoor


namespace Go.Proofs.YtnokgijakdaehaaGreatDoor
open Go.Abs
set_option linter.unusedSectionVars false
set_option linter.unusedVariables false
set_option linter.unusedSimpArgs false
set_option maxHeartbeats 1000000
end Go.Proofs.YtnokgijakdaehaaGreatDoor


namespace Go.Proofs.YtnokgijakdaehaaGreatDoor
open Go.Abs
set_option linter.unusedSectionVars false
set_option linter.unusedVariables false
set_option linter.unusedSimpArgs false
set_option maxHeartbeats 4000000
end Go.Proofs.YtnokgijakdaehaaGreatDoor


namespace Go.Proofs.YtnokgijakdaehaaGreatDoor
open Go.Abs
set_option linter.unusedSectionVars false
set_option linter.unusedVariables false
set_option linter.unusedSimpArgs false
set_option maxHeartbeats 4000000
end Go.Proofs.YtnokgijakdaehaaGreatDoor


namespace Go.Proofs.YtnokgijakdaehaaGreatDoor
open Go.Abs
set_option linter.unusedSectionVars false
set_option linter.unusedVariables false
set_option linter.unusedSimpArgs false
set_option maxHeartbeats 4000000
end Go.Proofs.YtnokgijakdaehaaGreatDoor


namespace Go.Proofs.YtnokgijakdaehaaGreatDoor
open Go.Abs
set_option linter.unusedSectionVars false
set_option linter.unusedVariables false
set_option linter.unusedSimpArgs false
set_option maxHeartbeats 4000000
end Go.Proofs.YtnokgijakdaehaaGreatDoor


namespace Go.Proofs.YtnokgijakdaehaaGreatDoor
open Go.Abs
set_option linter.unusedSectionVars false
set_option linter.unusedVariables false
set_option linter.unusedSimpArgs false
set_option maxHeartbeats 4000000
end Go.Proofs.YtnokgijakdaehaaGreatDoor


namespace Go.Proofs.YtnokgijakdaehaaGreatDoor
open Go.Abs
set_option linter.unusedSectionVars false
set_option linter.unusedVariables false
set_option linter.unusedSimpArgs false
set_option maxHeartbeats 4000000
theorem Tab.rws {A : List (List Int)} {B : List Int} (h : Tab A B) : Rws B.length A := h.a
end Go.Proofs.YtnokgijakdaehaaGreatDoor


namespace Go.Proofs.YtnokgijakdaehaaGreatDoor
open Go.Abs CR
set_option linter.unusedSectionVars false
set_option linter.unusedVariables false
set_option linter.unusedSimpArgs false
set_option maxHeartbeats 1000000
theorem dsum_mod {f g : Nat → Int} : ∀ {n : Nat}, (∀ i, i < n → f i % 10007 = g i % 10007) → dsum f n % 10007 = dsum g n % 10007
  | 0, _ => rfl
  | n + 1, h => mod_addc (dsum_mod (n := n) (fun i hi => h i (by omega))) (h n (by omega))
end Go.Proofs.YtnokgijakdaehaaGreatDoor


namespace Go.Proofs.YtnokgijakdaehaaGreatDoor
open Go.Abs
set_option linter.unusedSectionVars false
set_option linter.unusedVariables false
set_option linter.unusedSimpArgs false
set_option maxHeartbeats 1000000
end Go.Proofs.YtnokgijakdaehaaGreatDoor


namespace Go.Proofs.YtnokgijakdaehaaGreatDoor
open Go.Abs
set_option linter.unusedSectionVars false
set_option linter.unusedVariables false
set_option linter.unusedSimpArgs false
set_option maxHeartbeats 1000000
end Go.Proofs.YtnokgijakdaehaaGreatDoor


namespace Go.Proofs.YtnokgijakdaehaaGreatDoor
open Go.Abs CR
set_option linter.unusedSectionVars false
set_option linter.unusedVariables false
set_option linter.unusedSimpArgs false
set_option maxHeartbeats 1000000
def en (X : List (List Int)) (k j : Nat) : Int := (X[k]?.getD [])[j]?.getD 0
def R7 (n : Nat) (X : List (List Int)) : Prop := X.length = n ∧ ∀ r ∈ X, r.length = 7 ∧ Ns r
theorem R7.row {n : Nat} {X : List (List Int)} (h : R7 n X) {k : Nat} (hk : k < n) : (X[k]?.getD []).length = 7 ∧ Ns (X[k]?.getD []) := h.2 _ (memD [] (by rw [h.1]; exact hk))
theorem R7.ext {n : Nat} {X Y : List (List Int)} (hX : R7 n X) (hY : R7 n Y) (h : ∀ k, k < n → ∀ j, j < 7 → en X k j % 10007 = en Y k j % 10007) : X = Y := by
  refine List.ext_getElem (by rw [hX.1, hY.1]) fun k h1 h2 => ?_
  have hk : k < n := by rw [← hX.1]; exact h1
  have x1 := hX.row hk
  have y1 := hY.row hk
  have e := h k hk
  unfold en at e
  rw [List.getElem?_eq_getElem h1, Option.getD_some] at x1 e
  rw [List.getElem?_eq_getElem h2, Option.getD_some] at y1 e
  refine List.ext_getElem (by rw [x1.1, y1.1]) fun j j1 j2 => ?_
  have ej := e j (by omega)
  have n1 := x1.2.get j
  have n2 := y1.2.get j
  rw [Int.emod_eq_of_lt n1.1 (by have := n1.2; omega), Int.emod_eq_of_lt n2.1 (by have := n2.2; omega), List.getElem?_eq_getElem j1, List.getElem?_eq_getElem j2] at ej
  exact ej
theorem mv_R7 {n : Nat} {start : List (List Int)} (hs : R7 n start) (c : List Int) (L : List (List (List Int))) (i : Nat) : R7 n (mvS start c L i) :=
  ⟨by rw [mvS_len, hs.1], mvS_row hs.2 i⟩
theorem mv_en0 {n : Nat} {start : List (List Int)} (hs : R7 n start) (c : List Int) (L : List (List (List Int))) (i : Nat) {k : Nat} (hk : k < n) : en (mvS start c L i) k 0 = en start k 0 :=
  mvS_first hs.2 i k (by rw [hs.1]; exact hk)
theorem mv_enS {n : Nat} {start : List (List Int)} (hs : R7 n start) (c : List Int) {L : List (List (List Int))} {k : Nat} (hk : k < n) {j : Nat} (hj : j < 6) : ∀ i, (∀ q, q < i → R7 n (L[q]?.getD [])) →
    en (mvS start c L i) k (j + 1) % 10007 = (en start k (j + 1) + dsum (fun q => c[q]?.getD 0 * en (L[q]?.getD []) k j) i) % 10007
  | 0, _ => by show _ = (en start k (j + 1) + 0) % 10007; rw [Int.add_zero]; rfl
  | i + 1, hL => by
    have ih := mv_enS hs c hk hj i (fun q hq => hL q (by omega))
    have hk2 : k < start.length := by rw [hs.1]; exact hk
    have hm := (mv_R7 hs c L i).row hk
    have l7 := ((hL i (by omega)).row hk).1
    have e : (mvS start c L (i + 1))[k]?.getD [] = plusS ((mvS start c L i)[k]?.getD []) (raiS ((L[i]?.getD [])[k]?.getD [])) (c[i]?.getD 0) := by
      simp only [mvS]
      simp [hk2]
    have e2 : (raiS ((L[i]?.getD [])[k]?.getD []))[j + 1]?.getD 0 = en (L[i]?.getD []) k j := by
      unfold raiS
      rw [tb_get _ (by omega), if_neg (by omega)]; rfl
    show ((mvS start c L (i + 1))[k]?.getD [])[j + 1]?.getD 0 % 10007 = (en start k (j + 1) + (dsum _ i + c[i]?.getD 0 * en (L[i]?.getD []) k j)) % 10007
    rw [e]
    unfold plusS
    rw [tb_get _ (by omega), e2, Int.emod_emod_of_dvd _ (Int.dvd_refl _), ← Int.add_assoc]
    refine mod_addc ih ?_
    rw [Int.mul_emod, Int.emod_emod_of_dvd _ (Int.dvd_refl _), ← Int.mul_emod]
theorem fd_en {M : List (List Int)} {f : List (List Mon)} {k j : Nat} (hk : k < f.length) (hj : j < 7) : en (fdS M f) k j % 10007 = (evM M.length (toU M) (f[k]?.getD []) : Ser Int) j % 10007 := by
  have e1 : (fdS M f)[k]?.getD [] = evS M (f[k]?.getD []) := by simp [fdS, hk]
  unfold en
  rw [e1]
  unfold evS
  rw [tb_get _ hj, Int.emod_emod_of_dvd _ (Int.dvd_refl _)]
  exact voS_ser M (f[k]?.getD []) j hj
theorem fd_cong {n m : Nat} {M M' : List (List Int)} (hM : M.length = n) (hM' : M'.length = n) {f : List (List Mon)} (hm : m ≤ 7) (h : ∀ k, k < n → ∀ j, j < m → en M k j % 10007 = en M' k j % 10007) {k j : Nat} (hk : k < f.length) (hj : j < m) :
    en (fdS M f) k j % 10007 = en (fdS M' f) k j % 10007 := by
  rw [fd_en hk (by omega), fd_en hk (by omega), hM, hM']
  exact Cg.evM (cgS cgI m) (fun q hq i hi => h q hq i hi) (f[k]?.getD []) j hj
theorem fd_R7 (M : List (List Int)) (f : List (List Mon)) : R7 f.length (fdS M f) := ⟨by simp, fdS_row⟩
def Fix (A : List (List Int)) (f : List (List Mon)) (start : List (List Int)) (K : List (List (List Int))) : Prop := K.length = A.length ∧ ∀ i, i < A.length → K[i]?.getD [] = fdS (mvS start (A[i]?.getD []) K (A[i]?.getD []).length) f
section
variable {A : List (List Int)} {B : List Int} {f : List (List Mon)} {start : List (List Int)} {n : Nat}
theorem Fix.R7 {K : List (List (List Int))} (hf : f.length = n) (h : Fix A f start K) {i : Nat} (hi : i < A.length) : R7 n (K[i]?.getD []) := by
  rw [h.2 i hi, ← hf]; exact fd_R7 _ _
theorem slo_R7 (hf : f.length = n) (hs : R7 n start) (t : Nat) {i : Nat} (hi : i < A.length) : R7 n ((sloS A f start t)[i]?.getD []) := by
  have h := sloS_row (A := A) (f := f) (start := start) (by rw [hf, hs.1]) t _ (memD [] (show i < (sloS A f start t).length by rw [sloS_len]; exact hi))
  exact ⟨by rw [h.1, hs.1], h.2⟩
theorem slo_agree (hf : f.length = n) (hs : R7 n start) (hrow : ∀ i, i < A.length → (A[i]?.getD []).length = A.length) {K K' : List (List (List Int))} (g : ∀ i, i < A.length → R7 n (K[i]?.getD [])) (g' : ∀ i, i < A.length → R7 n (K'[i]?.getD [])) {t : Nat} (ht : t < 7)
    (h : ∀ i, i < A.length → ∀ k, k < n → ∀ j, j < t → en (K[i]?.getD []) k j % 10007 = en (K'[i]?.getD []) k j % 10007) {i : Nat} (hi : i < A.length) {k : Nat} (hk : k < n) {j : Nat} (hj : j < t + 1) :
    en (fdS (mvS start (A[i]?.getD []) K (A[i]?.getD []).length) f) k j % 10007 = en (fdS (mvS start (A[i]?.getD []) K' (A[i]?.getD []).length) f) k j % 10007 := by
  refine fd_cong (mv_R7 hs _ _ _).1 (mv_R7 hs _ _ _).1 (by omega) (fun q hq m hm => ?_) (by rw [hf]; exact hk) hj
  cases m with
  | zero => rw [mv_en0 hs _ _ _ hq, mv_en0 hs _ _ _ hq]
  | succ m =>
    rw [mv_enS hs _ hq (by omega) _ (fun q hq => g q (by rw [← hrow i hi]; exact hq)), mv_enS hs _ hq (by omega) _ (fun q hq => g' q (by rw [← hrow i hi]; exact hq))]
    refine mod_addc rfl (dsum_mod fun r hr => mod_mulc rfl (h r (by rw [← hrow i hi]; exact hr) q hq m (by omega)))
theorem slo_steady (hf : f.length = n) (hs : R7 n start) (hrow : ∀ i, i < A.length → (A[i]?.getD []).length = A.length) : ∀ t, t ≤ 7 → ∀ i, i < A.length → ∀ k, k < n → ∀ j, j < t →
    en ((sloS A f start t)[i]?.getD []) k j % 10007 = en ((sloS A f start (t + 1))[i]?.getD []) k j % 10007
  | 0, _, _, _, _, _, j, hj => by omega
  | t + 1, ht, i, hi, k, hk, j, hj => by
    rw [sloS_at f start t hi, sloS_at f start (t + 1) hi]
    exact slo_agree hf hs hrow (fun i hi => slo_R7 hf hs t hi) (fun i hi => slo_R7 hf hs (t + 1) hi) (by omega) (slo_steady hf hs hrow t (by omega)) hi hk hj
theorem slo_fix (hf : f.length = n) (hs : R7 n start) (hrow : ∀ i, i < A.length → (A[i]?.getD []).length = A.length) : Fix A f start (sloS A f start 7) := by
  refine ⟨sloS_len _ _ _ _, fun i hi => ?_⟩
  rw [← sloS_at f start 7 hi]
  exact R7.ext (slo_R7 hf hs 7 hi) (slo_R7 hf hs 8 hi) fun k hk j hj => slo_steady hf hs hrow 7 (Nat.le_refl _) i hi k hk j hj
theorem ste_R7 (hs : R7 n start) : R7 n (steS A B f start) := mv_R7 hs _ _ _
end
end Go.Proofs.YtnokgijakdaehaaGreatDoor


namespace Go.Proofs.YtnokgijakdaehaaGreatDoor
open Go.Abs
set_option linter.unusedSectionVars false
set_option linter.unusedVariables false
set_option linter.unusedSimpArgs false
set_option maxHeartbeats 1000000
def rowOk (A : List (List Int)) (r : List Int) : Bool := decide (r.length = (A[0]?.getD []).length) && numsB r
def matB (A : List (List Int)) : Bool := decide (1 ≤ A.length ∧ A.length ≤ 8) && (decide (1 ≤ (A[0]?.getD []).length ∧ (A[0]?.getD []).length ≤ 8) && A.all (rowOk A))
theorem matB_iff {A : List (List Int)} : matB A = true ↔ (1 ≤ A.length ∧ A.length ≤ 8) ∧ (1 ≤ (A[0]?.getD []).length ∧ (A[0]?.getD []).length ≤ 8) ∧ ∀ r ∈ A, r.length = (A[0]?.getD []).length ∧ Ns r := by
  unfold matB rowOk
  simp only [Bool.and_eq_true, decide_eq_true_eq, List.all_eq_true, numsB_N]
theorem lengthR_c (n : Nat) (cs : List AV) (hn : n ≤ 9223372036854775807) : Con Tryz.prog 115 [.sl n cs] (.int n) := by
  refine con_of_vc Tryz.mixed ⟨3, [], [], []⟩ Tryz.func115 (by decide) rfl (by simp) (by decide) (by simp [freshOK, freshL, go_sem]) ?_
  rw [Tryz.ntmps115]
  simp [go_sem]
  try omega
theorem at0 {A : List (List Int)} (h : 0 < A.length) : mat A = .sl (A[0]?.getD []).length (avs (A[0]?.getD [])) :: mat A.tail := by cases A with | nil => simp at h | cons x l => simp [mat]
set_option maxRecDepth 100000 in
theorem isMatrix_c (A : List (List Int)) (hl : A.length ≤ 9223372036854775807) (hr : ∀ r ∈ A, r.length ≤ 9223372036854775807) :
    Con Tryz.prog 43 [.sl A.length (mat A)] (.bool (matB A)) := by
  have cL := lengthR_c A.length (mat A) hl
  have cI := inRange_c (A.length : Int) 1 8
  by_cases h1 : 1 ≤ A.length ∧ A.length ≤ 8
  · have e1 : (decide ((1 : Int) ≤ A.length) && decide ((A.length : Int) ≤ 8)) = true := by simp; omega
    rw [e1] at cI
    have m0 := at0 (A := A) (by omega)
    have h0 : (A[0]?.getD []) ∈ A := by simp [show 0 < A.length by omega]
    have r0 := hr _ h0
    have fine : matB A = (decide (1 ≤ (A[0]?.getD []).length ∧ (A[0]?.getD []).length ≤ 8) && A.all (rowOk A)) := by unfold matB; rw [decide_eq_true h1]; rfl
    refine con_of_vc Tryz.mixed ⟨5, [], [], []⟩ Tryz.func43 (by decide) rfl (by simp) (by decide) (by simp [freshOK, freshL, go_sem]) ?_
    rw [Tryz.ntmps43]
    simp [go_sem]
    refine CallVC.of (cL) (by decide) ?_
    simp [go_sem]
    refine CallVC.of (cI) (by decide) ?_
    simp [go_sem]
    refine loop_inv (2 :: 4 :: List.range' 11 23) (fun i : Nat => [(11, .int i)]) (fun i => i ≤ A.length ∧ (∀ r ∈ A.take i, rowOk A r = true) ∧ (0 < i → 1 ≤ (A[0]?.getD []).length ∧ (A[0]?.getD []).length ≤ 8)) (fun i => A.length - i) 0 (by simp) (by simp [go_sem]) (by simp [go_sem]) ?_
    rintro i ⟨hi, hp, hq⟩
    simp [go_sem]
    refine ⟨fun h => ?_, fun h => ?_⟩ <;> simp at h
    · have hif := h
      have hx : A[i]?.getD [] ∈ A := by simp [h]
      have hx2 := hr _ hx
      have cl := length_c (A[i]?.getD []).length (avs (A[i]?.getD [])) hx2
      have ci := inRange_c ((A[i]?.getD []).length : Int) 1 8
      have cn := areNumbers_c (A[i]?.getD []) hx2
      have hno : rowOk A (A[i]?.getD []) = false → matB A = false := fun hh => by
        rw [fine]
        have : A.all (rowOk A) = false := by rw [List.all_eq_false]; exact ⟨_, hx, by simp [hh]⟩
        rw [this]; simp
      simp [go_sem, mat_drop hif]
      refine ⟨⟨hif, by rintro rfl; simp at hif⟩, ?_⟩
      generalize hR : A[i]?.getD [] = R at *
      by_cases c1 : R.length = (A[0]?.getD []).length
      · have c1' : (R.length : Int) = (A[0]?.getD []).length := by omega
        simp [go_sem, m0, c1']
        refine ⟨⟨by omega, by rintro rfl; simp at hif⟩, ?_⟩
        refine CallVC.of (cl) (by decide) ?_
        simp [go_sem]
        by_cases c2 : 1 ≤ R.length ∧ R.length ≤ 8
        · rw [show (decide ((1 : Int) ≤ R.length) && decide ((R.length : Int) ≤ 8)) = true by simp; omega] at ci
          refine CallVC.of (ci) (by decide) ?_
          simp [go_sem]
          cases hn : numsB R with
          | true =>
            rw [hn] at cn
            refine CallVC.of (cn) (by decide) ?_
            simp [go_sem]
            refine ⟨by omega, i + 1, ⟨by omega, take_all hif hp ?_, fun _ => by omega⟩, by omega, Off_reset _ _ _ (by simp), by omega⟩
            have : A[i] = R := by rw [← hR]; simp [hif]
            rw [this]; unfold rowOk; rw [hn, decide_eq_true c1]; rfl
          | false =>
            rw [hn] at cn
            refine CallVC.of (cn) (by decide) ?_
            simp [go_sem]
            exact hno (by unfold rowOk; rw [hn]; simp)
        · rw [show (decide ((1 : Int) ≤ R.length) && decide ((R.length : Int) ≤ 8)) = false by simp; omega] at ci
          refine CallVC.of (ci) (by decide) ?_
          simp [go_sem]
          rw [fine, decide_eq_false (by omega)]; rfl
      · have c1' : ¬ (R.length : Int) = (A[0]?.getD []).length := by omega
        simp [go_sem, m0, c1']
        exact ⟨⟨by omega, by rintro rfl; simp at hif⟩, hno (by unfold rowOk; rw [decide_eq_false c1]; rfl)⟩
    · simp [go_sem]
      rw [List.take_of_length_le h] at hp
      rw [fine, decide_eq_true (hq (by omega)), List.all_eq_true.2 hp]
      rfl
  · have e1 : (decide ((1 : Int) ≤ A.length) && decide ((A.length : Int) ≤ 8)) = false := by simp; omega
    rw [e1] at cI
    refine con_of_vc Tryz.mixed ⟨5, [], [], []⟩ Tryz.func43 (by decide) rfl (by simp) (by decide) (by simp [freshOK, freshL, go_sem]) ?_
    rw [Tryz.ntmps43]
    simp [go_sem]
    refine CallVC.of (cL) (by decide) ?_
    simp [go_sem]
    refine CallVC.of (cI) (by decide) ?_
    simp [go_sem]
    unfold matB
    rw [decide_eq_false h1]; rfl
set_option maxRecDepth 100000 in
theorem l01Matrix_c (A : List (List Int)) (hl : A.length ≤ 9223372036854775807) (hr : ∀ r ∈ A, r.length ≤ 9223372036854775807) :
    Con Tryz.prog 53 [.sl A.length (mat A)] (.int (if matB A = true then 0 else 1)) := by
  by_cases h1 : 1 ≤ A.length ∧ A.length ≤ 8
  · have m0 := at0 (A := A) (by omega)
    have h0 : (A[0]?.getD []) ∈ A := by simp [show 0 < A.length by omega]
    have r0 := hr _ h0
    have n1 : ¬ (A.length : Int) < 1 := by omega
    have n2 : ¬ (8 : Int) < A.length := by omega
    have n0 : ¬ A = [] := by rintro rfl; simp at h1
    by_cases h2 : 1 ≤ (A[0]?.getD []).length ∧ (A[0]?.getD []).length ≤ 8
    · have n3 : ¬ ((A[0]?.getD []).length : Int) < 1 := by omega
      have n4 : ¬ (8 : Int) < (A[0]?.getD []).length := by omega
      have fine : matB A = A.all (rowOk A) := by unfold matB; rw [decide_eq_true h1, decide_eq_true h2]; rfl
      refine con_of_vc Tryz.mixed ⟨4, [], [], []⟩ Tryz.func53 (by decide) rfl (by simp) (by decide) (by simp [freshOK, freshL, go_sem]) ?_
      rw [Tryz.ntmps53]
      simp [go_sem]
      simp [go_sem, n1, n2, m0, n3, n4]
      simp only [← m0]
      refine ⟨by omega, ?_⟩
      refine loop_inv (2 :: 3 :: List.range' 26 24) (fun i : Nat => [(3, .int i)]) (fun i => i ≤ A.length ∧ (∀ r ∈ A.take i, rowOk A r = true)) (fun i => A.length - i) 0 (by simp) (by simp [go_sem]) (by simp [go_sem]) ?_
      rintro i ⟨hi, hp⟩
      simp [go_sem]
      refine ⟨fun h => ?_, fun h => ?_⟩ <;> simp at h
      · have hif : i < A.length := by omega
        have hx : A[i]?.getD [] ∈ A := by simp [hif]
        have hx2 := hr _ hx
        have cn := l01Numbers_c (A[i]?.getD []) hx2
        have hno : rowOk A (A[i]?.getD []) = false → matB A = false := fun hh => by
          rw [fine, List.all_eq_false]; exact ⟨_, hx, by simp [hh]⟩
        simp [go_sem, mat_drop hif]
        simp [go_sem, m0]
        simp only [← m0]
        generalize hR : A[i]?.getD [] = R at *
        by_cases c1 : R.length = (A[0]?.getD []).length
        · have c1' : (R.length : Int) = (A[0]?.getD []).length := by omega
          simp [go_sem, mat_drop hif, hR, c1']
          refine ⟨by kernel_rfl, ⟨hif, n0⟩, ⟨by omega, n0⟩, ⟨hif, n0⟩, ?_⟩
          cases hn : numsB R with
          | true =>
            rw [hn] at cn
            refine CallD.of (cn) (by simp [roots, rootsL]) (by decide) ?_
            simp [go_sem]
            refine ⟨by kernel_rfl, ?_⟩
            simp [go_sem]
            refine ⟨by omega, i + 1, ⟨by omega, take_all hif hp ?_⟩, by omega, Off_reset _ _ _ (by simp), by omega⟩
            have : A[i] = R := by rw [← hR]; simp [hif]
            rw [this]; unfold rowOk; rw [hn, decide_eq_true c1]; rfl
          | false =>
            rw [hn] at cn
            refine CallD.of (cn) (by simp [roots, rootsL]) (by decide) ?_
            simp [go_sem]
            refine ⟨by kernel_rfl, ?_⟩
            simp [go_sem]
            rw [hno (by unfold rowOk; rw [hn]; simp)]
        · have c1' : ¬ (R.length : Int) = (A[0]?.getD []).length := by omega
          simp [go_sem, c1']
          refine ⟨by kernel_rfl, ⟨hif, n0⟩, ⟨by omega, n0⟩, ?_⟩
          refine ⟨by kernel_rfl, ?_⟩
          simp [go_sem]
          rw [hno (by unfold rowOk; rw [decide_eq_false c1]; rfl)]
      · simp [go_sem]
        rw [List.take_of_length_le (by omega)] at hp
        rw [fine, List.all_eq_true.2 hp]
    · have hm : matB A = false := by unfold matB; rw [decide_eq_true h1, decide_eq_false h2]; rfl
      rw [hm]
      by_cases n3 : ((A[0]?.getD []).length : Int) < 1
      · refine con_of_vc Tryz.mixed ⟨4, [], [], []⟩ Tryz.func53 (by decide) rfl (by simp) (by decide) (by simp [freshOK, freshL, go_sem]) ?_
        rw [Tryz.ntmps53]
        simp [go_sem]
        simp [go_sem, n1, n2, m0, n3]
        omega
      · have n4 : (8 : Int) < (A[0]?.getD []).length := by omega
        refine con_of_vc Tryz.mixed ⟨4, [], [], []⟩ Tryz.func53 (by decide) rfl (by simp) (by decide) (by simp [freshOK, freshL, go_sem]) ?_
        rw [Tryz.ntmps53]
        simp [go_sem]
        simp [go_sem, n1, n2, m0, n3, n4]
        omega
  · have hm : matB A = false := by unfold matB; rw [decide_eq_false h1]; rfl
    rw [hm]
    by_cases n1 : (A.length : Int) < 1
    · refine con_of_vc Tryz.mixed ⟨4, [], [], []⟩ Tryz.func53 (by decide) rfl (by simp) (by decide) (by simp [freshOK, freshL, go_sem]) ?_
      rw [Tryz.ntmps53]
      simp [go_sem]
      simp [go_sem, n1]
    · have n2 : (8 : Int) < A.length := by omega
      refine con_of_vc Tryz.mixed ⟨4, [], [], []⟩ Tryz.func53 (by decide) rfl (by simp) (by decide) (by simp [freshOK, freshL, go_sem]) ?_
      rw [Tryz.ntmps53]
      simp [go_sem]
      simp [go_sem, n1, n2]
def sqB (z : Int) (A : List (List Int)) : Bool := matB A && (decide ((A.length : Int) = z) && decide (((A[0]?.getD []).length : Int) = z))
def symB (A : List (List Int)) : Bool := (List.range A.length).all fun i => (List.range A.length).all fun k => decide ((A[i]?.getD [])[k]?.getD 0 = (A[k]?.getD [])[i]?.getD 0)
def formB (z : Int) (A : List (List Int)) : Bool := sqB z A && symB A
theorem sqB_iff {z : Int} {A : List (List Int)} : sqB z A = true ↔ (1 ≤ A.length ∧ A.length ≤ 8) ∧ (A.length : Int) = z ∧ ∀ r ∈ A, (r.length : Int) = z ∧ Ns r := by
  unfold sqB
  simp only [Bool.and_eq_true, decide_eq_true_eq, matB_iff]
  constructor
  · rintro ⟨⟨h1, h2, h3⟩, h4, h5⟩
    exact ⟨h1, h4, fun r hr => ⟨by have := (h3 r hr).1; omega, (h3 r hr).2⟩⟩
  · rintro ⟨h1, h2, h3⟩
    have h0 : (A[0]?.getD []) ∈ A := by simp [show 0 < A.length by omega]
    have := (h3 _ h0).1
    exact ⟨⟨h1, by omega, fun r hr => ⟨by have := (h3 r hr).1; omega, (h3 r hr).2⟩⟩, h2, by omega⟩
theorem symB_no {A : List (List Int)} {i k : Nat} (hi : i < A.length) (hk : k < A.length) (h : (A[i]?.getD [])[k]?.getD 0 ≠ (A[k]?.getD [])[i]?.getD 0) : symB A = false := by
  unfold symB
  rw [List.all_eq_false]
  refine ⟨i, by simpa using hi, ?_⟩
  rw [Bool.not_eq_true, List.all_eq_false]
  exact ⟨k, by simpa using hk, by simp [h]⟩
theorem symB_yes {A : List (List Int)} (h : ∀ i, i < A.length → ∀ k, k < A.length → (A[i]?.getD [])[k]?.getD 0 = (A[k]?.getD [])[i]?.getD 0) : symB A = true := by
  unfold symB
  rw [List.all_eq_true]
  intro i hi
  rw [List.all_eq_true]
  intro k hk
  simp [h i (by simpa using hi) k (by simpa using hk)]
set_option maxRecDepth 100000 in
theorem isFrame_c (z : Int) (n : Nat) (cs : List AV) (A : List (List Int)) (hl : A.length ≤ 9223372036854775807) (hr : ∀ r ∈ A, r.length ≤ 9223372036854775807) :
    Con Tryz.prog 161 [.agg [.int z, .sl n cs], .sl A.length (mat A)] (.bool (sqB z A)) := by
  have cM := isMatrix_c A hl hr
  have cL := lengthR_c A.length (mat A) hl
  unfold sqB
  cases hm : matB A with
  | false =>
    rw [hm] at cM
    refine con_of_vc Tryz.mixed ⟨5, [], [], []⟩ Tryz.func161 (by decide) rfl (by simp) (by decide) (by simp [freshOK, freshL, go_sem]) ?_
    rw [Tryz.ntmps161]
    simp [go_sem]
    refine ⟨by kernel_rfl, ?_⟩
    refine CallD.of (cM) (by simp [roots, rootsL]) (by decide) ?_
    simp [go_sem]
    refine ⟨by kernel_rfl, ?_⟩
    simp [go_sem]
  | true =>
    rw [hm] at cM
    have h1 := (matB_iff.1 hm).1
    have n0 : ¬ A = [] := by rintro rfl; simp at h1
    have m0 := at0 (A := A) (by omega)
    have cl := length_c (A[0]?.getD []).length (avs (A[0]?.getD [])) (by have := (matB_iff.1 hm).2.1; omega)
    by_cases h2 : (A.length : Int) = z
    · refine con_of_vc Tryz.mixed ⟨5, [], [], []⟩ Tryz.func161 (by decide) rfl (by simp) (by decide) (by simp [freshOK, freshL, go_sem]) ?_
      rw [Tryz.ntmps161]
      simp [go_sem]
      refine ⟨by kernel_rfl, ?_⟩
      refine CallD.of (cM) (by simp [roots, rootsL]) (by decide) ?_
      simp [go_sem]
      refine CallD.of (cL) (by simp [roots, rootsL]) (by decide) ?_
      simp [go_sem]
      simp [go_sem, h2, m0]
      refine ⟨by omega, ?_⟩
      refine CallD.of (cl) (by simp [roots, rootsL]) (by decide) ?_
      simp [go_sem]
      refine ⟨by kernel_rfl, ?_⟩
      simp [go_sem]
    · refine con_of_vc Tryz.mixed ⟨5, [], [], []⟩ Tryz.func161 (by decide) rfl (by simp) (by decide) (by simp [freshOK, freshL, go_sem]) ?_
      rw [Tryz.ntmps161]
      simp [go_sem]
      refine ⟨by kernel_rfl, ?_⟩
      refine CallD.of (cM) (by simp [roots, rootsL]) (by decide) ?_
      simp [go_sem]
      refine CallD.of (cL) (by simp [roots, rootsL]) (by decide) ?_
      simp [go_sem]
      simp [go_sem, h2]
      refine ⟨by kernel_rfl, ?_⟩
      simp [go_sem]
set_option maxRecDepth 100000 in
theorem l13Square_c (z : Int) (A : List (List Int)) (hl : A.length ≤ 9223372036854775807) (hr : ∀ r ∈ A, r.length ≤ 9223372036854775807) :
    Con Tryz.prog 162 [.int z, .sl A.length (mat A)] (.bool (sqB z A)) := by
  have cM := l01Matrix_c A hl hr
  unfold sqB
  cases hm : matB A with
  | false =>
    rw [hm] at cM
    refine con_of_vc Tryz.mixed ⟨5, [], [], []⟩ Tryz.func162 (by decide) rfl (by simp) (by decide) (by simp [freshOK, freshL, go_sem]) ?_
    rw [Tryz.ntmps162]
    simp [go_sem]
    refine CallVC.of (cM) (by decide) ?_
    simp [go_sem]
  | true =>
    rw [hm] at cM
    have h1 := (matB_iff.1 hm).1
    have n0 : ¬ A = [] := by rintro rfl; simp at h1
    have m0 := at0 (A := A) (by omega)
    by_cases h2 : (A.length : Int) = z
    · refine con_of_vc Tryz.mixed ⟨5, [], [], []⟩ Tryz.func162 (by decide) rfl (by simp) (by decide) (by simp [freshOK, freshL, go_sem]) ?_
      rw [Tryz.ntmps162]
      simp [go_sem]
      refine CallVC.of (cM) (by decide) ?_
      simp [go_sem]
      simp [go_sem, h2, m0]
      omega
    · refine con_of_vc Tryz.mixed ⟨5, [], [], []⟩ Tryz.func162 (by decide) rfl (by simp) (by decide) (by simp [freshOK, freshL, go_sem]) ?_
      rw [Tryz.ntmps162]
      simp [go_sem]
      refine CallVC.of (cM) (by decide) ?_
      simp [go_sem]
      simp [go_sem, h2]
set_option maxRecDepth 100000 in
theorem isForm_c (z : Int) (n : Nat) (cs : List AV) (A : List (List Int)) (hl : A.length ≤ 9223372036854775807) (hr : ∀ r ∈ A, r.length ≤ 9223372036854775807) :
    Con Tryz.prog 90 [.agg [.int z, .sl n cs], .sl A.length (mat A)] (.bool (formB z A)) := by
  have cF := isFrame_c z n cs A hl hr
  unfold formB
  cases hs : sqB z A with
  | false =>
    rw [hs] at cF
    refine con_of_vc Tryz.mixed ⟨7, [], [], []⟩ Tryz.func90 (by decide) rfl (by simp) (by decide) (by simp [freshOK, freshL, go_sem]) ?_
    rw [Tryz.ntmps90]
    simp [go_sem]
    refine CallVC.of (cF) (by decide) ?_
    simp [go_sem]
  | true =>
    rw [hs] at cF
    have hS := sqB_iff.1 hs
    have hrow : ∀ i, i < A.length → (A[i]?.getD []).length = A.length := fun i hi => by have := (hS.2.2 _ (memD [] hi)).1; omega
    refine con_of_vc Tryz.mixed ⟨7, [], [], []⟩ Tryz.func90 (by decide) rfl (by simp) (by decide) (by simp [freshOK, freshL, go_sem]) ?_
    rw [Tryz.ntmps90]
    simp [go_sem]
    refine CallVC.of (cF) (by decide) ?_
    simp [go_sem]
    refine loop_inv (4 :: 5 :: 6 :: List.range' 13 25) (fun i : Nat => [(13, .int i)]) (fun i => i ≤ A.length ∧ ∀ j, j < i → ∀ k, k < A.length → (A[j]?.getD [])[k]?.getD 0 = (A[k]?.getD [])[j]?.getD 0) (fun i => A.length - i) 0 (by simp) (by simp [go_sem]) (by simp [go_sem]) ?_
    rintro i ⟨hi, hp⟩
    simp [go_sem]
    refine ⟨fun h => ?_, fun h => ?_⟩ <;> simp at h
    · have hif := h
      simp [go_sem]
      refine loop_inv (4 :: 6 :: List.range' 18 19) (fun k : Nat => [(18, .int k)]) (fun k => k ≤ A.length ∧ ∀ j, j < k → (A[i]?.getD [])[j]?.getD 0 = (A[j]?.getD [])[i]?.getD 0) (fun k => A.length - k) 0 (by simp) (by simp [go_sem]) (by simp [go_sem]) ?_
      rintro k ⟨hk, hq⟩
      simp [go_sem]
      refine ⟨fun h => ?_, fun h => ?_⟩ <;> simp at h
      · have hkf := h
        have l1 := hrow i hif
        have l2 := hrow k hkf
        have h1 : k < (A[i]?.getD []).length := by omega
        have h2 : i < (A[k]?.getD []).length := by omega
        have n0 : ¬ A = [] := by rintro rfl; simp at hif
        simp [go_sem, mat_drop hif, mat_drop hkf, avs_drop h1, avs_drop h2]
        refine ⟨by kernel_rfl, ⟨hif, n0⟩, ⟨h1, by intro e; simp [e] at h1⟩, ⟨hkf, n0⟩, ⟨h2, by intro e; simp [e] at h2⟩, ?_⟩
        refine ⟨by kernel_rfl, ?_⟩
        simp [go_sem]
        refine ⟨fun h3 => ?_, fun h3 => ?_⟩ <;> simp at h3 <;> simp [go_sem]
        · rw [symB_no hif hkf h3]
        · refine ⟨by omega, k + 1, ⟨by omega, fun j hj => ?_⟩, by omega, Off_reset _ _ _ (by simp), by omega⟩
          by_cases e : j = k
          · rw [e]; exact h3
          · exact hq j (by omega)
      · simp [go_sem]
        refine ⟨by omega, i + 1, ⟨by omega, fun j hj k hk2 => ?_⟩, by omega, (Off.reset (by intro x hx; simp at hx ⊢; omega) (by simp) (by simp [go_sem, Off_reset])), by omega⟩
        by_cases e : j = i
        · rw [e]; exact hq k (by omega)
        · exact hp j (by omega) k hk2
    · simp [go_sem]
      rw [symB_yes (fun i hi => hp i (by omega))]
set_option maxRecDepth 100000 in
theorem l13Form_c (z : Int) (A : List (List Int)) (hl : A.length ≤ 9223372036854775807) (hr : ∀ r ∈ A, r.length ≤ 9223372036854775807) :
    Con Tryz.prog 96 [.int z, .sl A.length (mat A)] (.bool (formB z A)) := by
  have cF := l13Square_c z A hl hr
  unfold formB
  cases hs : sqB z A with
  | false =>
    rw [hs] at cF
    refine con_of_vc Tryz.mixed ⟨7, [], [], []⟩ Tryz.func96 (by decide) rfl (by simp) (by decide) (by simp [freshOK, freshL, go_sem]) ?_
    rw [Tryz.ntmps96]
    simp [go_sem]
    refine CallVC.of (cF) (by decide) ?_
    simp [go_sem]
  | true =>
    rw [hs] at cF
    have hS := sqB_iff.1 hs
    have hrow : ∀ i, i < A.length → (A[i]?.getD []).length = A.length := fun i hi => by have := (hS.2.2 _ (memD [] hi)).1; omega
    refine con_of_vc Tryz.mixed ⟨7, [], [], []⟩ Tryz.func96 (by decide) rfl (by simp) (by decide) (by simp [freshOK, freshL, go_sem]) ?_
    rw [Tryz.ntmps96]
    simp [go_sem]
    refine CallVC.of (cF) (by decide) ?_
    simp [go_sem]
    refine loop_inv (4 :: 5 :: 6 :: List.range' 11 27) (fun i : Nat => [(5, .int i)]) (fun i => i ≤ A.length ∧ ∀ j, j < i → ∀ k, k < A.length → (A[j]?.getD [])[k]?.getD 0 = (A[k]?.getD [])[j]?.getD 0) (fun i => A.length - i) 0 (by simp) (by simp [go_sem]) (by simp [go_sem]) ?_
    rintro i ⟨hi, hp⟩
    simp [go_sem]
    refine ⟨fun h => ?_, fun h => ?_⟩ <;> simp at h
    · have hif : i < A.length := by omega
      simp [go_sem]
      refine loop_inv (4 :: 6 :: List.range' 17 21) (fun k : Nat => [(6, .int k)]) (fun k => k ≤ A.length ∧ ∀ j, j < k → (A[i]?.getD [])[j]?.getD 0 = (A[j]?.getD [])[i]?.getD 0) (fun k => A.length - k) 0 (by simp) (by simp [go_sem]) (by simp [go_sem]) ?_
      rintro k ⟨hk, hq⟩
      simp [go_sem]
      refine ⟨fun h => ?_, fun h => ?_⟩ <;> simp at h
      · have hkf : k < A.length := by omega
        have l1 := hrow i hif
        have l2 := hrow k hkf
        have h1 : k < (A[i]?.getD []).length := by omega
        have h2 : i < (A[k]?.getD []).length := by omega
        have n0 : ¬ A = [] := by rintro rfl; simp at hif
        simp [go_sem, mat_drop hif, mat_drop hkf, avs_drop h1, avs_drop h2]
        refine ⟨by kernel_rfl, ⟨hif, n0⟩, ⟨h1, by intro e; simp [e] at h1⟩, ⟨hkf, n0⟩, ⟨h2, by intro e; simp [e] at h2⟩, ?_⟩
        refine ⟨by kernel_rfl, ?_⟩
        simp [go_sem]
        refine ⟨fun h3 => ?_, fun h3 => ?_⟩ <;> simp at h3 <;> simp [go_sem]
        · rw [symB_no hif hkf h3]
        · refine ⟨by omega, k + 1, ⟨by omega, fun j hj => ?_⟩, by omega, Off_reset _ _ _ (by simp), by omega⟩
          by_cases e : j = k
          · rw [e]; exact h3
          · exact hq j (by omega)
      · simp [go_sem]
        refine ⟨by omega, i + 1, ⟨by omega, fun j hj k hk2 => ?_⟩, by omega, (Off.reset (by intro x hx; simp at hx ⊢; omega) (by simp) (by simp [go_sem, Off_reset])), by omega⟩
        by_cases e : j = i
        · rw [e]; exact hq k (by omega)
        · exact hp j (by omega) k hk2
    · simp [go_sem]
      rw [symB_yes (fun i hi => hp i (by omega))]
end Go.Proofs.YtnokgijakdaehaaGreatDoor


namespace Go.Proofs.YtnokgijakdaehaaGreatDoor
open Go.Abs
set_option linter.unusedSectionVars false
set_option linter.unusedVariables false
set_option linter.unusedSimpArgs false
set_option maxHeartbeats 1000000
def cfT (T : List (Key × Int)) (k : Key) : Int := coef Prod.fst Prod.snd T k
def mapT (T : List (Key × Int)) : Key → Option Int := fun k => if hasK T k = true then some (cfT T k % 10007) else none
theorem cfT_app (a b : List (Key × Int)) (k : Key) : cfT (a ++ b) k = cfT a k + cfT b k := sumI_app _ a b
theorem cfT_perm {a b : List (Key × Int)} (h : a.Perm b) (k : Key) : cfT a k = cfT b k := by
  induction h with
  | nil => rfl
  | cons x _ ih => simp only [cfT, coef, sumI] at ih ⊢; rw [ih]
  | swap x y l => simp only [cfT, coef, sumI]; omega
  | trans _ _ i1 i2 => rw [i1, i2]
theorem hasK_perm {a b : List (Key × Int)} (h : a.Perm b) (k : Key) : hasK a k = hasK b k := by
  cases hb : hasK b k with
  | true =>
    obtain ⟨e, he, hk⟩ := hasK_iff.1 hb
    exact hasK_iff.2 ⟨e, h.mem_iff.2 he, hk⟩
  | false =>
    cases ha : hasK a k with
    | false => rfl
    | true =>
      obtain ⟨e, he, hk⟩ := hasK_iff.1 ha
      rw [hasK_iff.2 ⟨e, h.mem_iff.1 he, hk⟩] at hb
      simp at hb
theorem mapT_perm {a b : List (Key × Int)} (h : a.Perm b) : mapT a = mapT b := by
  funext k
  unfold mapT
  rw [hasK_perm h, cfT_perm h]
theorem mapT_nil : mapT [] = mzero := by funext k; simp [mapT, hasK, mzero]
theorem cfT_none {T : List (Key × Int)} {k : Key} (h : hasK T k = false) : cfT T k = 0 := by
  unfold cfT coef
  refine sumI_zero (fun e he => if_neg (fun e1 => ?_))
  rw [hasK_iff.2 ⟨e, he, e1.symm⟩] at h
  simp at h
theorem mapT_get (T : List (Key × Int)) (k : Key) : (mapT T k).getD 0 = cfT T k % 10007 := by
  unfold mapT
  cases h : hasK T k with
  | true => simp
  | false => simp [cfT_none h]
theorem mapT_N {T : List (Key × Int)} {k : Key} : isN ((mapT T k).getD 0) := by rw [mapT_get]; exact isN_mod _
theorem mapT_snoc (T : List (Key × Int)) (k0 : Key) (v : Int) : mset (mapT T) k0 (((mapT T k0).getD 0 + v) % 10007) = mapT (T ++ [(k0, v)]) := by
  funext k
  unfold mset
  by_cases hk : k = k0
  · subst hk
    rw [if_pos rfl, mapT_get]
    have h1 : hasK (T ++ [(k, v)]) k = true := by simp [hasK]
    have h2 : cfT (T ++ [(k, v)]) k = cfT T k + v := by rw [cfT_app]; simp [cfT, coef, sumI]
    simp only [mapT, h1, h2, if_true]
    congr 1
    omega
  · rw [if_neg hk]
    have h1 : hasK (T ++ [(k0, v)]) k = hasK T k := by
      simp only [hasK, List.any_append, List.any_cons, List.any_nil, Bool.or_false]
      rw [decide_eq_false (fun e => hk e.symm)]; simp
    have h2 : cfT (T ++ [(k0, v)]) k = cfT T k := by rw [cfT_app]; simp [cfT, coef, sumI, hk]
    simp only [mapT, h1, h2]
def addK (a b : Key) : Key := (a.1 + b.1, a.2.1 + b.2.1, a.2.2 + b.2.2)
def prE (e : Key × Int) (E : List (Key × Int)) : List (Key × Int) := E.map fun d => (addK e.1 d.1, e.2 * d.2)
def prT (D E : List (Key × Int)) : List (Key × Int) := D.flatMap fun e => prE e E
theorem prT_cons (e : Key × Int) (D E : List (Key × Int)) : prT (e :: D) E = prE e E ++ prT D E := rfl
theorem prT_app (A D E : List (Key × Int)) : prT (A ++ D) E = prT A E ++ prT D E := by simp [prT]
theorem prE_app (e : Key × Int) (A E : List (Key × Int)) : prE e (A ++ E) = prE e A ++ prE e E := by simp [prE]
theorem prE_perm (e : Key × Int) {A E : List (Key × Int)} (h : A.Perm E) : (prE e A).Perm (prE e E) := h.map _
theorem prT_perm {A D : List (Key × Int)} (E : List (Key × Int)) (h : A.Perm D) : (prT A E).Perm (prT D E) := by
  induction h with
  | nil => exact .refl _
  | cons x _ ih => rw [prT_cons, prT_cons]; exact ih.append_left _
  | swap x y l =>
    rw [prT_cons, prT_cons, prT_cons, prT_cons, ← List.append_assoc, ← List.append_assoc]
    exact List.perm_append_comm.append_right _
  | trans _ _ i1 i2 => exact i1.trans i2
theorem prT_mid (l1 l2 E : List (Key × Int)) (e : Key × Int) (T : List (Key × Int)) : ((T ++ prE e E) ++ prT (l1 ++ l2) E).Perm (T ++ prT (l1 ++ e :: l2) E) := by
  rw [List.append_assoc]
  refine List.Perm.append_left _ ?_
  rw [prT_app, prT_app, prT_cons, ← List.append_assoc, ← List.append_assoc]
  exact List.perm_append_comm.append_right _
theorem prE_mid (l1 l2 : List (Key × Int)) (e d : Key × Int) (T : List (Key × Int)) : ((T ++ [(addK e.1 d.1, e.2 * d.2)]) ++ prE e (l1 ++ l2)).Perm (T ++ prE e (l1 ++ d :: l2)) := by
  rw [List.append_assoc]
  refine List.Perm.append_left _ ?_
  rw [prE_app, prE_app]
  show ([(addK e.1 d.1, e.2 * d.2)] ++ (prE e l1 ++ prE e l2)).Perm (prE e l1 ++ ([(addK e.1 d.1, e.2 * d.2)] ++ prE e l2))
  rw [← List.append_assoc, ← List.append_assoc]
  exact List.perm_append_comm.append_right _
def zdE (a b : List Int) (j : Nat) : List Int := (List.range 3).map fun t => if t < j then a[t]?.getD 0 + b[t]?.getD 0 else 0
@[simp] theorem zdE_len (a b : List Int) (j : Nat) : (zdE a b j).length = 3 := by simp [zdE]
theorem zdE_set {a b : List Int} {j : Nat} (h : j < 3) : (zdE a b j).set j (a[j]?.getD 0 + b[j]?.getD 0) = zdE a b (j + 1) := by
  refine List.ext_getElem (by simp) fun i h1 h2 => ?_
  simp at h1
  rw [List.getElem_set]
  by_cases e : j = i
  · subst e; simp [zdE]
  · simp only [e, if_false, zdE, List.getElem_map, List.getElem_range]
    by_cases h3 : i < j
    · simp [h3, show i < j + 1 by omega]
    · simp [h3, show ¬ i < j + 1 by omega]
theorem zdE_all (a b c d e f : Int) : avs (zdE [a, b, c] [d, e, f] 3) = [.int (a + d), .int (b + e), .int (c + f)] := by
  simp [zdE, avs, List.range, List.range.loop]
theorem eok_at {k0 k1 k2 x : Int} (h : EOk ((k0, k1, k2), x)) : ∀ i : Nat, 0 ≤ ([k0, k1, k2] : List Int)[i]?.getD 0 ∧ ([k0, k1, k2] : List Int)[i]?.getD 0 ≤ 1000 := by
  obtain ⟨_, a1, a2, a3, a4, a5, a6⟩ := h
  intro i
  match i with
  | 0 => exact ⟨a1, a2⟩
  | 1 => exact ⟨a3, a4⟩
  | 2 => exact ⟨a5, a6⟩
  | i + 3 => simp
set_option maxRecDepth 100000 in
theorem product_c {c c' : Key → Option Int} {D E : List (Key × Int)} (hD : Enum c D) (hE : Enum c' E) (hc : ∀ k x, c k = some x → EOk (k, x)) (hc' : ∀ k x, c' k = some x → EOk (k, x)) :
    Con Tryz.prog 92 [.fmp c, .fmp c'] (.mp (mapT (prT D E))) := by
  refine con_of_vc Tryz.mixed ⟨12, [], [], []⟩ Tryz.func92 (by decide) rfl (by simp) (by decide) (by simp [freshOK, freshL, go_sem]) ?_
  rw [Tryz.ntmps92]
  simp [go_sem]
  intro es hes
  refine loop_inv (5 :: 6 :: 7 :: 8 :: 9 :: 10 :: 11 :: List.range' 14 38) (fun x : List (Key × Int) × Option (Key × Int) × List (Key × Int) => [(5, .mp (mapT x.1)), (14, .it x.2.1 x.2.2)]) (fun x => (x.1 ++ prT x.2.2 E).Perm (prT D E) ∧ ∀ e ∈ x.2.2, EOk e) (fun x => x.2.2.length) ([], none, es) ⟨prT_perm E (enum_unique hes hD), fun e he => hc e.1 e.2 (hes.val e he)⟩ (by simp [go_sem, mapT_nil]) (by simp [go_sem]) ?_
  rintro ⟨T, l, rem⟩ ⟨hT, hrem⟩
  simp only at hT hrem
  simp [go_sem, keyAV]
  refine ⟨fun hr => ?_, fun l1 k0 k1 k2 x l2 hr => ?_⟩
  · subst hr
    rw [prT, List.flatMap_nil, List.append_nil] at hT
    exact mapT_perm hT
  · subst hr
    have hek := hrem ((k0, k1, k2), x) (by simp)
    have hx : isN x := hek.1
    intro es' hes'
    refine loop_inv (5 :: 8 :: 9 :: 10 :: 11 :: List.range' 21 31) (fun y : List (Key × Int) × Option (Key × Int) × List (Key × Int) => [(5, .mp (mapT y.1)), (21, .it y.2.1 y.2.2)]) (fun y => (y.1 ++ prE ((k0, k1, k2), x) y.2.2).Perm (T ++ prE ((k0, k1, k2), x) E) ∧ ∀ e ∈ y.2.2, EOk e) (fun y => y.2.2.length) (T, none, es') ⟨(prE_perm _ (enum_unique hes' hE)).append_left _, fun e he => hc' e.1 e.2 (hes'.val e he)⟩ (by simp [go_sem]) (by simp [go_sem]) ?_
    rintro ⟨T', l', rem'⟩ ⟨hT', hrem'⟩
    simp only at hT' hrem'
    simp [go_sem, keyAV]
    refine ⟨fun hr => ?_, fun l1' d0 d1 d2 b l2' hr => ?_⟩
    · subst hr
      rw [prE, List.map_nil, List.append_nil] at hT'
      refine ⟨T', _, l1 ++ l2, ⟨((hT'.append_right _).trans (prT_mid l1 l2 E _ T)).trans hT, fun a b c d he => hrem _ ?_⟩, by simp, (Off.reset (by intro x hx; simp at hx ⊢; omega) (by simp) (by simp [go_sem, Off_reset])), rfl, rfl, rfl⟩
      rcases List.mem_append.1 he with he | he <;> simp [he]
    · subst hr
      have hek' := hrem' ((d0, d1, d2), b) (by simp)
      have hb : isN b := hek'.1
      refine loop_inv (10 :: 11 :: List.range' 28 13) (fun i : Nat => [(10, .box 174 (avs (zdE [k0, k1, k2] [d0, d1, d2] i))), (28, .int i)]) (fun i => i ≤ 3) (fun i => 3 - i) 0 (by simp) (by simp [go_sem, zdE, avs, List.range, List.range.loop]) (by simp [go_sem]) ?_
      intro i hi
      simp [go_sem]
      refine ⟨fun h => ?_, fun h => ?_⟩ <;> simp at h
      · have hi3 : i < 3 := by omega
        have e3 : ([.val (.int .i64 k0), .val (.int .i64 k1), .val (.int .i64 k2)] : List AV)[i]? = some (.val (.int .i64 (([k0, k1, k2] : List Int)[i]?.getD 0))) := avs_at' (xs := [k0, k1, k2]) hi3
        have e4 : ([.val (.int .i64 d0), .val (.int .i64 d1), .val (.int .i64 d2)] : List AV)[i]? = some (.val (.int .i64 (([d0, d1, d2] : List Int)[i]?.getD 0))) := avs_at' (xs := [d0, d1, d2]) hi3
        have g3 : 0 ≤ ([k0, k1, k2] : List Int)[i]?.getD 0 ∧ ([k0, k1, k2] : List Int)[i]?.getD 0 ≤ 1000 := eok_at hek i
        have g4 : 0 ≤ ([d0, d1, d2] : List Int)[i]?.getD 0 ∧ ([d0, d1, d2] : List Int)[i]?.getD 0 ≤ 1000 := eok_at hek' i
        have hset := zdE_set (a := [k0, k1, k2]) (b := [d0, d1, d2]) hi3
        have hZl : (zdE [k0, k1, k2] [d0, d1, d2] i).length = 3 := zdE_len _ _ _
        generalize eZ : zdE [k0, k1, k2] [d0, d1, d2] (i + 1) = Z2 at *
        generalize zdE [k0, k1, k2] [d0, d1, d2] i = Z at *
        generalize ([k0, k1, k2] : List Int)[i]?.getD 0 = ki at *
        generalize ([d0, d1, d2] : List Int)[i]?.getD 0 = di at *
        simp [go_sem, e3, e4]
        refine ⟨by kernel_rfl, by omega, ⟨by omega, by omega⟩, ⟨by omega, by rintro rfl; simp at hZl⟩, by omega, ?_⟩
        refine ⟨by kernel_rfl, ?_⟩
        simp [go_sem]
        refine ⟨by omega, i + 1, by omega, by omega, Off_reset _ _ _ (by simp), ?_, by omega⟩
        rw [eZ, ← hset, avs_set]
      · have e : i = 3 := by omega
        subst e
        rw [zdE_all]
        have m1 := mul_fits hx hb
        have m2 := mul_bound hx hb
        have sN := mapT_N (T := T') (k := (k0 + d0, k1 + d1, k2 + d2))
        have hs := mapT_snoc T' (k0 + d0, k1 + d1, k2 + d2) (x * b)
        obtain ⟨s0, s1⟩ := sN
        simp [go_sem]
        refine ⟨by kernel_rfl, m1, ⟨by omega, by omega⟩, ?_⟩
        refine CallD.of (num_c _ (by omega) (by omega)) (by simp [roots, rootsL]) (by decide) ?_
        simp [go_sem]
        refine ⟨by kernel_rfl, ?_⟩
        simp [go_sem]
        refine ⟨T' ++ [((k0 + d0, k1 + d1, k2 + d2), x * b)], _, l1' ++ l2', ⟨(prE_mid l1' l2' ((k0, k1, k2), x) ((d0, d1, d2), b) T').trans hT', fun a b c d he => hrem' _ ?_⟩, by simp, (Off.reset (by intro x hx; simp at hx ⊢; omega) (by simp) (by simp [go_sem, Off_reset])), ?_, rfl, rfl⟩
        · rcases List.mem_append.1 he with he | he <;> simp [he]
        · rw [hs]
end Go.Proofs.YtnokgijakdaehaaGreatDoor


namespace Go.Proofs.YtnokgijakdaehaaGreatDoor
open Go.Abs
set_option linter.unusedSectionVars false
set_option linter.unusedVariables false
set_option linter.unusedSimpArgs false
set_option maxHeartbeats 1000000
theorem ltL_tri : ∀ {a b : List Int}, a.length = b.length → a ≠ b → ltL a b = false → ltL b a = true
  | [], [], _, h, _ => absurd rfl h
  | x :: a, y :: b, hl, h, h2 => by
    simp only [ltL] at h2 ⊢
    by_cases e : x = y
    · subst e
      simp only [if_true] at h2 ⊢
      exact ltL_tri (by simpa using hl) (fun e => h (by rw [e])) h2
    · rw [if_neg e] at h2
      rw [if_neg (fun x => e x.symm)]
      simp at h2 ⊢
      omega
def Srt (L : List Mon) : Prop := L.Pairwise (fun a b => ltL a.2 b.2 = true)
def Nzl (L : List Mon) : Prop := ∀ m ∈ L, 1 ≤ m.1 ∧ m.1 ≤ 10006
theorem putGo_keys {c : Int} {e : List Int} : ∀ (l : List Mon) (done : Bool), ∀ x ∈ putGo c e l done, (∃ m ∈ l, x.2 = m.2) ∨ (done = false ∧ x.2 = e)
  | [], true, x, hx => by simp [putGo] at hx
  | [], false, x, hx => by simp [putGo] at hx; rw [hx]; exact .inr ⟨rfl, rfl⟩
  | a :: l, done, x, hx => by
    have one : ∀ b : Mon, b.2 = a.2 → x ∈ (if b.1 = 0 then [] else [b]) → (∃ m ∈ a :: l, x.2 = m.2) ∨ (done = false ∧ x.2 = e) := fun b hb hxx => by
      split at hxx
      · simp at hxx
      · simp at hxx; exact .inl ⟨a, by simp, by rw [hxx, hb]⟩
    have tl : ∀ d, (d = true ∨ d = done) → x ∈ putGo c e l d → (∃ m ∈ a :: l, x.2 = m.2) ∨ (done = false ∧ x.2 = e) := fun d hd hxx => by
      rcases putGo_keys l d x hxx with ⟨m, hm, hk⟩ | ⟨h1, h2⟩
      · exact .inl ⟨m, by simp [hm], hk⟩
      · rcases hd with rfl | rfl
        · simp at h1
        · exact .inr ⟨h1, h2⟩
    rw [putGo] at hx
    split at hx
    · rcases List.mem_append.1 hx with hx | hx
      · exact one ((a.1 + c) % 10007, a.2) rfl hx
      · exact tl true (.inl rfl) hx
    · split at hx
      · rename_i h
        rcases List.mem_cons.1 hx with hx | hx
        · exact .inr ⟨h.1, by rw [hx]⟩
        · rcases List.mem_append.1 hx with hx | hx
          · exact one a rfl hx
          · exact tl true (.inl rfl) hx
      · rcases List.mem_append.1 hx with hx | hx
        · exact one a rfl hx
        · exact tl done (.inr rfl) hx
theorem putGo_srt {n : Nat} {c : Int} {e : List Int} (he : e.length = n) : ∀ (l : List Mon) (done : Bool), (∀ m ∈ l, m.2.length = n) → Srt l → Srt (putGo c e l done)
  | [], true, _, _ => by simp [putGo, Srt]
  | [], false, _, _ => by simp [putGo, Srt]
  | a :: l, done, hl, hs => by
    obtain ⟨h1, h2⟩ := List.pairwise_cons.1 hs
    have ih := fun d => putGo_srt (c := c) he l d (fun m hm => hl m (by simp [hm])) h2
    have cons : ∀ (b : Mon) (d : Bool), b.2 = a.2 → (d = true ∨ ltL a.2 e = true) → Srt ((if b.1 = 0 then [] else [b]) ++ putGo c e l d) := fun b d hb hd => by
      split
      · exact ih d
      · refine List.pairwise_cons.2 ⟨fun x hx => ?_, ih d⟩
        rw [hb]
        rcases putGo_keys l d x hx with ⟨m, hm, hk⟩ | ⟨h3, h4⟩
        · rw [hk]; exact h1 m hm
        · rw [h4]
          rcases hd with rfl | hd
          · simp at h3
          · exact hd
    rw [putGo]
    split
    · exact cons ((a.1 + c) % 10007, a.2) true rfl (.inl rfl)
    · rename_i n1
      split
      · rename_i h
        refine List.pairwise_cons.2 ⟨fun x hx => ?_, cons a true rfl (.inl rfl)⟩
        have key : (∃ m ∈ a :: l, x.2 = m.2) := by
          rcases List.mem_append.1 hx with hx | hx
          · split at hx
            · simp at hx
            · simp at hx; exact ⟨a, by simp, by rw [hx]⟩
          · rcases putGo_keys l true x hx with ⟨m, hm, hk⟩ | ⟨h3, _⟩
            · exact ⟨m, by simp [hm], hk⟩
            · simp at h3
        obtain ⟨m, hm, hk⟩ := key
        show ltL e x.2 = true
        rw [hk]
        rcases List.mem_cons.1 hm with rfl | hm
        · exact h.2
        · exact ltL_trans h.2 (h1 m hm)
      · rename_i n2
        cases done with
        | true => exact cons a true rfl (.inl rfl)
        | false =>
          have ne : a.2 ≠ e := fun x => n1 ⟨rfl, x⟩
          have nl : ltL e a.2 = false := by
            cases hb : ltL e a.2 with
            | false => rfl
            | true => exact absurd ⟨rfl, hb⟩ n2
          exact cons a false rfl (.inr (ltL_tri (by rw [he, hl a (by simp)]) (fun x => ne x.symm) nl))
theorem putGo_nz {c : Int} {e : List Int} (hc : 1 ≤ c ∧ c ≤ 10006) : ∀ (l : List Mon) (done : Bool), Nzl l → Nzl (putGo c e l done)
  | [], true, _ => by simp [putGo, Nzl]
  | [], false, _ => by intro m hm; simp [putGo] at hm; rw [hm]; exact hc
  | a :: l, done, hl => by
    have ha := hl a (by simp)
    have ih := fun d => putGo_nz (e := e) hc l d (fun m hm => hl m (by simp [hm]))
    have one : ∀ b : Mon, (b.1 = 0 ∨ 1 ≤ b.1 ∧ b.1 ≤ 10006) → ∀ L, Nzl L → Nzl ((if b.1 = 0 then [] else [b]) ++ L) := fun b hb L hL m hm => by
      rcases List.mem_append.1 hm with hm | hm
      · split at hm
        · simp at hm
        · rename_i h; simp at hm; rw [hm]; rcases hb with hb | hb; exact absurd hb h; exact hb
      · exact hL m hm
    rw [putGo]
    split
    · exact one ((a.1 + c) % 10007, a.2) (by simp only; omega) _ (ih true)
    · split
      · intro m hm
        rcases List.mem_cons.1 hm with rfl | hm
        · exact hc
        · exact one a (.inr ha) _ (ih true) m hm
      · exact one a (.inr ha) _ (ih done)
theorem putGo_done {c c' : Int} {e : List Int} : ∀ l : List Mon, putGo c e l true = putGo c' e l true
  | [] => rfl
  | a :: l => by rw [putGo_t, putGo_t, putGo_done l]
theorem putL_nz {L : List Mon} {c : Int} {e : List Int} (hc : isN c) (hL : Nzl L) : Nzl (putL L c e) := by
  unfold putL
  by_cases h : c = 0
  · rw [decide_eq_true h, putGo_done (c' := 1)]
    exact putGo_nz ⟨by omega, by omega⟩ L true hL
  · exact putGo_nz ⟨by have := hc.1; omega, by have := hc.2; omega⟩ L _ hL
theorem plusL_srt {n : Nat} {B k : Int} : ∀ (q p : List Mon), (∀ m ∈ q, WOk n B m) → (∀ m ∈ p, WOk n B m) → Srt p ∧ Nzl p → Srt (plusL p k q) ∧ Nzl (plusL p k q)
  | [], _, _, _, h => h
  | m :: q, p, hq, hp, h => by
    have hm := hq m (by simp)
    exact plusL_srt q _ (fun a ha => hq a (by simp [ha])) (putGo_wok ⟨isN_mod _, hm.len, hm.pw⟩ p _ hp) ⟨putGo_srt hm.len p _ (fun a ha => (hp a ha).len) h.1, putL_nz (isN_mod _) h.2⟩
theorem cfL_at {n : Nat} (hn : n ≤ 3) : ∀ {L : List Mon}, (∀ m ∈ L, m.2.length = n) → Srt L → ∀ m ∈ L, cfL L (keyOf m.2) = m.1
  | a :: L, hl, hs, m, hm => by
    obtain ⟨h1, h2⟩ := List.pairwise_cons.1 hs
    have ne : ∀ b ∈ L, keyOf a.2 ≠ keyOf b.2 := fun b hb e => by
      have := keyOf_inj (by rw [hl a (by simp), hl b (by simp [hb])]) (by rw [hl a (by simp)]; exact hn) e
      have h3 := h1 b hb
      rw [this, ltL_irr] at h3
      simp at h3
    rw [cfL_cons]
    rcases List.mem_cons.1 hm with rfl | hm
    · rw [if_pos rfl]
      have : cfL L (keyOf m.2) = 0 := by
        unfold cfL coef
        exact sumI_zero (fun b hb => if_neg (ne b hb))
      rw [this]; omega
    · rw [if_neg (fun e => ne m hm e.symm), cfL_at hn (fun b hb => hl b (by simp [hb])) h2 m hm]; omega
theorem plusL_cf (k : Int) (K : Key) : ∀ (q p : List Mon), cfL (plusL p k q) K % 10007 = (cfL p K + k * cfL q K) % 10007
  | [], p => by simp [plusL, cfL, coef, sumI]
  | m :: q, p => by
    rw [plusL, plusL_cf k K q, cfL_cons, Int.add_emod, putL_cf, Int.mul_add]
    by_cases h : K = keyOf m.2
    · simp only [h, if_true]; omega
    · simp only [h, if_false]; omega
def pcf (p q : List Mon) (K : Key) : Int := sumI (fun a => sumI (fun b => if K = keyOf (addE a.2 b.2) then a.1 * b.1 else 0) q) p
theorem prodRow_cf (a : Mon) (K : Key) : ∀ (q acc : List Mon), cfL (prodRow a acc q) K % 10007 = (cfL acc K + sumI (fun b => if K = keyOf (addE a.2 b.2) then a.1 * b.1 else 0) q) % 10007
  | [], acc => by simp [prodRow, sumI]
  | b :: q, acc => by
    rw [prodRow, prodRow_cf a K q, Int.add_emod, putL_cf]
    simp only [sumI]
    by_cases h : K = keyOf (addE a.2 b.2)
    · simp only [h, if_true]; omega
    · simp only [h, if_false]; omega
theorem prodGo_cf (q : List Mon) (K : Key) : ∀ (p acc : List Mon), cfL (prodGo acc q p) K % 10007 = (cfL acc K + pcf p q K) % 10007
  | [], acc => by simp [prodGo, pcf, sumI]
  | a :: p, acc => by
    rw [prodGo, prodGo_cf q K p, Int.add_emod, prodRow_cf]
    simp only [pcf, sumI]
    omega
theorem prodL_cf (p q : List Mon) (K : Key) : cfL (prodL p q) K % 10007 = pcf p q K % 10007 := by
  unfold prodL
  rw [prodGo_cf]; simp [cfL, coef, sumI]
theorem keyOf_add {a b : List Int} (hl : a.length = b.length) (h3 : a.length ≤ 3) : keyOf (addE a b) = addK (keyOf a) (keyOf b) := by
  match a, b, hl, h3 with
  | [], [], _, _ => rfl
  | [x], [y], _, _ => simp [keyOf, addE, addK]
  | [x, x'], [y, y'], _, _ => simp [keyOf, addE, addK]
  | [x, x', x''], [y, y', y''], _, _ => simp [keyOf, addE, addK]
theorem cfT_prE (e : Key × Int) (K : Key) : ∀ E : List (Key × Int), cfT (prE e E) K = sumI (fun d => if K = addK e.1 d.1 then e.2 * d.2 else 0) E
  | [] => rfl
  | d :: E => by
    show cfT ((addK e.1 d.1, e.2 * d.2) :: prE e E) K = _
    simp only [sumI, ← cfT_prE e K E]; rfl
theorem cfT_prT (K : Key) (E : List (Key × Int)) : ∀ D : List (Key × Int), cfT (prT D E) K = sumI (fun e => sumI (fun d => if K = addK e.1 d.1 then e.2 * d.2 else 0) E) D
  | [] => rfl
  | e :: D => by
    rw [prT_cons, cfT_app, cfT_prE, cfT_prT K E D]; rfl
theorem cfT_lists {n : Nat} (hn : n ≤ 3) {p q : List Mon} (hp : ∀ m ∈ p, m.2.length = n) (hq : ∀ m ∈ q, m.2.length = n) (K : Key) : cfT (prT (p.map keyM) (q.map keyM)) K = pcf p q K := by
  rw [cfT_prT, sumI_map]
  unfold pcf
  refine sumI_congr (fun a ha => ?_)
  rw [sumI_map]
  refine sumI_congr (fun b hb => ?_)
  simp only [keyM]
  rw [keyOf_add (by rw [hp a ha, hq b hb]) (by rw [hp a ha]; exact hn)]
  rfl
end Go.Proofs.YtnokgijakdaehaaGreatDoor


namespace Go.Proofs.YtnokgijakdaehaaGreatDoor
open Go.Abs
set_option linter.unusedSectionVars false
set_option linter.unusedVariables false
set_option linter.unusedSimpArgs false
set_option maxHeartbeats 1000000
def linL (a : List Int) : List Mon := (List.range a.length).map fun i => (a[i]?.getD 0, oneE a.length i)
@[simp] theorem linL_len (a : List Int) : (linL a).length = a.length := by simp [linL]
theorem linL_at {a : List Int} {i : Nat} (h : i < a.length) : (linL a)[i]?.getD (0, []) = (a[i]?.getD 0, oneE a.length i) := by simp [linL, h]
theorem oneE_get {n i j : Nat} (hj : j < n) : (oneE n i)[j]?.getD 0 = if i = j then 1 else 0 := by
  unfold oneE
  rw [List.getElem?_set]
  by_cases e : i = j
  · subst e; simp [hj]
  · simp [e, hj]
theorem linL_nd {a : List Int} (h3 : a.length ≤ 3) : (linL a).Pairwise (fun a b => keyOf a.2 ≠ keyOf b.2) := by
  unfold linL
  rw [List.pairwise_map]
  refine List.Pairwise.imp_of_mem (R := fun a b => a < b) (fun {i j} hi hj hij e => ?_) (List.pairwise_lt_range)
  have hi : i < a.length := by simpa using hi
  have e2 := keyOf_inj (a := oneE a.length i) (b := oneE a.length j) (by simp) (by simp; omega) e
  have h1 := oneE_get (i := i) hi
  rw [e2, oneE_get hi, if_neg (by omega), if_pos rfl] at h1
  omega
theorem linL_eok {a : List Int} (h3 : a.length ≤ 3) (ha : Ns a) {k : Key} {x : Int} (hk : polF (linL a) k = some x) : EOk (k, x) := by
  obtain ⟨m, hm, he⟩ := List.mem_map.1 ((polF_some (linL_nd h3)).1 hk)
  obtain ⟨i, hi, rfl⟩ := List.mem_map.1 hm
  simp only [keyM, Prod.mk.injEq] at he
  obtain ⟨rfl, rfl⟩ := he
  have g : ∀ j : Nat, 0 ≤ (oneE a.length i)[j]?.getD 0 ∧ (oneE a.length i)[j]?.getD 0 ≤ 1 := fun j => (oneE_wok (n := a.length) (k := i)).get (by omega) j
  unfold EOk keyOf
  simp only
  have g0 := g 0
  have g1 := g 1
  have g2 := g 2
  exact ⟨ha.get i, by omega, by omega, by omega, by omega, by omega, by omega⟩
set_option maxRecDepth 100000 in
theorem linear_c (a : List Int) (h3 : a.length ≤ 3) : Con Tryz.prog 93 [.sl a.length (avs a)] (.mp (polF (linL a))) := by
  refine con_of_vc Tryz.mixed ⟨7, [], [], []⟩ Tryz.func93 (by decide) rfl (by simp) (by decide) (by simp [freshOK, freshL, go_sem]) ?_
  rw [Tryz.ntmps93]
  simp [go_sem]
  refine loop_inv (3 :: 4 :: 5 :: 6 :: List.range' 10 12) (fun i : Nat => [(3, .mp (polF ((linL a).take i))), (10, .int i)]) (fun i => i ≤ a.length) (fun i => a.length - i) 0 (by simp) (by simp [go_sem, polF, polG]) (by simp [go_sem]) ?_
  intro i hi
  simp [go_sem]
  refine ⟨fun h => ?_, fun h => ?_⟩ <;> simp at h
  · have hif := h
    have hv := polF_take (p := linL a) (i := i) (by simpa using h)
    rw [linL_at hif] at hv
    simp only at hv
    simp [go_sem, avs_drop hif]
    have hk : keyOf (oneE a.length i) = (if i = 0 then 1 else 0, if i = 1 then 1 else 0, if i = 2 then 1 else 0) := by
      have g : ∀ j : Nat, (oneE a.length i)[j]?.getD 0 = if i = j then 1 else 0 := fun j => by
        rcases Nat.lt_or_ge j a.length with hj | hj
        · exact oneE_get hj
        · rw [List.getElem?_eq_none (by simpa using hj), if_neg (by omega)]; rfl
      unfold keyOf
      rw [g 0, g 1, g 2]
    have hi3 : i = 0 ∨ i = 1 ∨ i = 2 := by omega
    rw [hk] at hv
    rcases hi3 with rfl | rfl | rfl
    · simp [go_sem]
      exact ⟨⟨hif, by rintro rfl; simp at hif⟩, 1, by omega, by omega, Off_reset _ _ _ (by simp), by simpa using hv.symm, by omega⟩
    · simp [go_sem]
      exact ⟨⟨hif, by rintro rfl; simp at hif⟩, 2, by omega, by omega, Off_reset _ _ _ (by simp), by simpa using hv.symm, by omega⟩
    · simp [go_sem]
      exact ⟨⟨hif, by rintro rfl; simp at hif⟩, 3, by omega, by omega, Off_reset _ _ _ (by simp), by simpa using hv.symm, by omega⟩
  · have e : i = a.length := by omega
    subst e
    simp [go_sem]
    rw [List.take_of_length_le (by simp)]
theorem isZero_c (c : Key → Option Int) (b : Bool) (h : ∀ es, Enum c es → es.all (fun e => decide (e.2 = 0)) = b) : Con Tryz.prog 95 [.fmp c] (.bool b) := by
  refine con_of_vc Tryz.mixed ⟨5, [], [], []⟩ Tryz.func95 (by decide) rfl (by simp) (by decide) (by simp [freshOK, freshL, go_sem]) ?_
  rw [Tryz.ntmps95]
  simp [go_sem]
  intro es hes
  have hb := h es hes
  refine loop_inv (2 :: 4 :: List.range' 6 7) (fun x : Option (Key × Int) × List (Key × Int) => [(6, .it x.1 x.2)]) (fun x => x.2.all (fun e => decide (e.2 = 0)) = b) (fun x => x.2.length) (none, es) hb (by simp [go_sem]) (by simp [go_sem]) ?_
  rintro ⟨l, rem⟩ hrem
  simp only at hrem
  simp [go_sem, keyAV]
  refine ⟨fun hr => ?_, fun l1 k0 k1 k2 x l2 hr => ?_⟩
  · subst hr
    simpa using hrem.symm
  · subst hr
    refine ⟨fun h3 => ?_, fun h3 => ?_⟩ <;> simp at h3 <;> simp [go_sem]
    · have : b = false := by
        rw [← hrem, List.all_eq_false]
        exact ⟨((k0, k1, k2), x), by simp, by simp [h3]⟩
      exact this
    · refine ⟨_, l1 ++ l2, ?_, by simp, Off_reset _ _ _ (by simp), rfl, rfl⟩
      rw [← hrem]
      simp [h3]
def smM (q : List (List Int)) (f : List (List Mon)) : Nat → Key → Option Int
  | 0 => mzero
  | k + 1 => addM (smM q f k) (mapT (prT ((f[k]?.getD []).map keyM) ((linL (colS q k)).map keyM))) 1
theorem mzero_N : MapN mzero := fun k x h => by simp [mzero] at h
theorem smM_N (q : List (List Int)) (f : List (List Mon)) : ∀ k, MapN (smM q f k)
  | 0 => mzero_N
  | k + 1 => addM_N (smM_N q f k)
theorem mapT_MapN (T : List (Key × Int)) : MapN (mapT T) := fun k x h => by
  have := mapT_N (T := T) (k := k)
  rw [h] at this
  exact this
theorem smM_gv (q : List (List Int)) (f : List (List Mon)) (K : Key) : ∀ k, gv (smM q f k) K % 10007 = sumI (fun j => cfT (prT ((f[j]?.getD []).map keyM) ((linL (colS q j)).map keyM)) K) (List.range k) % 10007
  | 0 => rfl
  | k + 1 => by
    rw [smM, addM_gv, List.range_succ, sumI_app, Int.one_mul, Int.add_emod, smM_gv q f K k, ← Int.add_emod]
    have : gv (mapT (prT ((f[k]?.getD []).map keyM) ((linL (colS q k)).map keyM))) K = cfT (prT ((f[k]?.getD []).map keyM) ((linL (colS q k)).map keyM)) K % 10007 := mapT_get _ K
    rw [this]
    simp only [sumI]
    omega
def ivI (q : List (List Int)) (f : List (List Mon)) (n i : Nat) (acc : List Mon) : Nat → List Mon
  | 0 => acc
  | k + 1 => plusL (ivI q f n i acc k) ((q[i]?.getD [])[k]?.getD 0) (prodL [(1, oneE n i)] (f[k]?.getD []))
def ivO (q : List (List Int)) (f : List (List Mon)) (n : Nat) : Nat → List Mon
  | 0 => []
  | i + 1 => ivI q f n i (ivO q f n i) n
section
variable {q : List (List Int)} {f : List (List Mon)} {n : Nat}
theorem one_wok (n i : Nat) : ∀ m ∈ [((1 : Int), oneE n i)], WOk n 1 m := fun m hm => by simp at hm; subst hm; exact oneE_wok
theorem ivP_wok (hf : ∀ F ∈ f, ∀ m ∈ F, WOk n 3 m) (i : Nat) {k : Nat} (hk : k < f.length) : ∀ m ∈ prodL [(1, oneE n i)] (f[k]?.getD []), WOk n (1 + 3) m := prodL_wok (one_wok n i) (hf _ (memD [] hk))
theorem ivI_ok (hf : ∀ F ∈ f, ∀ m ∈ F, WOk n 3 m) (h20 : ∀ F ∈ f, F.length ≤ 20) {i : Nat} {acc : List Mon} (ha : (∀ m ∈ acc, WOk n (1 + 3) m) ∧ Srt acc ∧ Nzl acc) : ∀ k, k ≤ f.length → ((∀ m ∈ ivI q f n i acc k, WOk n (1 + 3) m) ∧ Srt (ivI q f n i acc k) ∧ Nzl (ivI q f n i acc k)) ∧ (ivI q f n i acc k).length ≤ acc.length + 20 * k
  | 0, _ => ⟨ha, by simp [ivI]⟩
  | k + 1, h => by
    obtain ⟨⟨h1, h2, h3⟩, h4⟩ := ivI_ok hf h20 (i := i) ha k (by omega)
    have hp := ivP_wok hf i (show k < f.length by omega)
    have hs := plusL_srt (k := (q[i]?.getD [])[k]?.getD 0) _ _ hp h1 ⟨h2, h3⟩
    have l1 := plusL_len ((q[i]?.getD [])[k]?.getD 0) (prodL [(1, oneE n i)] (f[k]?.getD [])) (ivI q f n i acc k)
    have l2 := prodL_len [((1 : Int), oneE n i)] (f[k]?.getD [])
    have l3 := h20 _ (memD [] (show k < f.length by omega))
    simp only [List.length_singleton, Nat.one_mul] at l2
    rw [ivI]
    exact ⟨⟨plusL_wok _ _ hp h1, hs.1, hs.2⟩, by omega⟩
theorem ivO_ok (hf : ∀ F ∈ f, ∀ m ∈ F, WOk n 3 m) (h20 : ∀ F ∈ f, F.length ≤ 20) (hn : n ≤ f.length) : ∀ i, ((∀ m ∈ ivO q f n i, WOk n (1 + 3) m) ∧ Srt (ivO q f n i) ∧ Nzl (ivO q f n i)) ∧ (ivO q f n i).length ≤ 20 * n * i
  | 0 => ⟨⟨by simp [ivO], by simp [ivO, Srt], by simp [ivO, Nzl]⟩, by simp [ivO]⟩
  | i + 1 => by
    obtain ⟨h1, h2⟩ := ivO_ok hf h20 hn i
    obtain ⟨h3, h4⟩ := ivI_ok (q := q) hf h20 (i := i) h1 n hn
    rw [ivO, Nat.mul_add, Nat.mul_one]
    exact ⟨h3, by omega⟩
theorem ivI_cf (i : Nat) (acc : List Mon) (K : Key) : ∀ k, cfL (ivI q f n i acc k) K % 10007 = (cfL acc K + sumI (fun j => (q[i]?.getD [])[j]?.getD 0 * pcf [(1, oneE n i)] (f[j]?.getD []) K) (List.range k)) % 10007
  | 0 => by simp [ivI, sumI]
  | k + 1 => by
    have h := prodL_cf [(1, oneE n i)] (f[k]?.getD []) K
    rw [ivI, plusL_cf, List.range_succ, sumI_app, Int.add_emod, ivI_cf i acc K k, Int.mul_emod, h, ← Int.mul_emod]
    simp only [sumI]
    omega
theorem ivO_cf (K : Key) : ∀ i, cfL (ivO q f n i) K % 10007 = sumI (fun t => sumI (fun j => (q[t]?.getD [])[j]?.getD 0 * pcf [(1, oneE n t)] (f[j]?.getD []) K) (List.range n)) (List.range i) % 10007
  | 0 => rfl
  | i + 1 => by
    rw [ivO, ivI_cf, Int.add_emod, ivO_cf K i, List.range_succ, sumI_app]
    simp only [sumI]
    omega
theorem addK_comm (a b : Key) : addK a b = addK b a := by unfold addK; rw [Int.add_comm a.1, Int.add_comm a.2.1, Int.add_comm a.2.2]
theorem share_eq (hn : n ≤ 3) (hq : q.length = n) {F : List Mon} (hF : ∀ m ∈ F, m.2.length = n) (k : Nat) (K : Key) :
    pcf F (linL (colS q k)) K = sumI (fun t => (q[t]?.getD [])[k]?.getD 0 * pcf [(1, oneE n t)] F K) (List.range n) := by
  have e1 : ∀ t ∈ List.range n, (q[t]?.getD [])[k]?.getD 0 * pcf [(1, oneE n t)] F K = sumI (fun b => if K = addK (keyOf b.2) (keyOf (oneE n t)) then b.1 * (q[t]?.getD [])[k]?.getD 0 else 0) F := fun t ht => by
    unfold pcf
    simp only [sumI, Int.add_zero]
    rw [← sumI_mul]
    refine sumI_congr (fun b hb => ?_)
    rw [keyOf_add (by rw [hF b hb]; simp) (by simp; omega), addK_comm]
    show (q[t]?.getD [])[k]?.getD 0 * (if K = addK (keyOf b.2) (keyOf (oneE n t)) then 1 * b.1 else 0) = _
    split
    · rw [Int.one_mul, Int.mul_comm]
    · rw [Int.mul_zero]
  rw [sumI_congr e1, sumI_swap]
  unfold pcf
  refine sumI_congr (fun a ha => ?_)
  unfold linL
  rw [sumI_map, colS_len, hq]
  refine sumI_congr (fun t ht => ?_)
  have htn : t < n := by simpa using ht
  simp only
  rw [keyOf_add (by rw [hF a ha]; simp) (by rw [hF a ha]; exact hn)]
  have : (colS q k)[t]?.getD 0 = (q[t]?.getD [])[k]?.getD 0 := tb_get _ (by omega)
  rw [this]
theorem sums_eq (hn : n ≤ 3) (hq : q.length = n) (hfl : f.length = n) (hf : ∀ F ∈ f, ∀ m ∈ F, WOk n 3 m) (K : Key) : gv (smM q f n) K % 10007 = cfL (ivO q f n n) K % 10007 := by
  rw [smM_gv, ivO_cf, sumI_swap]
  congr 1
  refine sumI_congr (fun k hk => ?_)
  have hk : k < n := by simpa using hk
  have hF : ∀ m ∈ f[k]?.getD [], m.2.length = n := fun m hm => (hf _ (memD [] (by omega)) m hm).len
  rw [cfT_lists hn hF (fun m hm => by
    obtain ⟨i, hi, rfl⟩ := List.mem_map.1 hm
    simp [hq]) K, share_eq hn hq hF k K]
theorem zero_iff (hn : n ≤ 3) (hq : q.length = n) (hfl : f.length = n) (hf : ∀ F ∈ f, ∀ m ∈ F, WOk n 3 m) (h20 : ∀ F ∈ f, F.length ≤ 20) {es : List (Key × Int)} (he : Enum (smM q f n) es) : es.all (fun e => decide (e.2 = 0)) = decide (ivO q f n n = []) := by
  obtain ⟨⟨h1, h2, h3⟩, _⟩ := ivO_ok (q := q) hf h20 (by omega) n
  have hN := smM_N q f n
  have hs := fun K => sums_eq (q := q) hn hq hfl hf K
  generalize smM q f n = c at *
  generalize ivO q f n n = L at *
  by_cases hL : L = []
  · subst hL
    rw [decide_eq_true rfl, List.all_eq_true]
    intro e hm
    have hc := he.val e hm
    have x0 := hN _ _ hc
    have h := hs e.1
    unfold gv at h
    rw [hc] at h
    have h : e.2 % 10007 = 0 := h
    obtain ⟨y0, y1⟩ := x0
    rw [Int.emod_eq_of_lt y0 (by omega)] at h
    simp [h]
  · rw [decide_eq_false hL, List.all_eq_false]
    obtain ⟨m, hm⟩ := List.exists_mem_of_ne_nil L hL
    have ha := cfL_at hn (fun m hm => (h1 m hm).len) h2 m hm
    have hz := h3 m hm
    have h := hs (keyOf m.2)
    rw [ha, Int.emod_eq_of_lt (a := m.1) (by omega) (by omega)] at h
    cases hc : c (keyOf m.2) with
    | none => unfold gv at h; rw [hc] at h; simp at h; omega
    | some x =>
      unfold gv at h; rw [hc] at h
      refine ⟨(keyOf m.2, x), (enum_mem he).2 hc, ?_⟩
      have h : x % 10007 = m.1 := h
      simp only [decide_eq_true_eq]
      omega
end
end Go.Proofs.YtnokgijakdaehaaGreatDoor


namespace Go.Proofs.YtnokgijakdaehaaGreatDoor
open Go.Abs CR
set_option linter.unusedSectionVars false
set_option linter.unusedVariables false
set_option linter.unusedSimpArgs false
set_option maxHeartbeats 1000000
section
variable {α : Type} [CR α] {Q : Nat → Nat → Int} {n : Nat}
def frm (Q : Nat → Nat → Int) (n : Nat) (U V : Nat → α) : α := sT (fun i => sT (fun k => ofI (Q i k) * (U i * V k)) n) n
theorem sT_swap (f : Nat → Nat → α) (m : Nat) : ∀ n, sT (fun i => sT (f i) m) n = sT (fun k => sT (fun i => f i k) n) m
  | 0 => (sT_zero m).symm
  | n + 1 => by
    rw [sT, sT_swap f m n]
    show _ = sT (fun k => sT (fun i => f i k) n + f n k) m
    rw [sT_add]
theorem frm_add (U V W : Nat → α) : frm Q n (fun k => U k + V k) W = frm Q n U W + frm Q n V W := by
  unfold frm
  rw [← sT_add]
  refine sT_congr fun i _ => ?_
  rw [← sT_add]
  exact sT_congr fun k _ => by rw [Dmul, mulD]
theorem frm_mul (c : α) (U W : Nat → α) : frm Q n (fun k => c * U k) W = c * frm Q n U W := by
  unfold frm
  rw [← sT_mul]
  refine sT_congr fun i _ => ?_
  rw [← sT_mul]
  refine sT_congr fun k _ => ?_
  show ofI (Q i k) * (c * U i * W k) = c * (ofI (Q i k) * (U i * W k))
  ac_rfl
theorem frm_zero (W : Nat → α) : frm Q n (fun _ => ofI 0) W = ofI 0 := by
  unfold frm
  rw [sT_congr (g := fun _ => (ofI 0 : α)) (fun i _ => by rw [sT_congr (g := fun _ => (ofI 0 : α)) (fun k _ => by rw [zmul, mul0]), sT_zero]), sT_zero]
theorem frm_sum (L : Nat → Nat → α) (W : Nat → α) : ∀ s, frm Q n (fun k => sT (fun q => L q k) s) W = sT (fun q => frm Q n (L q) W) s
  | 0 => frm_zero W
  | s + 1 => by rw [sT, ← frm_sum L W s, ← frm_add]; rfl
theorem frm_lin (b : Nat → Int) (K : Nat → Nat → α) (W : Nat → α) (s : Nat) : frm Q n (fun k => sT (fun q => ofI (b q) * K q k) s) W = sT (fun q => ofI (b q) * frm Q n (K q) W) s := by
  rw [frm_sum (fun q k => ofI (b q) * K q k)]
  exact sT_congr fun q _ => frm_mul _ _ _
theorem frm_symm (hQ : ∀ i k, i < n → k < n → Q i k = Q k i) (U V : Nat → α) : frm Q n U V = frm Q n V U := by
  unfold frm
  rw [sT_swap]
  exact sT_congr fun k hk => sT_congr fun i hi => by rw [hQ i k hi hk, mulC (U i)]
theorem Cg.frm (c : Cg α) {U V U' V' : Nat → α} (hU : ∀ k, k < n → c.r (U k) (U' k)) (hV : ∀ k, k < n → c.r (V k) (V' k)) : c.r (frm Q n U V) (frm Q n U' V') :=
  c.sT fun i hi => c.sT fun k hk => c.mul (c.refl _) (c.mul (hU i hi) (hV k hk))
theorem step_frm (c : Cg α) (hQ : ∀ i k, i < n → k < n → Q i k = Q k i) {z : α} {s : Nat} {a : Nat → Nat → Int} {b : Nat → Int} {U0 U1 : Nat → α} {Y K : Nat → Nat → α}
    (h1 : ∀ k, k < n → c.r (U1 k) (U0 k + z * sT (fun j => ofI (b j) * K j k) s)) (hY : ∀ j, j < s → ∀ k, k < n → c.r (Y j k) (U0 k + z * sT (fun l => ofI (a j l) * K l k) s))
    (hI : ∀ j, j < s → c.r (frm Q n (Y j) (K j)) (ofI 0)) (hs : ∀ j, j < s → ∀ l, l < s → b j * b l % 10007 = (b j * a j l + b l * a l j) % 10007) : c.r (frm Q n U1 U1) (frm Q n U0 U0) := by
  have sy := frm_symm (α := α) hQ
  have e0 := c.frm (Q := Q) h1 h1
  refine c.trans e0 ?_
  have hG : ∀ l j, frm Q n (K l) (K j) = frm Q n (K j) (K l) := fun l j => sy _ _
  have eS1 : frm Q n (fun k => sT (fun j => ofI (b j) * K j k) s) U0 = sT (fun j => ofI (b j) * frm Q n (K j) U0) s := frm_lin b K U0 s
  have eS2 : frm Q n (fun k => sT (fun j => ofI (b j) * K j k) s) (fun k => sT (fun j => ofI (b j) * K j k) s) = sT (fun j => ofI (b j) * sT (fun l => ofI (b l) * frm Q n (K l) (K j)) s) s := by
    rw [frm_lin b K]
    exact sT_congr fun j _ => by rw [sy (K j), frm_lin b K]
  have zT : c.r (sT (fun j => ofI (b j) * frm Q n (K j) U0) s + z * sT (fun j => ofI (b j) * sT (fun l => ofI (a j l) * frm Q n (K l) (K j)) s) s) (ofI 0) := by
    rw [← sT_mul, ← sT_add]
    refine c.trans (c.sT (g := fun _ => ofI 0) fun j hj => ?_) (c.eq (sT_zero s))
    have e : c.r (frm Q n (K j) U0 + z * sT (fun l => ofI (a j l) * frm Q n (K l) (K j)) s) (ofI 0) := by
      refine c.trans (c.symm ?_) (hI j hj)
      refine c.trans (c.frm (hY j hj) (fun k _ => c.refl _)) (c.eq ?_)
      rw [frm_add, frm_mul, frm_lin (a j) K, sy U0]
    refine c.trans (c.eq ?_) (c.trans (c.mul (c.refl (ofI (b j))) e) (c.eq (mul0 _)))
    rw [mulD]
    congr 1
    ac_rfl
  have e2 : c.r (sT (fun j => ofI (b j) * sT (fun l => ofI (b l) * frm Q n (K l) (K j)) s) s) (sT (fun j => ofI (b j) * sT (fun l => ofI (a j l) * frm Q n (K l) (K j)) s) s + sT (fun j => ofI (b j) * sT (fun l => ofI (a j l) * frm Q n (K l) (K j)) s) s) := by
    have t1 : ∀ (x : Nat → Nat → Int), sT (fun j => ofI (b j) * sT (fun l => ofI (x j l) * frm Q n (K l) (K j)) s) s = sT (fun j => sT (fun l => ofI (b j * x j l) * frm Q n (K l) (K j)) s) s := fun x =>
      sT_congr fun j _ => by rw [← sT_mul]; exact sT_congr fun l _ => by rw [ofMul, mulA]
    rw [t1 (fun _ l => b l), t1 a]
    have t2 : sT (fun j => sT (fun l => ofI (b j * a j l) * frm Q n (K l) (K j)) s) s = sT (fun j => sT (fun l => ofI (b l * a l j) * frm Q n (K l) (K j)) s) s := by
      rw [sT_swap]
      exact sT_congr fun j _ => sT_congr fun l _ => by rw [hG]
    have t3 : sT (fun j => sT (fun l => ofI (b j * a j l) * frm Q n (K l) (K j)) s) s + sT (fun j => sT (fun l => ofI (b j * a j l) * frm Q n (K l) (K j)) s) s = sT (fun j => sT (fun l => ofI (b j * a j l + b l * a l j) * frm Q n (K l) (K j)) s) s := by
      conv => lhs; rhs; rw [t2]
      rw [← sT_add]
      refine sT_congr fun j _ => ?_
      rw [← sT_add]
      exact sT_congr fun l _ => by rw [ofAdd, Dmul]
    rw [t3]
    exact c.sT fun j hj => c.sT fun l hl => c.mul (c.of (hs j hj l hl)) (c.refl _)
  generalize hD : (fun k => sT (fun j => ofI (b j) * K j k) s) = D at *
  have d1 : ∀ k, sT (fun j => ofI (b j) * K j k) s = D k := fun k => by rw [← hD]
  simp only [d1]
  rw [frm_add, frm_mul, sy U0 (fun k => U0 k + z * D k), sy D (fun k => U0 k + z * D k), frm_add, frm_mul, frm_add, frm_mul, sy U0 D, eS1, eS2]
  generalize frm Q n U0 U0 = F at *
  generalize sT (fun j => ofI (b j) * frm Q n (K j) U0) s = S at *
  generalize sT (fun j => ofI (b j) * sT (fun l => ofI (a j l) * frm Q n (K l) (K j)) s) s = T at *
  generalize sT (fun j => ofI (b j) * sT (fun l => ofI (b l) * frm Q n (K l) (K j)) s) s = S2 at *
  have r1 : c.r (F + z * S + z * (S + z * S2)) (F + z * S + z * (S + z * (T + T))) := c.add (c.refl _) (c.mul (c.refl _) (c.add (c.refl _) (c.mul (c.refl _) e2)))
  refine c.trans r1 ?_
  have r2 : F + z * S + z * (S + z * (T + T)) = F + (z * (S + z * T) + z * (S + z * T)) := by
    simp only [mulD]
    ac_rfl
  rw [r2]
  refine c.trans (c.add (c.refl F) (c.add (c.mul (c.refl z) zT) (c.mul (c.refl z) zT))) (c.eq ?_)
  rw [mul0, add0, add0]
theorem th_sT (f : Nat → Ser α) : ∀ n, th (sT f n) = sT (fun k => th (f k)) n
  | 0 => th_of 0
  | n + 1 => by rw [sT, th_add, th_sT f n, sT]
theorem th_frm (U V : Nat → Ser α) : th (frm Q n U V) = frm Q n (fun k => th (U k)) V + frm Q n U (fun k => th (V k)) := by
  unfold frm
  rw [th_sT, ← sT_add]
  refine sT_congr fun i _ => ?_
  rw [th_sT, ← sT_add]
  refine sT_congr fun k _ => ?_
  rw [th_mul, th_of, zmul, zadd, th_mul, mulD]
theorem sh_frm (U V : Nat → Ser α) : sh (frm Q n U (fun k => th (V k))) = frm Q n U (fun k => sh (th (V k))) := by
  unfold frm
  rw [sh_sT]
  refine sT_congr fun i _ => ?_
  rw [sh_sT]
  refine sT_congr fun k _ => ?_
  rw [sh_mul _ _ (by rw [mul_at0]; show U i 0 * th (V k) 0 = _; rw [th_0, mul0]), sh_mul _ _ (th_0 _)]
theorem sT_at (f : Nat → Ser α) (j : Nat) : ∀ n, (sT f n) j = sT (fun k => f k j) n
  | 0 => by
    cases j <;> rfl
  | n + 1 => by rw [sT, ser_add, sT_at f j n, sT]
theorem frm_at0 (U V : Nat → Ser α) : frm Q n U V 0 = frm Q n (fun k => U k 0) (fun k => V k 0) := by
  unfold frm
  rw [sT_at]
  refine sT_congr fun i _ => ?_
  rw [sT_at]
  exact sT_congr fun k _ => rfl
end
theorem flow_frm {Q : Nat → Nat → Int} {n : Nat} (hQ : ∀ i k, i < n → k < n → Q i k = Q k i) {U F : Nat → Ser Int} (hU : ∀ k, k < n → ∀ j, j < 6 → cgI.r (ofI ((j + 1 : Nat) : Int) * U k (j + 1)) (F k j))
    (hI : (cgS cgI 6).r (frm Q n U F) (ofI 0)) {j : Nat} (hj : j < 6) : frm Q n U U (j + 1) % 10007 = 0 := by
  have e1 : ((j + 1 : Nat) : Int) * frm Q n U U (j + 1) = sh (th (frm Q n U U)) j := rfl
  have e2 : sh (th (frm Q n U U)) j = frm Q n U (fun k => sh (th (U k))) j + frm Q n U (fun k => sh (th (U k))) j := by
    rw [th_frm, frm_symm hQ (fun k => th (U k)) U, sh_add, sh_frm]; rfl
  have e3 : (cgS cgI 6).r (frm Q n U (fun k => sh (th (U k)))) (ofI 0) := (cgS cgI 6).trans ((cgS cgI 6).frm (fun k _ => (cgS cgI 6).refl _) (fun k hk i hi => hU k hk i hi)) hI
  have e4 : frm Q n U (fun k => sh (th (U k))) j % 10007 = 0 := by
    have := e3 j hj
    have z : (ofI 0 : Ser Int) j = 0 := by cases j <;> rfl
    rw [z] at this
    exact this
  have e5 : ((j + 1 : Nat) : Int) * frm Q n U U (j + 1) % 10007 = 0 := by rw [e1, e2]; omega
  have h3 := inv_6 j hj
  generalize pw ((j : Int) + 1) 10005 = w at *
  generalize frm Q n U U (j + 1) = x at *
  have e6 : x * (((j + 1 : Nat) : Int) * w) = (((j + 1 : Nat) : Int) * x) * w := by ac_rfl
  have e7 : x % 10007 = x * (((j + 1 : Nat) : Int) * w) % 10007 := by rw [Int.mul_emod x, h3, Int.mul_one, Int.emod_emod_of_dvd _ (Int.dvd_refl _)]
  rw [e7, e6, Int.mul_emod, e5, Int.zero_mul]; rfl
section
variable {α : Type} [CR α] {q : List (List Int)} {f : List (List Mon)} {n : Nat}
theorem ivI_ev (c : Cg α) (U : Nat → α) (hf : ∀ F ∈ f, LOk n F) {i : Nat} (hi : i < n) (acc : List Mon) : ∀ k, k ≤ f.length → c.r (evM n U (ivI q f n i acc k)) (evM n U acc + sT (fun k => ofI (mx q i k) * (U i * evM n U (f[k]?.getD []))) k)
  | 0, _ => c.eq (add0 _).symm
  | k + 1, h => by
    rw [ivI, sT]
    refine c.trans (plusL_ev c n U _ _ _) ?_
    refine c.trans (c.add (ivI_ev c U hf hi acc k (by omega)) (c.mul (c.refl _) (prodL_ev c n U (oneE_lok n i) (hf _ (memD [] (show k < f.length by omega)))))) (c.eq ?_)
    rw [evM_one U hi, addA]; rfl
theorem ivO_ev (c : Cg α) (U : Nat → α) (hf : ∀ F ∈ f, LOk n F) (hl : n ≤ f.length) : ∀ i, i ≤ n → c.r (evM n U (ivO q f n i)) (sT (fun i => sT (fun k => ofI (mx q i k) * (U i * evM n U (f[k]?.getD []))) n) i)
  | 0, _ => c.refl _
  | i + 1, h => by
    rw [ivO, sT]
    exact c.trans (ivI_ev c U hf (by omega) _ n hl) (c.add (ivO_ev c U hf hl i (by omega)) (c.refl _))
theorem iv_zero (c : Cg α) (U : Nat → α) (hf : ∀ F ∈ f, LOk n F) (hl : n ≤ f.length) (h : ivO q f n n = []) : c.r (frm (mx q) n U (fun k => evM n U (f[k]?.getD []))) (ofI 0) := by
  have := ivO_ev (q := q) c U hf hl n (Nat.le_refl _)
  rw [h] at this
  exact c.symm this
end
section
variable {q L : List (List Int)}
def fmI (q L : List (List Int)) (i : Nat) (acc : List Int) : Nat → List Int
  | 0 => acc
  | k + 1 => plusS (fmI q L i acc k) (mulS (L[i]?.getD []) (L[k]?.getD [])) (mx q i k)
def fmO (q L : List (List Int)) (n : Nat) : Nat → List Int
  | 0 => z7
  | i + 1 => fmI q L i (fmO q L n i) n
theorem fmI_len (q L : List (List Int)) (i : Nat) (acc : List Int) : ∀ k, (fmI q L i acc k).length = acc.length
  | 0 => rfl
  | k + 1 => by rw [fmI, plusS_len, fmI_len q L i acc k]
theorem fmO_len (q L : List (List Int)) (n : Nat) : ∀ i, (fmO q L n i).length = 7
  | 0 => rfl
  | i + 1 => by rw [fmO, fmI_len, fmO_len q L n i]
theorem fmI_N (q L : List (List Int)) (i : Nat) {acc : List Int} (h : Ns acc) : ∀ k, Ns (fmI q L i acc k)
  | 0 => h
  | k + 1 => plusS_N _ _ _
theorem fmO_N (q L : List (List Int)) (n : Nat) : ∀ i, Ns (fmO q L n i)
  | 0 => fun x hx => by
    have : x = 0 := by simpa [fmO] using hx
    subst this; exact ⟨by decide, by decide⟩
  | i + 1 => fmI_N q L i (fmO_N q L n i) n
theorem plusK_ser {a b : List Int} (k : Int) (ha : a.length = 7) : c7.r (toS (plusS a b k)) (toS a + ofI k * toS b) := by
  intro n hn
  have e := tb_get (fun i => (a[i]?.getD 0 + k % 10007 * b[i]?.getD 0) % 10007) (show n < a.length by omega)
  have e2 : toS (plusS a b k) n = (a[n]?.getD 0 + k % 10007 * b[n]?.getD 0) % 10007 := e
  show toS (plusS a b k) n % 10007 = (a[n]?.getD 0 + (ofI k * toS b : Ser Int) n) % 10007
  have e3 : (ofI k * toS b : Ser Int) n = k * b[n]?.getD 0 := by
    rw [mulC]
    show cmul n (toS b) (sOf k) = _
    rw [cmul_of]
    exact Int.mul_comm _ _
  rw [e2, e3, Int.emod_emod_of_dvd _ (Int.dvd_refl _), Int.add_emod, Int.mul_emod, Int.emod_emod_of_dvd _ (Int.dvd_refl _), ← Int.mul_emod, ← Int.add_emod]
theorem fmI_ser {n : Nat} (hL : ∀ k, k < n → (L[k]?.getD []).length = 7) {i : Nat} (hi : i < n) {acc : List Int} (ha : acc.length = 7) : ∀ k, k ≤ n → c7.r (toS (fmI q L i acc k)) (toS acc + sT (fun k => ofI (mx q i k) * (toU L i * toU L k)) k)
  | 0, _ => c7.eq (add0 _).symm
  | k + 1, h => by
    rw [fmI, sT]
    refine c7.trans (plusK_ser _ (by rw [fmI_len, ha])) ?_
    refine c7.trans (c7.add (fmI_ser hL hi ha k (by omega)) (c7.mul (c7.refl _) (mulS_ser (hL i hi)))) (c7.eq ?_)
    rw [addA]; rfl
theorem fmO_ser {n : Nat} (hL : ∀ k, k < n → (L[k]?.getD []).length = 7) : ∀ i, i ≤ n → c7.r (toS (fmO q L n i)) (sT (fun i => sT (fun k => ofI (mx q i k) * (toU L i * toU L k)) n) i)
  | 0, _ => fun j hj => by
    show ([0, 0, 0, 0, 0, 0, 0] : List Int)[j]?.getD 0 % 10007 = ((ofI 0 : Ser Int) j) % 10007
    match j, hj with
    | 0, _ => rfl
    | 1, _ => rfl
    | 2, _ => rfl
    | 3, _ => rfl
    | 4, _ => rfl
    | 5, _ => rfl
    | 6, _ => rfl
  | i + 1, h => by
    rw [fmO, sT]
    exact c7.trans (fmI_ser hL (by omega) (fmO_len q L n i) n (Nat.le_refl _)) (c7.add (fmO_ser hL i (by omega)) (c7.refl _))
theorem fm_is {n : Nat} (hL : ∀ k, k < n → (L[k]?.getD []).length = 7) : c7.r (toS (fmO q L n n)) (frm (mx q) n (toU L) (toU L)) := fmO_ser hL n (Nat.le_refl _)
theorem fm_ext {a b : List Int} (ha : a.length = 7) (hb : b.length = 7) (na : Ns a) (nb : Ns b) (h : c7.r (toS a) (toS b)) : a = b := by
  refine List.ext_getElem (by omega) fun j h1 h2 => ?_
  have e := h j (by omega)
  have e2 : a[j]?.getD 0 % 10007 = b[j]?.getD 0 % 10007 := e
  have n1 := na.get j
  have n2 := nb.get j
  rw [Int.emod_eq_of_lt n1.1 (by have := n1.2; omega), Int.emod_eq_of_lt n2.1 (by have := n2.2; omega), List.getElem?_eq_getElem h1, List.getElem?_eq_getElem h2] at e2
  exact e2
end
section
variable {q : List (List Int)} {f : List (List Mon)} {y : List Int} {n : Nat}
def zz : Ser Int := fun n => if n = 1 then 1 else 0
theorem zz_mul (a : Ser Int) : ∀ j, (zz * a : Ser Int) j = if j = 0 then 0 else a (j - 1)
  | 0 => by
    show zz 0 * a 0 = 0
    show 0 * a 0 = 0
    exact Int.zero_mul _
  | j + 1 => by
    rw [if_neg (by omega)]
    show cmul (j + 1) zz a = a j
    rw [cmul]
    have e : sh zz = ofI 1 := funext fun k => by
      show (if k + 1 = 1 then (1 : Int) else 0) = if k = 0 then 1 else 0
      by_cases h : k = 0
      · subst h; rfl
      · rw [if_neg (by omega), if_neg h]
    rw [e]
    have e2 : cmul j (ofI 1) a = a j := by
      have := congrFun (omul a) j
      exact this
    rw [e2]
    show (0 : Int) * a (j + 1) + a j = a j
    omega
theorem mv_ser {start : List (List Int)} (hs : R7 n start) (c : List Int) {L : List (List (List Int))} {k : Nat} (hk : k < n) {i : Nat} (hL : ∀ q, q < i → R7 n (L[q]?.getD [])) :
    c7.r (toU (mvS start c L i) k) (toU start k + zz * sT (fun j => ofI (c[j]?.getD 0) * toU (L[j]?.getD []) k) i) := by
  intro j hj
  show en (mvS start c L i) k j % 10007 = (en start k j + (zz * sT (fun j => ofI (c[j]?.getD 0) * toU (L[j]?.getD []) k) i : Ser Int) j) % 10007
  rw [zz_mul]
  cases j with
  | zero => rw [mv_en0 hs _ _ _ hk, if_pos rfl, Int.add_zero]
  | succ j =>
    rw [mv_enS hs _ hk (by omega) _ hL, if_neg (by omega), Nat.add_sub_cancel, sT_at]
    refine mod_addc rfl (congrArg (· % 10007) ?_)
    have gen : ∀ i, dsum (fun q => c[q]?.getD 0 * en (L[q]?.getD []) k j) i = sT (fun r => (ofI (c[r]?.getD 0) * toU (L[r]?.getD []) k : Ser Int) j) i := by
      intro i
      induction i with
      | zero => rfl
      | succ i ih =>
        rw [dsum, sT, ih]
        congr 1
        rw [mulC (ofI _)]
        show _ = cmul j (toU (L[i]?.getD []) k) (sOf (c[i]?.getD 0))
        rw [cmul_of]
        exact Int.mul_comm _ _
    exact gen i
def Kp (A : List (List Int)) (B : List Int) : Prop := ∀ j, j < B.length → ∀ l, l < B.length → B[j]?.getD 0 * B[l]?.getD 0 % 10007 = (B[j]?.getD 0 * mx A j l + B[l]?.getD 0 * mx A l j) % 10007
theorem po_R7 (hy : Ns y) : R7 y.length (poS y) := ⟨by simp [poS], fun r hr => by
  obtain ⟨x, hx, rfl⟩ := List.mem_map.1 hr
  refine ⟨rfl, fun v hv => ?_⟩
  have : v = x ∨ v = 0 := by
    unfold unS at hv
    simp at hv
    exact hv
  rcases this with rfl | rfl
  · exact hy _ hx
  · exact ⟨by decide, by decide⟩⟩
theorem po_ser {k : Nat} (hk : k < y.length) : toU (poS y) k = ofI (y[k]?.getD 0) := by
  show toS ((poS y)[k]?.getD []) = _
  rw [poS_at hk, unS_ser]
theorem step_keeps {A : List (List Int)} {B : List Int} (hT : Tab A B) (hK : Kp A B) (hf : ∀ F ∈ f, LOk f.length F) (hq : ∀ i k, i < f.length → k < f.length → mx q i k = mx q k i) (hl : y.length = f.length) (hy : Ns y) (h : ivO q f f.length f.length = []) :
    c7.r (frm (mx q) f.length (toU (steS A B f (poS y))) (toU (steS A B f (poS y)))) (frm (mx q) f.length (toU (poS y)) (toU (poS y))) := by
  have rl : ∀ i, i < A.length → (A[i]?.getD []).length = A.length := fun i hi => by rw [hT.len]; exact (hT.rws.at hi).1
  have hs : R7 f.length (poS y) := by rw [← hl]; exact po_R7 hy
  have fx := slo_fix (A := A) (f := f) rfl hs rl
  have kr : ∀ q, q < B.length → R7 f.length ((sloS A f (poS y) 7)[q]?.getD []) := fun q hq => slo_R7 rfl hs 7 (by rw [hT.len]; exact hq)
  refine step_frm (z := zz) (s := B.length) (a := mx A) (b := fun j => B[j]?.getD 0) (K := fun j => toU ((sloS A f (poS y) 7)[j]?.getD [])) (Y := fun j => toU (mvS (poS y) (A[j]?.getD []) (sloS A f (poS y) 7) (A[j]?.getD []).length)) c7 hq ?_ ?_ ?_ hK
  · intro k hk
    exact mv_ser hs B hk kr
  · intro j hj k hk
    have e : (A[j]?.getD []).length = B.length := (hT.rws.at (by rw [hT.len]; exact hj)).1
    have := mv_ser (i := (A[j]?.getD []).length) hs (A[j]?.getD []) hk (fun q hq => kr q (by omega))
    rw [e] at this ⊢
    exact this
  · intro j hj
    have hjA : j < A.length := by rw [hT.len]; exact hj
    have ml : (mvS (poS y) (A[j]?.getD []) (sloS A f (poS y) 7) (A[j]?.getD []).length).length = f.length := (mv_R7 hs _ _ _).1
    have e : ∀ k, k < f.length → c7.r (toU ((sloS A f (poS y) 7)[j]?.getD []) k) (evM f.length (toU (mvS (poS y) (A[j]?.getD []) (sloS A f (poS y) 7) (A[j]?.getD []).length)) (f[k]?.getD [])) := fun k hk i hi => by
      have h1 := fx.2 j hjA
      show en ((sloS A f (poS y) 7)[j]?.getD []) k i % 10007 = _
      rw [h1]
      have := fd_en (M := mvS (poS y) (A[j]?.getD []) (sloS A f (poS y) 7) (A[j]?.getD []).length) hk hi
      rw [ml] at this
      exact this
    exact c7.trans (c7.frm (fun k _ => c7.refl _) e) (iv_zero c7 _ hf (Nat.le_refl _) h)
theorem const_frm {Q : Nat → Nat → Int} {c : Nat → Int} {n j : Nat} (hj : 0 < j) : frm Q n (fun k => (ofI (c k) : Ser Int)) (fun k => ofI (c k)) j = 0 := by
  have e : frm Q n (fun k => (ofI (c k) : Ser Int)) (fun k => ofI (c k)) = ofI (frm Q n c c) := by
    have sO : ∀ (g : Nat → Int) (n : Nat), sT (fun k => (ofI (g k) : Ser Int)) n = ofI (sT g n) := fun g n => by
      induction n with
      | zero => rfl
      | succ n ih => rw [sT, ih, ← ofAdd]; rfl
    unfold frm
    rw [← sO]
    refine sT_congr fun i _ => ?_
    rw [← sO]
    refine sT_congr fun k _ => ?_
    rw [← ofMul, ← ofMul]; rfl
  rw [e]
  show (if j = 0 then _ else _) = _
  rw [if_neg (by omega)]; rfl
theorem kept_law {z : Int} {A : List (List Int)} {B : List Int} (hT : Tab A B) (hK : Kp A B) (hf : FieldOk z f) (hq : ∀ i k, i < f.length → k < f.length → mx q i k = mx q k i) (hl : y.length = f.length) (hy : Ns y) (h : ivO q f f.length f.length = []) :
    fmO q (steS A B f (poS y)) f.length f.length = fmO q (floS f y 6) f.length f.length ∧ ∀ j, 0 < j → j < 7 → (fmO q (floS f y 6) f.length f.length)[j]?.getD 0 = 0 := by
  have hs : R7 f.length (poS y) := by rw [← hl]; exact po_R7 hy
  have hst := ste_R7 (A := A) (B := B) (f := f) hs
  have hfl : R7 f.length (floS f y 6) := ⟨by rw [floS_len, hl], floS_row hy 6⟩
  have s1 := fm_is (q := q) (L := steS A B f (poS y)) (n := f.length) (fun k hk => (hst.row hk).1)
  have s2 := fm_is (q := q) (L := floS f y 6) (n := f.length) (fun k hk => (hfl.row hk).1)
  have s3 := step_keeps hT hK hf.lok hq hl hy h
  have U0 : ∀ k, k < f.length → c7.r (toU (poS y) k) (ofI (y[k]?.getD 0)) := fun k hk => c7.eq (po_ser (by omega))
  have s4 := c7.trans s3 (c7.frm (Q := mx q) U0 U0)
  have s5 : ∀ j, j < 6 → frm (mx q) f.length (toU (floS f y 6)) (toU (floS f y 6)) (j + 1) % 10007 = 0 := fun j hj =>
    flow_frm hq (fun k hk j hj => floS_ode hf hl hy k hk j hj) (fun i hi => iv_zero c7 (toU (floS f y 6)) hf.lok (Nat.le_refl _) h i (by omega)) hj
  have f0 : ∀ k, k < f.length → toU (floS f y 6) k 0 = y[k]?.getD 0 := fun k hk => by
    have := floS_keep (f := f) (show k < y.length by omega) 0 (Nat.le_refl 0) 6
    rw [Nat.zero_add] at this
    show ((floS f y 6)[k]?.getD [])[0]?.getD 0 = y[k]?.getD 0
    rw [this, floS, poS_at (by omega)]; rfl
  have s6 : c7.r (frm (mx q) f.length (toU (floS f y 6)) (toU (floS f y 6))) (frm (mx q) f.length (fun k => (ofI (y[k]?.getD 0) : Ser Int)) (fun k => ofI (y[k]?.getD 0))) := fun j hj => by
    cases j with
    | zero =>
      rw [frm_at0, frm_at0]
      exact cgI.frm (fun k hk => cgI.eq (f0 k hk)) (fun k hk => cgI.eq (f0 k hk))
    | succ j =>
      rw [const_frm (by omega)]
      exact s5 j (by omega)
  refine ⟨fm_ext (fmO_len _ _ _ _) (fmO_len _ _ _ _) (fmO_N _ _ _ _) (fmO_N _ _ _ _) (c7.trans (c7.trans s1 s4) (c7.symm (c7.trans s2 s6))), fun j h0 h7 => ?_⟩
  have e := s2 j h7
  obtain ⟨i, rfl⟩ : ∃ i, j = i + 1 := ⟨j - 1, by omega⟩
  have e2 := s5 i (by omega)
  have n1 := (fmO_N q (floS f y 6) f.length f.length).get (i + 1)
  have e3 : (fmO q (floS f y 6) f.length f.length)[i + 1]?.getD 0 % 10007 = 0 := by
    have e4 : (fmO q (floS f y 6) f.length f.length)[i + 1]?.getD 0 % 10007 = frm (mx q) f.length (toU (floS f y 6)) (toU (floS f y 6)) (i + 1) % 10007 := e
    rw [e4, e2]
  have := n1.1; have := n1.2
  omega
theorem kp_gauss : Kp [[2502, 588], [4416, 2502]] [5004, 5004] := by
  have : ∀ j, j < 2 → ∀ l, l < 2 → ([5004, 5004] : List Int)[j]?.getD 0 * ([5004, 5004] : List Int)[l]?.getD 0 % 10007 = (([5004, 5004] : List Int)[j]?.getD 0 * mx [[2502, 588], [4416, 2502]] j l + ([5004, 5004] : List Int)[l]?.getD 0 * mx [[2502, 588], [4416, 2502]] l j) % 10007 := by decide
  exact this
theorem kp_middle : Kp [[5004]] [1] := by
  have : ∀ j, j < 1 → ∀ l, l < 1 → ([1] : List Int)[j]?.getD 0 * ([1] : List Int)[l]?.getD 0 % 10007 = (([1] : List Int)[j]?.getD 0 * mx [[5004]] j l + ([1] : List Int)[l]?.getD 0 * mx [[5004]] l j) % 10007 := by decide
  exact this
end
end Go.Proofs.YtnokgijakdaehaaGreatDoor


namespace Go.Proofs.YtnokgijakdaehaaGreatDoor
open Go.Abs
set_option linter.unusedSectionVars false
set_option linter.unusedVariables false
set_option linter.unusedSimpArgs false
set_option maxHeartbeats 1000000
theorem turn_turn {X : List (List Int)} {a b : Nat} (hl : X.length = a) (ha : 0 < a) (hb : 0 < b) (hr : ∀ r ∈ X, r.length = b) : turnS (turnS X) = X := by
  have r0 : (X[0]?.getD []).length = b := hr _ (memD [] (by omega))
  have tl : (turnS X).length = b := by rw [turnS_len, r0]
  have tg : ∀ j, j < b → (turnS X)[j]?.getD [] = colS X j := fun j hj => by
    have : j < (X[0]?.getD []).length := by omega
    simp [turnS, this]
  have t0 : ((turnS X)[0]?.getD []).length = a := by rw [tg 0 hb, colS_len, hl]
  refine List.ext_getElem (by rw [turnS_len, t0, hl]) fun k h1 h2 => ?_
  have hk : k < a := by omega
  have e1 : (turnS (turnS X))[k] = colS (turnS X) k := by simp [turnS]
  have rk : X[k].length = b := hr _ (List.getElem_mem h2)
  rw [e1]
  refine List.ext_getElem (by rw [colS_len, tl, rk]) fun j j1 j2 => ?_
  have hj : j < b := by omega
  have e3 : (colS (turnS X) k)[j] = ((turnS X)[j]?.getD [])[k]?.getD 0 := by simp [colS, tb]
  have e4 : (colS X j)[k]?.getD 0 = (X[k]?.getD [])[j]?.getD 0 := tb_get (fun i => (X[i]?.getD [])[j]?.getD 0) (by omega)
  rw [e3, tg j hj, e4, List.getElem?_eq_getElem h2, Option.getD_some, List.getElem?_eq_getElem j2, Option.getD_some]
section
variable {A : List (List Int)} {B : List Int} {H : List (List Int)} {C : List Int}
variable {z : Int} {f : List (List Mon)} {L : List (List Int)}
end
end Go.Proofs.YtnokgijakdaehaaGreatDoor


namespace Go.Proofs.YtnokgijakdaehaaGreatDoor
open Go.Abs
set_option linter.unusedSectionVars false
set_option linter.unusedVariables false
set_option linter.unusedSimpArgs false
set_option maxHeartbeats 4000000
set_option maxRecDepth 100000 in
theorem FormSeries_c (z : Int) (f : List (List Mon)) (q L : List (List Int)) (n : Nat) (hs : Small f) (hF : fieldB z f = true) (hQ : formB z q = true) (hL : serB z L = true) (hn : q.length = n) :
    Con Tryz.prog 34 [.agg [.int z, .sl f.length (prt f)], .sl q.length (mat q), .sl L.length (mat L)] (.tup [.own 2 7 (avs (fmO q (turnS L) n n)), .int 0]) := by
  have hQ2 : sqB z q = true := by unfold formB at hQ; simp only [Bool.and_eq_true] at hQ; exact hQ.1
  have hS := sqB_iff.1 hQ2
  have hl := serB_iff.1 hL
  have q8 := hS.1
  have qz := hS.2.1
  have cF := IsField_c z f hs
  rw [hF] at cF
  have cQ := isForm_c z f.length (prt f) q (by omega) (fun r hr => by have := (hS.2.2 r hr).1; omega)
  rw [hQ] at cQ
  have cS := isVectorSeries_c z f.length (prt f) L (by omega) (fun r hr => by have := (hl.2 r hr).1; omega)
  rw [hL] at cS
  have L0 : (L[0]?.getD []).length = n := by have := (hl.2 _ (memD [] (show 0 < L.length by omega))).1; omega
  have cT := turned_c L (by omega) (by omega) (fun r hr => by have := (hl.2 r hr).1; omega) (by omega)
  have tr := turnS_row (n := 7) hl.1 (fun r hr => (hl.2 r hr).2)
  have tl : (turnS L).length = n := by simp [turnS, L0]
  generalize turnS L = X at *
  refine con_of_vc Tryz.mixed ⟨14, [], [], []⟩ Tryz.func34 (by decide) rfl (by simp) (by decide) (by simp [freshOK, freshL, go_sem]) ?_
  rw [Tryz.ntmps34]
  simp [go_sem]
  refine CallVC.of (cF) (by decide) ?_
  simp [go_sem]
  refine CallVC.of (cQ) (by decide) ?_
  simp [go_sem]
  refine CallVC.of (cS) (by decide) ?_
  simp [go_sem]
  refine ⟨by kernel_rfl, ?_⟩
  refine CallD.of (cT) (by simp [roots, rootsL]) (by decide) ?_
  simp [go_sem]
  refine ⟨by kernel_rfl, ?_⟩
  simp [go_sem]
  refine loop_inv (List.range' 9 5 ++ List.range' 34 26) (fun i : Nat => [(9, .own 2 7 (avs (fmO q X n i))), (34, .int i)]) (fun i => i ≤ n) (fun i => n - i) 0 (by simp) (by simp [go_sem, fmO]; rfl) (by simp [go_sem]) ?_
  intro i hi
  simp [go_sem]
  refine ⟨fun h => ?_, fun h => ?_⟩ <;> simp at h
  · have hif : i < q.length := by omega
    have hin : i < n := by omega
    have rowl := (hS.2.2 _ (memD [] hif))
    have fl := fmO_len q X n i
    have fN := fmO_N q X n i
    have hnext : fmO q X n (i + 1) = fmI q X i (fmO q X n i) n := rfl
    generalize fmO q X n i = acc at *
    simp [go_sem, mat_drop hif]
    refine ⟨⟨hif, by rintro rfl; simp at hif⟩, ?_⟩
    refine loop_inv (9 :: 12 :: 13 :: List.range' 41 18) (fun k : Nat => [(9, .own 2 7 (avs (fmI q X i acc k))), (41, .int k)]) (fun k => k ≤ n) (fun k => n - k) 0 (by simp) (by simp [go_sem, fmI]) (by simp [go_sem]) ?_
    intro k hk
    simp [go_sem]
    refine ⟨fun h => ?_, fun h => ?_⟩ <;> simp at h
    · have hkn : k < n := by omega
      have hkr : k < (q[i]?.getD []).length := by omega
      have hiX : i < X.length := by omega
      have hkX : k < X.length := by omega
      have t1 := tr _ (memD [] hiX)
      have t2 := tr _ (memD [] hkX)
      have cM := timesSeries_c (X[i]?.getD []) (X[k]?.getD []) t1.2 t2.2 (by omega) (by omega)
      have xN := rowl.2.get k
      have gl := fmI_len q X i acc k
      have gN := fmI_N q X i fN k
      have ml : (mulS (X[i]?.getD []) (X[k]?.getD [])).length = 7 := by simp [mulS]; omega
      have hI : fmI q X i acc (k + 1) = plusS (fmI q X i acc k) (mulS (X[i]?.getD []) (X[k]?.getD [])) ((q[i]?.getD [])[k]?.getD 0) := rfl
      have cP := plus_c (fmI q X i acc k) (mulS (X[i]?.getD []) (X[k]?.getD [])) ((q[i]?.getD [])[k]?.getD 0) gN (mulS_N _ _) (by have := xN.1; have := xN.2; exact ⟨by omega, by omega⟩) (by omega) (by omega)
      rw [← hI, gl, fl, ml] at cP
      rw [t1.1, t2.1] at cM
      generalize hN : fmI q X i acc (k + 1) = Y at *
      generalize fmI q X i acc k = Z at *
      generalize mulS (X[i]?.getD []) (X[k]?.getD []) = W at *
      have oi := omat_get hiX
      have ok := omat_get hkX
      rw [t1.1] at oi
      rw [t2.1] at ok
      have av := avs_drop hkr
      generalize X[i]?.getD [] = Xi at *
      generalize X[k]?.getD [] = Xk at *
      simp [go_sem, av]
      refine ⟨⟨hkr, by intro e; simp [e] at hkr⟩, by kernel_rfl, ?_⟩
      simp [go_sem, oi, ok]
      refine ⟨by omega, by omega, ?_⟩
      refine CallD.of (cM) (by simp [roots, rootsL]) (by decide) ?_
      simp [go_sem]
      refine CallD.of (cP) (by simp [roots, rootsL]) (by decide) ?_
      simp [go_sem]
      refine ⟨by kernel_rfl, ?_⟩
      simp [go_sem]
      exact ⟨by omega, k + 1, by omega, by omega, Off_reset _ _ _ (by simp), by rw [hN], by omega⟩
    · have e : k = n := by omega
      subst e
      rw [← hnext]
      simp [go_sem]
      exact ⟨by omega, i + 1, by omega, by omega, (Off.reset (by intro x hx; simp at hx ⊢; omega) (by simp) (by simp [go_sem, Off_reset])), rfl, by omega⟩
  · have e : i = n := by omega
    subst e
    simp [go_sem]
end Go.Proofs.YtnokgijakdaehaaGreatDoor


namespace Go.Proofs.YtnokgijakdaehaaGreatDoor
open Go.Abs Go.Proofs Go.RowKit Go.Lib
set_option linter.unusedSectionVars false
set_option linter.unusedVariables false
set_option linter.unusedSimpArgs false
set_option maxHeartbeats 4000000
set_option maxRecDepth 100000 in
theorem readDecimal_c (s : ByteArray) (v : Nat) (hv : v < 100) (hs : s.size ≤ 9) (hp : Lib.parseIntB 64 s.data.toList = .ok v) (hd : (⟨(Lib.decDigits v).toArray⟩ : ByteArray) = s) :
    Con Tryz.prog 191 [.val (.string s)] (.tup [.int v, .bool true]) := by
  refine Con.plains (xs := [.string s]) (us := [.int .i64 v, .bool true]) ⟨_, Tryz.func191, by decide, rfl⟩ (by simp [Value.oneCell']) fun w => ?_
  have c1 : ∀ w, Calls Tryz.prog 203 #[.string s, .int .i64 10, .int .i64 64] w fun e w' => e = .returned (.tuple #[.int .i64 v, .nilIface]) ∧ Ext (fun b => b < w.heap.size) w w' := fun w =>
    (Any.strconv_ParseInt_10_at64_ok Tryz.sParseInt s (by omega) v hp w).mono fun e w' ⟨he, hw⟩ => ⟨he, by
      rcases hw with rfl | ⟨t, rfl⟩
      · exact Ext.refl _ _
      · exact Ext.bytesWorld w _ t⟩
  have c2 : ∀ w, Calls Tryz.prog 204 #[.int .i64 v, .int .i64 10] w fun e w' => e = .returned (.string s) ∧ w' = w := fun w =>
    (Any.strconv_FormatInt_10_small Tryz.sFormatInt v hv w).mono fun e w' ⟨he, hw⟩ => ⟨by rw [he, hd], hw⟩
  have h1 : ¬ ((v : Int) < 0) := by omega
  have h2 : ¬ ((9 : Int) < s.size) := by omega
  go_enter Tryz.func191, Tryz.ntmps191
  go_wp2_with (fail)
  refine (c1 _).mono ?_
  rintro e w' ⟨rfl, hx⟩
  go_wp2_with (fail)
  refine (c2 _).mono ?_
  rintro e w'' ⟨rfl, rfl⟩
  go_wp2
  go_ret2
  exact ⟨rfl, hx⟩
end Go.Proofs.YtnokgijakdaehaaGreatDoor


namespace Go.Proofs.YtnokgijakdaehaaGreatDoor
open Go.Abs
set_option linter.unusedSectionVars false
set_option linter.unusedVariables false
set_option linter.unusedSimpArgs false
set_option maxHeartbeats 4000000
theorem CutPrefix_c (s p : ByteArray) : Con Tryz.prog 190 [.val (.string s), .val (.string p)] (.tup [.val (.string ⟨(Lib.trimPrefix s.data.toList p.data.toList).toArray⟩), .bool (Lib.hasPrefix s.data.toList p.data.toList)]) :=
  cutPrefix_con Tryz.sCutPrefix ⟨_, Tryz.func190, by decide, rfl⟩ s p
theorem Cut_c (s : ByteArray) (c : UInt8) (hs : s.size < 4294967281) : Con Tryz.prog 135 [.val (.string s), .val (.string ⟨#[c]⟩)] (.tup [.val (.string ⟨(Lib.cut s.data.toList [c]).1.toArray⟩), .val (.string ⟨(Lib.cut s.data.toList [c]).2.1.toArray⟩), .bool (Lib.cut s.data.toList [c]).2.2]) :=
  cut1_con Tryz.sCut ⟨_, Tryz.func135, by decide, rfl⟩ s c hs
def strs (l : List ByteArray) : List AV := l.map fun b => .val (.string b)
theorem Split_c (s : ByteArray) (c : UInt8) (hs : s.size < 4294967281) {l : List ByteArray} (hp : Lib.splitB ⟨#[c]⟩ 0 (Lib.countB s ⟨#[c]⟩) s = l) : Con Tryz.prog 137 [.val (.string s), .val (.string ⟨#[c]⟩)] (.own 9 l.length (strs l)) :=
  split1_con Tryz.sSplit ⟨_, Tryz.func137, by decide, rfl⟩ (by kernel_rfl) (by kernel_rfl) s c hs hp
theorem NumberOf_c (p q : Int) (hp : -1000000000 ≤ p ∧ p ≤ 1000000000) (hq : 1 ≤ q ∧ q ≤ 10006) : Con Tryz.prog 192 [.int p, .int q] (.tup [.int (p % 10007 * pw (q % 10007) 10005 % 10007), .int 0]) := by
  have c1 := inRange_c p (-1000000000) 1000000000
  have c2 := inRange_c q (-1000000000) 1000000000
  rw [decide_eq_true hp.1, decide_eq_true hp.2] at c1
  rw [decide_eq_true (show (-1000000000 : Int) ≤ q by omega), decide_eq_true (show q ≤ 1000000000 by omega)] at c2
  have c3 := num_c p (by omega) (by omega)
  have c4 := num_c q (by omega) (by omega)
  have c5 := inv_c (q % 10007) (isN_mod q)
  have hf : fits (p % 10007 * pw (q % 10007) 10005) := mul_fits (isN_mod _) (isN_mod _)
  have c6 := num_c _ hf.1 hf.2
  have q0 : ¬ q % 10007 = 0 := by omega
  have q1 : q.tmod 10007 = q := by rw [Int.tmod_eq_emod_of_nonneg (by omega)]; omega
  have q2 : ¬ q = 0 := by omega
  refine con_of_vc Tryz.mixed ⟨6, [], [], []⟩ Tryz.func192 (by decide) rfl (by simp) (by decide) (by simp [freshOK, freshL, go_sem]) ?_
  rw [Tryz.ntmps192]
  simp [go_sem]
  refine CallVC.of (c1) (by decide) ?_
  simp [go_sem]
  refine CallVC.of (c2) (by decide) ?_
  simp [go_sem]
  simp [go_sem, q1, q2]
  refine CallVC.of (c3) (by decide) ?_
  simp [go_sem]
  refine CallVC.of (c4) (by decide) ?_
  simp [go_sem]
  refine CallVC.of (c5) (by decide) ?_
  simp [go_sem]
  refine ⟨hf, ?_⟩
  refine CallVC.of (c6) (by decide) ?_
  simp [go_sem]
theorem ba_eta (b : ByteArray) : (⟨b.data.toList.toArray⟩ : ByteArray) = b := by cases b; simp
def Rd (a : ByteArray) (p : Nat) : Prop := p < 100 ∧ a.size ≤ 9 ∧ Lib.parseIntB 64 a.data.toList = .ok p ∧ (⟨(Lib.decDigits p).toArray⟩ : ByteArray) = a
theorem Rd.con {a : ByteArray} {p : Nat} (h : Rd a p) : Con Tryz.prog 191 [.val (.string a)] (.tup [.int p, .bool true]) := readDecimal_c a p h.1 h.2.1 h.2.2.1 h.2.2.2
structure Word (s b a d : ByteArray) (neg dv : Bool) (p q : Nat) : Prop where
  h1 : (⟨(Lib.trimPrefix s.data.toList [45]).toArray⟩ : ByteArray) = b
  h2 : Lib.hasPrefix s.data.toList [45] = neg
  hb : b.size ≤ 1000
  h3 : Lib.cut b.data.toList [47] = (a.data.toList, d.data.toList, dv)
  ha : Rd a p
  hd : dv = true → Rd d q
  hq : dv = false → q = 1
  q1 : 1 ≤ q ∧ q < 100
  hn : neg = true → p ≠ 0
def wdV (neg : Bool) (p q : Nat) : Int := (if neg = true then - (p : Int) else p) % 10007 * pw ((q : Int) % 10007) 10005 % 10007
set_option maxRecDepth 100000 in
theorem ParseNumber_c {s b a d : ByteArray} {neg dv : Bool} {p q : Nat} (h : Word s b a d neg dv p q) : Con Tryz.prog 177 [.val (.string s)] (.tup [.int (wdV neg p q), .int 0]) := by
  have c1 := CutPrefix_c s ⟨#[45]⟩
  have e1 : (⟨#[45]⟩ : ByteArray).data.toList = [45] := rfl
  rw [e1, h.h1, h.h2] at c1
  have c2 := Cut_c b 47 (by have := h.hb; omega)
  rw [h.h3] at c2
  simp only [ba_eta] at c2
  have c3 := h.ha.con
  have c4 : dv = true → _ := fun e => (h.hd e).con
  have p0 := h.ha.1
  have q1 := h.q1
  have c5 : ∀ x : Int, -100 ≤ x ∧ x ≤ 100 → _ := fun x hx => NumberOf_c x q ⟨by omega, by omega⟩ ⟨by omega, by omega⟩
  have q2 : ¬ (q : Int) < 1 := by omega
  have hn := h.hn
  have hq := h.hq
  cases neg with
  | true =>
    have pn : ¬ p = 0 := hn rfl
    have c6 := c5 (- (p : Int)) ⟨by omega, by omega⟩
    cases dv with
    | true =>
      refine con_of_vc Tryz.mixed ⟨13, [], [], []⟩ Tryz.func177 (by decide) rfl (by simp) (by decide) (by simp [freshOK, freshL, go_sem]) ?_
      rw [Tryz.ntmps177]
      simp [go_sem]
      refine CallVC.of (c1) (by decide) ?_
      simp [go_sem]
      refine CallVC.of (c2) (by decide) ?_
      simp [go_sem]
      refine CallVC.of (c3) (by decide) ?_
      simp [go_sem]
      refine CallVC.of ((c4 rfl)) (by decide) ?_
      simp [go_sem]
      simp [go_sem, q2, pn]
      refine ⟨by omega, ?_⟩
      refine CallVC.of (c6) (by decide) ?_
      simp [go_sem]
      rfl
    | false =>
      have q3 := hq rfl
      subst q3
      refine con_of_vc Tryz.mixed ⟨13, [], [], []⟩ Tryz.func177 (by decide) rfl (by simp) (by decide) (by simp [freshOK, freshL, go_sem]) ?_
      rw [Tryz.ntmps177]
      simp [go_sem]
      refine CallVC.of (c1) (by decide) ?_
      simp [go_sem]
      refine CallVC.of (c2) (by decide) ?_
      simp [go_sem]
      refine CallVC.of (c3) (by decide) ?_
      simp [go_sem]
      simp [go_sem, pn]
      refine ⟨by omega, ?_⟩
      refine CallVC.of (c6) (by decide) ?_
      simp [go_sem]
      rfl
  | false =>
    have c6 := c5 p ⟨by omega, by omega⟩
    cases dv with
    | true =>
      refine con_of_vc Tryz.mixed ⟨13, [], [], []⟩ Tryz.func177 (by decide) rfl (by simp) (by decide) (by simp [freshOK, freshL, go_sem]) ?_
      rw [Tryz.ntmps177]
      simp [go_sem]
      refine CallVC.of (c1) (by decide) ?_
      simp [go_sem]
      refine CallVC.of (c2) (by decide) ?_
      simp [go_sem]
      refine CallVC.of (c3) (by decide) ?_
      simp [go_sem]
      refine CallVC.of ((c4 rfl)) (by decide) ?_
      simp [go_sem]
      simp [go_sem, q2]
      refine CallVC.of (c6) (by decide) ?_
      simp [go_sem]
      rfl
    | false =>
      have q3 := hq rfl
      subst q3
      refine con_of_vc Tryz.mixed ⟨13, [], [], []⟩ Tryz.func177 (by decide) rfl (by simp) (by decide) (by simp [freshOK, freshL, go_sem]) ?_
      rw [Tryz.ntmps177]
      simp [go_sem]
      refine CallVC.of (c1) (by decide) ?_
      simp [go_sem]
      refine CallVC.of (c2) (by decide) ?_
      simp [go_sem]
      refine CallVC.of (c3) (by decide) ?_
      simp [go_sem]
      refine CallVC.of (c6) (by decide) ?_
      simp [go_sem]
      rfl
end Go.Proofs.YtnokgijakdaehaaGreatDoor


namespace Go.Proofs.YtnokgijakdaehaaGreatDoor
open Go.Abs
set_option linter.unusedSectionVars false
set_option linter.unusedVariables false
set_option linter.unusedSimpArgs false
set_option maxHeartbeats 4000000
theorem strs_get {l : List ByteArray} {i : Nat} (h : i < l.length) : (strs l)[i]? = some (.val (.string (l[i]?.getD ByteArray.empty))) := by simp [strs, h]
set_option maxRecDepth 100000 in
theorem readNumbers_c (s : ByteArray) (hs : s.size ≤ 1000) {l : List ByteArray} (vals : List Int) (hp : Lib.splitB ⟨#[32]⟩ 0 (Lib.countB s ⟨#[32]⟩) s = l) (hl : vals.length = l.length) (h9 : l.length ≤ 100)
    (hw : ∀ i, i < l.length → Con Tryz.prog 177 [.val (.string (l[i]?.getD ByteArray.empty))] (.tup [.int (vals[i]?.getD 0), .int 0])) :
    Con Tryz.prog 136 [.val (.string s)] (.tup [.own 2 vals.length (avs vals), .bool true]) := by
  have cS := Split_c s 32 (by omega) hp
  refine con_of_vc Tryz.mixed ⟨9, [], [], []⟩ Tryz.func136 (by decide) rfl (by simp) (by decide) (by simp [freshOK, freshL, go_sem]) ?_
  rw [Tryz.ntmps136]
  simp [go_sem]
  refine CallVC.of (cS) (by decide) ?_
  simp [go_sem]
  refine loop_inv ([2, 3, 4, 6, 7, 8] ++ List.range' 13 16) (fun i : Nat => [(4, .own 2 i (avs (vals.take i))), (13, .int i)]) (fun i => i ≤ l.length) (fun i => l.length - i) 0 (by simp) (by simp [go_sem, avs]) (by simp [go_sem]) ?_
  intro i hi
  by_cases hil : i < l.length
  · have hii : (i : Int) < l.length := by omega
    have g := strs_get hil
    have c := hw i hil
    have hv : i < vals.length := by omega
    have tk : avs (vals.take (i + 1)) = avs (vals.take i) ++ [.int (vals[i]?.getD 0)] := by
      rw [List.take_add_one, List.getElem?_eq_getElem hv]
      exact avs_snoc _ _
    generalize vals[i]?.getD 0 = x at *
    generalize l[i]?.getD ByteArray.empty = b at *
    simp [go_sem, hii, g]
    refine CallVC.of (c) (by decide) ?_
    simp [go_sem]
    exact ⟨⟨by omega, by omega⟩, ⟨by omega, by omega⟩, i + 1, by omega, by omega, Off_reset _ _ _ (by simp), ⟨rfl, tk.symm⟩, by omega⟩
  · have hii : ¬ (i : Int) < l.length := by omega
    have e : i = vals.length := by omega
    simp [go_sem, hii]
    exact ⟨e, by rw [e, List.take_length]⟩
set_option maxRecDepth 100000 in
theorem ParseTableau_c (s u v : ByteArray) (hs : s.size ≤ 1000) (hu : u.size ≤ 1000) {l : List ByteArray} (A : List (List Int)) (B : List Int) (h1 : Lib.cut s.data.toList [124] = (u.data.toList, v.data.toList, true)) (hp : Lib.splitB ⟨#[59]⟩ 0 (Lib.countB u ⟨#[59]⟩) u = l) (hl : A.length = l.length)
    (cB : Con Tryz.prog 136 [.val (.string v)] (.tup [.own 2 B.length (avs B), .bool true]))
    (hw : ∀ i, i < l.length → Con Tryz.prog 136 [.val (.string (l[i]?.getD ByteArray.empty))] (.tup [.own 2 (A[i]?.getD []).length (avs (A[i]?.getD [])), .bool true])) (hT : tabB A B = true) :
    Con Tryz.prog 66 [.val (.string s)] (.tup [.agg [.own 25 A.length (omat A), .own 2 B.length (avs B)], .int 0]) := by
  have tab := tabB_iff.1 hT
  have b8 := tab.le
  have al := tab.len
  have c1 := Cut_c s 124 (by omega)
  rw [h1] at c1
  simp only [ba_eta] at c1
  have cS := Split_c u 59 (by omega) hp
  have cI := IsTableau_c A B (by omega) (by omega) (fun r h => by have := (tab.a r h).1; omega)
  rw [hT] at cI
  refine con_of_vc Tryz.mixed ⟨14, [], [], []⟩ Tryz.func66 (by decide) rfl (by simp) (by decide) (by simp [freshOK, freshL, go_sem]) ?_
  rw [Tryz.ntmps66]
  simp [go_sem]
  refine CallVC.of (c1) (by decide) ?_
  simp [go_sem]
  refine CallVC.of (cB) (by decide) ?_
  simp [go_sem]
  refine CallVC.of (cS) (by decide) ?_
  simp [go_sem]
  refine loop_inv ([3, 9, 11, 12, 13] ++ List.range' 37 19) (fun i : Nat => [(9, .box 27 [if i = 0 then .val (.slice none 0 0) else .own 25 i (omat (A.take i)), .own 2 B.length (avs B)]), (37, .int i)]) (fun i => i ≤ l.length) (fun i => l.length - i) 0 (by simp) (by simp [go_sem]) (by simp [go_sem]) ?_
  intro i hi
  by_cases hil : i < l.length
  · have hii : (i : Int) < l.length := by omega
    have g := strs_get hil
    have c := hw i hil
    have hv : i < A.length := by omega
    have tk : omat (A.take (i + 1)) = omat (A.take i) ++ [.own 2 (A[i]?.getD []).length (avs (A[i]?.getD []))] := by
      rw [List.take_add_one, List.getElem?_eq_getElem hv, omat_app]; rfl
    generalize A[i]?.getD [] = x at *
    generalize l[i]?.getD ByteArray.empty = b at *
    by_cases h0 : i = 0
    · have ox : omat (A.take (i + 1)) = [.own 2 x.length (avs x)] := by rw [tk, h0]; simp [omat]
      rw [if_pos h0]
      simp [go_sem, hii, g]
      refine CallVC.of (c) (by decide) ?_
      simp [go_sem]
      exact ⟨⟨by omega, by omega⟩, i + 1, by omega, by omega, Off_reset _ _ _ (by simp), by rw [if_neg (by omega), ox, h0], by omega⟩
    · rw [if_neg h0]
      simp [go_sem, hii, g]
      refine CallVC.of (c) (by decide) ?_
      simp [go_sem]
      have om : min i A.length = i := by omega
      exact ⟨⟨om, by omega, by omega⟩, ⟨by omega, by omega⟩, i + 1, by omega, by omega, Off_reset _ _ _ (by simp), by rw [if_neg (by omega), tk], by omega⟩
  · have hii : ¬ (i : Int) < l.length := by omega
    have e : i = A.length := by omega
    subst e
    rw [if_neg (show ¬ A.length = 0 by have := tab.pos; omega), List.take_length]
    simp [go_sem, hii]
    refine CallVC.of (cI) (by decide) ?_
    simp [go_sem]
    done
end Go.Proofs.YtnokgijakdaehaaGreatDoor


namespace Go.Proofs.YtnokgijakdaehaaGreatDoor
open Go.Abs
set_option linter.unusedSectionVars false
set_option linter.unusedVariables false
set_option linter.unusedSimpArgs false
set_option maxHeartbeats 4000000
theorem wd_of {neg : Bool} {p q : Nat} {v : Int} (hv : isN v) (q1 : 1 ≤ q ∧ q < 100) (h : v * q % 10007 = (if neg = true then - (p : Int) else p) % 10007) : wdV neg p q = v := by
  unfold wdV
  rw [← h]
  have hq : (q : Int) % 10007 = q := by omega
  have hi := inv_ok (a := (q : Int)) ⟨by omega, by omega⟩ (by omega)
  rw [hq]
  have e : v * q % 10007 * pw q 10005 % 10007 = v * (q * pw q 10005 % 10007) % 10007 := by
    rw [Int.mul_emod, Int.emod_emod_of_dvd _ (Int.dvd_refl _), ← Int.mul_emod, Int.mul_assoc, Int.mul_emod v, Int.mul_emod v (_ % 10007), Int.emod_emod_of_dvd _ (Int.dvd_refl _)]
  rw [e, hi, Int.mul_one]
  exact Int.emod_eq_of_lt hv.1 (by have := hv.2; omega)
theorem wd1 : Con Tryz.prog 177 [.val (.string ⟨#[49]⟩)] (.tup [.int 1, .int 0]) := by
  have h : Word ⟨#[49]⟩ ⟨#[49]⟩ ⟨#[49]⟩ ⟨#[]⟩ false false 1 1 := ⟨by kernel_rfl, by kernel_rfl, by decide, by kernel_rfl, ⟨by decide, by decide, by kernel_rfl, by kernel_rfl⟩, (fun h => by cases h), (fun h => rfl), ⟨by decide, by decide⟩, (fun h => by cases h)⟩
  have c := ParseNumber_c h
  rw [wd_of (v := 1) ⟨by decide, by decide⟩ ⟨by decide, by decide⟩ (by decide)] at c
  exact c
theorem wd2 : Con Tryz.prog 177 [.val (.string ⟨#[49, 47, 50]⟩)] (.tup [.int 5004, .int 0]) := by
  have h : Word ⟨#[49, 47, 50]⟩ ⟨#[49, 47, 50]⟩ ⟨#[49]⟩ ⟨#[50]⟩ false true 1 2 := ⟨by kernel_rfl, by kernel_rfl, by decide, by kernel_rfl, ⟨by decide, by decide, by kernel_rfl, by kernel_rfl⟩, (fun h => ⟨by decide, by decide, by kernel_rfl, by kernel_rfl⟩), (fun h => by cases h), ⟨by decide, by decide⟩, (fun h => by cases h)⟩
  have c := ParseNumber_c h
  rw [wd_of (v := 5004) ⟨by decide, by decide⟩ ⟨by decide, by decide⟩ (by decide)] at c
  exact c
theorem wd13 : Con Tryz.prog 177 [.val (.string ⟨#[49, 47, 52]⟩)] (.tup [.int 2502, .int 0]) := by
  have h : Word ⟨#[49, 47, 52]⟩ ⟨#[49, 47, 52]⟩ ⟨#[49]⟩ ⟨#[52]⟩ false true 1 4 := ⟨by kernel_rfl, by kernel_rfl, by decide, by kernel_rfl, ⟨by decide, by decide, by kernel_rfl, by kernel_rfl⟩, (fun h => ⟨by decide, by decide, by kernel_rfl, by kernel_rfl⟩), (fun h => by cases h), ⟨by decide, by decide⟩, (fun h => by cases h)⟩
  have c := ParseNumber_c h
  rw [wd_of (v := 2502) ⟨by decide, by decide⟩ ⟨by decide, by decide⟩ (by decide)] at c
  exact c
theorem rw1 : Con Tryz.prog 136 [.val (.string ⟨#[49]⟩)] (.tup [.own 2 1 (avs [1]), .bool true]) :=
  readNumbers_c ⟨#[49]⟩ (by decide) (l := [⟨#[49]⟩]) [1] (by kernel_rfl) rfl (by decide) (fun i hi => by
    match i, hi with
    | 0, _ => exact wd1)
theorem rw4 : Con Tryz.prog 136 [.val (.string ⟨#[49, 47, 50, 32, 49, 47, 50]⟩)] (.tup [.own 2 2 (avs [5004, 5004]), .bool true]) :=
  readNumbers_c ⟨#[49, 47, 50, 32, 49, 47, 50]⟩ (by decide) (l := [⟨#[49, 47, 50]⟩, ⟨#[49, 47, 50]⟩]) [5004, 5004] (by kernel_rfl) rfl (by decide) (fun i hi => by
    match i, hi with
    | 0, _ => exact wd2
    | 1, _ => exact wd2)
theorem rw10 : Con Tryz.prog 136 [.val (.string ⟨#[49, 47, 50]⟩)] (.tup [.own 2 1 (avs [5004]), .bool true]) :=
  readNumbers_c ⟨#[49, 47, 50]⟩ (by decide) (l := [⟨#[49, 47, 50]⟩]) [5004] (by kernel_rfl) rfl (by decide) (fun i hi => by
    match i, hi with
    | 0, _ => exact wd2)
theorem rw22 : Con Tryz.prog 136 [.val (.string ⟨#[49, 47, 52, 32, 49, 47, 52]⟩)] (.tup [.own 2 2 (avs [2502, 2502]), .bool true]) :=
  readNumbers_c ⟨#[49, 47, 52, 32, 49, 47, 52]⟩ (by decide) (l := [⟨#[49, 47, 52]⟩, ⟨#[49, 47, 52]⟩]) [2502, 2502] (by kernel_rfl) rfl (by decide) (fun i hi => by
    match i, hi with
    | 0, _ => exact wd13
    | 1, _ => exact wd13)
theorem pt_middle : Con Tryz.prog 66 [.val (.string ⟨#[49, 47, 50, 124, 49]⟩)] (.tup [.agg [.own 25 1 (omat [[5004]]), .own 2 1 (avs [1])], .int 0]) :=
  ParseTableau_c ⟨#[49, 47, 50, 124, 49]⟩ ⟨#[49, 47, 50]⟩ ⟨#[49]⟩ (by decide) (by decide) (l := [⟨#[49, 47, 50]⟩]) [[5004]] [1] (by kernel_rfl) (by kernel_rfl) rfl rw1 (fun i hi => by
    match i, hi with
    | 0, _ => exact rw10) (by decide)
theorem pt_gauss : Con Tryz.prog 66 [.val (.string ⟨#[49, 47, 52, 32, 49, 47, 52, 59, 49, 47, 52, 32, 49, 47, 52, 124, 49, 47, 50, 32, 49, 47, 50]⟩)] (.tup [.agg [.own 25 2 (omat [[2502, 2502], [2502, 2502]]), .own 2 2 (avs [5004, 5004])], .int 0]) :=
  ParseTableau_c ⟨#[49, 47, 52, 32, 49, 47, 52, 59, 49, 47, 52, 32, 49, 47, 52, 124, 49, 47, 50, 32, 49, 47, 50]⟩ ⟨#[49, 47, 52, 32, 49, 47, 52, 59, 49, 47, 52, 32, 49, 47, 52]⟩ ⟨#[49, 47, 50, 32, 49, 47, 50]⟩ (by decide) (by decide) (l := [⟨#[49, 47, 52, 32, 49, 47, 52]⟩, ⟨#[49, 47, 52, 32, 49, 47, 52]⟩]) [[2502, 2502], [2502, 2502]] [5004, 5004] (by kernel_rfl) (by kernel_rfl) rfl rw4 (fun i hi => by
    match i, hi with
    | 0, _ => exact rw22
    | 1, _ => exact rw22) (by decide)
set_option maxRecDepth 100000 in
theorem nt_middle : Con Tryz.prog 65 [.val (.string ⟨#[109, 105, 100, 100, 108, 101]⟩)] (.tup [.val (.string ⟨#[49, 47, 50, 124, 49]⟩), .bool true]) := by
  have e0 : strEq ⟨#[109, 105, 100, 100, 108, 101]⟩ ⟨#[101, 117, 108, 101, 114]⟩ = false := by kernel_rfl
  have e1 : strEq ⟨#[109, 105, 100, 100, 108, 101]⟩ ⟨#[104, 101, 117, 110]⟩ = false := by kernel_rfl
  have e2 : strEq ⟨#[109, 105, 100, 100, 108, 101]⟩ ⟨#[105, 109, 112, 108, 105, 99, 105, 116]⟩ = false := by kernel_rfl
  have e3 : strEq ⟨#[109, 105, 100, 100, 108, 101]⟩ ⟨#[107, 117, 116, 116, 97]⟩ = false := by kernel_rfl
  have e4 : strEq ⟨#[109, 105, 100, 100, 108, 101]⟩ ⟨#[108, 111, 98, 97, 116, 116, 111]⟩ = false := by kernel_rfl
  have e5 : strEq ⟨#[109, 105, 100, 100, 108, 101]⟩ ⟨#[109, 105, 100, 100, 108, 101]⟩ = true := by kernel_rfl
  refine con_of_vc Tryz.mixed ⟨4, [], [], []⟩ Tryz.func65 (by decide) rfl (by simp) (by decide) (by simp [freshOK, freshL, go_sem]) ?_
  rw [Tryz.ntmps65]
  simp [go_sem]
  simp [go_sem, e0, e1, e2, e3, e4, e5]
set_option maxRecDepth 100000 in
theorem nt_gauss : Con Tryz.prog 65 [.val (.string ⟨#[103, 97, 117, 115, 115]⟩)] (.tup [.val (.string ⟨#[49, 47, 52, 32, 49, 47, 52, 59, 49, 47, 52, 32, 49, 47, 52, 124, 49, 47, 50, 32, 49, 47, 50]⟩), .bool true]) := by
  have e0 : strEq ⟨#[103, 97, 117, 115, 115]⟩ ⟨#[101, 117, 108, 101, 114]⟩ = false := by kernel_rfl
  have e1 : strEq ⟨#[103, 97, 117, 115, 115]⟩ ⟨#[104, 101, 117, 110]⟩ = false := by kernel_rfl
  have e2 : strEq ⟨#[103, 97, 117, 115, 115]⟩ ⟨#[105, 109, 112, 108, 105, 99, 105, 116]⟩ = false := by kernel_rfl
  have e3 : strEq ⟨#[103, 97, 117, 115, 115]⟩ ⟨#[107, 117, 116, 116, 97]⟩ = false := by kernel_rfl
  have e4 : strEq ⟨#[103, 97, 117, 115, 115]⟩ ⟨#[108, 111, 98, 97, 116, 116, 111]⟩ = false := by kernel_rfl
  have e5 : strEq ⟨#[103, 97, 117, 115, 115]⟩ ⟨#[109, 105, 100, 100, 108, 101]⟩ = false := by kernel_rfl
  have e6 : strEq ⟨#[103, 97, 117, 115, 115]⟩ ⟨#[109, 105, 100, 112, 111, 105, 110, 116]⟩ = false := by kernel_rfl
  have e7 : strEq ⟨#[103, 97, 117, 115, 115]⟩ ⟨#[114, 97, 100, 97, 117]⟩ = false := by kernel_rfl
  have e8 : strEq ⟨#[103, 97, 117, 115, 115]⟩ ⟨#[114, 97, 108, 115, 116, 111, 110]⟩ = false := by kernel_rfl
  have e9 : strEq ⟨#[103, 97, 117, 115, 115]⟩ ⟨#[114, 117, 110, 103, 101]⟩ = false := by kernel_rfl
  have e10 : strEq ⟨#[103, 97, 117, 115, 115]⟩ ⟨#[116, 114, 97, 112, 101, 122, 111, 105, 100]⟩ = false := by kernel_rfl
  have e11 : strEq ⟨#[103, 97, 117, 115, 115]⟩ ⟨#[103, 97, 117, 115, 115]⟩ = true := by kernel_rfl
  refine con_of_vc Tryz.mixed ⟨4, [], [], []⟩ Tryz.func65 (by decide) rfl (by simp) (by decide) (by simp [freshOK, freshL, go_sem]) ?_
  rw [Tryz.ntmps65]
  simp [go_sem]
  simp [go_sem, e0, e1, e2, e3, e4, e5, e6, e7, e8, e9, e10, e11]
set_option maxRecDepth 100000 in
theorem nm_middle : Con Tryz.prog 14 [.val (.string ⟨#[109, 105, 100, 100, 108, 101]⟩)] (.tup [.agg [.own 25 1 (omat [[5004]]), .own 2 1 (avs [1])], .int 0]) := by
  have e : strEq ⟨#[109, 105, 100, 100, 108, 101]⟩ ⟨#[103, 97, 117, 115, 115]⟩ = false := by kernel_rfl
  have c1 := nt_middle
  have c2 := pt_middle
  have f1 : freshL (omat [[5004]]) = true := by kernel_rfl
  have f2 : freshL (avs [1]) = true := by kernel_rfl
  generalize omat [[5004]] = X at *
  generalize avs [1] = Y at *
  have hf : freshOK (.tup [.agg [.own 25 1 X, .own 2 1 Y], .int 0]) = true := by simp [freshOK, freshL, f1, f2]
  refine con_of_vc Tryz.mixed ⟨11, [], [], []⟩ Tryz.func14 (by decide) rfl (by simp) (by decide) hf ?_
  rw [Tryz.ntmps14]
  simp [go_sem]
  refine CallVC.of (c1) (by decide) ?_
  simp [go_sem]
  refine CallVC.of (c2) (by decide) ?_
  simp [go_sem]
  simp [go_sem, e]
end Go.Proofs.YtnokgijakdaehaaGreatDoor


namespace Go.Proofs.YtnokgijakdaehaaGreatDoor
open Go.Abs
set_option linter.unusedSectionVars false
set_option linter.unusedVariables false
set_option linter.unusedSimpArgs false
set_option maxHeartbeats 4000000
end Go.Proofs.YtnokgijakdaehaaGreatDoor


namespace Go.Proofs.YtnokgijakdaehaaGreatDoor
open Go.Abs
set_option linter.unusedSectionVars false
set_option linter.unusedVariables false
set_option linter.unusedSimpArgs false
set_option maxHeartbeats 4000000
end Go.Proofs.YtnokgijakdaehaaGreatDoor


namespace Go.Proofs.YtnokgijakdaehaaGreatDoor
open Go.Abs
set_option linter.unusedSectionVars false
set_option linter.unusedVariables false
set_option linter.unusedSimpArgs false
set_option maxHeartbeats 4000000
end Go.Proofs.YtnokgijakdaehaaGreatDoor


namespace Go.Proofs.YtnokgijakdaehaaGreatDoor
open Go.Abs
set_option linter.unusedSectionVars false
set_option linter.unusedVariables false
set_option linter.unusedSimpArgs false
set_option maxHeartbeats 4000000
end Go.Proofs.YtnokgijakdaehaaGreatDoor


namespace Go.Proofs.YtnokgijakdaehaaGreatDoor
open Go.Abs CR
set_option linter.unusedSectionVars false
set_option linter.unusedVariables false
set_option linter.unusedSimpArgs false
set_option maxHeartbeats 1000000
structure Adj (A : List (List Int)) (B : List Int) (A' : List (List Int)) (B' : List Int) : Prop where
  tab : Tab A' B'
  len : B'.length = B.length
  a : ∀ r c, r < B.length → c < B.length → mx A' r c % 10007 = (B[B.length - 1 - c]?.getD 0 - mx A (B.length - 1 - r) (B.length - 1 - c)) % 10007
  b : ∀ r, r < B.length → B'[r]?.getD 0 % 10007 = B[B.length - 1 - r]?.getD 0 % 10007
theorem serEq.mul {a b c d : Ser Int} (h : serEq a b) (k : serEq c d) : serEq (a * c) (b * d) := fun i => cmul_mod i (fun j _ => h j) (fun j _ => k j)
theorem serEq.eq {a b c : Ser Int} (h : serEq a b) (k : b = c) : serEq a c := k ▸ h
end Go.Proofs.YtnokgijakdaehaaGreatDoor


namespace Go.Proofs.YtnokgijakdaehaaGreatDoor
open Go.Abs
set_option linter.unusedSectionVars false
set_option linter.unusedVariables false
set_option linter.unusedSimpArgs false
set_option maxHeartbeats 4000000
end Go.Proofs.YtnokgijakdaehaaGreatDoor


namespace Go.Proofs.YtnokgijakdaehaaGreatDoor
open Go.Abs
set_option linter.unusedSectionVars false
set_option linter.unusedVariables false
set_option linter.unusedSimpArgs false
set_option maxHeartbeats 4000000
theorem root_not : ∀ k : Nat, k < 1477 → ¬ ((k : Int) * k % 10007 = 3) := by
  have h : ((List.range 1477).all fun k => decide (¬ ((k : Int) * k % 10007 = 3))) = true := by decide +kernel
  intro k hk
  have := List.all_eq_true.1 h k (by simpa using hk)
  simpa using this
set_option maxRecDepth 100000 in
theorem SquareRoot_c3 : Con Tryz.prog 67 [.int 3] (.tup [.int 1477, .int 0]) := by
  have cI := IsNumber_c 3
  refine con_of_vc Tryz.mixed ⟨5, [], [], []⟩ Tryz.func67 (by decide) rfl (by simp) (by decide) (by simp [freshOK, freshL, go_sem]) ?_
  rw [Tryz.ntmps67]
  simp [go_sem]
  refine CallVC.of (cI) (by decide) ?_
  simp [go_sem]
  refine loop_inv ([2, 3, 4] ++ List.range' 8 11) (fun k : Nat => [(4, .int k)]) (fun k => k ≤ 1477) (fun k => 1477 - k) 0 (by simp) (by simp [go_sem]) (by simp [go_sem]) ?_
  intro k hk
  have c1 := num_c ((k : Int) * k) (by
    have : (0 : Int) ≤ (k : Int) * k := Int.mul_nonneg (by omega) (by omega)
    omega) (by
    have : (k : Int) * k ≤ 5003 * 5003 := Int.mul_le_mul (by omega) (by omega) (by omega) (by omega)
    omega)
  have hf : fits ((k : Int) * k) := ⟨by
    have : (0 : Int) ≤ (k : Int) * k := Int.mul_nonneg (by omega) (by omega)
    omega, by
    have : (k : Int) * k ≤ 5003 * 5003 := Int.mul_le_mul (by omega) (by omega) (by omega) (by omega)
    omega⟩
  have hk3 : (k : Int) ≤ 5003 := by omega
  by_cases e : k = 1477
  · have e3 : (k : Int) * k % 10007 = 3 := by subst e; decide
    rw [e3] at c1
    simp [go_sem, hk3]
    refine ⟨hf, ?_⟩
    refine CallVC.of (c1) (by decide) ?_
    simp [go_sem]
    omega
  · have ne := root_not k (by omega)
    simp [go_sem, hk3]
    refine ⟨hf, ?_⟩
    refine CallVC.of (c1) (by decide) ?_
    simp [go_sem]
    simp [go_sem, ne]
    exact ⟨⟨by omega, by omega⟩, k + 1, by omega, by omega, Off_reset _ _ _ (by simp), by omega⟩
set_option maxRecDepth 100000 in
theorem nm_gauss : Con Tryz.prog 14 [.val (.string ⟨#[103, 97, 117, 115, 115]⟩)] (.tup [.agg [.own 25 2 (omat [[2502, 588], [4416, 2502]]), .own 2 2 (avs [5004, 5004])], .int 0]) := by
  have e : strEq ⟨#[103, 97, 117, 115, 115]⟩ ⟨#[103, 97, 117, 115, 115]⟩ = true := by kernel_rfl
  have c1 := nt_gauss
  have c2 := pt_gauss
  have c3 := SquareRoot_c3
  have c4 := inv_c 6 ⟨by decide, by decide⟩
  have e4 : pw 6 10005 = 1668 := by
    have h := inv_ok (a := 6) ⟨by decide, by decide⟩ (by decide)
    have n := pw_N 6 10005
    have := n.1; have := n.2
    omega
  rw [e4] at c4
  have c5 := num_c (1477 * 1668) (by decide) (by decide)
  have e5 : (1477 * 1668 : Int) % 10007 = 1914 := by decide
  rw [e5] at c5
  have c6 := num_c (2502 - 1914) (by decide) (by decide)
  have e6 : (2502 - 1914 : Int) % 10007 = 588 := by decide
  rw [e6] at c6
  have c7 := num_c (2502 + 1914) (by decide) (by decide)
  have e7 : (2502 + 1914 : Int) % 10007 = 4416 := by decide
  rw [e7] at c7
  have o1 : omat [[2502, 2502], [2502, 2502]] = [.own 2 2 [.int 2502, .int 2502], .own 2 2 [.int 2502, .int 2502]] := rfl
  have o2 : omat [[2502, 588], [4416, 2502]] = [.own 2 2 [.int 2502, .int 588], .own 2 2 [.int 4416, .int 2502]] := rfl
  rw [o1] at c2
  rw [o2]
  refine con_of_vc Tryz.mixed ⟨11, [], [], [3000800000000, 1000000000000001]⟩ Tryz.func14 (by decide) rfl (by simp) (by decide) (by simp [freshOK, freshL, go_sem]) ?_
  rw [Tryz.ntmps14]
  simp [go_sem]
  refine CallVC.of (c1) (by decide) ?_
  simp [go_sem]
  refine CallVC.of (c2) (by decide) ?_
  simp [go_sem]
  simp [go_sem, e]
  refine CallVC.of (c3) (by decide) ?_
  simp [go_sem]
  refine CallVC.of (c4) (by decide) ?_
  simp [go_sem]
  refine CallVC.of (c5) (by decide) ?_
  simp [go_sem]
  refine ⟨[(4, 27), (5, 27), (6, 27), (17, 27), (18, 27), (19, 27), (21, 27)], [List.range 30], fun i => if i = 16 then [.w 50 (.int 588)] else [.w 59 (.int 4416)], by kernel_rfl, ?_⟩
  simp [go_sem, List.range, List.range.loop]
  refine CallD.of (c6) (by simp [roots, rootsL]) (by decide) ?_
  simp [go_sem]
  refine CallD.of (c7) (by simp [roots, rootsL]) (by decide) ?_
  simp [go_sem]
  refine (?_ : _ = true)
  kernel_rfl
end Go.Proofs.YtnokgijakdaehaaGreatDoor


namespace Go.Proofs.YtnokgijakdaehaaGreatDoor
open Go.Abs
set_option linter.unusedSectionVars false
set_option linter.unusedVariables false
set_option linter.unusedSimpArgs false
set_option maxHeartbeats 1000000
end Go.Proofs.YtnokgijakdaehaaGreatDoor


namespace Go.Proofs.YtnokgijakdaehaaGreatDoor
open Go.Abs Go.Shelf Go.Sort
set_option linter.unusedSectionVars false
set_option linter.unusedVariables false
set_option linter.unusedSimpArgs false
set_option maxHeartbeats 1000000
end Go.Proofs.YtnokgijakdaehaaGreatDoor


namespace Go.Proofs.YtnokgijakdaehaaGreatDoor
open Go.Abs
set_option linter.unusedSectionVars false
set_option linter.unusedVariables false
set_option linter.unusedSimpArgs false
set_option maxHeartbeats 1000000
def ptA (Ls : List (List Mon)) : Nat → AV
  | 0 => .val (.slice none 0 0)
  | i + 1 => .own 122 (i + 1) (oprt (Ls.take (i + 1)))
theorem ptA_zero (Ls : List (List Mon)) : ptA Ls 0 = .val (.slice none 0 0) := rfl
theorem ptA_succ (Ls : List (List Mon)) (i : Nat) : ptA Ls (i + 1) = .own 122 (i + 1) (oprt (Ls.take (i + 1))) := rfl
end Go.Proofs.YtnokgijakdaehaaGreatDoor


namespace Go.Proofs.YtnokgijakdaehaaGreatDoor
open Go.Abs
set_option linter.unusedSectionVars false
set_option linter.unusedVariables false
set_option linter.unusedSimpArgs false
set_option maxHeartbeats 1000000
def DrP (n : Nat) (p : List Mon) : Prop := p.length ≤ 3 ∧ ∀ m ∈ p, WOk n 3 m
theorem set_bump {w : List Int} {B : Int} {k : Nat} (hw : ∀ x ∈ w, 0 ≤ x ∧ x ≤ B) (hk : k < w.length) : ∀ x ∈ w.set k (w[k]?.getD 0 + 1), 0 ≤ x ∧ x ≤ B + 1 := fun x hx => by
  rcases List.mem_or_eq_of_mem_set hx with hx | rfl
  · have := hw x hx; omega
  · have := hw (w[k]?.getD 0) (by simp [hk])
    omega
set_option maxRecDepth 100000 in
theorem l13Draw_r (c : List Int) (σ : Src) (hc : Byt c) (hs : SOk σ) :
    RCon Tryz.prog 89 [srcA c σ] (fun r o => ∃ (τ : Src) (n : Nat) (f : List (List Mon)), SOk τ ∧ o = [srcA c τ] ∧ 1 ≤ n ∧ n ≤ 3 ∧ f.length = n ∧ (∀ p ∈ f, DrP n p) ∧ r = .agg [.int n, .own 122 n (oprt f)]) := by
  have c1 := l01Next_c c σ 3 hc hs
  have s1 := nx2_ok hc hs 3
  have b1 := nx1_b hc σ (n := 3) (by omega)
  obtain ⟨n, hn⟩ : ∃ n : Nat, 1 + nx1 c σ 3 = n := ⟨(1 + nx1 c σ 3).toNat, by omega⟩
  generalize nx1 c σ 3 = v1 at *
  generalize nx2 c σ 3 = σ1 at *
  simp only [srcA_eq] at *
  refine rcon_of_vcH Tryz.mixed ⟨10, [], [1000000 + 38, 1000000 + 108, 1000000 + 110], []⟩ [0] Tryz.func89 (by decide) rfl (by simp) (by simp) (by decide) ?_
  rw [Tryz.ntmps89]
  simp [go_sem]
  refine ⟨_, _, c1, ?_⟩
  simp [go_sem]
  refine ⟨⟨by omega, by omega⟩, ?_⟩
  rw [hn]
  refine loop_inv (0 :: 3 :: 4 :: 5 :: 6 :: 7 :: 8 :: 9 :: List.range' 14 46) (fun x : Src × List (List Mon) => [(0, .box 136 [.sl c.length (bys c), .int x.1.1, .val (.int .u64 x.1.2)]), (3, .box 41 [.int n, ptA x.2 x.2.length]), (4, .int x.2.length)]) (fun x => SOk x.1 ∧ x.2.length ≤ n ∧ ∀ p ∈ x.2, DrP n p) (fun x => n - x.2.length) (σ1, []) (by simp; exact s1) (by simp [go_sem, ptA_zero]) (by simp [go_sem]) ?_
  rintro ⟨τ, f⟩ ⟨h1, h2, h3⟩
  simp only at h1 h2 h3
  simp [go_sem]
  refine ⟨fun h => ?_, fun h => ?_⟩ <;> simp at h
  · have c4 := l01Next_c c τ 4 hc h1
    have s4 := nx2_ok hc h1 4
    have b4 := nx1_b hc τ (n := 4) (by omega)
    obtain ⟨m, hm⟩ : ∃ m : Nat, nx1 c τ 4 = m := ⟨(nx1 c τ 4).toNat, by omega⟩
    rw [hm] at c4 b4
    generalize nx2 c τ 4 = τ1 at *
    simp only [srcA_eq] at c4
    simp [go_sem]
    refine ⟨_, _, c4, ?_⟩
    simp [go_sem]
    refine loop_inv (0 :: 5 :: 6 :: 7 :: 8 :: 9 :: List.range' 23 31) (fun x : Src × List Mon × Nat => [(0, .box 136 [.sl c.length (bys c), .int x.1.1, .val (.int .u64 x.1.2)]), (5, .own 125 x.2.1.length (omons x.2.1)), (6, .int x.2.2)]) (fun x => SOk x.1 ∧ x.2.1.length + x.2.2 ≤ 3 ∧ ∀ m ∈ x.2.1, WOk n 3 m) (fun x => x.2.2) (τ1, [], m) ⟨s4, by simp; omega, by simp⟩ (by simp [go_sem]) (by simp [go_sem]) ?_
    rintro ⟨ρ, p, k⟩ ⟨g1, g2, g3⟩
    simp only at g1 g2 g3
    simp [go_sem]
    refine ⟨fun h => ?_, fun h => ?_⟩ <;> simp at h
    · have c5 := l01Pick_c c ρ [0, 1, 1, 2, 2, 3] hc g1 (by simp) (by simp)
      have m5 := pk_mem c hc ρ (xs := [0, 1, 1, 2, 2, 3]) (by simp)
      have s5 := nx2_ok hc g1 6
      obtain ⟨d0, hd0⟩ : ∃ d0 : Nat, pk c ρ [0, 1, 1, 2, 2, 3] = d0 := ⟨(pk c ρ [0, 1, 1, 2, 2, 3]).toNat, by simp at m5; omega⟩
      have hd3 : d0 ≤ 3 := by rw [hd0] at m5; simp at m5; omega
      have e6 : (([0, 1, 1, 2, 2, 3] : List Int).length : Int) = 6 := rfl
      rw [hd0, e6] at c5
      generalize nx2 c ρ 6 = ρ1 at *
      simp only [srcA_eq] at c5
      simp [go_sem]
      refine ⟨⟨by omega, by omega⟩, ?_⟩
      refine ⟨_, _, c5, ?_⟩
      simp [go_sem]
      rw [avs_repl]
      refine loop_inv (0 :: 7 :: 8 :: 9 :: List.range' 33 16) (fun x : Src × List Int × Nat => [(0, .box 136 [.sl c.length (bys c), .int x.1.1, .val (.int .u64 x.1.2)]), (7, .own 2 n (avs x.2.1)), (8, .int x.2.2)]) (fun x => SOk x.1 ∧ x.2.1.length = n ∧ x.2.2 ≤ 3 ∧ ∀ y ∈ x.2.1, 0 ≤ y ∧ y + x.2.2 ≤ 3) (fun x => x.2.2) (ρ1, List.replicate n 0, d0) ⟨s5, by simp, by simpa using hd3, by intro y hy; have := List.eq_of_mem_replicate hy; simp only; omega⟩ (by simp [go_sem]) (by simp [go_sem]) ?_
      rintro ⟨κ, w, d⟩ ⟨q1, q2, q3, q4⟩
      simp only at q1 q2 q3 q4
      simp [go_sem]
      refine ⟨fun h => ?_, fun h => ?_⟩ <;> simp at h
      · obtain ⟨e, rfl⟩ : ∃ e, d = e + 1 := ⟨d - 1, by omega⟩
        have hnn : 1 ≤ n := by omega
        have c6 := l01Next_c c κ n hc q1
        have s6 := nx2_ok hc q1 n
        have b6 := nx1_b hc κ (n := n) (by omega)
        obtain ⟨j, hj⟩ : ∃ j : Nat, nx1 c κ n = j := ⟨(nx1 c κ n).toNat, by omega⟩
        rw [hj] at c6 b6
        have hjn : j < w.length := by omega
        have hA := avs_at hjn
        have hB := set_bump (B := 3 - (e + 1)) (fun y hy => by have := q4 y hy; constructor <;> omega) hjn
        have wj := q4 (w[j]?.getD 0) (by simp [hjn])
        have hS := avs_set w j (w[j]?.getD 0 + 1)
        generalize w[j]?.getD 0 = u at *
        generalize nx2 c κ n = κ1 at *
        simp only [srcA_eq] at c6
        simp [go_sem]
        refine ⟨_, _, c6, ?_⟩
        simp [go_sem]
        simp [go_sem, hA]
        refine ⟨by omega, ⟨by omega, by omega⟩, by omega, by omega, by omega, κ1.1, κ1.2, w.set j (u + 1), e, ⟨s6, by simpa using q2, by omega, fun y hy => ?_⟩, by omega, Off_reset _ _ _ (by simp), ?_⟩
        · have := hB y hy; omega
        · simp [hS]
      · have e0 : d = 0 := by omega
        subst e0
        have c7 := l01Number_c c κ hc q1
        have h7 := nbV_ok hc q1
        have c8 := l13Put_c p (nbV c κ).1 w h7.1 (fun m hm => ⟨(g3 m hm).num, by have := (g3 m hm).len; omega⟩) (by omega) (by omega)
        have l8 := putL_len p (nbV c κ).1 w
        have w8 := putGo_wok (n := n) (B := 3) (c := (nbV c κ).1) (e := w) ⟨h7.1, q2, fun y hy => by have := q4 y hy; constructor <;> omega⟩ p (decide ((nbV c κ).1 = 0)) g3
        have w9 : ∀ m ∈ putL p (nbV c κ).1 w, WOk n 3 m := w8
        rw [q2] at c8
        generalize putL p (nbV c κ).1 w = p2 at *
        generalize nbV c κ = r7 at *
        simp only [srcA_eq] at c7
        simp [go_sem]
        refine ⟨_, _, c7, ?_⟩
        simp [go_sem]
        refine CallVC.of (c8) (by decide) ?_
        simp [go_sem]
        exact ⟨⟨by omega, by omega⟩, r7.2.1, r7.2.2, p2, k - 1, ⟨h7.2, by omega, fun a b hab => w9 (a, b) hab⟩, by omega, (Off.reset (by intro x hx; simp at hx ⊢; omega) (by simp) (by simp [go_sem, Off_reset])), ⟨rfl, rfl⟩, ⟨rfl, rfl⟩, by omega⟩
    · have k0 : k = 0 := by omega
      subst k0
      have hsn : ptA (f ++ [p]) (f.length + 1) = .own 122 (f.length + 1) (oprt f ++ [.own 125 p.length (omons p)]) := by
        rw [ptA_succ, List.take_of_length_le (by simp), oprt_app]; rfl
      have hdr : DrP n p := ⟨by omega, g3⟩
      rcases f with _ | ⟨q, f⟩
      · simp [go_sem, ptA_zero]
        refine ⟨ρ.1, ρ.2, [p], ⟨g1, by simp; omega, by simpa using hdr⟩, by simp; omega, (by repeat (first | exact Off_reset _ _ _ (by simp) | (refine Off.reset (by intro x hx; simp at hx ⊢; omega) (by simp) ?_; simp -failIfUnchanged [go_sem, Off_reset]))), ?_⟩
        exact ⟨⟨rfl, rfl⟩, rfl, by simp⟩
      · rw [List.length_cons] at *
        simp [go_sem, ptA_succ]
        refine ⟨⟨by omega, by omega⟩, by omega, ρ.1, ρ.2, q :: f ++ [p], ⟨g1, by simp; omega, fun t ht => ?_⟩, by simp; omega, (by repeat (first | exact Off_reset _ _ _ (by simp) | (refine Off.reset (by intro x hx; simp at hx ⊢; omega) (by simp) ?_; simp -failIfUnchanged [go_sem, Off_reset]))), ?_⟩
        · rcases List.mem_append.1 ht with ht | ht
          · exact h3 t ht
          · simp at ht; rw [ht]; exact hdr
        · have e1 : (q :: f ++ [p]).length = f.length + 1 + 1 := by simp
          rw [e1, hsn]
          exact ⟨⟨rfl, rfl⟩, rfl, by omega⟩
  · have e0 : f.length = n := by omega
    rcases f with _ | ⟨q, f⟩
    · simp at e0; omega
    · rw [List.length_cons] at *
      simp [go_sem, ptA_succ]
      exact ⟨τ.1, τ.2, h1, ⟨rfl, rfl⟩, n, by omega, by omega, q :: f, by simpa using e0, h3, rfl, e0, rfl⟩
def DrS (z : Int) (f : List (List Mon)) : Prop := -1 ≤ z ∧ z ≤ 4 ∧ f.length ≤ 4 ∧ ∀ p ∈ f, p.length ≤ 4 ∧ ∀ m ∈ p, m.2.length ≤ 3
theorem DrS.of {n : Nat} {f : List (List Mon)} (hn : n ≤ 3) (hl : f.length ≤ 3) (h : ∀ p ∈ f, DrP n p) {z : Int} (h1 : -1 ≤ z) (h2 : z ≤ 4) : DrS z f :=
  ⟨h1, h2, by omega, fun p hp => ⟨by have := (h p hp).1; omega, fun m hm => by have := ((h p hp).2 m hm).len; omega⟩⟩
end Go.Proofs.YtnokgijakdaehaaGreatDoor


namespace Go.Proofs.YtnokgijakdaehaaGreatDoor
open Go.Abs
set_option linter.unusedSectionVars false
set_option linter.unusedVariables false
set_option linter.unusedSimpArgs false
set_option maxHeartbeats 1000000
theorem RCon.fz {P : Program} {f : FuncId} {args : List AV} {R : AV → List AV → Prop} (h : RCon P f args R) : RCon P f args (fun r o => ∃ r0, R r0 o ∧ r = frz r0) := by
  refine ⟨h.1, fun w vs os F0 hl hn ho hF hr => (h.2 w vs os F0 hl hn ho hF hr).mono ?_⟩
  rintro e w' ⟨r, o, hR, v, orr, oo, F', k1, k2, k3, k4, k5, k6, k7, k8, k9⟩
  refine ⟨frz r, o, ⟨r, hR, rfl⟩, v, [], oo, fun b => F' b ∨ b ∈ orr, k1, k2, fun b hb => .inl (k3 b hb), fun b hb => hb.elim (k4 b) (fun hb => .inr ⟨(k9 b (.inl hb)).1, (k9 b (.inl hb)).2.1⟩), fun tm oss => (k5 tm oss).frz (fun b h => .inl h) (fun b h => .inr h), fun tm oss => ?_, k7, ?_, fun b hb => ?_⟩
  · have := RepTL.kl (w' := w') (F' := fun b => F' b ∨ b ∈ orr) (tm' := tm) (oss' := oss) [] (fun b hb => .inl hb) (fun _ _ _ _ h => h) (k6 tm oss) (fun _ _ => rfl)
    rwa [klL_nil] at this
  · simpa using (List.nodup_append.1 k8).2.1
  · rcases hb with hb | hb
    · simp at hb
    · obtain ⟨j1, j2, j3⟩ := k9 b (.inr hb)
      exact ⟨j1, j2, fun hf => hf.elim j3 (fun hf => (List.nodup_append.1 k8).2.2 b hf b hb rfl)⟩
end Go.Proofs.YtnokgijakdaehaaGreatDoor


namespace Go.Proofs.YtnokgijakdaehaaGreatDoor
open Go.Abs
set_option linter.unusedSectionVars false
set_option linter.unusedVariables false
set_option linter.unusedSimpArgs false
set_option maxHeartbeats 4000000
end Go.Proofs.YtnokgijakdaehaaGreatDoor


namespace Go.Proofs.YtnokgijakdaehaaGreatDoor
open Go.Abs
set_option linter.unusedSectionVars false
set_option linter.unusedVariables false
set_option linter.unusedSimpArgs false
set_option maxHeartbeats 4000000
end Go.Proofs.YtnokgijakdaehaaGreatDoor


namespace Go.Proofs.YtnokgijakdaehaaGreatDoor
open Go.Abs
set_option linter.unusedSectionVars false
set_option linter.unusedVariables false
set_option linter.unusedSimpArgs false
set_option maxHeartbeats 4000000
def linK (row : List Int) : Nat → List Mon
  | 0 => []
  | k + 1 => putL (linK row k) (row[k]?.getD 0) (oneE row.length k)
theorem linK_ok {n : Nat} {row : List Int} (hl : row.length = n) (hN : Ns row) : ∀ k, k ≤ n → (linK row k).length ≤ k ∧ ∀ m ∈ linK row k, WOk n 1 m
  | 0, _ => ⟨by simp [linK], fun m hm => by simp [linK] at hm⟩
  | k + 1, hk => by
    have ih := linK_ok hl hN k (by omega)
    have h1 := putL_len (linK row k) (row[k]?.getD 0) (oneE row.length k)
    refine ⟨by rw [linK]; omega, fun m hm => ?_⟩
    rw [linK] at hm
    rw [hl] at hm
    exact putGo_wok (n := n) (B := 1) ⟨hN.get k, (oneE_wok (n := n) (k := k)).len, (oneE_wok (n := n) (k := k)).pw⟩ _ _ ih.2 m hm
set_option maxRecDepth 100000 in
theorem l13Linear_c (row : List Int) (h3 : row.length ≤ 8) (hN : Ns row) : Con Tryz.prog 160 [.sl row.length (avs row)] (.own 125 (linK row row.length).length (omons (linK row row.length))) := by
  refine con_of_vc Tryz.mixed ⟨5, [], [], []⟩ Tryz.func160 (by decide) rfl (by simp) (by decide) (by simp [freshOK, freshL, go_sem]) ?_
  rw [Tryz.ntmps160]
  simp [go_sem]
  refine loop_inv ([3, 4] ++ List.range' 6 16) (fun k : Nat => [(3, .own 125 (linK row k).length (omons (linK row k))), (4, .int k)]) (fun k => k ≤ row.length) (fun k => row.length - k) 0 (by simp) (by simp [go_sem, linK, omons]) (by simp [go_sem]) ?_
  intro k hk
  by_cases hkr : k < row.length
  · have hki : (k : Int) < row.length := by omega
    have ne : ¬ row = [] := by rintro rfl; simp at hkr
    have ok := linK_ok rfl hN k hk
    have cO := l13One_c row.length k (by omega) hkr
    have cP := l13Put_c (linK row k) (row[k]?.getD 0) (oneE row.length k) (hN.get k) (fun m hm => ⟨(ok.2 m hm).num, by have := (ok.2 m hm).len; omega⟩) (by omega) (by simp; omega)
    rw [oneE_len] at cP
    have e1 : linK row (k + 1) = putL (linK row k) (row[k]?.getD 0) (oneE row.length k) := rfl
    rw [← e1] at cP
    generalize hL1 : linK row (k + 1) = L1 at *
    simp [go_sem, hki, avs_drop hkr]
    refine ⟨by kernel_rfl, ne, ?_⟩
    refine CallD.of (cO) (by simp [roots, rootsL]) (by decide) ?_
    simp [go_sem]
    refine CallD.of (cP) (by simp [roots, rootsL]) (by decide) ?_
    simp [go_sem]
    refine ⟨by kernel_rfl, ?_⟩
    simp [go_sem]
    exact ⟨by omega, k + 1, by omega, by omega, Off_reset _ _ _ (by simp), by rw [hL1]; exact ⟨rfl, rfl⟩, by omega⟩
  · have e : k = row.length := by omega
    subst e
    have hki : ¬ (row.length : Int) < row.length := by omega
    simp [go_sem, hki]
end Go.Proofs.YtnokgijakdaehaaGreatDoor


namespace Go.Proofs.YtnokgijakdaehaaGreatDoor
open Go.Abs
set_option linter.unusedSectionVars false
set_option linter.unusedVariables false
set_option linter.unusedSimpArgs false
set_option maxHeartbeats 4000000
theorem Rws.put {n : Nat} {X : List (List Int)} (h : Rws n X) (i : Nat) {r : List Int} (hr : r.length = n ∧ Ns r) : Rws n (X.set i r) := fun s hs => by
  rcases List.mem_or_eq_of_mem_set hs with hs | rfl
  · exact h s hs
  · exact hr
theorem Rws.app {n : Nat} {X : List (List Int)} (h : Rws n X) {r : List Int} (hr : r.length = n ∧ Ns r) : Rws n (X ++ [r]) := fun s hs => by
  rcases List.mem_append.1 hs with hs | hs
  · exact h s hs
  · simp at hs; subst hs; exact hr
theorem Ns.set2 {l : List Int} (h : Ns l) (k : Nat) {x : Int} (hx : isN x) : Ns (l.set k x) := fun y hy => by
  rcases List.mem_or_eq_of_mem_set hy with hy | rfl
  · exact h y hy
  · exact hx
theorem rep_row (n : Nat) : (List.replicate n (0 : Int)).length = n ∧ Ns (List.replicate n (0 : Int)) := ⟨by simp, fun x hx => by
  have := (List.mem_replicate.1 hx).2
  subst this; exact ⟨by decide, by decide⟩⟩
theorem omat_put (X : List (List Int)) (k : Nat) {r : List Int} {n : Nat} (hr : r.length = n) : (omat X).set k (.own 2 n (avs r)) = omat (X.set k r) := by rw [← hr]; simp [omat, List.map_set]
theorem Off.trans {W : List Nat} {S0 S1 S2 : St} (h : Off W S0 S1) (h2 : Off W S1 S2) : Off W S0 S2 := fun i hi => (h2 i hi).trans (h i hi)
theorem Off.symm {W : List Nat} {S0 S1 : St} (h : Off W S0 S1) : Off W S1 S0 := fun i hi => (h i hi).symm
theorem DrawVC5.cut {P : Program} {cf : Cfg} {N : Nat × List Nat} {ops : Array Oper} {q : Exc} {n : Nat} {K : St → Prop} {S : St} (W : List Nat) (F : St → Prop)
    (h : DrawVC5 P cf N ops q n (fun S' => Off W S S' ∧ F S') S) (hK : ∀ S', Off W S S' → F S' → K S') : DrawVC5 P cf N ops q n K S := DrawVC5.mono h fun S' h => hK S' h.1 h.2
set_option maxRecDepth 100000 in
theorem l13Turning_r (c : List Int) (σ : Src) (hc : Byt c) (hs : SOk σ) :
    RCon Tryz.prog 87 [srcA c σ] (fun r o => ∃ (τ : Src) (n : Nat) (f : List (List Mon)) (q : List (List Int)), SOk τ ∧ o = [srcA c τ] ∧ (2 ≤ n ∧ n ≤ 3) ∧ f.length = n ∧ (∀ p ∈ f, p.length ≤ 20 ∧ ∀ m ∈ p, WOk n 3 m) ∧ (q.length = n ∧ Rws n q) ∧
      r = .tup [.agg [.int n, .own 122 n (oprt f)], .own 25 n (omat q)]) := by
  have c1 := l01Next_c c σ 2 hc hs
  have s1 := nx2_ok hc hs 2
  have b1 := nx1_b hc σ (n := 2) (by omega)
  obtain ⟨n, hn⟩ : ∃ n : Nat, 2 + nx1 c σ 2 = n := ⟨(2 + nx1 c σ 2).toNat, by omega⟩
  generalize nx1 c σ 2 = v1 at *
  generalize nx2 c σ 2 = σ1 at *
  have n2 : 2 ≤ n := by omega
  have n3 : n ≤ 3 := by omega
  simp only [srcA_eq] at *
  refine rcon_of_vcH Tryz.mixed ⟨20, [], [1000000 + 38, 1000000 + 108, 1000000 + 110], [2001305990712]⟩ [0] Tryz.func87 (by decide) rfl (by simp) (by simp) (by decide) ?_
  rw [Tryz.ntmps87]
  simp [go_sem]
  refine ⟨_, _, c1, ?_⟩
  simp [go_sem]
  refine ⟨⟨by omega, by omega⟩, ?_⟩
  rw [hn]
  refine loop_inv (5 :: 7 :: List.range' 26 10) (fun X : List (List Int) => [(5, .own 25 X.length (omat X)), (7, .int X.length)]) (fun X => X.length ≤ n ∧ Rws n X) (fun X => n - X.length) [] ⟨by simp, fun r hr => by simp at hr⟩ (by simp [go_sem, omat]) (by simp [go_sem]) ?_
  rintro X ⟨h1, h2⟩
  by_cases hX : X.length < n
  · have hXi : (X.length : Int) < n := by omega
    simp [go_sem, hXi]
    refine ⟨⟨by omega, by omega⟩, by omega, by omega, X ++ [List.replicate n 0], ⟨by simp; omega, h2.app (rep_row n)⟩, by simp; omega, Off_reset _ _ _ (by simp), ?_⟩
    rw [omat_app, omat_one, avs_repl]
    simp
  have hXn : X.length = n := by omega
  have hXi : ¬ (X.length : Int) < n := by omega
  have q0 : X.length = n ∧ Rws n X := ⟨hXn, h2⟩
  simp [go_sem, hXi]
  clear hX h1 hXi
  refine loop_inv (0 :: 5 :: 8 :: 9 :: List.range' 36 34) (fun x : Src × List (List Int) × Nat => [(0, .box 136 [.sl c.length (bys c), .int x.1.1, .val (.int .u64 x.1.2)]), (5, .own 25 n (omat x.2.1)), (8, .int x.2.2)]) (fun x => SOk x.1 ∧ (x.2.1.length = n ∧ Rws n x.2.1) ∧ x.2.2 ≤ n) (fun x => n - x.2.2) (σ1, X, 0) ⟨s1, q0, by simp⟩ (by simp [go_sem, hXn]) (by simp [go_sem]) ?_
  rintro ⟨τ, Y, i⟩ ⟨h1, h2, h3⟩
  simp only at h1 h2 h3
  by_cases hi : i < n
  · have hii : (i : Int) < n := by omega
    simp [go_sem, hii]
    refine loop_inv (0 :: 5 :: 9 :: List.range' 41 29) (fun x : Src × List (List Int) × Nat => [(0, .box 136 [.sl c.length (bys c), .int x.1.1, .val (.int .u64 x.1.2)]), (5, .own 25 n (omat x.2.1)), (9, .int x.2.2)]) (fun x => SOk x.1 ∧ (x.2.1.length = n ∧ Rws n x.2.1) ∧ x.2.2 ≤ i + 1) (fun x => i + 1 - x.2.2) (τ, Y, 0) ⟨h1, h2, by simp⟩ (by simp [go_sem]) (by simp [go_sem]) ?_
    rintro ⟨ρ, Z, k⟩ ⟨g1, g2, g3⟩
    simp only at g1 g2 g3
    by_cases hk : k ≤ i
    · have hki : (k : Int) ≤ i := by omega
      have c2 := l01Number_c c ρ hc g1
      have h5 := nbV_ok hc g1
      generalize nbV c ρ = v at *
      have c3 := l01Pick_c c v.2 [0, 1, v.1] hc h5.2 (by simp) (by simp)
      have m3 := pk_mem c hc v.2 (xs := [0, 1, v.1]) (by simp)
      have s3 := nx2_ok hc h5.2 3
      have e3 : (([0, 1, v.1] : List Int).length : Int) = 3 := rfl
      have a3 : avs [0, 1, v.1] = [.int 0, .int 1, .int v.1] := rfl
      rw [e3, a3] at c3
      have wN : isN (pk c v.2 [0, 1, v.1]) := by
        have : pk c v.2 [0, 1, v.1] = 0 ∨ pk c v.2 [0, 1, v.1] = 1 ∨ pk c v.2 [0, 1, v.1] = v.1 := by simpa using m3
        rcases this with e | e | e <;> rw [e]
        · exact ⟨by decide, by decide⟩
        · exact ⟨by decide, by decide⟩
        · exact h5.1
      generalize pk c v.2 [0, 1, v.1] = w at *
      generalize nx2 c v.2 3 = κ at *
      simp only [srcA_eq] at *
      have hiZ : i < Z.length := by omega
      have hkZ : k < Z.length := by omega
      have ri := g2.2 _ (memD [] hiZ)
      have og := omat_get hiZ
      rw [ri.1] at og
      have kr : k < (Z[i]?.getD []).length := by omega
      have st := avs_set (Z[i]?.getD []) k w
      have Z1 : Rws n (Z.set i ((Z[i]?.getD []).set k w)) := g2.2.put i ⟨by simp [ri.1], ri.2.set2 k wN⟩
      have pz := omat_put Z i (r := (Z[i]?.getD []).set k w) (n := n) (by simp [ri.1])
      generalize Z[i]?.getD [] = R at *
      simp [go_sem, hki]
      refine DrawVC5.cut (0 :: 5 :: 9 :: List.range' 41 29) (fun S' => S' 0 = .box 136 [.sl c.length (bys c), .int κ.1, .val (.int .u64 κ.2)] ∧ S' 4 = .int n ∧ S' 5 = .own 25 n (omat (Z.set i (R.set k w))) ∧ S' 8 = .int i ∧ S' 9 = .int k) ?_ ?_
      · rw [DrawVC5_app]
        refine ⟨fun i => if i = 7 then [.n 0 .any, .n 0 (.box 136 [.sl c.length (bys c), .int v.2.1, .val (.int .u64 v.2.2)]), .w 53 (.int v.1)] else [.n 0 .any, .n 54 .any, .n 0 (.box 136 [.sl c.length (bys c), .int κ.1, .val (.int .u64 κ.2)]), .n 54 .any, .w 55 (.int w)], by kernel_rfl, ?_, ?_⟩
        · simp [go_sem, og]
          refine ⟨by omega, ?_⟩
          refine ⟨_, _, c2, ?_⟩
          simp [go_sem]
          refine ⟨_, _, c3, ?_⟩
          simp [go_sem]
          simp [go_sem, og]
          refine ⟨by omega, by omega, ?_⟩
          refine ⟨by kernel_rfl, ?_⟩
          simp [go_sem, st, pz]
          exact Off.symm (by simp [go_sem]; exact Off.refl _ _)
        · simp [go_sem, og]
          refine ⟨by omega, ?_⟩
          refine ⟨_, _, c2, ?_⟩
          simp [go_sem]
          refine ⟨_, _, c3, ?_⟩
          simp [go_sem]
          simp [go_sem, og]
          refine ⟨by omega, by omega, ?_⟩
          refine ⟨by kernel_rfl, ?_⟩
          simp [go_sem, st, pz]
          exact Off.symm (by simp [go_sem]; exact Off.refl _ _)
      · rintro S' hO ⟨e0, e4, e5, e8, e9⟩
        clear st pz
        generalize hZ1 : Z.set i (R.set k w) = Z1l at *
        have l1 : Z1l.length = n := by rw [← hZ1]; simp [g2.1]
        have hi1 : i < Z1l.length := by omega
        have hk1 : k < Z1l.length := by omega
        have oi := omat_get hi1
        have ok := omat_get hk1
        have r1 := Z1 _ (memD [] hi1)
        have r2 := Z1 _ (memD [] hk1)
        rw [r1.1] at oi
        rw [r2.1] at ok
        have kr1 : k < (Z1l[i]?.getD []).length := by omega
        have ir2 : i < (Z1l[k]?.getD []).length := by omega
        have ea := avs_at kr1
        have st2 := avs_set (Z1l[k]?.getD []) i ((Z1l[i]?.getD [])[k]?.getD 0)
        have Z2 : Rws n (Z1l.set k ((Z1l[k]?.getD []).set i ((Z1l[i]?.getD [])[k]?.getD 0))) := Z1.put k ⟨by simp [r2.1], r2.2.set2 i (r1.2.get k)⟩
        have pz2 := omat_put Z1l k (r := (Z1l[k]?.getD []).set i ((Z1l[i]?.getD [])[k]?.getD 0)) (n := n) (by simp [r2.1])
        generalize (Z1l[i]?.getD [])[k]?.getD 0 = w2 at *
        generalize Z1l[i]?.getD [] = R1 at *
        generalize Z1l[k]?.getD [] = R2 at *
        simp [go_sem, e0, e4, e5, e8, e9, oi, ok, ea]
        refine ⟨by kernel_rfl, by omega, by omega, by omega, by omega, by omega, ?_⟩
        refine ⟨by kernel_rfl, ?_⟩
        simp -failIfUnchanged [go_sem, e0, e4, e5, e8, e9, st2, pz2]
        exact ⟨⟨by omega, by omega⟩, κ.1, κ.2, _, k + 1, ⟨s3, ⟨by simp [l1], Z2⟩, by omega⟩, by omega, Off.trans (by simp [go_sem]; exact Off_reset _ _ _ (by simp)) hO, ⟨rfl, rfl⟩, rfl, by omega⟩
    · have hki : ¬ (k : Int) ≤ i := by omega
      simp [go_sem, hki]
      exact ⟨⟨by omega, by omega⟩, ρ.1, ρ.2, Z, i + 1, ⟨g1, g2, by omega⟩, by omega, (Off.reset (by intro x hx; simp at hx ⊢; omega) (by simp) (by simp [go_sem, Off_reset])), ⟨rfl, rfl⟩, rfl, by omega⟩
  have hii : ¬ (i : Int) < n := by omega
  simp [go_sem, hii]
  clear hii h3 hi
  have hq := h2
  have c5 := l01Next_c c τ 2 hc h1
  have s5 := nx2_ok hc h1 2
  have b5 := nx1_b hc τ (n := 2) (by omega)
  obtain ⟨m, hm⟩ : ∃ m : Nat, 1 + nx1 c τ 2 = m := ⟨(1 + nx1 c τ 2).toNat, by omega⟩
  generalize nx1 c τ 2 = v5 at *
  generalize nx2 c τ 2 = τ5 at *
  simp only [srcA_eq] at c5
  refine ⟨_, _, c5, ?_⟩
  simp [go_sem]
  refine ⟨⟨by omega, by omega⟩, ?_⟩
  rw [hm]
  refine loop_inv (0 :: 10 :: 11 :: 12 :: List.range' 74 19) (fun x : Src × List Mon × Nat => [(0, .box 136 [.sl c.length (bys c), .int x.1.1, .val (.int .u64 x.1.2)]), (10, .own 125 x.2.1.length (omons x.2.1)), (11, .int x.2.2)]) (fun x => SOk x.1 ∧ x.2.1.length + x.2.2 ≤ 2 ∧ ∀ m ∈ x.2.1, WOk n 1 m) (fun x => x.2.2) (τ5, [], m) ⟨s5, by simp; omega, by simp⟩ (by simp [go_sem, omons]) (by simp [go_sem]) ?_
  rintro ⟨ρ, p, d⟩ ⟨g1, g2, g3⟩
  simp only at g1 g2 g3
  by_cases hd : 0 < d
  · have hdi : 0 < (d : Int) := by omega
    have c6 := l01Next_c c ρ 2 hc g1
    have s6 := nx2_ok hc g1 2
    generalize nx1 c ρ 2 = v6 at *
    generalize nx2 c ρ 2 = ρ6 at *
    simp only [srcA_eq] at c6
    simp [go_sem, hd]
    refine ⟨⟨by omega, by omega⟩, ?_⟩
    refine ⟨_, _, c6, ?_⟩
    simp [go_sem]
    by_cases v60 : v6 = 0
    · have c7 := l01Next_c c ρ6 n hc s6
      have s7 := nx2_ok hc s6 n
      have b7 := nx1_b hc ρ6 (n := n) (by omega)
      obtain ⟨j, hj⟩ : ∃ j : Nat, nx1 c ρ6 n = j := ⟨(nx1 c ρ6 n).toNat, by omega⟩
      rw [hj] at c7 b7
      generalize nx2 c ρ6 n = ρ7 at *
      simp only [srcA_eq] at c7
      have ws := avs_set (List.replicate n 0) j 1
      have wl : ((List.replicate n (0 : Int)).set j 1).length = n := by simp
      have wb : ∀ y ∈ (List.replicate n (0 : Int)).set j 1, 0 ≤ y ∧ y ≤ 1 := fun y hy => by
        rcases List.mem_or_eq_of_mem_set hy with hy | rfl
        · have := (List.mem_replicate.1 hy).2; omega
        · omega
      simp [go_sem, v60]
      refine ⟨_, _, c7, ?_⟩
      simp [go_sem]
      refine ⟨by omega, ?_⟩
      rw [avs_repl, ws]
      generalize (List.replicate n (0 : Int)).set j 1 = w at *
      have c8 := l01Number_c c ρ7 hc s7
      have h8 := nbV_ok hc s7
      generalize nbV c ρ7 = r8 at *
      have c9 := l13Put_c p r8.1 w h8.1 (fun m hm => ⟨(g3 m hm).num, by have := (g3 m hm).len; omega⟩) (by omega) (by omega)
      have l9 := putL_len p r8.1 w
      have w9 : ∀ m ∈ putL p r8.1 w, WOk n 1 m := putGo_wok (n := n) (B := 1) (c := r8.1) (e := w) ⟨h8.1, wl, wb⟩ p (decide (r8.1 = 0)) g3
      rw [wl] at c9
      generalize putL p r8.1 w = p2 at *
      simp only [srcA_eq] at c8
      refine ⟨_, _, c8, ?_⟩
      simp [go_sem]
      refine CallVC.of (c9) (by decide) ?_
      simp [go_sem]
      exact ⟨⟨by omega, by omega⟩, r8.2.1, r8.2.2, p2, d - 1, ⟨h8.2, by omega, fun a b hab => w9 (a, b) hab⟩, by omega, Off_reset _ _ _ (by simp), ⟨rfl, rfl⟩, ⟨rfl, rfl⟩, by omega⟩
    · have wl : (List.replicate n (0 : Int)).length = n := by simp
      have wb : ∀ y ∈ List.replicate n (0 : Int), 0 ≤ y ∧ y ≤ 1 := fun y hy => by
        have := (List.mem_replicate.1 hy).2; omega
      simp [go_sem, v60]
      rw [avs_repl]
      generalize List.replicate n (0 : Int) = w at *
      have c8 := l01Number_c c ρ6 hc s6
      have h8 := nbV_ok hc s6
      generalize nbV c ρ6 = r8 at *
      have c9 := l13Put_c p r8.1 w h8.1 (fun m hm => ⟨(g3 m hm).num, by have := (g3 m hm).len; omega⟩) (by omega) (by omega)
      have l9 := putL_len p r8.1 w
      have w9 : ∀ m ∈ putL p r8.1 w, WOk n 1 m := putGo_wok (n := n) (B := 1) (c := r8.1) (e := w) ⟨h8.1, wl, wb⟩ p (decide (r8.1 = 0)) g3
      rw [wl] at c9
      generalize putL p r8.1 w = p2 at *
      simp only [srcA_eq] at c8
      refine ⟨_, _, c8, ?_⟩
      simp [go_sem]
      refine CallVC.of (c9) (by decide) ?_
      simp [go_sem]
      exact ⟨⟨by omega, by omega⟩, r8.2.1, r8.2.2, p2, d - 1, ⟨h8.2, by omega, fun a b hab => w9 (a, b) hab⟩, by omega, Off_reset _ _ _ (by simp), ⟨rfl, rfl⟩, ⟨rfl, rfl⟩, by omega⟩
  have d0 : d = 0 := by omega
  subst d0
  simp [go_sem]
  have hp := g3
  have hpl : p.length ≤ 2 := by omega
  clear g2 g3 hd c5 s5 b5 hm
  refine loop_inv (13 :: 14 :: List.range' 94 10) (fun X : List (List Int) => [(13, .own 25 X.length (omat X)), (14, .int X.length)]) (fun X => X.length ≤ n ∧ Rws n X) (fun X => n - X.length) [] ⟨by simp, fun r hr => by simp at hr⟩ (by simp [go_sem, omat]) (by simp [go_sem]) ?_
  rintro V ⟨h1', h2'⟩
  by_cases hV : V.length < n
  · have hVi : (V.length : Int) < n := by omega
    simp [go_sem, hVi]
    refine ⟨⟨by omega, by omega⟩, by omega, by omega, V ++ [List.replicate n 0], ⟨by simp; omega, h2'.app (rep_row n)⟩, by simp; omega, Off_reset _ _ _ (by simp), ?_⟩
    rw [omat_app, omat_one, avs_repl]
    simp
  have hVn : V.length = n := by omega
  have hVi : ¬ (V.length : Int) < n := by omega
  have q1 : V.length = n ∧ Rws n V := ⟨hVn, h2'⟩
  simp [go_sem, hVi]
  clear hV h1' hVi
  refine loop_inv (0 :: 13 :: 15 :: 16 :: List.range' 104 32) (fun x : Src × List (List Int) × Nat => [(0, .box 136 [.sl c.length (bys c), .int x.1.1, .val (.int .u64 x.1.2)]), (13, .own 25 n (omat x.2.1)), (15, .int x.2.2)]) (fun x => SOk x.1 ∧ (x.2.1.length = n ∧ Rws n x.2.1) ∧ x.2.2 ≤ n) (fun x => n - x.2.2) (ρ, V, 0) ⟨g1, q1, by simp⟩ (by simp [go_sem, hVn]) (by simp [go_sem]) ?_
  rintro ⟨κ, Z, i⟩ ⟨k1, k2, k3⟩
  simp only at k1 k2 k3
  by_cases hi : i < n
  · have hii : (i : Int) < n := by omega
    simp [go_sem, hii]
    refine loop_inv (0 :: 13 :: 16 :: List.range' 109 27) (fun x : Src × List (List Int) × Nat => [(0, .box 136 [.sl c.length (bys c), .int x.1.1, .val (.int .u64 x.1.2)]), (13, .own 25 n (omat x.2.1)), (16, .int x.2.2)]) (fun x => SOk x.1 ∧ (x.2.1.length = n ∧ Rws n x.2.1) ∧ x.2.2 ≤ i) (fun x => i - x.2.2) (κ, Z, 0) ⟨k1, k2, by simp⟩ (by simp [go_sem]) (by simp [go_sem]) ?_
    rintro ⟨χ, U, k⟩ ⟨e1, e2, e3⟩
    simp only at e1 e2 e3
    by_cases hk : k < i
    · have hki : (k : Int) < i := by omega
      have c7 := l01Number_c c χ hc e1
      have h7 := nbV_ok hc e1
      generalize nbV c χ = v7 at *
      simp only [srcA_eq] at c7
      have hiU : i < U.length := by omega
      have og := omat_get hiU
      have ri := e2.2 _ (memD [] hiU)
      rw [ri.1] at og
      have st := avs_set (U[i]?.getD []) k v7.1
      have U1 : Rws n (U.set i ((U[i]?.getD []).set k v7.1)) := e2.2.put i ⟨by simp [ri.1], ri.2.set2 k h7.1⟩
      have pz := omat_put U i (r := (U[i]?.getD []).set k v7.1) (n := n) (by simp [ri.1])
      have kr : k < (U[i]?.getD []).length := by omega
      generalize U[i]?.getD [] = R at *
      simp [go_sem, hki, og]
      refine ⟨by kernel_rfl, by omega, ?_⟩
      refine ⟨_, _, c7, ?_⟩
      simp [go_sem]
      simp [go_sem, og]
      refine ⟨by omega, by omega, ?_⟩
      refine ⟨by kernel_rfl, ?_⟩
      simp [go_sem]
      simp only [st, pz]
      generalize hU1 : U.set i (R.set k v7.1) = U1l at *
      have l1 : U1l.length = n := by rw [← hU1]; simp [e2.1]
      have hi1 : i < U1l.length := by omega
      have hk1 : k < U1l.length := by omega
      have oi := omat_get hi1
      have ok := omat_get hk1
      have r1 := U1 _ (memD [] hi1)
      have r2 := U1 _ (memD [] hk1)
      rw [r1.1] at oi
      rw [r2.1] at ok
      have kr1 : k < (U1l[i]?.getD []).length := by omega
      have ir2 : i < (U1l[k]?.getD []).length := by omega
      have ea := avs_at kr1
      have wN := r1.2.get k
      have cS := l01Sub_c 0 ((U1l[i]?.getD [])[k]?.getD 0) (sub_fits ⟨by decide, by decide⟩ wN)
      have nS : isN ((0 - (U1l[i]?.getD [])[k]?.getD 0) % 10007) := isN_mod _
      have st2 := avs_set (U1l[k]?.getD []) i ((0 - (U1l[i]?.getD [])[k]?.getD 0) % 10007)
      have Z2 : Rws n (U1l.set k ((U1l[k]?.getD []).set i ((0 - (U1l[i]?.getD [])[k]?.getD 0) % 10007))) := U1.put k ⟨by simp [r2.1], r2.2.set2 i nS⟩
      have pz2 := omat_put U1l k (r := (U1l[k]?.getD []).set i ((0 - (U1l[i]?.getD [])[k]?.getD 0) % 10007)) (n := n) (by simp [r2.1])
      generalize (0 - (U1l[i]?.getD [])[k]?.getD 0) % 10007 = w3 at *
      generalize (U1l[i]?.getD [])[k]?.getD 0 = w2 at *
      generalize U1l[i]?.getD [] = R1 at *
      generalize U1l[k]?.getD [] = R2 at *
      simp [go_sem, oi, ok, ea]
      refine ⟨by kernel_rfl, by omega, by omega, by omega, ?_⟩
      refine CallD.of (cS) (by simp [roots, rootsL]) (by decide) ?_
      simp [go_sem]
      simp [go_sem, oi, ok, ea]
      refine ⟨by omega, by omega, ?_⟩
      refine ⟨by kernel_rfl, ?_⟩
      simp [go_sem]
      simp -failIfUnchanged [go_sem, st2, pz2]
      exact ⟨⟨by omega, by omega⟩, v7.2.1, v7.2.2, _, k + 1, ⟨h7.2, ⟨by simp [l1], Z2⟩, by omega⟩, by omega, Off_reset _ _ _ (by simp), ⟨rfl, rfl⟩, rfl, by omega⟩
    · have hki : ¬ (k : Int) < i := by omega
      simp [go_sem, hki]
      exact ⟨⟨by omega, by omega⟩, χ.1, χ.2, U, i + 1, ⟨e1, e2, by omega⟩, by omega, (Off.reset (by intro x hx; simp at hx ⊢; omega) (by simp) (by simp [go_sem, Off_reset])), ⟨rfl, rfl⟩, rfl, by omega⟩
  have hii : ¬ (i : Int) < n := by omega
  simp [go_sem, hii]
  clear hii k3 hi
  refine loop_inv (6 :: 17 :: 18 :: 19 :: List.range' 136 33) (fun f : List (List Mon) => [(6, .box 41 [.int n, ptA f f.length]), (17, .int f.length)]) (fun f => f.length ≤ n ∧ ∀ p ∈ f, p.length ≤ 20 ∧ ∀ m ∈ p, WOk n 3 m) (fun f => n - f.length) [] ⟨by simp, by simp⟩ (by simp [go_sem, ptA_zero]) (by simp [go_sem]) ?_
  rintro f ⟨f1, f2⟩
  by_cases hf : f.length < n
  · have hfi : (f.length : Int) < n := by omega
    simp [go_sem, hfi]
    refine loop_inv (18 :: 19 :: List.range' 142 19) (fun x : List Mon × Nat => [(18, .own 125 x.1.length (omons x.1)), (19, .int x.2)]) (fun x => x.1.length ≤ 3 * x.2 ∧ (∀ m ∈ x.1, WOk n 1 m) ∧ x.2 ≤ n) (fun x => n - x.2) ([], 0) ⟨by simp, by simp, by simp⟩ (by simp [go_sem, omons]) (by simp [go_sem]) ?_
    rintro ⟨P, k⟩ ⟨u1, u2, u3⟩
    simp only at u1 u2 u3
    by_cases hk : k < n
    · have hki : (k : Int) < n := by omega
      have hkY : k < Y.length := by omega
      have hfZ : f.length < Z.length := by omega
      have rY := hq.2 _ (memD [] hkY)
      have rZ := k2.2 _ (memD [] hfZ)
      have cL := l13Linear_c (Y[k]?.getD []) (by omega) rY.2
      have lk := linK_ok rY.1 rY.2 n (Nat.le_refl _)
      rw [rY.1] at cL
      have oY := omat_get hkY
      have oZ := omat_get hfZ
      rw [rY.1] at oY
      rw [rZ.1] at oZ
      have kZ : k < (Z[f.length]?.getD []).length := by omega
      have ea := avs_at kZ
      have zN := rZ.2.get k
      have cP := l13Plus_c (n := n) (B := 1) (k := (Z[f.length]?.getD [])[k]?.getD 0) P (linK (Y[k]?.getD []) n) (by omega) zN u2 lk.2 (by omega)
      have pl := plusL_len ((Z[f.length]?.getD [])[k]?.getD 0) (linK (Y[k]?.getD []) n) P
      have pw := plusL_wok (n := n) (B := 1) (k := (Z[f.length]?.getD [])[k]?.getD 0) (linK (Y[k]?.getD []) n) P lk.2 u2
      generalize plusL P ((Z[f.length]?.getD [])[k]?.getD 0) (linK (Y[k]?.getD []) n) = P2 at *
      generalize linK (Y[k]?.getD []) n = L at *
      generalize (Z[f.length]?.getD [])[k]?.getD 0 = zz at *
      generalize Z[f.length]?.getD [] = Rz at *
      generalize Y[k]?.getD [] = Ry at *
      simp [go_sem, hki, oY]
      refine ⟨by kernel_rfl, ?_⟩
      refine CallD.of (cL) (by simp [roots, rootsL]) (by decide) ?_
      simp [go_sem]
      simp [go_sem, oZ, ea]
      repeat refine ⟨by omega, ?_⟩
      refine CallD.of (cP) (by simp [roots, rootsL]) (by decide) ?_
      simp [go_sem]
      refine ⟨by kernel_rfl, ?_⟩
      simp [go_sem]
      exact ⟨⟨by omega, by omega⟩, P2, k + 1, ⟨by have := lk.1; omega, fun a b hab => pw (a, b) hab, by omega⟩, by omega, Off_reset _ _ _ (by simp), ⟨rfl, rfl⟩, by omega⟩
    · have hki : ¬ (k : Int) < n := by omega
      have lX : P.length * p.length ≤ 9 * 2 := Nat.mul_le_mul (by omega) hpl
      have cX := l13Product_c (n := n) (B := 1) (C := 1) P p (by omega) (by omega) (by omega) (by omega) (by omega) u2 hp (by omega) (by omega) (by omega)
      have xl := prodL_len P p
      have xw : ∀ m ∈ prodL P p, WOk n (1 + 1) m := prodL_wok u2 hp
      have x20 : (prodL P p).length ≤ 20 := by omega
      have hnew : ∀ r ∈ f ++ [prodL P p], r.length ≤ 20 ∧ ∀ m ∈ r, WOk n 3 m := fun r hr => by
        rcases List.mem_append.1 hr with hr | hr
        · exact f2 r hr
        · simp at hr; subst hr; exact ⟨x20, fun m hm => (xw m hm).le (by omega)⟩
      generalize prodL P p = X at *
      have hsn : ptA (f ++ [X]) (f.length + 1) = .own 122 (f.length + 1) (oprt f ++ [.own 125 X.length (omons X)]) := by
        rw [ptA_succ, List.take_of_length_le (by simp), oprt_app]; rfl
      rcases f with _ | ⟨q, f⟩
      · simp [go_sem, hki, ptA_zero]
        refine ⟨by kernel_rfl, ?_⟩
        refine CallD.of (cX) (by simp [roots, rootsL]) (by decide) ?_
        simp [go_sem]
        refine ⟨by kernel_rfl, ?_⟩
        simp [go_sem]
        refine ⟨[X], ⟨by simp; omega, by simpa using hnew⟩, by simp; omega, (Off.reset (by intro x hx; simp at hx ⊢; omega) (by simp) (by simp [go_sem, Off_reset])), ?_⟩
        exact ⟨rfl, by simp⟩
      · rw [List.length_cons] at *
        simp [go_sem, hki, ptA_succ]
        refine ⟨by kernel_rfl, ?_⟩
        refine CallD.of (cX) (by simp [roots, rootsL]) (by decide) ?_
        simp [go_sem]
        refine ⟨⟨by omega, by omega⟩, ?_⟩
        refine ⟨by kernel_rfl, ?_⟩
        simp [go_sem]
        refine ⟨by omega, q :: f ++ [X], ⟨by simp; omega, fun r hr => ⟨(hnew r hr).1, fun a b hab => (hnew r hr).2 (a, b) hab⟩⟩, by simp; omega, (Off.reset (by intro x hx; simp at hx ⊢; omega) (by simp) (by simp [go_sem, Off_reset])), ?_⟩
        have e1 : (q :: f ++ [X]).length = f.length + 1 + 1 := by simp
        rw [e1, hsn]
        exact ⟨rfl, by omega⟩
  have hfn : f.length = n := by omega
  have hfi : ¬ (f.length : Int) < n := by omega
  rcases f with _ | ⟨q, f⟩
  · simp at hfn; omega
  · rw [List.length_cons] at *
    have hfi2 : ¬ ((f.length : Int) + 1 < n) := by omega
    simp [go_sem, hfi2, ptA_succ]
    exact ⟨κ.1, κ.2, k1, ⟨rfl, rfl⟩, n, ⟨n2, n3⟩, q :: f, hfn, fun r hr => ⟨(f2 r hr).1, fun a b hab => (f2 r hr).2 (a, b) hab⟩, Y, hq, ⟨rfl, hfn, rfl⟩, rfl, rfl⟩
end Go.Proofs.YtnokgijakdaehaaGreatDoor


namespace Go.Proofs.YtnokgijakdaehaaGreatDoor
open Go.Abs
set_option linter.unusedSectionVars false
set_option linter.unusedVariables false
set_option linter.unusedSimpArgs false
set_option maxHeartbeats 4000000
set_option maxRecDepth 100000 in
theorem DrawIsInvariantForm_r (c : List Int) (hc : Byt c) :
    RCon Tryz.prog 29 [.sl c.length (bys c)] (fun r o => o = [.any] ∧ ∃ (n m : Nat) (f : List (List Mon)) (q : List (List Int)), (2 ≤ n ∧ n ≤ 3) ∧ (m ≤ 3 ∧ f.length = m) ∧ (∀ p ∈ f, p.length ≤ 20 ∧ ∀ x ∈ p, x.2.length ≤ 3) ∧ (q.length = n ∧ ∀ r ∈ q, r.length = n) ∧
      r = .tup [.agg [.int m, .own 122 m (oprt f)], .own 25 n (omat q)]) := by
  have c0 := l01From_r c hc
  refine rcon_of_vcH Tryz.mixed ⟨7, [], [1000000 + 38, 2000000 + 36, 2000000 + 87, 2000000 + 89], []⟩ [] Tryz.func29 (by decide) rfl (by simp) (by simp) (by decide) ?_
  rw [Tryz.ntmps29]
  simp [go_sem]
  refine ⟨_, c0, ?_⟩
  rintro _ _ ⟨rfl, h, rfl⟩
  have c1 := l13Turning_r c (0, h) hc (by unfold SOk; simp)
  simp only [srcA_eq] at *
  simp [go_sem]
  refine ⟨_, c1, ?_⟩
  rintro _ _ ⟨τ, n, f, q, h1, rfl, h2, h3, h4, h5, rfl⟩
  have c2 := l01Next_c c τ 8 hc h1
  have s2 := nx2_ok hc h1 8
  generalize nx1 c τ 8 = v at *
  generalize nx2 c τ 8 = κ at *
  have c3 := l13Draw_r c κ hc s2
  simp only [srcA_eq] at *
  simp [go_sem]
  refine ⟨_, _, c2, ?_⟩
  simp [go_sem]
  have h0q : 0 < q.length := by omega
  have r0 := h5.2 _ (memD [] h0q)
  have o0 := omat_get h0q
  rw [r0.1] at o0
  have fin : ∀ (m : Nat) (g : List (List Mon)) (q' : List (List Int)), (m ≤ 3 ∧ g.length = m) → (∀ p ∈ g, p.length ≤ 20 ∧ ∀ x ∈ p, x.2.length ≤ 3) → (q'.length = n ∧ ∀ r ∈ q', r.length = n) → ∃ n_1, (2 ≤ n_1 ∧ n_1 ≤ 3) ∧
      ∃ (x : Nat) (x_1 : List (List Mon)), (x ≤ 3 ∧ x_1.length = x) ∧ (∀ (p : List Mon), p ∈ x_1 → p.length ≤ 20 ∧ ∀ (a : Int) (b : List Int), (a, b) ∈ p → b.length ≤ 3) ∧
            ∃ x_2 : List (List Int), (x_2.length = n_1 ∧ ∀ (r : List Int), r ∈ x_2 → r.length = n_1) ∧
                ((m : Int) = (x : Int) ∧ m = x ∧ oprt g = oprt x_1) ∧ n = n_1 ∧ omat q' = omat x_2 := fun m g q' e1 e2 e3 =>
    ⟨n, h2, m, g, e1, fun p hp => ⟨(e2 p hp).1, fun a b hab => (e2 p hp).2 (a, b) hab⟩, q', e3, ⟨rfl, rfl, rfl⟩, rfl, rfl⟩
  have h4' : ∀ p ∈ f, p.length ≤ 20 ∧ ∀ x ∈ p, x.2.length ≤ 3 := fun p hp => ⟨(h4 p hp).1, fun x hx => by have := ((h4 p hp).2 x hx).len; omega⟩
  have q4 : q.length = n ∧ ∀ r ∈ q, r.length = n := ⟨h5.1, fun r hr => (h5.2 r hr).1⟩
  have q4s : ∀ x j, (q.set 0 ((q[0]?.getD []).set j x)).length = n ∧ ∀ r ∈ q.set 0 ((q[0]?.getD []).set j x), r.length = n := fun x j => ⟨by simp [h5.1], fun r hr => by
    rcases List.mem_or_eq_of_mem_set hr with hr | rfl
    · exact (h5.2 r hr).1
    · simp [r0.1]⟩
  have st := fun x j => avs_set (q[0]?.getD []) j x
  have pz := fun x j => omat_put q 0 (r := (q[0]?.getD []).set j x) (n := n) (by simp [r0.1])
  have l0 : 0 < (q[0]?.getD []).length := by omega
  have l1 : 1 < (q[0]?.getD []).length := by omega
  have e0 := avs_at l0
  have e1 := avs_at l1
  have a0 := l01Add_c ((q[0]?.getD [])[0]?.getD 0) 1 (add_fits (r0.2.get 0) ⟨by decide, by decide⟩)
  have a1 := l01Add_c ((q[0]?.getD [])[1]?.getD 0) 1 (add_fits (r0.2.get 1) ⟨by decide, by decide⟩)
  generalize ((q[0]?.getD [])[0]?.getD 0 + 1) % 10007 = w0 at *
  generalize ((q[0]?.getD [])[1]?.getD 0 + 1) % 10007 = w1 at *
  generalize (q[0]?.getD [])[0]?.getD 0 = x0 at *
  generalize (q[0]?.getD [])[1]?.getD 0 = x1 at *
  generalize q[0]?.getD [] = R at *
  by_cases v0 : v = 0
  · simp [go_sem, v0, o0, e0]
    refine ⟨by kernel_rfl, ?_⟩
    repeat refine ⟨by omega, ?_⟩
    refine CallD.of (a0) (by simp [roots, rootsL]) (by decide) ?_
    simp [go_sem]
    simp [go_sem, o0]
    repeat refine ⟨by omega, ?_⟩
    refine ⟨by kernel_rfl, ?_⟩
    simp -failIfUnchanged [go_sem, st, pz]
    exact fin n f _ ⟨by omega, h3⟩ h4' (q4s w0 0)
  · by_cases v1 : v = 1
    · simp [go_sem, v0, v1, o0, e1]
      refine ⟨by kernel_rfl, ?_⟩
      repeat refine ⟨by omega, ?_⟩
      refine CallD.of (a1) (by simp [roots, rootsL]) (by decide) ?_
      simp [go_sem]
      simp [go_sem, o0]
      repeat refine ⟨by omega, ?_⟩
      refine ⟨by kernel_rfl, ?_⟩
      simp -failIfUnchanged [go_sem, st, pz]
      exact fin n f _ ⟨by omega, h3⟩ h4' (q4s w1 1)
    · by_cases v2 : v = 2
      · simp [go_sem, v0, v1, v2]
        refine ⟨_, c3, ?_⟩
        rintro _ _ ⟨τ3, m, g, g1, rfl, g2, g3, g4, g5, rfl⟩
        simp [go_sem]
        exact fin m g q ⟨g3, g4⟩ (fun p hp => ⟨by have := (g5 p hp).1; omega, fun x hx => by have := ((g5 p hp).2 x hx).len; omega⟩) q4
      · simp [go_sem, v0, v1, v2]
        exact fin n f q ⟨by omega, h3⟩ h4' q4
theorem DrawIsInvariantForm_f (c : List Int) (hc : Byt c) :
    RCon Tryz.prog 29 [.sl c.length (bys c)] (fun r o => o = [.any] ∧ ∃ (z : Int) (f : List (List Mon)) (q : List (List Int)), Small f ∧ q.length ≤ 3 ∧ (∀ r ∈ q, r.length ≤ 3) ∧
      r = .tup [.agg [.int z, .sl f.length (prt f)], .sl q.length (mat q)]) := by
  refine (RCon.fz (DrawIsInvariantForm_r c hc)).mono ?_
  rintro r o ⟨_, ⟨h1, n, m, f, q, h2, h3, h4, h5, rfl⟩, rfl⟩
  refine ⟨h1, m, f, q, ⟨by omega, fun p hp => ⟨by have := (h4 p hp).1; omega, fun x hx => by have := (h4 p hp).2 x hx; omega⟩⟩, by omega, fun r hr => by have := h5.2 r hr; omega, ?_⟩
  simp [frz, frzL, h3.2, h5.1]
end Go.Proofs.YtnokgijakdaehaaGreatDoor


namespace Go.Proofs.YtnokgijakdaehaaGreatDoor
open Go.Abs
set_option linter.unusedSectionVars false
set_option linter.unusedVariables false
set_option linter.unusedSimpArgs false
set_option maxHeartbeats 4000000
def rlH (c : List Int) (sd : Int) : Nat → Int
  | 0 => IntKind.u64.wrap (IntKind.u64.wrap (sd * 8111) + IntKind.u64.wrap c.length)
  | i + 1 => IntKind.u64.wrap (IntKind.u64.wrap (IntKind.u64.wrap (rlH c sd i * 1099511628211) + IntKind.u64.wrap (c[i]?.getD 0)) + 5)
set_option maxRecDepth 100000 in
theorem roll_g (c : List Int) (sd : Int) (hc : Byt c) : GCon Tryz.prog 23 [.sl c.length (bys c), .val (.int .u64 sd)] (dicA c (0, rlH c sd c.length)) [.any, .any] := by
  have hcl := hc.1
  unfold dicA
  refine gcon_of_vc Tryz.mixed ⟨7, [], [], []⟩ [4] [] Tryz.func23 (by decide) rfl rfl (by simp) (by simp) (by decide) ?_
  rw [Tryz.ntmps23]
  simp [go_sem]
  refine loop_inv (5 :: 6 :: List.range' 16 21) (fun i : Nat => [(5, .box 110 [.sl c.length (bys c), .int 0, .val (.int .u64 (rlH c sd i))]), (6, .int i)]) (fun i => i ≤ c.length) (fun i => c.length - i) 0 (by simp) (by simp [go_sem, rlH]) (by simp [go_sem]) ?_
  intro i hi
  by_cases hic : i < c.length
  · have h4 : (i : Int) < 4096 := by omega
    have hne : ¬ c = [] := by rintro rfl; simp at hic
    have hD := bys_drop hic
    have hb := hc.get i
    simp [go_sem, hic, hD]
    refine ⟨by kernel_rfl, by intro e; exact hne (by simpa [bys] using e), ?_⟩
    refine ⟨by kernel_rfl, ?_⟩
    simp [go_sem]
    exact ⟨⟨by omega, by omega⟩, i + 1, by omega, by omega, Off_reset _ _ _ (by simp), by simp [rlH, hic], by omega⟩
  · have e : i = c.length := by omega
    subst e
    simp [go_sem]
end Go.Proofs.YtnokgijakdaehaaGreatDoor


namespace Go.Proofs.YtnokgijakdaehaaGreatDoor
open Go.ChangeShapes Go.WideShapes Go.ChangeAt Go.RowKit Go.Abs Go.Deep
set_option linter.unusedSectionVars false
set_option linter.unusedVariables false
section
variable {H : Type} {enc : TypeId × Value → H} {w : World} {sp : Nat → Bool} {held : Bool} {base : Nat}
theorem kids : Kids Tryz.prog (· < Tryz.prog.types.size) := kids_rows (by kernel_rfl) (by kernel_rfl)
theorem full : ∀ t e, t < Tryz.prog.types.size → Tryz.prog.underlying t = some (.slice e) → 0 < Tryz.prog.cellsOf e := slices_full_of Tryz.prog (by kernel_rfl)
theorem flat1 {α β : Type} (g : α → β) : ∀ qs : List α, qs.flatMap (fun a => [g a]) = qs.map g
  | [] => rfl
  | a :: qs => by rw [List.flatMap_cons, flat1 g qs]; rfl
theorem rep_one {F : Nat → Prop} {tm : Nat → Value} {oss : Nat → List Nat} {c : AV} {v : Value} (h : RepL Tryz.prog w F [c] [v] []) : RepT Tryz.prog w F tm oss c v [] := .cell _ _ _ (RepL.one h)
set_option maxRecDepth 100000 in
theorem repV {F : Nat → Prop} {tm : Nat → Value} {oss : Nat → List Nat} {t e : TypeId} {v : Value} {c : AV} {r : Reach} {b0 : Nat} (ht : Tryz.prog.underlying t = some (.slice e)) (hv : Value.okWide Tryz.prog w r b0 t v) (h : RepL Tryz.prog w F [c] v.cells.toList []) :
    RepT Tryz.prog w F tm oss c v [] := by
  have hc : v.cells.toList = [v] := by
    simp only [Value.okWide, ht] at hv
    cases v <;> simp_all [Value.cells, Cell.okWide, Cell.ok]
  rw [hc] at h
  exact rep_one h
end
end Go.Proofs.YtnokgijakdaehaaGreatDoor

