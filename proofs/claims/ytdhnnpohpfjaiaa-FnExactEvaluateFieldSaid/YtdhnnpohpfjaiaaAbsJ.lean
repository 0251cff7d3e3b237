/- len, extract, not, conversions of integers; one operation; what a call leaves. It holds over any program. -/
import Derived.Test.YtdhnnpohpfjaiaaAbsI
set_option linter.unusedVariables false
set_option linter.unusedSimpArgs false
namespace Go.Abs
open Go.RowKit (Below)

section
variable {P : Program} {N : Nat × List Nat} {G : Nat → Prop} {w0 : World × (Nat → Value)} {w w' : World} {S : St} {a : Act} {F : Nat → Prop} {oss : Nat → List Nat} {X : List Nat}

theorem put_self {t : Nat} : a.put (some t) (tmo a t) = a := by
  have key : ∀ tm : Array Value, tm.setIfInBounds t (tm.getD t undef) = tm := by
    intro tm
    apply Array.ext_getElem?
    intro i
    rw [Array.getElem?_setIfInBounds]
    split
    · rename_i e; subst e
      split
      · rename_i hl; simp [Array.getD, hl]
      · rename_i hl; simp at hl; simp [hl]
    · rfl
  obtain ⟨tm, df⟩ := a
  exact congrArg (fun x => Act.mk x df) (key tm)

/-- Slot t is told of otherwise; its value stays. -/
theorem Core.reput (h : Core P N G w0 S a w F oss X) {t : Nat} (ht : t < N.1) {c : AV} {od : List Nat} (hr : RepT P w F (tmo a) oss c (tmo a t) od)
    (ho : ∀ b, b ∈ od → b ∈ X) (hn : od.Nodup) {X' : List Nat} (hX : ∀ b, b ∈ X' → b ∈ X ∧ b ∉ od) (hn' : X'.Nodup) :
    Core P N G w0 (upd t c S) a w F (ins oss t od) X' := by
  have := h.put' ht (.inr rfl) hr ho hn hX hn'
  rwa [put_self] at this

theorem StRel.lit (h : StRel P N G w0 S a w) {g : Nat} (hg : g < N.1) {c b : Bool} (hS : S g = .val (.bool c)) (e : c = b) : StRel P N G w0 (upd g (.val (.bool b)) S) a w := by
  subst e
  obtain ⟨F, oss, h⟩ := h
  have := h.rep g
  rw [hS] at this
  have h0 := RepT.noOwn this rfl
  rw [h0] at this
  exact (h.reput hg this (by simp) List.nodup_nil (X' := []) (by simp) List.nodup_nil).st

/-! ## len -/

def lnS (P : Program) (S : St) (d : Nat) (T : TypeId) (x : Operand) : Option (Prop × List Nat × List Upd) :=
  match elemT P T with
  | some _ => match x, aop S x with
    | _, .sl n _ => some (True, slotsOf x, [.w d (.val (.int .i64 n))])
    | _, .val (.slice none 0 0) => some (True, slotsOf x, [.w d (.val (.int .i64 0))])
    | _, .own _ n _ => some (True, slotsOf x, [.w d (.val (.int .i64 n))])
    | .tmp _, .bor s p => match ctn S s p with
      | some (.own _ n _, _) => some (True, slotsOf x ++ [s], [.w d (.val (.int .i64 n))])
      | _ => none
    | _, _ => none
  | none => match P.underlying T, aop S x with
    | some .string, .val (.string s) => some (True, slotsOf x, [.w d (.val (.int .i64 s.size))])
    | _, _ => none

theorem run_len {T e : TypeId} (hT : elemT P T = some e) (ty : TypeId) (b : Option Addr) (n cap : Nat) : (Builtin.len_ #[T] ty #[.slice b n cap]).run P w = .ok (.int .i64 n) w := by
  simp [Builtin.len_, run_underlying (elemT_some hT), goInt]

theorem ln_sound (h : Core P N G w0 S a w F oss []) {T ty : TypeId} {x : Operand} {d : Nat} (hd : OkD N d) {p : Prop} {rd : List Nat} {U : List Upd} (hm : lnS P S d T x = some (p, rd, U)) :
    ∃ v, (Builtin.len_ #[T] ty #[a.eval x]).run P w = .ok v w ∧ StRel P N G w0 (app U S) (a.put (some d) v) w := by
  obtain ⟨os, ho, _⟩ := h.op x
  have fin : ∀ n : Int, StRel P N G w0 (app [.w d (.val (.int .i64 n))] S) (a.put (some d) (.int .i64 n)) w := fun n => h.put0 hd (.cell _ _ _ (.val _ rfl))
  unfold lnS at hm
  split at hm
  · rename_i e hT
    split at hm
    · rename_i n cs hx
      simp only [Option.some.injEq, Prod.mk.injEq] at hm; obtain ⟨rfl, rfl, rfl⟩ := hm
      rw [hx] at ho
      generalize a.eval _ = u at ho ⊢
      cases ho with
      | cell _ _ _ hc => cases hc with
        | sl0 => exact ⟨_, run_len hT ty _ _ _, fin _⟩
        | sl => exact ⟨_, run_len hT ty _ _ _, fin _⟩
    · rename_i hx
      simp only [Option.some.injEq, Prod.mk.injEq] at hm; obtain ⟨rfl, rfl, rfl⟩ := hm
      exact ⟨_, by rw [h.int hx]; exact run_len hT ty _ _ _, fin _⟩
    · rename_i e' n cs hx
      simp only [Option.some.injEq, Prod.mk.injEq] at hm; obtain ⟨rfl, rfl, rfl⟩ := hm
      rw [hx] at ho
      generalize a.eval _ = u at ho ⊢
      cases ho with
      | cell _ _ _ hc => cases hc with
        | own0 => exact ⟨_, run_len hT ty _ _ _, fin _⟩
        | own => exact ⟨_, run_len hT ty _ _ _, fin _⟩
    · rename_i t s q hx
      split at hm
      · rename_i e' n cs' cs hc
        simp only [Option.some.injEq, Prod.mk.injEq] at hm; obtain ⟨rfl, rfl, rfl⟩ := hm
        obtain ⟨hk, hg, hkc⟩ := ctn_some hc
        obtain ⟨u', o1, ou, o2, k1, k2, k3, k4, k5, k6⟩ := h.inplace hk hg
        rw [hx] at ho
        generalize a.eval _ = u at ho ⊢
        cases ho with
        | cell _ _ _ hc => cases hc
        | bor _ _ _ hw =>
          have := walkIn_fun hw k1; subst this
          cases k2 with
          | own0 => exact ⟨_, run_len hT ty _ _ _, fin _⟩
          | own => exact ⟨_, run_len hT ty _ _ _, fin _⟩
      · simp at hm
    · simp at hm
  · split at hm
    · rename_i s hT hx
      simp only [Option.some.injEq, Prod.mk.injEq] at hm; obtain ⟨rfl, rfl, rfl⟩ := hm
      exact ⟨_, by rw [h.int hx]; simp [Builtin.len_, run_underlying hT, goInt], fin _⟩
    · simp at hm

/-! ## a part of a tuple -/

def exS (S : St) (N : Nat × List Nat) (d : Nat) (t : Operand) (i : Nat) : Option (Prop × List Nat × List Upd) :=
  match t with
  | .tmp t => match S t with
    | .tup cs => match cs[i]? with
      | some .any => none
      | some c => if hasOwn c then some (t < N.1 ∧ t ≠ d, [t], [.w t (.tup (cs.set i .any)), .w d (kl [t] c)]) else some (True, [t], [.w d c])
      | none => none
    | _ => none
  | _ => none

theorem RepTL.get {tm : Nat → Value} {cs : List AV} {vs : List Value} {os : List Nat} (h : RepTL P w F tm oss cs vs os) {i : Nat} {c : AV} (hi : cs[i]? = some c) :
    ∃ v o1 oc o2, vs[i]? = some v ∧ RepT P w F tm oss c v oc ∧ os = o1 ++ (oc ++ o2) ∧ RepTL P w F tm oss (cs.set i .any) vs (o1 ++ o2) := by
  induction cs generalizing vs os i with
  | nil => simp at hi
  | cons d cs ih =>
    cases h with
    | cons d v os cs vs os' hd t =>
      cases i with
      | zero =>
        simp at hi; subst hi
        exact ⟨v, [], os, os', rfl, hd, by simp, by simpa using RepTL.cons _ _ _ _ _ _ (.any v) t⟩
      | succ i =>
        simp at hi
        obtain ⟨u, o1, ou, o2, e1, e2, e3, e4⟩ := ih t hi
        exact ⟨u, os ++ o1, ou, o2, by simpa using e1, e2, by simp [e3], by simpa using RepTL.cons _ _ _ _ _ _ hd e4⟩

theorem klL_length (W : List Nat) : ∀ cs : List AV, (klL W cs).length = cs.length
  | [] => rfl
  | c :: cs => by simp [klL, klL_length W cs]

theorem klL_eq (W : List Nat) : ∀ cs : List AV, klL W cs = cs.map (kl W)
  | [] => rfl
  | c :: cs => by rw [klL, klL_eq W cs, List.map_cons]

mutual
theorem kl_kl (W : List Nat) : ∀ c : AV, kl W (kl W c) = kl W c
  | .bor s p => by by_cases h : s ∈ W <;> simp [kl, h]
  | .ptr s p o => by by_cases h : s ∈ W <;> simp [kl, h]
  | .slp s p o n => by by_cases h : s ∈ W <;> simp [kl, h]
  | .agg cs => by simp [kl, klL_klL W cs]
  | .tup cs => by simp [kl, klL_klL W cs]
  | .fn f cs => by simp [kl, klL_klL W cs]
  | .any => rfl
  | .val v => rfl
  | .sl n cs => rfl
  | .own e n cs => rfl
  | .box e cs => rfl
  | .fptr cs => rfl
  | .mp c => rfl
  | .fmp c => rfl
  | .it l es => rfl
theorem klL_klL (W : List Nat) : ∀ cs : List AV, klL W (klL W cs) = klL W cs
  | [] => rfl
  | c :: cs => by simp [klL, kl_kl W c, klL_klL W cs]
end

theorem ex_sound (h : Core P N G w0 S a w F oss []) {x : Operand} {i d : Nat} (hd : OkD N d) {p : Prop} {rd : List Nat} {U : List Upd} (hm : exS S N d x i = some (p, rd, U)) (hp : p) :
    ∃ v, (Instr.extract (a.eval x) i).run P w = .ok v w ∧ StRel P N G w0 (app U S) (a.put (some d) v) w := by
  unfold exS at hm
  split at hm
  · rename_i t
    split at hm
    · rename_i cs hS
      have hr := h.rep t
      have run : ∀ {vs : List Value} {v : Value}, a.eval (.tmp t) = .tuple vs.toArray → vs[i]? = some v → (Instr.extract (a.eval (.tmp t)) i).run P w = .ok v w := fun he hv => by
        rw [he]; simp [Instr.extract, hv]
      split at hm
      · simp at hm
      · rename_i c hne hi
        split at hm
        · rename_i hown
          simp only [Option.some.injEq, Prod.mk.injEq] at hm; obtain ⟨rfl, rfl, rfl⟩ := hm
          obtain ⟨k1, k2⟩ := h.take t
          rw [hS] at k2
          have hv : a.eval (.tmp t) = tmo a t := rfl
          generalize hu : tmo a t = u at k2 hv
          generalize ho : oss t = ot at k2 k1
          rw [kl] at k2
          cases k2 with
          | cell _ _ _ hc => cases hc
          | tup _ vs os hl hL =>
            have hi' : (klL [t] cs)[i]? = some (kl [t] c) := by rw [klL_eq, List.getElem?_map, hi]; rfl
            obtain ⟨v, o1, oc, o2, e1, e2, e3, e4⟩ := hL.get hi'
            subst e3
            refine ⟨v, run hv e1, ?_⟩
            simp only [List.append_nil] at k1
            have hnd := k1.xn
            have n1 := List.nodup_append.1 hnd
            have n2 := List.nodup_append.1 n1.2.1
            -- the tuple goes back, without the part
            have hset : (klL [t] cs).set i .any = klL [t] (cs.set i .any) := by
              rw [klL_eq, klL_eq, List.map_set]; rfl
            have back : Core P N G w0 (upd t (.tup (cs.set i .any)) S) a w F (ins (ins oss t []) t (o1 ++ o2)) oc := by
              have hr2 : RepT P w F (tmo a) (ins oss t []) (.tup (klL [t] (cs.set i .any))) (tmo a t) (o1 ++ o2) := by
                rw [hu]; exact .tup _ vs _ (by rw [klL_length, List.length_set, ← hl, klL_length]) (hset ▸ e4)
              have := k1.reput (t := t) hp.1 hr2 (fun b hb => by simp only [List.mem_append] at hb ⊢; rcases hb with hb | hb <;> simp [hb])
                (List.nodup_append.2 ⟨n1.1, n2.2.1, fun x hx y hy e => n1.2.2 x hx y (by simp [hy]) e⟩) (X' := oc)
                (fun b hb => ⟨by simp [hb], fun hx => by
                  rcases List.mem_append.1 hx with hx | hx
                  · exact n1.2.2 b hx b (by simp [hb]) rfl
                  · exact n2.2.2 b hb b hx rfl⟩) n2.1
              have heq : upd t (.tup (klL [t] (cs.set i .any))) (upd t .any S) = upd t (.tup (cs.set i .any)) S := by
                funext j
                simp only [upd]
                split
                · simp [kl, klL_klL]
                · exact kl_kl _ _
              rwa [heq] at this
            have he2 : RepT P w F (tmo a) (ins (ins oss t []) t (o1 ++ o2)) (kl [t] (kl [t] c)) v oc :=
              RepT.kl [t] (fun _ h => h) (fun s p u hs k => by
                have hs : s ≠ t := by simpa using hs
                simpa [ins, hs] using k) e2 (fun _ _ => rfl)
            rw [kl_kl] at he2
            exact back.putX hd he2
        · rename_i hown
          simp only [Option.some.injEq, Prod.mk.injEq] at hm; obtain ⟨rfl, rfl, rfl⟩ := hm
          rw [hS] at hr
          have hv : a.eval (.tmp t) = tmo a t := rfl
          generalize tmo a t = u at hr hv
          generalize oss t = ot at hr
          cases hr with
          | cell _ _ _ hc => cases hc
          | tup _ vs os hl hL =>
            obtain ⟨v, o1, oc, o2, e1, e2, e3, e4⟩ := hL.get hi
            refine ⟨v, run hv e1, ?_⟩
            rw [e2.noOwn (by simpa using hown)] at e2
            exact h.put0 hd e2
      · simp at hm
    · simp at hm
  · simp at hm

/-! ## not, minus, conversions -/

def unI (op : UnOp) (v : Value) : Option (Prop × Value) :=
  match op, v with
  | .not, .bool b => some (True, .bool !b)
  | .neg, .int k n => if k.signed then some (inK k (-n), .int k (-n)) else none
  | _, _ => none

theorem unI_sound {op : UnOp} {v u : Value} {p : Prop} (h : unI op v = some (p, u)) (hp : p) : (Op.unary op v).run P w = .ok u w := by
  unfold unI at h
  split at h
  · simp only [Option.some.injEq, Prod.mk.injEq] at h; obtain ⟨rfl, rfl⟩ := h; rfl
  · rename_i k n
    split at h
    · simp only [Option.some.injEq, Prod.mk.injEq] at h; obtain ⟨rfl, rfl⟩ := h
      simp [Op.unary, Op.intArith, wrap_in hp]
    · simp at h
  · simp at h

def cnI (P : Program) (t : TypeId) (v : Value) : Option (Prop × Value) :=
  match P.underlying t, v with
  | some (.int k), .int _ n => if k.signed then some (inK k n, .int k n) else some (True, .int k (k.wrap n))
  | _, _ => none

theorem cnI_sound {s t : TypeId} {v u : Value} {p : Prop} (hs : ∃ d, P.underlying s = some d) (h : cnI P t v = some (p, u)) (hp : p) : (convert s t v).run P w = .ok u w := by
  obtain ⟨d, hd⟩ := hs
  unfold cnI at h
  split at h
  · rename_i k k' n ht
    have e : (convert s t (.int k' n)).run P w = .ok (.int k (k.wrap n)) w := by
      simp [convert, run_underlying hd, run_underlying ht, Conv.intToInt]
    split at h
    · simp only [Option.some.injEq, Prod.mk.injEq] at h; obtain ⟨rfl, rfl⟩ := h
      rw [e, wrap_in hp]
    · simp only [Option.some.injEq, Prod.mk.injEq] at h; obtain ⟨rfl, rfl⟩ := h
      exact e
  · simp at h
end
end Go.Abs
