/- Code: the conditions that a walk leaves, and that they suffice. It holds over any program. -/
import Derived.Test.YtdhnnpohpfjaiaaAbsD4
set_option linter.unusedVariables false
set_option linter.unusedSimpArgs false
namespace Go.Abs
open Go.RowKit (Below)

def thenQ (K : St → Prop) (Q : Exit → St → Prop) : Exit → St → Prop
  | .normal, S => K S
  | e, S => Q e S
def blockQ (id : Nat) (Q : Exit → St → Prop) : Exit → St → Prop
  | .exit id', S => if id' = id then Q .normal S else Q (.exit id') S
  | e, S => Q e S

/-- S' tells no more than S. -/
def Weak (S S' : St) : Prop := ∀ (P : Program) (N : Nat × List Nat) (G : Nat → Prop) (w0 : World × (Nat → Value)) (a : Act) (w : World), StRel P N G w0 S a w → StRel P N G w0 S' a w

def loopQ (I : Nat → St → Prop) (n : Nat) (Q : Exit → St → Prop) : Exit → St → Prop
  | .normal, S => ∃ m, m < n ∧ ∃ S', Weak S S' ∧ I m S'
  | e, S => Q e S
def LoopVC (body : (Exit → St → Prop) → St → Prop) (Q : Exit → St → Prop) (S : St) : Prop :=
  ∃ I : Nat → St → Prop, (∃ n S', Weak S S' ∧ I n S') ∧ ∀ n S, I n S → body (loopQ I n Q) S

def vc (P : Program) (cf : Cfg) (N : Nat × List Nat) : Code → (Exit → St → Prop) → St → Prop
  | .skip, Q, S => Q .normal S
  | .region _ ops draw, Q, S => if draw then DrawVC P cf N ops (Q .normal) S else vcOps P cf N ops ops.toList (Q .normal) S
  | .seq x y, Q, S => vc P cf N x (thenQ (vc P cf N y Q) Q) S
  | .cond c x y, Q, S => match aop S c with
    | .val (.bool t) => TestVC t (vc P cf N x Q) (vc P cf N y Q) S S
    | _ => False
  | .block id b, Q, S => vc P cf N b (blockQ id Q) S
  | .loop b, Q, S => LoopVC (vc P cf N b) Q S
  | .exit id, Q, S => Q (.exit id) S
  | .ret, Q, S => Q .ret S
  | _, _, _ => False

section
variable {P : Program} {N : Nat × List Nat} {G : Nat → Prop} {w0 : World × (Nat → Value)} {w w' : World} {S : St} {a : Act} {F : Nat → Prop} {oss : Nat → List Nat} {X : List Nat}

theorem least {p : Nat → Prop} (h : ∃ n, p n) : ∃ n, p n ∧ ∀ m, p m → n ≤ m := by
  obtain ⟨n, hn⟩ := h
  induction n using Nat.strongRecOn with
  | ind n ih =>
    by_cases hx : ∃ m, m < n ∧ p m
    · obtain ⟨m, hm, hp⟩ := hx; exact ih m hm hp
    · exact ⟨n, hn, fun m hp => Nat.le_of_not_lt fun hlt => hx ⟨m, hlt, hp⟩⟩

def dstsOk (N : Nat × List Nat) : Code → Bool
  | .region _ ops _ => ops.toList.all fun o => match o.dst with
    | some d => decide (OkD N d)
    | none => true
  | .seq x y => dstsOk N x && dstsOk N y
  | .cond _ x y => dstsOk N x && dstsOk N y
  | .block _ b => dstsOk N b
  | .loop b => dstsOk N b
  | _ => true

theorem vc_sound {cf : Cfg} (hm : P.follows .mixedOrders = true) : ∀ {c : Code} {S : St} {a : Act} {w : World} {Q : Exit → St → Prop} {Q' : Exit → Act → World → Prop}, dstsOk N c = true → StRel P N G w0 S a w →
    vc P cf N c Q S → (∀ e S a w, Q e S → StRel P N G w0 S a w → Q' e a w) → c.wp P Q' a w := by
  intro c
  induction c with
  | skip => intro S a w Q Q' _ h hv hk; exact wp_skip (hk _ _ _ _ hv h)
  | region id ops draw =>
    intro S a w Q Q' hd h hv hk
    simp only [vc] at hv
    split at hv
    · rename_i hdr
      subst hdr
      exact draw_sound hm (fun o ho d hd' => by
        have := (List.all_eq_true.1 hd) o ho
        simpa [hd'] using this) h hv (fun S a w hS hr => hk _ S a w hS hr)
    · rename_i hdr
      have : draw = false := by simpa using hdr
      subst this
      refine wp_region_list (vcOps_sound (fun o ho d hd' => ?_) (fun _ h => h) h hv (fun S a w hS hr => hk _ S a w hS hr))
      have := (List.all_eq_true.1 hd) o ho
      simpa [hd'] using this
  | seq x y ihx ihy =>
    intro S a w Q Q' hd h hv hk
    simp only [dstsOk, Bool.and_eq_true] at hd
    refine wp_seq (ihx hd.1 h hv (fun e S a w hq hr => ?_))
    cases e with
    | normal => exact ihy hd.2 hr hq hk
    | _ => exact hk _ S a w hq hr
  | cond c x y ihx ihy =>
    intro S a w Q Q' hd h hv hk
    simp only [dstsOk, Bool.and_eq_true] at hd
    simp only [vc] at hv
    split at hv
    · rename_i t hc
      obtain ⟨F, oss, hcore⟩ := h
      refine wp_cond_split (hcore.int hc) (fun ht => ihx hd.1 hcore.st (hv.1 ht) hk) (fun ht => ihy hd.2 hcore.st (hv.2 ht) hk)
    · exact hv.elim
  | block id b ih =>
    intro S a w Q Q' hd h hv hk
    refine wp_block (ih hd h hv (fun e S a w hq hr => ?_))
    cases e with
    | exit id' =>
      simp only [Exit.inBlock, blockQ] at hq ⊢
      split at hq
      · rename_i e; rw [if_pos e]; exact hk _ S a w hq hr
      · rename_i e; rw [if_neg e]; exact hk _ S a w hq hr
    | _ => exact hk _ S a w hq hr
  | loop b ih =>
    intro S a w Q Q' hd h hv hk
    obtain ⟨I, ⟨n, S', hw, hI⟩, hstep⟩ := hv
    have h' := hw P N G w0 a w h
    let p : Act → World → Nat → Prop := fun a w n => ∃ S, I n S ∧ StRel P N G w0 S a w
    let μ : Act → World → Nat := fun a w => Classical.epsilon fun n => p a w n ∧ ∀ m, p a w m → n ≤ m
    have hμ : ∀ a w, (∃ n, p a w n) → p a w (μ a w) ∧ ∀ m, p a w m → μ a w ≤ m := fun a w hn => Classical.epsilon_spec (least hn)
    refine wp_loop (fun a w => ∃ n, p a w n) μ ⟨n, S', hI, h'⟩ ?_
    intro a w hn
    obtain ⟨⟨S1, hI1, hr1⟩, _⟩ := hμ a w hn
    refine ih hd hr1 (hstep _ _ hI1) (fun e S a' w' hq hr => ?_)
    cases e with
    | normal =>
      obtain ⟨m, hm, S2, hweak, hI2⟩ := hq
      have hp : p a' w' m := ⟨S2, hI2, hweak P N G w0 a' w' hr⟩
      exact ⟨⟨m, hp⟩, Nat.lt_of_le_of_lt ((hμ a' w' ⟨m, hp⟩).2 m hp) hm⟩
    | _ => exact hk _ S a' w' hq hr
  | exit id => intro S a w Q Q' _ h hv hk; exact wp_exit (hk _ _ _ _ hv h)
  | ret => intro S a w Q Q' _ h hv hk; exact wp_ret (hk _ _ _ _ hv h)
  | _ => intro S a w Q Q' _ h hv hk; exact hv.elim

/-! ## a whole function -/

def initS (args : List AV) : St := fun i => match args[i]? with
  | some c => c
  | none => .any

/-- What the results are: taken out of the frame. -/
def retAV (P : Program) : St → List ResultVar → Option (List AV)
  | _, [] => some []
  | S, .tmp t :: rs => match S t with
    | .agg cs => if hasOwnL cs then if (rootsL cs).isEmpty then match retAV P (upd t .any S) rs with
          | some ds => some (.agg cs :: ds)
          | none => none
        else none
      else match tkLs S (cs.flatMap locB) with
        | some (lf, S1) => match fillB cs lf with
          | some (es, []) => match retAV P S1 rs with
            | some ds => some (.agg es :: ds)
            | none => none
          | _ => none
        | none => none
    | _ => match tk { nv := 0 } S (.tmp t) with
      | some (c, U) => match retAV P (app U S) rs with
        | some ds => some (c :: ds)
        | none => none
      | none => none
  | S, .cell t ty :: rs => match S t, kindT P ty with
    | .box _ cs, some (some m) => if cs.length = m then match retAV P (upd t .any S) rs with
        | some ds => some (.agg cs :: ds)
        | none => none
      else none
    | _, _ => none

mutual
/-- Nothing in it is read alone: all is ours, or plain. -/
def freshOK : AV → Bool
  | .any => true
  | .val _ => true
  | .own _ _ cs => freshL cs
  | .box _ cs => freshL cs
  | .mp _ => true
  | .agg cs => freshL cs
  | .tup cs => freshL cs
  | .fn f cs => freshL cs
  | .sl n cs => n == 0 && cs.isEmpty
  | _ => false
def freshL : List AV → Bool
  | [] => true
  | c :: cs => freshOK c && freshL cs
end

mutual
theorem RepC.fresh {F' : Nat → Prop} {c : AV} {v : Value} {os : List Nat} (h : RepC P w F c v os) (hf : freshOK c = true) : RepC P w F' c v os := by
  cases h with
  | any v h => exact .any v h
  | val v h => exact .val v h
  | sl0 b c => exact .sl0 b c
  | sl b off n cap c e fr cs hF hb hl hn =>
    simp [freshOK] at hf
    obtain ⟨rfl, rfl⟩ := hf
    exact .sl0 _ _
  | own0 e => exact .own0 e
  | own b e n cap c cs os hb hn hc hl => exact .own b e n cap c cs os hb hn hc (RepL.fresh hl (by simpa [freshOK] using hf))
  | box b e c cs os hb hl => exact .box b e c cs os hb (RepL.fresh hl (by simpa [freshOK] using hf))
  | fptr => simp [freshOK] at hf
  | mp b es clock c hb hm => exact .mp b es clock c hb hm
  | fmp => simp [freshOK] at hf
  | it => simp [freshOK] at hf
theorem RepL.fresh {F' : Nat → Prop} {cs : List AV} {vs : List Value} {os : List Nat} (h : RepL P w F cs vs os) (hf : freshL cs = true) : RepL P w F' cs vs os := by
  cases h with
  | nil vs => exact .nil vs
  | cons c v os cs vs os' h t =>
    simp [freshL] at hf
    exact .cons c v os cs vs os' (RepC.fresh h hf.1) (RepL.fresh t hf.2)
end

def retOf (cs : List AV) : AV := match cs with
  | [c] => c
  | cs => .tup cs

/-- At a return: what is handed back. -/
def retQ (P : Program) (rs : List ResultVar) (r : AV) : Exit → St → Prop
  | .normal, S => ∃ cs, retAV P S rs = some cs ∧ retOf cs = r
  | .ret, S => ∃ cs, retAV P S rs = some cs ∧ retOf cs = r
  | _, _ => False
end
end Go.Abs
