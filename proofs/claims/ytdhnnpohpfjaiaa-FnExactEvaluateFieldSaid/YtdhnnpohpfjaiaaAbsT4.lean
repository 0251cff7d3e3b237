/- Maps written, and ranged over. It holds over any program. -/
import Derived.Test.YtdhnnpohpfjaiaaAbsT3
set_option linter.unusedVariables false
set_option linter.unusedSimpArgs false
namespace Go.Abs
open Go.RowKit (Below)
open Go.ChangeMaps (setBlock)
section
variable {P : Program} {N : Nat × List Nat} {G : Nat → Prop} {w0 : World × (Nat → Value)} {w w' : World} {S : St} {a : Act} {F : Nat → Prop} {oss : Nat → List Nat} {X : List Nat}

theorem MapOk.put {c : Key → Option Int} {l1 l2 : List MapEntry} {e : MapEntry} {clock : Nat} (h : MapOk c (l1 ++ e :: l2) clock) {k : Key} (he : e.key = keyV k) (v : Int) :
    MapOk (mset c k v) (l1 ++ { e with key := keyV k, val := .int .i64 v } :: l2) clock := by
  have hnd := h.nd
  have n1 := List.pairwise_append.1 hnd
  have n2 := List.pairwise_cons.1 n1.2.1
  have other : ∀ x, x ∈ l1 ∨ x ∈ l2 → ∃ q v', x.key = keyV q ∧ x.val = .int .i64 v' ∧ mset c k v q = some v' := by
    intro x hx
    obtain ⟨q, v', h1, h2, h3⟩ := h.ent x (by rcases hx with hx | hx <;> simp [hx])
    refine ⟨q, v', h1, h2, ?_⟩
    have hne : q ≠ k := by
      rintro rfl
      rcases hx with hx | hx
      · exact n1.2.2 x hx e (by simp) (by rw [h1, he])
      · exact n2.1 x hx (by rw [h1, he])
    simp [mset, hne, h3]
  refine ⟨fun x hx => ?_, fun q hq => ?_, ?_, ?_, fun x hx => ?_⟩
  · simp only [List.mem_append, List.mem_cons] at hx
    rcases hx with hx | rfl | hx
    · exact other x (.inl hx)
    · exact ⟨k, v, rfl, rfl, by simp [mset]⟩
    · exact other x (.inr hx)
  · have hne : q ≠ k := by
      rintro rfl
      exact hq { e with key := keyV q, val := .int .i64 v } (by simp) rfl
    simp only [mset, hne, if_false]
    refine h.out q (fun x hx => ?_)
    simp only [List.mem_append, List.mem_cons] at hx
    rcases hx with hx | rfl | hx
    · exact hq x (by simp [hx])
    · rw [he]; exact fun e1 => hne (keyV_inj e1).symm
    · exact hq x (by simp [hx])
  · refine List.pairwise_append.2 ⟨n1.1, List.pairwise_cons.2 ⟨fun x hx => ?_, n2.2⟩, fun x hx y hy => ?_⟩
    · have := n2.1 x hx; rw [he] at this; exact this
    · rcases List.mem_cons.1 hy with rfl | hy
      · have := n1.2.2 x hx e (by simp); rw [he] at this; exact this
      · exact n1.2.2 x hx y (by simp [hy])
  · have := h.born
    simpa using this
  · simp only [List.mem_append, List.mem_cons] at hx
    rcases hx with hx | rfl | hx
    · exact h.lt x (by simp [hx])
    · exact h.lt e (by simp)
    · exact h.lt x (by simp [hx])

theorem MapOk.push {c : Key → Option Int} {l : List MapEntry} {clock : Nat} (h : MapOk c l clock) {k : Key} (hk : ∀ e ∈ l, e.key ≠ keyV k) (v : Int) :
    MapOk (mset c k v) (l ++ [{ key := keyV k, val := .int .i64 v, born := clock }]) (clock + 1) := by
  refine ⟨fun x hx => ?_, fun q hq => ?_, ?_, ?_, fun x hx => ?_⟩
  · simp only [List.mem_append, List.mem_singleton] at hx
    rcases hx with hx | rfl
    · obtain ⟨q, v', h1, h2, h3⟩ := h.ent x hx
      refine ⟨q, v', h1, h2, ?_⟩
      have hne : q ≠ k := by rintro rfl; exact hk x hx h1
      simp [mset, hne, h3]
    · exact ⟨k, v, rfl, rfl, by simp [mset]⟩
  · have hne : q ≠ k := by rintro rfl; exact hq { key := keyV q, val := .int .i64 v, born := clock } (by simp) rfl
    simp only [mset, hne, if_false]
    exact h.out q (fun x hx => hq x (by simp [hx]))
  · refine List.pairwise_append.2 ⟨h.nd, List.pairwise_singleton _ _, fun x hx y hy => ?_⟩
    simp only [List.mem_singleton] at hy; subst hy
    exact hk x hx
  · rw [List.map_append, List.nodup_append]
    refine ⟨h.born, by simp, fun x hx y hy => ?_⟩
    simp at hy; subst hy
    obtain ⟨e, he, rfl⟩ := List.mem_map.1 hx
    have := h.lt e he
    omega
  · simp only [List.mem_append, List.mem_singleton] at hx
    rcases hx with hx | rfl
    · have := h.lt x hx; omega
    · simp

theorem mod_app {α : Type} (f : α → α) (e : α) (l2 : List α) : ∀ l1 : List α, (l1 ++ e :: l2).modify l1.length f = l1 ++ f e :: l2
  | [] => by simp
  | x :: l1 => by simp [mod_app f e l2 l1]
/-- Where a map of ours lies. -/
def mplc (S : St) (x : Operand) : Option (Nat × List Nat × (Key → Option Int)) :=
  match x with
  | .tmp t => match S t with
    | .mp c => some (t, [], c)
    | .bor s p => match kids (S s), getP (S s) p with
      | some _, some (.mp c) => some (s, p, c)
      | _, _ => none
    | _ => none
  | _ => none
def muS (P : Program) (S : St) (T : TypeId) (x i y : Operand) : R :=
  if mapT P T then match mplc S x, keyA (aop S i), aop S y with
    | some (s, p, c), some k, .val (.int .i64 v) => some (True, slotsOf x ++ slotsOf i ++ slotsOf y ++ [s], [.n s (putP (S s) p (.mp (mset c k v)))])
    | _, _, _ => none
  else none

theorem keyThatStays_same (k : Key) (w : World) : (Instr.keyThatStays (keyV k) (keyV k)).run P w = .ok (keyV k) w := by
  have : ∀ n, Instr.sameBits (n + 2) (keyV k) (keyV k) = true := fun n => by simp [Instr.sameBits, keyV]
  have h : Instr.sameBits 10000 (keyV k) (keyV k) = true := this 9998
  simp [Instr.keyThatStays, h]

theorem mplc_walk (h : Core P N G w0 S a w F oss X) {x : Operand} {s : Nat} {p : List Nat} {c : Key → Option Int} (hx : mplc S x = some (s, p, c)) : kids (S s) ≠ none ∧ getP (S s) p = some (.mp c) ∧ walkIn w (oss s) (tmo a s) p (a.eval x) := by
  unfold mplc at hx
  split at hx
  · rename_i t
    split at hx
    · rename_i c' hS
      simp only [Option.some.injEq, Prod.mk.injEq] at hx; obtain ⟨rfl, rfl, rfl⟩ := hx
      exact ⟨by simp [hS, kids], by simp [getP, hS], rfl⟩
    · rename_i s' p' hS
      split at hx
      · rename_i xx c' hk hg
        simp only [Option.some.injEq, Prod.mk.injEq] at hx; obtain ⟨rfl, rfl, rfl⟩ := hx
        have hr := h.get t
        rw [hS] at hr
        generalize a.eval (.tmp t) = v at hr ⊢
        generalize oss t = ot at hr
        cases hr with
        | cell _ _ _ hc => cases hc
        | bor _ _ _ hw => exact ⟨by simp [hk], hg, hw⟩
      · simp at hx
    · simp at hx
  · simp at hx

theorem mu_sound (h : Core P N G w0 S a w F oss []) {T : TypeId} {x i y : Operand} {p : Prop} {rd : List Nat} {U : List Upd} (hm : muS P S T x i y = some (p, rd, U)) :
    ∃ w', (Instr.mapUpdate T (a.eval x) (a.eval i) (a.eval y)).run P w = .ok () w' ∧ StRel P N G w0 (app U S) a w' := by
  unfold muS at hm
  split at hm
  · rename_i hT
    obtain ⟨K, E, I, hM⟩ := mapT_some hT
    split at hm
    · rename_i s q c k v hx hk hv
      simp only [Option.some.injEq, Prod.mk.injEq] at hm; obtain ⟨rfl, rfl, rfl⟩ := hm
      obtain ⟨hks, hg, hw⟩ := mplc_walk h hx
      have hi := keyA_sound h hk
      rw [h.int hv, hi]
      obtain ⟨u, o1, ou, o2, k1, k2, k3, k4, k5, k6⟩ := h.inplace hks hg
      have := walkIn_fun hw k1
      generalize a.eval x = ux at this hw ⊢
      subst this
      cases k2 with
      | mp b es clock _ hb hmo =>
        have hget : (getObj b).run P w = .ok (.map es clock) w := by simp [getObj, Sem.run, hb]
        have hck := run_checkKey3 hM false 9998 k w
        have hset : ∀ o, (setObj b o).run P w = .ok () (setBlock w b o) := fun o => by simp [setObj, Sem.run, hb, setBlock]
        have hlt : b < w.heap.size := (k4 b (by simp)).2.1
        -- the world behind, with the map's block turned
        have fin : ∀ (es' : Array MapEntry) (clock' : Nat), MapOk (mset c k v) es'.toList clock' → StRel P N G w0 (app [.n s (putP (S s) q (.mp (mset c k v)))] S) a (setBlock w b (.map es' clock')) := by
          intro es' clock' hmo'
          have hh : (setBlock w b (.map es' clock')).heap[b]? = some (.map es' clock') := by simp [setBlock, hlt]
          have hw' : ∀ z, z ≠ b → (setBlock w b (.map es' clock')).heap[z]? = w.heap[z]? := fun z hz => by simp [setBlock, Array.getElem?_setIfInBounds_ne (Ne.symm hz)]
          refine (k6 (setBlock w b (.map es' clock')) F (.mp (mset c k v)) [b] [] rfl rfl rfl (by simp [setBlock]) (fun z _ _ hz => hw' z (by simpa using hz)) (fun _ h => h) (fun _ h => .inl h) (.mp b es' clock' _ hh hmo') ?_ (by simp) (by simp) List.nodup_nil).st
          intro z hz
          simp only [List.mem_singleton] at hz; subst hz
          exact ⟨.inr (.inl (by simp)), by simpa [setBlock] using hlt, (k4 z (by simp)).1⟩
        rcases run_findKey3 hM k w es.toList hmo.keys with ⟨h1, h2⟩ | ⟨l1, e, l2, h1, h2, h3, h4⟩
        · refine ⟨_, ?_, fin (es.push { key := keyV k, val := .int .i64 v, born := clock }) (clock + 1) (by rw [Array.toList_push]; exact hmo.push h2 v)⟩
          simp [Instr.mapUpdate, run_underlying hM.map, hget, hck, h1, hset]
        · have hes : es = (l1 ++ e :: l2).toArray := by apply Array.ext'; simpa using h1
          have hei : es[l1.length]? = some e := by rw [hes]; simp
          refine ⟨_, ?_, fin (es.modify l1.length fun e => { e with key := keyV k, val := .int .i64 v }) clock ?_⟩
          · have hst := keyThatStays_same (P := P) k w
            simp [Instr.mapUpdate, run_underlying hM.map, hget, hck, h4, hei, h2, hst, hset]
          · rw [h1] at hmo
            have := hmo.put h2 v
            have e1 : (es.modify l1.length fun e => { e with key := keyV k, val := .int .i64 v }).toList = l1 ++ { e with key := keyV k, val := .int .i64 v } :: l2 := by
              rw [hes]; simp [mod_app]
            rw [e1]; exact this
    · simp at hm
  · simp at hm

/-! ## ranging -/
/-- These are a map's entries, in some order. -/
structure Enum (c : Key → Option Int) (es : List (Key × Int)) : Prop where
  nd : es.Pairwise (fun a b => a.1 ≠ b.1)
  val : ∀ p ∈ es, c p.1 = some p.2
  out : ∀ k, (∀ p ∈ es, p.1 ≠ k) → c k = none
theorem MapOk.enum {c : Key → Option Int} {clock : Nat} : ∀ {es : List MapEntry}, (∀ e ∈ es, ∃ k v, e.key = keyV k ∧ e.val = .int .i64 v ∧ c k = some v) → es.Pairwise (fun a b => a.key ≠ b.key) →
    ∃ l : List (Key × Int), (es.map fun e => (e.key, e.val)) = l.map entV ∧ l.Pairwise (fun a b => a.1 ≠ b.1) ∧ (∀ p ∈ l, c p.1 = some p.2) ∧ ∀ p ∈ l, ∃ e ∈ es, e.key = keyV p.1
  | [], _, _ => ⟨[], rfl, .nil, by simp, by simp⟩
  | e :: es, h, hn => by
    obtain ⟨h1, h2⟩ := List.pairwise_cons.1 hn
    obtain ⟨l, k1, k2, k3, k4⟩ := MapOk.enum (clock := clock) (fun e he => h e (by simp [he])) h2
    obtain ⟨k, v, e1, e2, e3⟩ := h e (by simp)
    refine ⟨(k, v) :: l, by simp [k1, e1, e2, entV], List.pairwise_cons.2 ⟨fun p hp => ?_, k2⟩, ?_, ?_⟩
    · obtain ⟨x, hx, hxk⟩ := k4 p hp
      intro hk
      simp only at hk
      subst hk
      exact h1 x hx (by rw [e1, hxk])
    · intro p hp
      rcases List.mem_cons.1 hp with rfl | hp
      · exact e3
      · exact k3 p hp
    · intro p hp
      rcases List.mem_cons.1 hp with rfl | hp
      · exact ⟨e, by simp, e1⟩
      · obtain ⟨x, hx, hxk⟩ := k4 p hp
        exact ⟨x, by simp [hx], hxk⟩
theorem MapOk.enum' {c : Key → Option Int} {clock : Nat} {es : List MapEntry} (h : MapOk c es clock) : ∃ l : List (Key × Int), (es.map fun e => (e.key, e.val)) = l.map entV ∧ Enum c l := by
  obtain ⟨l, h1, h2, h3, h4⟩ := MapOk.enum (clock := clock) h.ent h.nd
  refine ⟨l, h1, h2, h3, fun k hk => h.out k (fun e he hek => ?_)⟩
  have : (e.key, e.val) ∈ l.map entV := by rw [← h1]; exact List.mem_map.2 ⟨e, he, rfl⟩
  obtain ⟨p, hp, hpe⟩ := List.mem_map.1 this
  have h5 : keyV p.1 = e.key := by simpa [entV] using congrArg Prod.fst hpe
  exact hk p hp (keyV_inj (by rw [h5, hek]))

def RangeVC (N : Nat × List Nat) (c : Key → Option Int) (d : Nat) (K : St → Prop) (S : St) : Prop := OkD N d ∧ ∀ es : List (Key × Int), Enum c es → K (upd d (.it none es) S)
def isMapT (P : Program) (T : TypeId) : Bool := match P.underlying T with
  | some (.map _ _) => true
  | _ => false
/-- An operation that begins to range over a map that nobody writes. -/
def rangeOf (P : Program) (S : St) : Op → Option (Key → Option Int)
  | .range T x => if isMapT P T then match aop S x with
    | .fmp c => some c
    | _ => none
    else none
  | _ => none
/-- The value of a key. -/
def keyAV (k : Key) : AV := .agg [.val (.int .i64 k.1), .val (.int .i64 k.2.1), .val (.int .i64 k.2.2)]
def NextVC (N : Nat × List Nat) (t : Nat) (rem : List (Key × Int)) (d : Nat) (K : St → Prop) (S : St) : Prop :=
  OkD N d ∧ (rem = [] → K (upd d (.tup [.val (.bool false)]) S)) ∧
    ∀ l1 k x l2, rem = l1 ++ (k, x) :: l2 → K (upd d (.tup [.val (.bool true), keyAV k, .val (.int .i64 x)]) (updn t (.it (some (k, x)) (l1 ++ l2)) S))
def nextOf (S : St) : Op → Option (Nat × List (Key × Int))
  | .next (.tmp t) false => match S t with
    | .it _ rem => some (t, rem)
    | _ => none
  | _ => none
/-- The entry that was given last. -/
def enS (S : St) (d : Nat) (x : Operand) : R :=
  match x with
  | .tmp t => match S t with
    | .it (some (k, v)) _ => some (True, [t], [.w d (.tup [keyAV k, .val (.int .i64 v)])])
    | _ => none
  | _ => none

theorem leftOf_nil (es : Array MapEntry) : leftOf es #[] = es := by simp [leftOf]

theorem range_sound (h : Core P N G w0 S a w F oss []) {o : Oper} {c : Key → Option Int} {d : Nat} (hm : rangeOf P S o.op = some c) (hd : o.dst = some d) {K : St → Prop} (hK : RangeVC N c d K S)
    {K' : Act → World → Prop} {Q : Exit → Act → World → Prop} (hk : ∀ S' a' w', K S' → StRel P N G w0 S' a' w' → K' a' w') : o.wp P a w K' Q := by
  obtain ⟨dst, op, ty, pos, after, guard⟩ := o
  simp only at hm hd
  subst hd
  unfold rangeOf at hm
  split at hm
  · rename_i T x
    split at hm
    · rename_i hT
      split at hm
      · rename_i c' hx
        injection hm with hm; subst hm
        obtain ⟨os, ho, _⟩ := h.op x
        rw [hx] at ho
        generalize hu : a.eval x = u at ho
        cases ho with
        | cell _ _ _ hc => cases hc with
          | fmp b es clock _ hF hb hmo =>
            obtain ⟨l, h1, h2⟩ := hmo.enum'
            have hget : (getObj b).run P w = .ok (.map es clock) w := by simp [getObj, Sem.run, hb]
            obtain ⟨K1, E1, hTu⟩ : ∃ K1 E1, P.underlying T = some (.map K1 E1) := by
              unfold isMapT at hT
              split at hT
              · rename_i K1 E1 hTu; exact ⟨K1, E1, hTu⟩
              · simp at hT
            have hrun : (Instr.range T (a.eval x)).run P w = .ok (.pointer (some ⟨w.heap.size, 0, none⟩)) (w.alloc (.mapIter (some b) clock #[] clock)) := by
              rw [hu]
              simp [Instr.range, run_underlying hTu, hget, newObj, Sem.run]
            refine wp_value (v := .pointer (some ⟨w.heap.size, 0, none⟩)) (w' := w.alloc (.mapIter (some b) clock #[] clock)) (by simp only [execOp, Sem.run_bind, hrun]; rfl) (hk _ _ _ (hK.2 l h2) ?_)
            have hh := heap_alloc_new w (.mapIter (some b) clock #[] clock)
            have hblt := h.fw b hF
            have k : Core P N G w0 S a (w.alloc (.mapIter (some b) clock #[] clock)) F oss [w.heap.size] :=
              h.world rfl rfl rfl (by simp) (fun b hb _ => Below.heap_alloc w _ b hb) (fun _ h => h) (fun _ h => .inl h)
                (fun b hb => by
                  simp only [List.mem_singleton] at hb; subst hb
                  exact ⟨.inr (Nat.le_refl _), by simp, fun hf => by have := h.fw _ hf; omega⟩) (by simp)
            refine k.putX hK.1 (.cell _ _ _ (.it _ b #[] es clock c' none l hh hF ((Below.heap_alloc w _ b hblt).trans hb) hmo (by simp) ?_))
            rw [leftOf_nil, h1]
      · simp at hm
    · simp at hm
  · simp at hm

/-- What is left when one more was given. -/
theorem leftOf_push {es : Array MapEntry} {seen : Array Nat} {e : MapEntry} (hn : (es.toList.map (·.born)).Nodup) (he : e ∈ (leftOf es seen).toList) :
    (leftOf es seen).toList.Perm (e :: (leftOf es (seen.push e.born)).toList) := by
  have e1 : (leftOf es seen).toList = es.toList.filter fun e => !seen.contains e.born := by simp [leftOf]
  have e2 : (leftOf es (seen.push e.born)).toList = es.toList.filter fun x => !(seen.push e.born).contains x.born := by simp [leftOf]
  rw [e1] at he ⊢
  rw [e2]
  generalize es.toList = l at hn he
  obtain ⟨hel, hes⟩ := List.mem_filter.1 he
  obtain ⟨l1, l2, rfl⟩ := List.append_of_mem hel
  rw [List.map_append, List.map_cons, List.nodup_append] at hn
  obtain ⟨n1, n2, n3⟩ := hn
  have n2 := List.nodup_cons.1 n2
  have same : ∀ l : List MapEntry, (∀ x ∈ l, x.born ≠ e.born) → l.filter (fun x => !(seen.push e.born).contains x.born) = l.filter (fun x => !seen.contains x.born) := by
    intro l hl
    apply List.filter_congr
    intro x hx
    have := hl x hx
    simp [Array.contains_push, this]
  have k1 := same l1 (fun x hx hb => n3 x.born (List.mem_map.2 ⟨x, hx, rfl⟩) e.born (by simp) hb)
  have k2 := same l2 (fun x hx hb => n2.1 (List.mem_map.2 ⟨x, hx, hb⟩))
  rw [List.filter_append, List.filter_append, List.filter_cons, List.filter_cons, k1, k2]
  rw [if_pos hes, if_neg (by simp [Array.contains_push])]
  exact List.perm_middle

theorem keyAV_rep {tm : Nat → Value} (k : Key) : RepT P w F tm oss (keyAV k) (keyV k) [] := by
  have : RepTL P w F tm oss [.val (.int .i64 k.1), .val (.int .i64 k.2.1), .val (.int .i64 k.2.2)] [.int .i64 k.1, .int .i64 k.2.1, .int .i64 k.2.2] [] :=
    .cons _ _ [] _ _ [] (.cell _ _ _ (.val _ rfl)) (.cons _ _ [] _ _ [] (.cell _ _ _ (.val _ rfl)) (.cons _ _ [] _ _ [] (.cell _ _ _ (.val _ rfl)) (.nil _)))
  exact RepT.agg _ _ _ rfl this

theorem next_sound (h : Core P N G w0 S a w F oss []) {o : Oper} {t d : Nat} {rem : List (Key × Int)} (hm : nextOf S o.op = some (t, rem)) (hd : o.dst = some d) {K : St → Prop} (hK : NextVC N t rem d K S)
    {K' : Act → World → Prop} {Q : Exit → Act → World → Prop} (hk : ∀ S' a' w', K S' → StRel P N G w0 S' a' w' → K' a' w') : o.wp P a w K' Q := by
  obtain ⟨dst, op, ty, pos, after, guard⟩ := o
  simp only at hm hd
  subst hd
  unfold nextOf at hm
  split at hm
  · rename_i t'
    split at hm
    · rename_i l0 rem' hS
      simp only [Option.some.injEq, Prod.mk.injEq] at hm; obtain ⟨rfl, rfl⟩ := hm
      obtain ⟨u, o1, ou, o2, k1, k2, k3, k4, k5, k6⟩ := h.inplace (s := t') (p := []) (by simp [hS, kids]) (show getP (S t') [] = some (.it l0 rem') by simp [getP, hS])
      have hu : u = tmo a t' := k1
      have hev : a.eval (.tmp t') = tmo a t' := rfl
      rw [← hu] at hev
      clear hu
      cases k2 with
      | it r b seen es clock c _ _ hr hF hb hmo hl hrem =>
        rcases run_next_at (P := P) w ty r b clock clock seen es clock hr hb (fun x hx => hmo.lt x hx) (Nat.le_refl _) with ⟨hz, hrun⟩ | ⟨e, he, w1, hw1, hrun⟩
        · have hnil : rem' = [] := by
            have : (leftOf es seen).toList = [] := by
              apply List.eq_nil_of_length_eq_zero; simpa using hz
            rw [this] at hrem
            simpa using hrem
          refine wp_value (v := .tuple #[.bool false]) (w' := w) (by simp only [execOp, Sem.run_bind, hev, hrun]; rfl) (hk _ _ _ (hK.2.1 hnil) ?_)
          refine h.put0 hK.1 (.tup _ [.bool false] [] rfl (.cons _ _ [] _ _ [] (.cell _ _ _ (.val _ rfl)) (.nil _)))
        · have hin : (e.key, e.val) ∈ rem'.map entV := hrem.mem_iff.1 (List.mem_map.2 ⟨e, he, rfl⟩)
          obtain ⟨p, hp, hpe⟩ := List.mem_map.1 hin
          obtain ⟨l1, l2, rfl⟩ := List.append_of_mem hp
          obtain ⟨k, x⟩ := p
          have hke : e.key = keyV k := by simpa [entV] using (congrArg Prod.fst hpe).symm
          have hve : e.val = .int .i64 x := by simpa [entV] using (congrArg Prod.snd hpe).symm
          refine wp_value (v := .tuple #[.bool true, e.key, e.val]) (w' := setBlock w1 r (.mapIter (some b) clock (seen.push e.born) clock)) (by simp only [execOp, Sem.run_bind, hev, hrun]; rfl) (hk _ _ _ (hK.2.2 l1 k x l2 rfl) ?_)
          have hw1h : w1.heap = w.heap := by rcases hw1 with rfl | rfl <;> rfl
          have hw1o : w1.os = w.os ∧ w1.tape = w.tape ∧ w1.output = w.output := by rcases hw1 with rfl | rfl <;> exact ⟨rfl, rfl, rfl⟩
          have hrlt : r < w.heap.size := (k4 r (by simp)).2.1
          have hh : (setBlock w1 r (.mapIter (some b) clock (seen.push e.born) clock)).heap[r]? = some (.mapIter (some b) clock (seen.push e.born) clock) := by simp [setBlock, hw1h, hrlt]
          have hoth : ∀ z, z ≠ r → (setBlock w1 r (.mapIter (some b) clock (seen.push e.born) clock)).heap[z]? = w.heap[z]? := fun z hz => by simp [setBlock, hw1h, Array.getElem?_setIfInBounds_ne (Ne.symm hz)]
          have hbr : b ≠ r := fun eb => (k4 r (by simp)).1 (eb ▸ hF)
          have hperm := leftOf_push hmo.born he
          have hrem2 : ((leftOf es (seen.push e.born)).toList.map fun e => (e.key, e.val)).Perm ((l1 ++ l2).map entV) := by
            have q1 : ((e.key, e.val) :: (leftOf es (seen.push e.born)).toList.map fun e => (e.key, e.val)).Perm ((l1 ++ (k, x) :: l2).map entV) :=
              ((hperm.map (fun (e : MapEntry) => (e.key, e.val))).symm).trans hrem
            have q2 : ((l1 ++ (k, x) :: l2).map entV).Perm (entV (k, x) :: (l1 ++ l2).map entV) := by
              have := (List.perm_middle (a := (k, x)) (l₁ := l1) (l₂ := l2)).map entV
              simp at this ⊢
            have q3 := q1.trans q2
            rw [← hpe] at q3
            exact q3.cons_inv
          have hees : e ∈ es.toList := (mem_left he).1
          have fin := k6 (setBlock w1 r (.mapIter (some b) clock (seen.push e.born) clock)) F (.it (some (k, x)) (l1 ++ l2)) [r] [] hw1o.1 hw1o.2.1 hw1o.2.2 (by simp [setBlock, hw1h]) (fun z _ _ hz => hoth z (by simpa using hz)) (fun _ h => h) (fun _ h => .inl h)
            (.it r b (seen.push e.born) es clock c _ _ hh hF ((hoth b hbr).trans hb) hmo (fun p hp => by injection hp with hp; subst hp; exact ⟨e, hees, ⟨seen, rfl⟩, hpe.symm⟩) hrem2)
            (by
              intro z hz
              simp only [List.mem_singleton] at hz; subst hz
              exact ⟨.inr (.inl (by simp)), by simpa [setBlock, hw1h] using hrlt, (k4 z (by simp)).1⟩) (by simp) (by simp) List.nodup_nil
          have e0 : putP (S t') [] (.it (some (k, x)) (l1 ++ l2)) = .it (some (k, x)) (l1 ++ l2) := rfl
          rw [e0] at fin
          rw [hke, hve]
          exact fin.put0 hK.1 (.tup _ [.bool true, keyV k, .int .i64 x] [] rfl (.cons _ _ [] _ _ [] (.cell _ _ _ (.val _ rfl)) (.cons _ _ [] _ _ [] (keyAV_rep k) (.cons _ _ [] _ _ [] (.cell _ _ _ (.val _ rfl)) (.nil _)))))
    · simp at hm
  · simp at hm

theorem en_sound (h : Core P N G w0 S a w F oss []) {d : Nat} (hd : OkD N d) {x : Operand} {p : Prop} {rd : List Nat} {U : List Upd} (hm : enS S d x = some (p, rd, U)) :
    ∃ v, (Instr.entry (a.eval x)).run P w = .ok v w ∧ StRel P N G w0 (app U S) (a.put (some d) v) w := by
  unfold enS at hm
  split at hm
  · rename_i t
    split at hm
    · rename_i k v rem hS
      simp only [Option.some.injEq, Prod.mk.injEq] at hm; obtain ⟨rfl, rfl, rfl⟩ := hm
      have hr := h.get t
      rw [hS] at hr
      generalize a.eval (.tmp t) = u at hr ⊢
      generalize oss t = ot at hr
      cases hr with
      | cell _ _ _ hc => cases hc with
        | it r b seen es clock c _ _ hr hF hb hmo hl hrem =>
          obtain ⟨e, he, ⟨s1, rfl⟩, hpe⟩ := hl _ rfl
          have hke : e.key = keyV k := by simpa [entV] using congrArg Prod.fst hpe
          have hve : e.val = .int .i64 v := by simpa [entV] using congrArg Prod.snd hpe
          have hrun := run_entry_at (P := P) w r b clock s1 es clock e hr hb he hmo.born
          refine ⟨_, hrun, ?_⟩
          rw [hke, hve]
          exact h.put0 hd (.tup _ [keyV k, .int .i64 v] [] rfl (.cons _ _ [] _ _ [] (keyAV_rep k) (.cons _ _ [] _ _ [] (.cell _ _ _ (.val _ rfl)) (.nil _))))
    · simp at hm
  · simp at hm
end
end Go.Abs
