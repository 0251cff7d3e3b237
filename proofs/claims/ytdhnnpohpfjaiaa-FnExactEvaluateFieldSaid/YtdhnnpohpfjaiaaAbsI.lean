/- append; len; extract; calls. It holds over any program. -/
import Derived.Test.YtdhnnpohpfjaiaaAbsH
set_option linter.unusedVariables false
set_option linter.unusedSimpArgs false
namespace Go.Abs
open Go.RowKit (Below)

section
variable {P : Program} {N : Nat × List Nat} {G : Nat → Prop} {w0 : World × (Nat → Value)} {w w' : World} {S : St} {a : Act} {F : Nat → Prop} {oss : Nat → List Nat} {X : List Nat}

theorem isSome2_own {e0 : TypeId} {r : Option (AV × List Upd)} {e : TypeId} {n : Nat} {cs : List AV} {U : List Upd} (h : isSome2 e0 r = some (e, n, cs, U)) :
    r = some (.own e n cs, U) ∨ (r = some (.val (.slice none 0 0), U) ∧ n = 0 ∧ cs = []) := by
  unfold isSome2 at h
  split at h
  · simp at h; obtain ⟨rfl, rfl, rfl, rfl⟩ := h; exact .inl rfl
  · simp at h; obtain ⟨rfl, rfl, rfl, rfl⟩ := h; exact .inr ⟨rfl, rfl, rfl⟩
  · simp at h

theorem heapDrewNew (w : World) (o : Obj) : (w.drew.alloc o).heap[w.heap.size]? = some o := heap_alloc_new w.drew o
theorem heapDrewOld (w : World) (o : Obj) (b : Nat) (h : b < w.heap.size) : (w.drew.alloc o).heap[b]? = w.heap[b]? := Below.heap_alloc w.drew o b h

theorem ap_sound (h : Core P N G w0 S a w F oss []) {T ty : TypeId} {x y : Operand} {d : Nat} (hd : OkD N d) {p : Prop} {rd : List Nat} {U : List Upd}
    (hm : apS P S d T x y = some (p, rd, U)) (hp : p) :
    ∃ v w', (Builtin.append_ #[T, T] ty #[a.eval x, a.eval y]).run P w = .ok v w' ∧ StRel P N G w0 (app U S) (a.put (some d) v) w' := by
  unfold apS at hm
  split at hm
  · rename_i e hT
    have hu := elemT_some hT
    split at hm
    · rename_i es by_ zs hI
      obtain ⟨i, zv, i1, i2, i3, i4, i5, i6, i7⟩ := infoT_some hI
      subst i4
      split at hm
      · rename_i e' n cs U1 hx
        split at hm
        · rename_i m ds U2 hy
          simp only [Option.some.injEq, Prod.mk.injEq] at hm; obtain ⟨rfl, rfl, rfl⟩ := hm
          obtain ⟨p1, p2, p3, p4, p5, p6⟩ := hp
          rw [app_append, app_append]
          -- what is appended to
          have hx' : ∃ F1 oss1 ox, Core P N G w0 (app U1 S) a w F1 oss1 ox ∧
              ((a.eval x = .slice none 0 0 ∧ n = 0 ∧ cs = [] ∧ ox = []) ∨
               ∃ g cap cur ol, a.eval x = .slice (some ⟨g, 0, none⟩) n cap ∧ ox = g :: ol ∧ w.heap[g]? = some (.cells cur e' (0, 0)) ∧ n ≤ cap ∧ cap * P.cellsOf e' ≤ cur.size ∧ RepL P w F1 cs cur.toList ol) := by
            rcases isSome2_own hx with hx1 | ⟨hx1, hn0, hc0⟩
            · obtain ⟨F1, oss1, ox, k1, k2, k3⟩ := h.tk hx1
              simp only [List.append_nil] at k1
              refine ⟨F1, oss1, ox, k1, ?_⟩
              generalize a.eval x = u at k2
              cases k2 with
              | own0 e => exact .inl ⟨rfl, rfl, rfl, rfl⟩
              | own g e n cap cur cs ol hb hn hc hl => exact .inr ⟨g, cap, cur, ol, rfl, rfl, hb, hn, hc, hl⟩
            · obtain ⟨F1, oss1, ox, k1, k2, k3⟩ := h.tk hx1
              simp only [List.append_nil] at k1
              refine ⟨F1, oss1, ox, k1, ?_⟩
              generalize a.eval x = u at k2
              cases k2 with
              | val _ _ => exact .inl ⟨rfl, hn0, hc0, rfl⟩
          obtain ⟨F1, oss1, ox, k1, hx2⟩ := hx'
          obtain ⟨oss2, oy, base, c, news, m1, hye, m3, m4⟩ := els_sound k1 hy
          rw [hye]
          have hF1 : ∀ b, F1 b → b < w.heap.size := k1.fw
          -- nothing is appended
          by_cases hm0 : ds = []
          · subst hm0
            have hm00 : m = 0 := by
              have h0 : m * es = 0 := by simpa using p3.symm
              rcases Nat.mul_eq_zero.1 h0 with h | h
              · exact h
              · omega
            subst hm00
            simp only [Nat.add_zero, List.append_nil]
            rcases hx2 with ⟨hxe, rfl, rfl, rfl⟩ | ⟨g, cap, cur, ol, hxe, rfl, hg, hn, hc, hl⟩
            · refine ⟨_, w, by rw [hxe]; exact run_append_zero hu i1 none base 0 0 c (Nat.le_refl _) (.inr trivial), ?_⟩
              have := m1.sub (X' := []) (by simp) List.nodup_nil
              exact this.put0 hd (.cell _ _ _ (.own0 e))
            · refine ⟨_, w, by rw [hxe]; exact run_append_zero hu i1 _ base n cap c hn (.inr trivial), ?_⟩
              subst p1
              have := m1.sub (X' := g :: ol) (fun b hb => by simp only [List.mem_append]; exact .inr hb) k1.xn
              exact this.putX hd (.cell _ _ _ (.own g _ n cap cur cs ol hg hn hc hl))
          · obtain ⟨ad, rfl, hread⟩ := m4.resolve_left hm0
            have hmpos : 0 < m := by
              rcases Nat.eq_zero_or_pos m with h0 | h0
              · subst h0; simp at p3; exact (hm0 p3).elim
              · exact h0
            subst p1
            -- the new elements' own cells, just so many
            have hnl := m3.length_le
            let nw := news.take ds.length
            have hnw : nw.length = m * i.size := by simp only [nw]; rw [List.length_take, Nat.min_eq_left hnl, p3, i3]
            have hnwr : ∀ j u, nw[j]? = some u → w.cell? (ad.add j) = some u := fun j u hj => hread j u (by
              simp only [nw, List.getElem?_take] at hj; split at hj; exact hj; simp at hj)
            have hnw1 : ∀ u ∈ nw, u.oneCell' = true := m3.oneCell
            have hds : RepL P w F1 ds nw oy := m3.take
            rcases hx2 with ⟨hxe, rfl, rfl, rfl⟩ | ⟨g, cap, cur, ol, hxe, rfl, hg, hn, hc, hl⟩
            · -- nil: a new block
              rw [hxe]
              simp only [Nat.zero_add, List.nil_append]
              refine ⟨_, _, run_append_nil w T ty e' i zv hu i1 i2 ad m c nw hnw hnwr hmpos (by omega) (by simp only [Nat.zero_add] at p4; omega), ?_⟩
              have hge := grownCap_ge w m 0 e'
              have m1' : Core P N G w0 (app U2 (app U1 S)) a w F1 oss2 oy := by simpa using m1
              refine Core.newOwn m1' (w' := w.drew.alloc (.cells (nw.toArray ++ Builtin.zeroCells zv.cells (grownCap w m 0 e' - m)) e')) (e := e') (cs := ds) (n := m) (cap := grownCap w m 0 e') rfl rfl rfl (by simp) (heapDrewNew w _) (fun b hb => heapDrewOld w _ b hb) hge ?_ ?_ hd
              · rw [i7]; simp [size_zeroCells, hnw, i5, i3, ← Nat.add_mul, Nat.add_sub_cancel' hge]
              · rw [Array.toList_append]; exact hds.more _
            · by_cases hroom : n + m ≤ cap
              · -- in place
                rw [hxe]
                have hfit : n * i.size + nw.length ≤ cur.size := by
                  rw [hnw, ← Nat.add_mul, i3]
                  refine Nat.le_trans (Nat.mul_le_mul_right _ hroom) (by rw [i7] at hc; exact hc)
                refine ⟨_, _, run_append_room w T ty e' i hu i1 g n cap cur hg ad m c nw hnw hnwr hnw1 hroom hfit, ?_⟩
                have hrow : (w.setRow g (cur.toList.take (n * i.size) ++ nw ++ cur.toList.drop (n * i.size + nw.length)).toArray).heap[g]? = some (.cells (cur.toList.take (n * i.size) ++ nw ++ cur.toList.drop (n * i.size + nw.length)).toArray e' (0, 0)) :=
                  setRow_heap w g cur _ e' _ hg
                have hot : ∀ b, b ≠ g → (w.setRow g (cur.toList.take (n * i.size) ++ nw ++ cur.toList.drop (n * i.size + nw.length)).toArray).heap[b]? = w.heap[b]? := fun b hb => setRow_other w g b _ hb
                have hnd := m1.xn
                have hgX : g ∈ oy ++ g :: ol := by simp
                have hgn : ∀ b, b ∈ oy ∨ b ∈ ol → b ≠ g := by
                  intro b hb eb
                  subst eb
                  rw [List.nodup_append] at hnd
                  rcases hb with hb | hb
                  · exact hnd.2.2 b hb b (by simp) rfl
                  · exact (List.nodup_cons.1 hnd.2.1).1 hb
                have hFg : ∀ b, F1 b → b ≠ g := fun b hb eb => (m1.xo g hgX).1 (eb ▸ hb)
                have mw : Core P N G w0 (app U2 (app U1 S)) a (w.setRow g (cur.toList.take (n * i.size) ++ nw ++ cur.toList.drop (n * i.size + nw.length)).toArray) F1 oss2 (oy ++ g :: ol) :=
                  m1.world rfl rfl rfl (by simp) (fun b hb hx => hot b (fun eb => hx (eb ▸ hgX))) (fun _ h => h) (fun _ h => .inl h) (fun b hb => ⟨.inl hb, by simpa using (m1.xo b hb).2, (m1.xo b hb).1⟩) m1.xn
                have hcsl : cs.length = n * i.size := by rw [i3]; exact p2
                have hl' : RepL P (w.setRow g (cur.toList.take (n * i.size) ++ nw ++ cur.toList.drop (n * i.size + nw.length)).toArray) F1 (cs ++ ds) ((cur.toList.take (n * i.size) ++ nw ++ cur.toList.drop (n * i.size + nw.length)).toArray).toList (ol ++ oy) := by
                  simp only
                  refine RepL.more (RepL.append ?_ ?_ ?_) _
                  · have ht := (hl.mono (F' := F1) (fun _ h => h) (fun b hb => hot b (by rcases hb with hb | hb; exact hFg b hb; exact hgn b (.inr hb)))).take
                    rw [hcsl] at ht; exact ht
                  · rw [List.length_take, hcsl]; simp; omega
                  · exact hds.mono (fun _ h => h) (fun b hb => hot b (by rcases hb with hb | hb; exact hFg b hb; exact hgn b (.inl hb)))
                have hnd2 : (g :: (ol ++ oy)).Nodup := by
                  rw [List.nodup_append] at hnd
                  have h2 := List.nodup_cons.1 hnd.2.1
                  refine List.nodup_cons.2 ⟨fun hx => ?_, List.nodup_append.2 ⟨h2.2, hnd.1, fun x hx y hy e => hnd.2.2 y hy x (by simp [hx]) e.symm⟩⟩
                  rcases List.mem_append.1 hx with hx | hx
                  · exact h2.1 hx
                  · exact hnd.2.2 g hx g (by simp) rfl
                have mw2 := mw.sub (X' := g :: (ol ++ oy)) (fun b hb => by simp only [List.mem_cons, List.mem_append] at hb ⊢; rcases hb with hb | hb | hb <;> simp [hb]) hnd2
                refine mw2.putX hd (.cell _ _ _ (.own g e' (n + m) cap _ (cs ++ ds) _ hrow hroom ?_ hl'))
                simp only [List.size_toArray, List.length_append, List.length_take, List.length_drop, Array.length_toList]
                omega
              · -- a new block
                rw [hxe]
                have hcsl : cs.length = n * i.size := by rw [i3]; exact p2
                have holds : ∀ j u, (cur.toList.take cs.length)[j]? = some u → w.cell? ((⟨g, 0, none⟩ : Addr).add j) = some u := fun j u hj => by
                  rw [addr_add, cell_of hg]
                  simp only [List.getElem?_take] at hj
                  split at hj
                  · simpa using hj
                  · simp at hj
                have hcl := hl.length_le
                have hol : (cur.toList.take cs.length).length = n * i.size := by rw [List.length_take]; omega
                refine ⟨_, _, run_append_grow w T ty e' i zv hu i1 i2 ⟨g, 0, none⟩ n cap (cur.toList.take cs.length) hol holds ad m c nw hnw hnwr (by omega) (by omega) (growslice_fits (by omega) p4), ?_⟩
                have hge := grownCap_ge w (n + m) cap e'
                have hnd := m1.xn
                have mw2 := m1.sub (X' := ol ++ oy) (fun b hb => by simp only [List.mem_cons, List.mem_append] at hb ⊢; rcases hb with hb | hb <;> simp [hb]) (by
                  rw [List.nodup_append] at hnd
                  have h2 := List.nodup_cons.1 hnd.2.1
                  exact List.nodup_append.2 ⟨h2.2, hnd.1, fun x hx y hy e => hnd.2.2 y hy x (by simp [hx]) e.symm⟩)
                refine Core.newOwn mw2 (w' := w.drew.alloc (.cells ((cur.toList.take cs.length).toArray ++ nw.toArray ++ Builtin.zeroCells zv.cells (grownCap w (n + m) cap e' - (n + m))) e')) (e := e') (cs := cs ++ ds) (n := n + m) (cap := grownCap w (n + m) cap e') rfl rfl rfl (by simp) (heapDrewNew w _) (fun b hb => heapDrewOld w _ b hb) hge ?_ ?_ hd
                · rw [i7]
                  simp only [Array.size_append, List.size_toArray, hol, hnw, size_zeroCells, i5, i3, ← Nat.add_mul]
                  rw [Nat.add_sub_cancel' hge]; exact Nat.le_refl _
                · simp only [Array.toList_append]
                  refine RepL.more (RepL.append hl.take ?_ hds) _
                  rw [List.length_take]; omega
        · simp at hm
      · simp at hm
    · simp at hm
  · simp at hm
end
end Go.Abs
