/- Texts of the own layer and contracts, part 1: AbsA AbsB AbsC AbsD AbsE AbsF AbsG AbsH AbsI AbsJ AbsK0 AbsS AbsT. -/
import Derived.WalkKit
import Derived.Maps.RangeRun
import Derived.Great.BuildSlice
import Derived.Laws.CopyRow
import Derived.Laws.Slices
set_option linter.unusedSectionVars false
set_option linter.unusedVariables false
set_option linter.unusedSimpArgs false
set_option maxHeartbeats 4000000
set_option maxRecDepth 100000
namespace Go.Abs
open Go.RowKit (Below)
abbrev Key:=Int × Int × Int
inductive AV where
 | any
 | val (v:Value)
 | sl (n:Nat) (cs:List AV)
 | own (e:TypeId) (n:Nat) (cs:List AV)
 | ofs (k:Nat) (e:TypeId) (n:Nat) (cs:List AV)
 | box (e:TypeId) (cs:List AV)
 | agg (cs:List AV)
 | tup (cs:List AV)
 | fn (f:FuncId) (cs:List AV)
 | bor (s:Nat) (p:List Nat)
 | ptr (s:Nat) (p:List Nat) (off:Nat)
 | fptr (cs:List AV)
 | mp (c:Key->Option Int)
 | fmp (c:Key->Option Int)
 | it (l:Option (Key × Int)) (es:List (Key × Int))
 | slp (s:Nat) (p:List Nat) (off n:Nat)
 deriving Inhabited
abbrev AV.int (n:Int):AV:=.val (.int .i64 n)
abbrev AV.bool (b:Bool):AV:=.val (.bool b)
abbrev St:=Nat->AV
mutual
def frz:AV->AV
 | .own _ n cs=>.sl n (frzL cs)
 | .ofs k _ n cs=>.sl n ((frzL cs).drop k)
 | .box _ cs=>.fptr (frzL cs)
 | .agg cs=>.agg (frzL cs)
 | .tup cs=>.tup (frzL cs)
 | .fn f cs=>.fn f (frzL cs)
 | .mp c=>.fmp c
 | .it _ _=>.any
 | c=>c
def frzL:List AV->List AV
 | []=>[]
 | c::cs=>frz c::frzL cs
end
theorem zbW:∀ cs,frzL cs=cs.map frz
 | []=>rfl
 | c::cs=>by rw [frzL,zbW cs,List.map_cons]
def keyV (k:Key):Value:=.agg #[.int .i64 k.1,.int .i64 k.2.1,.int .i64 k.2.2]
def entV (p:Key × Int):Value × Value:=(keyV p.1,.int .i64 p.2)
theorem zfb {a b:Key} (h:keyV a=keyV b):a=b:=by
 obtain ⟨a1,a2,a3⟩:=a
 obtain ⟨b1,b2,b3⟩:=b
 simp [keyV] at h
 obtain ⟨rfl,rfl,rfl⟩:=h
 rfl
structure MapOk (c:Key->Option Int) (es:List MapEntry) (clock:Nat):Prop where
 ent:∀ e∈es,∃ k v,e.key=keyV k/\e.val=.int .i64 v/\c k=some v
 out:∀ k,(∀ e∈es,e.key≠keyV k)->c k=none
 nd:es.Pairwise (fun a b=>a.key≠b.key)
 born:(es.map (·.born)).Nodup
 lt:∀ e∈es,e.born<clock
mutual
inductive RepC (P:Program) (w:World) (F:Nat->Prop):AV->Value->List Nat->Prop
 | any (v:Value) (h:v.oneCell'=true):RepC P w F .any v []
 | val (v:Value) (h:v.oneCell'=true):RepC P w F (.val v) v []
 | sl0 (base:Option Addr) (cap:Nat):RepC P w F (.sl 0 []) (.slice base 0 cap) []
 | sl (b off n cap:Nat) (c:Array Value) (e:TypeId) (fr:Nat × Nat) (cs:List AV) (hF:F b) (hb:w.heap[b]?=some (.cells c e fr))
   (hl:RepL P w F cs (c.toList.drop off) []) (hn:n<=cap):RepC P w F (.sl n cs) (.slice (some ⟨b,off,none⟩) n cap) []
 | own0 (e:TypeId):RepC P w F (.own e 0 []) (.slice none 0 0) []
 | own (b:Nat) (e:TypeId) (n cap:Nat) (c:Array Value) (cs:List AV) (os:List Nat) (hb:w.heap[b]?=some (.cells c e (0,0))) (hn:n<=cap)
   (hc:cap*P.cellsOf e<=c.size) (hl:RepL P w F cs c.toList os):RepC P w F (.own e n cs) (.slice (some ⟨b,0,none⟩) n cap) (b::os)
 | ofs (b k:Nat) (e:TypeId) (n cap:Nat) (c:Array Value) (cs:List AV) (os:List Nat) (hb:w.heap[b]?=some (.cells c e (0,0))) (hn:n<=cap)
   (hl:RepL P w F cs c.toList os):RepC P w F (.ofs k e n cs) (.slice (some ⟨b,k,none⟩) n cap) (b::os)
 | box (b:Nat) (e:TypeId) (c:Array Value) (cs:List AV) (os:List Nat) (hb:w.heap[b]?=some (.cells c e (0,0)))
   (hl:RepL P w F cs c.toList os):RepC P w F (.box e cs) (.pointer (some ⟨b,0,none⟩)) (b::os)
 | fptr (b off:Nat) (c:Array Value) (e:TypeId) (fr:Nat × Nat) (cs:List AV) (hF:F b) (hb:w.heap[b]?=some (.cells c e fr))
   (hl:RepL P w F cs (c.toList.drop off) []):RepC P w F (.fptr cs) (.pointer (some ⟨b,off,none⟩)) []
 | mp (b:Nat) (es:Array MapEntry) (clock:Nat) (c:Key->Option Int) (hb:w.heap[b]?=some (.map es clock)) (hm:MapOk c es.toList clock):RepC P w F (.mp c) (.map (some b)) [b]
 | fmp (b:Nat) (es:Array MapEntry) (clock:Nat) (c:Key->Option Int) (hF:F b) (hb:w.heap[b]?=some (.map es clock)) (hm:MapOk c es.toList clock):RepC P w F (.fmp c) (.map (some b)) []
 | it (r b:Nat) (seen:Array Nat) (es:Array MapEntry) (clock:Nat) (c:Key->Option Int) (l:Option (Key × Int)) (rem:List (Key × Int)) (hr:w.heap[r]?=some (.mapIter (some b) clock seen clock)) (hF:F b)
   (hb:w.heap[b]?=some (.map es clock)) (hm:MapOk c es.toList clock) (hl:∀ p,l=some p->∃ e∈es.toList,(∃ s1:Array Nat,seen=s1.push e.born)/\(e.key,e.val)=entV p)
   (hrem:((leftOf es seen).toList.map fun e=>(e.key,e.val)).Perm (rem.map entV)):RepC P w F (.it l rem) (.pointer (some ⟨r,0,none⟩)) [r]
inductive RepL (P:Program) (w:World) (F:Nat->Prop):List AV->List Value->List Nat->Prop
 | nil (vs:List Value):RepL P w F [] vs []
 | cons (c:AV) (v:Value) (os:List Nat) (cs:List AV) (vs:List Value) (os':List Nat) (h:RepC P w F c v os) (t:RepL P w F cs vs os') :
   RepL P w F (c::cs) (v::vs) (os++os')
end
section
variable {P:Program} {w w':World} {F F':Nat->Prop}
mutual
theorem RepC.mono (hF:∀ b,F b->F' b) {c:AV} {v:Value} {os:List Nat} (h:RepC P w F c v os)
  (hw:∀ b,F b\/b∈os->w'.heap[b]?=w.heap[b]?):RepC P w' F' c v os:=by
 cases h with
 | any _ h=>exact .any _ h
 | val _ h=>exact .val _ h
 | sl0 base cap=>exact .sl0 base cap
 | sl b off n cap c e fr cs hb hh hl hn=>exact .sl b off n cap c e fr cs (hF b hb) ((hw b (.inl hb)).trans hh) (RepL.mono hF hl hw) hn
 | own0 e=>exact .own0 e
 | own b e n cap c cs os hh hn hc hl=>exact .own b e n cap c cs os ((hw b (.inr (by simp))).trans hh) hn hc (RepL.mono hF hl (fun x hx=>hw x (hx.imp id (fun h=>by simp [h]))))
 | ofs b k e n cap c cs os hh hn hl=>exact .ofs b k e n cap c cs os ((hw b (.inr (by simp))).trans hh) hn (RepL.mono hF hl (fun x hx=>hw x (hx.imp id (fun h=>by simp [h]))))
 | box b e c cs os hh hl=>exact .box b e c cs os ((hw b (.inr (by simp))).trans hh) (RepL.mono hF hl (fun x hx=>hw x (hx.imp id (fun h=>by simp [h]))))
 | fptr b off c e fr cs hb hh hl=>exact .fptr b off c e fr cs (hF b hb) ((hw b (.inl hb)).trans hh) (RepL.mono hF hl hw)
 | mp b es clock c hb hm=>exact .mp b es clock c ((hw b (.inr (by simp))).trans hb) hm
 | fmp b es clock c hb hh hm=>exact .fmp b es clock c (hF b hb) ((hw b (.inl hb)).trans hh) hm
 | it r b seen es clock c l rem hr hb hh hm hl hrem=>exact .it r b seen es clock c l rem ((hw r (.inr (by simp))).trans hr) (hF b hb) ((hw b (.inl hb)).trans hh) hm hl hrem
theorem RepL.mono (hF:∀ b,F b->F' b) {cs:List AV} {vs:List Value} {os:List Nat} (h:RepL P w F cs vs os)
  (hw:∀ b,F b\/b∈os->w'.heap[b]?=w.heap[b]?):RepL P w' F' cs vs os:=by
 cases h with
 | nil vs=>exact .nil vs
 | cons c v os cs vs os' h t=>exact .cons c v os cs vs os' (RepC.mono hF h (fun x hx=>hw x (hx.imp id (fun h=>by simp [h])))) (RepL.mono hF t (fun x hx=>hw x (hx.imp id (fun h=>by simp [h]))))
end
theorem RepL.drop0:∀ {k:Nat} {cs:List AV} {vs:List Value},RepL P w F cs vs []->RepL P w F (cs.drop k) (vs.drop k) []
 | 0,_,_,h=>h
 | k+1,[],_,h=>.nil _
 | k+1,c::cs,vs,h=>by
  generalize ho:([]:List Nat)=os at h
  cases h with
  | cons _ v o1 _ vs o2 h t =>
   obtain ⟨rfl,rfl⟩:=List.append_eq_nil_iff.1 ho.symm
   exact RepL.drop0 (k:=k) t
mutual
theorem RepC.frz (hF:∀ b,F b->F' b) {c:AV} {v:Value} {os:List Nat} (h:RepC P w F c v os) (ho:∀ b∈os,F' b):RepC P w F' (frz c) v []:=by
 cases h with
 | any _ h=>exact .any _ h
 | val _ h=>exact .val _ h
 | sl0 base cap=>exact .sl0 base cap
 | sl b off n cap c e fr cs hb hh hl hn=>exact .sl b off n cap c e fr cs (hF b hb) hh (RepL.mono hF hl (fun _ _=>rfl)) hn
 | own0 e=>exact .sl0 none 0
 | own b e n cap c cs os hh hn hc hl=>exact .sl b 0 n cap c e _ _ (ho b (by simp)) hh (by simpa using RepL.frz hF hl (fun x hx=>ho x (by simp [hx]))) hn
 | ofs b k e n cap c cs os hh hn hl=>exact .sl b k n cap c e _ _ (ho b (by simp)) hh (RepL.drop0 (RepL.frz hF hl (fun x hx=>ho x (by simp [hx])))) hn
 | box b e c cs os hh hl=>exact .fptr b 0 c e _ _ (ho b (by simp)) hh (by simpa using RepL.frz hF hl (fun x hx=>ho x (by simp [hx])))
 | fptr b off c e fr cs hb hh hl=>exact .fptr b off c e fr cs (hF b hb) hh (RepL.mono hF hl (fun _ _=>rfl))
 | mp b es clock c hb hm=>exact .fmp b es clock c (ho b (by simp)) hb hm
 | fmp b es clock c hb hh hm=>exact .fmp b es clock c (hF b hb) hh hm
 | it r b seen es clock c l rem hr hb hh hm hl hrem=>exact .any _ rfl
theorem RepL.frz (hF:∀ b,F b->F' b) {cs:List AV} {vs:List Value} {os:List Nat} (h:RepL P w F cs vs os) (ho:∀ b∈os,F' b):RepL P w F' (frzL cs) vs []:=by
 cases h with
 | nil vs=>exact .nil vs
 | cons c v os cs vs os' h t=>exact .cons _ v [] _ vs [] (RepC.frz hF h (fun x hx=>ho x (by simp [hx]))) (RepL.frz hF t (fun x hx=>ho x (by simp [hx])))
end
theorem RepC.oneCell {c:AV} {v:Value} {os:List Nat} (h:RepC P w F c v os):v.oneCell'=true:=by
 cases h <;> first | assumption | rfl
theorem RepL.length_le {cs:List AV} {vs:List Value} {os:List Nat} (h:RepL P w F cs vs os):cs.length<=vs.length:=by
 induction cs generalizing vs os with
 | nil=>exact Nat.zero_le _
 | cons c cs ih=>cases h with | cons c v os cs vs os' h t=>simpa using ih t
theorem RepL.get {cs:List AV} {vs:List Value} {os:List Nat} (h:RepL P w F cs vs os) {i:Nat} {c:AV} (hi:cs[i]?=some c) :
  ∃ v o1 ou o2,vs[i]?=some v/\RepC P w F c v ou/\os=o1++(ou++o2) /\
   (∀ (w':World) (F':Nat->Prop) c' ou' v',(∀ b,F b->F' b)->(∀ x,F x\/x∈o1\/x∈o2->w'.heap[x]?=w.heap[x]?)->RepC P w' F' c' v' ou' ->
    RepL P w' F' (cs.set i c') (vs.set i v') (o1++(ou'++o2))):=by
 induction cs generalizing vs os i with
 | nil=>simp at hi
 | cons d cs ih =>
  cases h with
  | cons d v os cs vs os' hd t =>
   cases i with
   | zero =>
    simp at hi; subst hi
    exact ⟨v,[],os,os',rfl,hd,by simp,fun w' F' c' ou' v' hF hw h'=>by simpa using RepL.cons _ _ _ _ _ _ h' (t.mono hF (fun x hx=>hw x (by rcases hx with h | h <;> simp [h])))⟩
   | succ i =>
    simp at hi
    obtain ⟨u,o1,ou,o2,e1,e2,e3,e4⟩:=ih t hi
    refine ⟨u,os++o1,ou,o2,by simpa using e1,e2,by simp [e3],fun w' F' c' ou' v' hF hw h'=>?_⟩
    have:=RepL.cons _ _ _ _ _ _ (hd.mono hF (fun x hx=>hw x (by rcases hx with h | h <;> simp [h]))) (e4 w' F' c' ou' v' hF (fun x hx=>hw x (by rcases hx with h | h | h <;> simp [h])) h')
    simpa using this
theorem RepL.append {cs ds:List AV} {vs us:List Value} {os os':List Nat} (h:RepL P w F cs vs os) (hl:cs.length=vs.length) (k:RepL P w F ds us os') :
  RepL P w F (cs++ds) (vs++us) (os++os'):=by
 induction cs generalizing vs os with
 | nil =>
  cases h with
  | nil vs=>have:vs=[]:=List.eq_nil_of_length_eq_zero hl.symm; subst this; simpa using k
 | cons c cs ih =>
  cases h with
  | cons c v os cs vs os' h t=>have:=RepL.cons _ _ _ _ _ _ h (ih t (by simpa using hl)); simpa using this
theorem RepL.take {cs:List AV} {vs:List Value} {os:List Nat} (h:RepL P w F cs vs os):RepL P w F cs (vs.take cs.length) os:=by
 induction cs generalizing vs os with
 | nil=>cases h; exact .nil _
 | cons c cs ih=>cases h with | cons c v os cs vs os' h t=>simpa using RepL.cons _ _ _ _ _ _ h (ih t)
theorem RepL.more {cs:List AV} {vs:List Value} {os:List Nat} (h:RepL P w F cs vs os) (us:List Value):RepL P w F cs (vs++us) os:=by
 induction cs generalizing vs os with
 | nil=>cases h; exact .nil _
 | cons c cs ih=>cases h with | cons c v os cs vs os' h t=>exact RepL.cons _ _ _ _ _ _ h (ih t)
theorem RepL.of_take {cs:List AV} {vs:List Value} {os:List Nat} {k:Nat} (h:RepL P w F cs (vs.take k) os):RepL P w F cs vs os:=by
 have:=h.more (vs.drop k); rwa [List.take_append_drop] at this
theorem RepL.drop {cs:List AV} {vs:List Value} (h:RepL P w F cs vs []) (k:Nat):RepL P w F (cs.drop k) (vs.drop k) []:=by
 induction cs generalizing vs k with
 | nil=>simp; exact .nil _
 | cons c cs ih =>
  cases k with
  | zero=>simpa using h
  | succ k =>
   generalize ho:([]:List Nat)=os0 at h
   cases h with
   | cons c v os cs vs os' h t =>
    obtain ⟨rfl,rfl⟩:=List.append_eq_nil_iff.1 ho.symm
    simpa using ih t k
theorem RepL.pref {cs:List AV} {vs:List Value} (h:RepL P w F cs vs []) (k:Nat):RepL P w F (cs.take k) vs []:=by
 induction cs generalizing vs k with
 | nil=>simpa using h
 | cons c cs ih =>
  cases k with
  | zero=>exact .nil _
  | succ k =>
   generalize ho:([]:List Nat)=os0 at h
   cases h with
   | cons c v os cs vs os' h t =>
    obtain ⟨rfl,rfl⟩:=List.append_eq_nil_iff.1 ho.symm
    exact RepL.cons _ _ [] _ _ [] h (ih t k)
theorem RepL.get0 {cs:List AV} {vs:List Value} (h:RepL P w F cs vs []) {i:Nat} {c:AV} (hi:cs[i]?=some c) :
  ∃ v,vs[i]?=some v/\RepC P w F c v []:=by
 obtain ⟨v,o1,ou,o2,e1,e2,e3,_⟩:=h.get hi
 obtain ⟨rfl,e4⟩:=List.append_eq_nil_iff.1 e3.symm
 obtain ⟨rfl,rfl⟩:=List.append_eq_nil_iff.1 e4
 exact ⟨v,e1,e2⟩
theorem RepL.oneCell {cs:List AV} {vs:List Value} {os:List Nat} (h:RepL P w F cs vs os):∀ v∈vs.take cs.length,v.oneCell'=true:=by
 induction cs generalizing vs os with
 | nil=>simp
 | cons c cs ih =>
  cases h with
  | cons c v os cs vs os' h t =>
   intro u hu
   simp at hu
   rcases hu with rfl | hu
   .exact h.oneCell
   .exact ih t u hu
end
end Go.Abs


namespace Go.Abs
open Go.RowKit (Below)
mutual
def kl (W:List Nat):AV->AV
 | .bor s p=>if W.contains s then .any else .bor s p
 | .ptr s p o=>if W.contains s then .any else .ptr s p o
 | .slp s p o n=>if W.contains s then .any else .slp s p o n
 | .agg cs=>.agg (klL W cs)
 | .tup cs=>.tup (klL W cs)
 | .fn f cs=>.fn f (klL W cs)
 | .any=>.any
 | .val v=>.val v
 | .sl n cs=>.sl n cs
 | .own e n cs=>.own e n cs
 | .ofs k e n cs=>.ofs k e n cs
 | .box e cs=>.box e cs
 | .fptr cs=>.fptr cs
 | .mp c=>.mp c
 | .fmp c=>.fmp c
 | .it l es=>.it l es
def klL (W:List Nat):List AV->List AV
 | []=>[]
 | c::cs=>kl W c::klL W cs
end
mutual
def kn (d:Nat):AV->AV
 | .bor s p=>if s=d && !p.isEmpty then .any else .bor s p
 | .ptr s p o=>if s=d && !p.isEmpty then .any else .ptr s p o
 | .slp s p o n=>if s=d && !p.isEmpty then .any else .slp s p o n
 | .agg cs=>.agg (knL d cs)
 | .tup cs=>.tup (knL d cs)
 | .fn f cs=>.fn f (knL d cs)
 | .any=>.any
 | .val v=>.val v
 | .sl n cs=>.sl n cs
 | .own e n cs=>.own e n cs
 | .ofs k e n cs=>.ofs k e n cs
 | .box e cs=>.box e cs
 | .fptr cs=>.fptr cs
 | .mp c=>.mp c
 | .fmp c=>.fmp c
 | .it l es=>.it l es
def knL (d:Nat):List AV->List AV
 | []=>[]
 | c::cs=>kn d c::knL d cs
end
def upd (d:Nat) (v:AV) (S:St):St:=fun i=>kl [d] (if i=d then v else S i)
def updn (d:Nat) (v:AV) (S:St):St:=fun i=>if i=d then v else kn d (S i)
def zaP:Value->Option Nat
 | .slice (some ⟨b,_,none⟩) _ _=>some b
 | .pointer (some ⟨b,0,none⟩)=>some b
 | _=>none
def zah (w:World) (X:List Nat):Value->List Nat->Value->Prop
 | v,[],u=>u=v
 | v,i::p,u=>∃ b c e fr v',zaP v=some b/\b∈X/\w.heap[b]?=some (.cells c e fr)/\c[i]?=some v'/\zah w X v' p u
theorem zaq {w:World} {X Y:List Nat} {p:List Nat}:∀ {v u u':Value},zah w X v p u->zah w Y v p u'->u=u':=by
 induction p with
 | nil=>intro v u u' h k; exact h.trans k.symm
 | cons i p ih =>
  intro v u u' h k
  obtain ⟨b,c,e,fr,v',h1,h2,h3,h4,h5⟩:=h
  obtain ⟨b',c',e',fr',v'',k1,k2,k3,k4,k5⟩:=k
  rw [h1] at k1; injection k1 with k1; subst k1
  rw [h3] at k3; injection k3 with k3; injection k3 with k3; subst k3
  rw [h4] at k4; injection k4 with k4; subst k4
  exact ih h5 k5
theorem zbJ {w w':World} {X Y:List Nat} {p:List Nat} (hXY:∀ b∈X,b∈Y) (hw:∀ b∈X,w'.heap[b]?=w.heap[b]?) :
  ∀ {v u:Value},zah w X v p u->zah w' Y v p u:=by
 induction p with
 | nil=>intro v u h; exact h
 | cons i p ih =>
  intro v u h
  obtain ⟨b,c,e,fr,v',h1,h2,h3,h4,h5⟩:=h
  exact ⟨b,c,e,fr,v',h1,hXY b h2,(hw b h2).trans h3,h4,ih h5⟩
def kids:AV->Option (List AV)
 | .own _ _ cs=>some cs
 | .ofs _ _ _ cs=>some cs
 | .box _ cs=>some cs
 | .mp _=>some []
 | .it _ _=>some []
 | _=>none
def zbr:AV->List AV->AV
 | .own e n _,cs=>.own e n cs
 | .ofs k e n _,cs=>.ofs k e n cs
 | .box e _,cs=>.box e cs
 | c,_=>c
def getP:AV->List Nat->Option AV
 | c,[]=>some c
 | c,i::p=>match kids c with
  | some cs=>match cs[i]? with
   | some c'=>getP c' p
   | none=>none
  | none=>none
def putP:AV->List Nat->AV->AV
 | _,[],d=>d
 | c,i::p,d=>match kids c with
  | some cs=>match cs[i]? with
   | some c'=>zbr c (cs.set i (putP c' p d))
   | none=>c
  | none=>c
mutual
inductive RepT (P:Program) (w:World) (F:Nat->Prop) (tm:Nat->Value) (oss:Nat->List Nat):AV->Value->List Nat->Prop
 | any (v:Value):RepT P w F tm oss .any v []
 | cell (c:AV) (v:Value) (os:List Nat) (h:RepC P w F c v os):RepT P w F tm oss c v os
 | agg (cs:List AV) (vs:List Value) (os:List Nat) (hl:cs.length=vs.length) (h:RepTL P w F tm oss cs vs os):RepT P w F tm oss (.agg cs) (.agg vs.toArray) os
 | tup (cs:List AV) (vs:List Value) (os:List Nat) (hl:cs.length=vs.length) (h:RepTL P w F tm oss cs vs os):RepT P w F tm oss (.tup cs) (.tuple vs.toArray) os
 | fn (f:FuncId) (cs:List AV) (vs:List Value) (os:List Nat) (hl:cs.length=vs.length) (h:RepTL P w F tm oss cs vs os):RepT P w F tm oss (.fn f cs) (.func (.func f) #[] vs.toArray) os
 | bor (s:Nat) (p:List Nat) (v:Value) (h:zah w (oss s) (tm s) p v):RepT P w F tm oss (.bor s p) v []
 | ptr (s:Nat) (p:List Nat) (off:Nat) (u:Value) (b:Nat) (h:zah w (oss s) (tm s) p u) (hb:zaP u=some b) :
   RepT P w F tm oss (.ptr s p off) (.pointer (some ⟨b,off,none⟩)) []
 | slp (s:Nat) (p:List Nat) (off n cap:Nat) (u:Value) (b:Nat) (h:zah w (oss s) (tm s) p u) (hb:zaP u=some b) (hn:n<=cap) :
   RepT P w F tm oss (.slp s p off n) (.slice (some ⟨b,off,none⟩) n cap) []
inductive RepTL (P:Program) (w:World) (F:Nat->Prop) (tm:Nat->Value) (oss:Nat->List Nat):List AV->List Value->List Nat->Prop
 | nil (vs:List Value):RepTL P w F tm oss [] vs []
 | cons (c:AV) (v:Value) (os:List Nat) (cs:List AV) (vs:List Value) (os':List Nat) (h:RepT P w F tm oss c v os) (t:RepTL P w F tm oss cs vs os') :
   RepTL P w F tm oss (c::cs) (v::vs) (os++os')
end
section
variable {P:Program} {w w':World} {F F':Nat->Prop} {tm tm':Nat->Value} {oss oss':Nat->List Nat}
mutual
theorem RepT.kl (W:List Nat) (hF:∀ b,F b->F' b) (hk:∀ s p u,¬ s∈W->zah w (oss s) (tm s) p u->zah w' (oss' s) (tm' s) p u)
  {c:AV} {v:Value} {os:List Nat} (h:RepT P w F tm oss c v os) (hw:∀ b,F b\/b∈os->w'.heap[b]?=w.heap[b]?) :
  RepT P w' F' tm' oss' (kl W c) v os:=by
 cases h with
 | any v=>exact .any v
 | cell c v os h =>
  have:=RepC.mono hF h hw
  cases h <;> exact .cell _ _ _ this
 | agg cs vs os hl h=>exact .agg _ vs os (by rw [<- hl]; clear h; induction cs generalizing vs with | nil=>rfl | cons c cs ih=>cases vs with | nil=>simp at hl | cons v vs=>simpa [Abs.klL] using ih vs (by simpa using hl)) (RepTL.kl W hF hk h hw)
 | tup cs vs os hl h=>exact .tup _ vs os (by rw [<- hl]; clear h; induction cs generalizing vs with | nil=>rfl | cons c cs ih=>cases vs with | nil=>simp at hl | cons v vs=>simpa [Abs.klL] using ih vs (by simpa using hl)) (RepTL.kl W hF hk h hw)
 | fn f cs vs os hl h=>exact .fn f _ vs os (by rw [<- hl]; clear h; induction cs generalizing vs with | nil=>rfl | cons c cs ih=>cases vs with | nil=>simp at hl | cons v vs=>simpa [Abs.klL] using ih vs (by simpa using hl)) (RepTL.kl W hF hk h hw)
 | bor s p v h =>
  rw [Abs.kl]
  by_cases hs:s∈W
  .rw [if_pos (by simpa using hs)]; exact .any _
  .rw [if_neg (by simpa using hs)]; exact .bor s p v (hk s p v hs h)
 | ptr s p off u b h hb =>
  rw [Abs.kl]
  by_cases hs:s∈W
  .rw [if_pos (by simpa using hs)]; exact .any _
  .rw [if_neg (by simpa using hs)]; exact .ptr s p off u b (hk s p u hs h) hb
 | slp s p off n cap u b h hb hn =>
  rw [Abs.kl]
  by_cases hs:s∈W
  .rw [if_pos (by simpa using hs)]; exact .any _
  .rw [if_neg (by simpa using hs)]; exact .slp s p off n cap u b (hk s p u hs h) hb hn
theorem RepTL.kl (W:List Nat) (hF:∀ b,F b->F' b) (hk:∀ s p u,¬ s∈W->zah w (oss s) (tm s) p u->zah w' (oss' s) (tm' s) p u)
  {cs:List AV} {vs:List Value} {os:List Nat} (h:RepTL P w F tm oss cs vs os) (hw:∀ b,F b\/b∈os->w'.heap[b]?=w.heap[b]?) :
  RepTL P w' F' tm' oss' (klL W cs) vs os:=by
 cases h with
 | nil vs=>exact .nil vs
 | cons c v os cs vs os' h t =>
  exact .cons _ v os _ vs os' (RepT.kl W hF hk h (fun x hx=>hw x (hx.imp id (fun h=>by simp [h])))) (RepTL.kl W hF hk t (fun x hx=>hw x (hx.imp id (fun h=>by simp [h]))))
end
mutual
theorem RepT.kn (d:Nat) (hF:∀ b,F b->F' b) (hk:∀ s p u,(s≠d\/p=[])->zah w (oss s) (tm s) p u->zah w' (oss' s) (tm' s) p u)
  {c:AV} {v:Value} {os:List Nat} (h:RepT P w F tm oss c v os) (hw:∀ b,F b\/b∈os->w'.heap[b]?=w.heap[b]?) :
  RepT P w' F' tm' oss' (kn d c) v os:=by
 cases h with
 | any v=>exact .any v
 | cell c v os h =>
  have:=RepC.mono hF h hw
  cases h <;> exact .cell _ _ _ this
 | agg cs vs os hl h=>exact .agg _ vs os (by rw [<- hl]; clear h; induction cs generalizing vs with | nil=>rfl | cons c cs ih=>cases vs with | nil=>simp at hl | cons v vs=>simpa [Abs.knL] using ih vs (by simpa using hl)) (RepTL.kn d hF hk h hw)
 | tup cs vs os hl h=>exact .tup _ vs os (by rw [<- hl]; clear h; induction cs generalizing vs with | nil=>rfl | cons c cs ih=>cases vs with | nil=>simp at hl | cons v vs=>simpa [Abs.knL] using ih vs (by simpa using hl)) (RepTL.kn d hF hk h hw)
 | fn f cs vs os hl h=>exact .fn f _ vs os (by rw [<- hl]; clear h; induction cs generalizing vs with | nil=>rfl | cons c cs ih=>cases vs with | nil=>simp at hl | cons v vs=>simpa [Abs.knL] using ih vs (by simpa using hl)) (RepTL.kn d hF hk h hw)
 | bor s p v h =>
  rw [Abs.kn]
  by_cases hs:(s=d && !p.isEmpty)=true
  .rw [if_pos hs]; exact .any _
  .rw [if_neg hs]; exact .bor s p v (hk s p v (by
    by_cases e:s=d
    .right; simpa [e] using hs
    .exact .inl e) h)
 | ptr s p off u b h hb =>
  rw [Abs.kn]
  by_cases hs:(s=d && !p.isEmpty)=true
  .rw [if_pos hs]; exact .any _
  .rw [if_neg hs]; exact .ptr s p off u b (hk s p u (by
    by_cases e:s=d
    .right; simpa [e] using hs
    .exact .inl e) h) hb
 | slp s p off n cap u b h hb hn =>
  rw [Abs.kn]
  by_cases hs:(s=d && !p.isEmpty)=true
  .rw [if_pos hs]; exact .any _
  .rw [if_neg hs]; exact .slp s p off n cap u b (hk s p u (by
    by_cases e:s=d
    .right; simpa [e] using hs
    .exact .inl e) h) hb hn
theorem RepTL.kn (d:Nat) (hF:∀ b,F b->F' b) (hk:∀ s p u,(s≠d\/p=[])->zah w (oss s) (tm s) p u->zah w' (oss' s) (tm' s) p u)
  {cs:List AV} {vs:List Value} {os:List Nat} (h:RepTL P w F tm oss cs vs os) (hw:∀ b,F b\/b∈os->w'.heap[b]?=w.heap[b]?) :
  RepTL P w' F' tm' oss' (knL d cs) vs os:=by
 cases h with
 | nil vs=>exact .nil vs
 | cons c v os cs vs os' h t =>
  exact .cons _ v os _ vs os' (RepT.kn d hF hk h (fun x hx=>hw x (hx.imp id (fun h=>by simp [h])))) (RepTL.kn d hF hk t (fun x hx=>hw x (hx.imp id (fun h=>by simp [h]))))
end
mutual
theorem zr8:∀ c:AV,kl [] c=c
 | .bor s p=>by simp [kl]
 | .ptr s p o=>by simp [kl]
 | .slp s p o n=>by simp [kl]
 | .agg cs=>by rw [kl,zcV cs]
 | .tup cs=>by rw [kl,zcV cs]
 | .fn f cs=>by rw [kl,zcV cs]
 | .any=>rfl
 | .val v=>rfl
 | .sl n cs=>rfl
 | .own e n cs=>rfl
 | .ofs k e n cs=>rfl
 | .box e cs=>rfl
 | .fptr cs=>rfl
 | .mp c=>rfl
 | .fmp c=>rfl
 | .it l es=>rfl
theorem zcV:∀ cs:List AV,klL [] cs=cs
 | []=>rfl
 | c::cs=>by rw [klL,zr8 c,zcV cs]
end
theorem RepT.mono (hF:∀ b,F b->F' b) (hk:∀ s p u,zah w (oss s) (tm s) p u->zah w' (oss' s) (tm' s) p u)
  {c:AV} {v:Value} {os:List Nat} (h:RepT P w F tm oss c v os) (hw:∀ b,F b\/b∈os->w'.heap[b]?=w.heap[b]?):RepT P w' F' tm' oss' c v os:=by
 have:=RepT.kl [] hF (fun s p u _=>hk s p u) h hw
 rwa [zr8] at this
theorem List.set_getElem?_self' {α:Type} {l:List α} {i:Nat} {v:α} (h:l[i]?=some v):l.set i v=l:=by
 apply List.ext_getElem?; intro j; rw [List.getElem?_set]; split
 .rename_i e; subst e; split
  .exact h.symm
  .rename_i hl; simp at hl; simp [List.getElem?_eq_none hl] at h
 .rfl
theorem RepC.at {c:AV} {p:List Nat}:∀ {v:Value} {os:List Nat} {c':AV},RepC P w F c v os->getP c p=some c' ->
  ∃ u o1 ou o2,zah w os v p u/\RepC P w F c' u ou/\os=o1++(ou++o2) /\
   (∀ (w':World) (F':Nat->Prop) c'' ou'',(∀ b,F b->F' b)->(∀ x,F x\/x∈o1\/x∈o2->w'.heap[x]?=w.heap[x]?)->RepC P w' F' c'' u ou'' ->
    RepC P w' F' (putP c p c'') v (o1++(ou''++o2))):=by
 induction p generalizing c with
 | nil =>
  intro v os c' h hg
  simp [getP] at hg; subst hg
  exact ⟨v,[],os,[],rfl,h,by simp,fun w' F' c'' ou'' _ _ h=>by simpa [putP] using h⟩
 | cons i p ih =>
  intro v os c' h hg
  simp only [getP] at hg
  cases hk:kids c with
  | none=>simp [hk] at hg
  | some cs =>
   cases hi:cs[i]? with
   | none=>simp [hk,hi] at hg
   | some ci =>
    simp only [hk,hi] at hg
    have key:∃ b e cc ol,zaP v=some b/\os=b::ol/\w.heap[b]?=some (.cells cc e (0,0))/\RepL P w F cs cc.toList ol /\
      (∀ (w':World) (F':Nat->Prop) cs' ol',w'.heap[b]?=w.heap[b]?->RepL P w' F' cs' cc.toList ol'->RepC P w' F' (zbr c cs') v (b::ol')):=by
     cases h with
     | own b e n cap cc cs0 ol hb hn hc hl =>
      simp [kids] at hk; subst hk
      exact ⟨b,e,cc,ol,rfl,rfl,hb,hl,fun w' F' cs' ol' hh hl'=>.own b e n cap cc cs' ol' (hh.trans hb) hn hc hl'⟩
     | ofs b k e n cap cc cs0 ol hb hn hl =>
      simp [kids] at hk; subst hk
      exact ⟨b,e,cc,ol,rfl,rfl,hb,hl,fun w' F' cs' ol' hh hl'=>.ofs b k e n cap cc cs' ol' (hh.trans hb) hn hl'⟩
     | box b e cc cs0 ol hb hl =>
      simp [kids] at hk; subst hk
      exact ⟨b,e,cc,ol,rfl,rfl,hb,hl,fun w' F' cs' ol' hh hl'=>.box b e cc cs' ol' (hh.trans hb) hl'⟩
     | own0 e=>simp [kids] at hk; subst hk; simp at hi
     | mp=>simp [kids] at hk; subst hk; simp at hi
     | it=>simp [kids] at hk; subst hk; simp at hi
     | _=>simp [kids] at hk
    obtain ⟨b,e,cc,ol,kb,rfl,kh,kl,kset⟩:=key
    obtain ⟨vi,l1,lu,l2,e1,e2,e3,e4⟩:=RepL.get kl hi
    obtain ⟨u,o1,ou,o2,f1,f2,f3,f4⟩:=ih e2 hg
    refine ⟨u,b::(l1++o1),ou,o2++l2,⟨b,cc,e,(0,0),vi,kb,by simp,kh,by simpa using e1,zbJ (fun x hx=>by simp [e3,hx]) (fun _ _=>rfl) f1⟩,f2,by simp [e3,f3],?_⟩
    intro w' F' c'' ou'' hF hw hr
    have g:=f4 w' F' c'' ou'' hF (fun x hx=>hw x (by rcases hx with h | h | h <;> simp [h])) hr
    have kl':RepL P w' F' (cs.set i (putP ci p c'')) cc.toList (l1++((o1++(ou''++o2))++l2)):=by
     have:=e4 w' F' (putP ci p c'') (o1++(ou''++o2)) vi hF (fun x hx=>hw x (by rcases hx with h | h | h <;> simp [h])) g
     rwa [List.set_getElem?_self' e1] at this
    have:=kset w' F' _ _ (hw b (by simp)) kl'
    simpa [putP,hk,hi] using this
end
end Go.Abs


namespace Go.Abs
open Go.RowKit (Below)
def tmo (a:Act):Nat->Value:=fun i=>a.tmps.getD i undef
def ins (oss:Nat->List Nat) (d:Nat) (od:List Nat):Nat->List Nat:=fun i=>if i=d then od else oss i
class DrawK where
 k:Nat
variable [DrawK]
def dK:Nat:=DrawK.k
theorem zbk (n:Nat):n*dK<=(n+1)*dK:=Nat.mul_le_mul_right _ (Nat.le_succ n)
structure Ext (G:Nat->Prop) (w w':World):Prop where
 os:w'.os=w.os
 tape:w'.tape=w.tape
 output:w'.output=w.output
 size:w.heap.size<=w'.heap.size
 block:∀ k,G k->w'.heap[k]?=w.heap[k]?
 drawn:w.drawn*dK<=w'.drawn*dK
theorem Ext.refl (G:Nat->Prop) (w:World):Ext G w w:=⟨rfl,rfl,rfl,Nat.le_refl _,fun _ _=>rfl,Nat.le_refl _⟩
theorem Ext.trans {G:Nat->Prop} {a b c:World} (h:Ext G a b) (k:Ext G b c):Ext G a c :=
 ⟨k.os.trans h.os,k.tape.trans h.tape,k.output.trans h.output,Nat.le_trans h.size k.size,fun i hi=>(k.block i hi).trans (h.block i hi),Nat.le_trans h.drawn k.drawn⟩
theorem Ext.below {w w':World} (h:Ext (fun b=>b<w.heap.size) w w'):Below w.heap.size w w':=⟨h.os,h.tape,h.output,h.size,h.block⟩
def OkD (N:Nat × List Nat) (d:Nat):Prop:=d<N.1/\d ∉ N.2
instance (N:Nat × List Nat) (d:Nat):Decidable (OkD N d):=inferInstanceAs (Decidable (_/\_))
structure W0 where
 w:World
 v:Nat->Value
 f:Nat->Prop
structure Core (P:Program) (N:Nat × List Nat) (G:Nat->Prop) (w0:W0) (S:St) (a:Act) (w:World) (F:Nat->Prop) (oss:Nat->List Nat) (X:List Nat):Prop where
 sz:a.tmps.size=N.1
 kp:∀ i,i∈N.2->tmo a i=w0.2 i
 df:a.defers=[]
 ext:Ext G w0.1 w
 fB:∀ b,w0.3 b->F b
 fN:∀ b,F b->w0.3 b\/¬ G b
 gw:∀ b,G b->b<w.heap.size
 oG:∀ i b,b∈oss i->¬ G b
 xG:∀ b,b∈X->¬ G b
 fw:∀ b,F b->b<w.heap.size
 rep:∀ i,RepT P w F (tmo a) oss (S i) (tmo a i) (oss i)
 own:∀ i b,b∈oss i->¬ F b/\b<w.heap.size
 nd:∀ i,(oss i).Nodup
 dj:∀ i j b,b∈oss i->b∈oss j->i=j
 xo:∀ b,b∈X->¬ F b/\b<w.heap.size
 xn:X.Nodup
 xd:∀ i b,b∈X->b∈oss i->False
def StRel (P:Program) (N:Nat × List Nat) (G:Nat->Prop) (w0:W0) (S:St) (a:Act) (w:World):Prop:=∃ F oss,Core P N G w0 S a w F oss []
section
variable {P:Program} {N:Nat × List Nat} {G:Nat->Prop} {w0:W0} {w w':World} {S:St} {a:Act} {F F':Nat->Prop} {oss:Nat->List Nat} {X X':List Nat}
theorem Core.st (h:Core P N G w0 S a w F oss X):StRel P N G w0 S a w :=
 ⟨F,oss,{ h with xo:=by simp,xn:=by simp,xd:=by simp,xG:=by simp }⟩
theorem zma {s:Nat} (h:Core P N G w0 S a w F oss X) (hw:∀ b,b<w.heap.size->b ∉ X->w'.heap[b]?=w.heap[b]?) {p:List Nat} {v u:Value}
  (k:zah w (oss s) v p u):zah w' (oss s) v p u :=
 zbJ (fun _ h=>h) (fun b hb=>hw b (h.own s b hb).2 (fun hx=>h.xd s b hx hb)) k
theorem Core.world (h:Core P N G w0 S a w F oss X) (ho:w'.os=w.os) (ht:w'.tape=w.tape) (hp:w'.output=w.output/\w.drawn*dK<=w'.drawn*dK) (hs:w.heap.size<=w'.heap.size)
  (hw:∀ b,b<w.heap.size->b ∉ X->w'.heap[b]?=w.heap[b]?) (hF:∀ b,F b->F' b) (hF':∀ b,F' b->F b\/((b∈X\/w.heap.size<=b)/\b<w'.heap.size))
  (hX:∀ b,b∈X'->(b∈X\/w.heap.size<=b)/\b<w'.heap.size/\¬ F' b) (hn:X'.Nodup):Core P N G w0 S a w' F' oss X' where
 sz:=h.sz
 kp:=h.kp
 df:=h.df
 ext:=h.ext.trans ⟨ho,ht,hp.1,hs,fun b hb=>hw b (h.gw b hb) (fun hx=>h.xG b hx hb),hp.2⟩
 fB:=fun b hb=>hF b (h.fB b hb)
 fN:=fun b hb=>by
  rcases hF' b hb with h1 | ⟨h1 | h1,_⟩
  .exact h.fN b h1
  .exact .inr (h.xG b h1)
  .exact .inr fun hg=>by have:=h.gw b hg; omega
 gw:=fun b hb=>Nat.lt_of_lt_of_le (h.gw b hb) hs
 oG:=h.oG
 xG:=fun b hb hg=>by
  rcases (hX b hb).1 with h1 | h1
  .exact h.xG b h1 hg
  .have:=h.gw b hg; omega
 fw:=fun b hb=>by
  rcases hF' b hb with h1 | h1
  .have:=h.fw b h1; omega
  .exact h1.2
 rep:=fun i=>RepT.mono hF (fun s p u k=>zma h hw k) (h.rep i) (fun b hb=>by
  rcases hb with hb | hb
  .exact hw b (h.fw b hb) (fun hx=>(h.xo b hx).1 hb)
  .exact hw b (h.own i b hb).2 (fun hx=>h.xd i b hx hb))
 own:=fun i b hb=>⟨fun hf=>by
  rcases hF' b hf with h1 | ⟨h1 | h1,_⟩
  .exact (h.own i b hb).1 h1
  .exact h.xd i b h1 hb
  .have:=(h.own i b hb).2; omega,by have:=(h.own i b hb).2; omega⟩
 nd:=h.nd
 dj:=h.dj
 xo:=fun b hb=>⟨(hX b hb).2.2,(hX b hb).2.1⟩
 xn:=hn
 xd:=fun i b hx hb=>by
  rcases (hX b hx).1 with h1 | h1
  .exact h.xd i b h1 hb
  .have:=(h.own i b hb).2; omega
theorem Core.put' (h:Core P N G w0 S a w F oss X) {d:Nat} (hd:d<N.1) {v:Value} (hd2:d ∉ N.2\/v=tmo a d) {c:AV} {od:List Nat} (hr:RepT P w F (tmo a) oss c v od)
  (ho:∀ b,b∈od->b∈X) (hn:od.Nodup) (hX:∀ b,b∈X'->b∈X/\b ∉ od) (hn':X'.Nodup) :
  Core P N G w0 (upd d c S) (a.put (some d) v) w F (ins oss d od) X' where
 sz:=by simp [Act.put,h.sz]
 kp:=fun i hi=>by
  by_cases e:i=d
  .subst e
   have hv:v=tmo a i:=hd2.resolve_left (fun h=>h hi)
   have hl:i<a.tmps.size:=by rw [h.sz]; exact hd
   rw [<- h.kp i hi,<- hv]
   simp [tmo,Act.put,hl]
  .rw [<- h.kp i hi]
   simp [tmo,Act.put,Array.getElem?_setIfInBounds_ne (Ne.symm e)]
 df:=h.df
 ext:=h.ext
 fB:=h.fB
 fN:=h.fN
 gw:=h.gw
 oG:=fun i b hb=>by
  unfold ins at hb; split at hb
  .exact h.xG b (ho b hb)
  .exact h.oG i b hb
 xG:=fun b hb=>h.xG b (hX b hb).1
 fw:=h.fw
 rep:=fun i=>by
  have key:∀ s p u,¬ s∈[d]->zah w (oss s) (tmo a s) p u->zah w (ins oss d od s) (tmo (a.put (some d) v) s) p u:=by
   intro s p u hs k
   have hs:s≠d:=by simpa using hs
   have e1:ins oss d od s=oss s:=by simp [ins,hs]
   have e2:tmo (a.put (some d) v) s=tmo a s:=by
    simp [tmo,Act.put,Array.getElem?_setIfInBounds_ne (Ne.symm hs)]
   rw [e1,e2]; exact k
  by_cases hi:i=d
  .subst hi
   have e1:ins oss i od i=od:=by simp [ins]
   have e2:tmo (a.put (some i) v) i=v:=by
    have:i<a.tmps.size:=by rw [h.sz]; exact hd
    simp [tmo,Act.put,this]
   rw [e1,e2]
   show RepT P w F _ _ (kl [i] (if i=i then c else _)) v od
   rw [if_pos rfl]
   exact RepT.kl [i] (fun _ h=>h) key hr (fun _ _=>rfl)
  .have e1:ins oss d od i=oss i:=by simp [ins,hi]
   have e2:tmo (a.put (some d) v) i=tmo a i:=by
    simp [tmo,Act.put,Array.getElem?_setIfInBounds_ne (Ne.symm hi)]
   rw [e1,e2]
   show RepT P w F _ _ (kl [d] (if i=d then c else S i)) _ _
   rw [if_neg hi]
   exact RepT.kl [d] (fun _ h=>h) key (h.rep i) (fun _ _=>rfl)
 own:=fun i b hb=>by
  unfold ins at hb; split at hb
  .exact h.xo b (ho b hb)
  .exact h.own i b hb
 nd:=fun i=>by unfold ins; split; exact hn; exact h.nd i
 dj:=fun i j b hi hj=>by
  unfold ins at hi hj
  split at hi <;> split at hj
  .omega
  .exact (h.xd j b (ho b hi) hj).elim
  .exact (h.xd i b (ho b hj) hi).elim
  .exact h.dj i j b hi hj
 xo:=fun b hb=>h.xo b (hX b hb).1
 xn:=hn'
 xd:=fun i b hx hb=>by
  unfold ins at hb; split at hb
  .exact (hX b hx).2 hb
  .exact h.xd i b (hX b hx).1 hb
theorem Core.put (h:Core P N G w0 S a w F oss X) {d:Nat} (hd:OkD N d) {c:AV} {v:Value} {od:List Nat} (hr:RepT P w F (tmo a) oss c v od)
  (ho:∀ b,b∈od->b∈X) (hn:od.Nodup) (hX:∀ b,b∈X'->b∈X/\b ∉ od) (hn':X'.Nodup) :
  Core P N G w0 (upd d c S) (a.put (some d) v) w F (ins oss d od) X':=h.put' hd.1 (.inl hd.2) hr ho hn hX hn'
theorem Core.take (h:Core P N G w0 S a w F oss X) (t:Nat) :
  Core P N G w0 (upd t .any S) a w F (ins oss t []) (oss t++X)/\RepT P w F (tmo a) (ins oss t []) (kl [t] (S t)) (tmo a t) (oss t):=by
 have key:∀ s p u,¬ s∈[t]->zah w (oss s) (tmo a s) p u->zah w (ins oss t [] s) (tmo a s) p u:=by
  intro s p u hs k
  have hs:s≠t:=by simpa using hs
  have e1:ins oss t [] s=oss s:=by simp [ins,hs]
  rw [e1]; exact k
 have oG':∀ i b,b∈ins oss t [] i->¬ G b:=fun i b hb=>by
  unfold ins at hb; split at hb
  .simp at hb
  .exact h.oG i b hb
 have xG':∀ b,b∈oss t++X->¬ G b:=fun b hb=>(List.mem_append.1 hb).elim (h.oG t b) (h.xG b)
 refine ⟨{ sz:=h.sz,kp:=h.kp,df:=h.df,ext:=h.ext,fB:=h.fB,fN:=h.fN,gw:=h.gw,oG:=oG',xG:=xG',fw:=h.fw,rep:=fun i=>?_,own:=fun i b hb=>?_,nd:=fun i=>?_,dj:=fun i j b hi hj=>?_,xo:=fun b hb=>?_,xn:=?_,xd:=fun i b hx hb=>?_ },?_⟩
 .show RepT P w F _ _ (kl [t] (if i=t then .any else S i)) _ (if i=t then [] else oss i)
  split
  .exact .any _
  .exact RepT.kl [t] (fun _ h=>h) key (h.rep i) (fun _ _=>rfl)
 .unfold ins at hb; split at hb
  .simp at hb
  .exact h.own i b hb
 .unfold ins; split; exact List.nodup_nil; exact h.nd i
 .unfold ins at hi hj
  split at hi
  .simp at hi
  .split at hj
   .simp at hj
   .exact h.dj i j b hi hj
 .rcases List.mem_append.1 hb with hb | hb
  .exact h.own t b hb
  .exact h.xo b hb
 .exact List.nodup_append.2 ⟨h.nd t,h.xn,fun x hx y hy e=>h.xd t x (e ▸ hy) hx⟩
 .unfold ins at hb; split at hb
  .simp at hb
  .rename_i hne
   rcases List.mem_append.1 hx with hx | hx
   .exact hne (h.dj i t b hb hx)
   .exact h.xd i b hx hb
 .exact RepT.kl [t] (fun _ h=>h) key (h.rep t) (fun _ _=>rfl)
theorem RepT.ofKids {c:AV} {v:Value} {os:List Nat} {tm:Nat->Value} (h:RepT P w F tm oss c v os) (hk:kids c≠none):RepC P w F c v os:=by
 cases h with
 | cell c v os h=>exact h
 | _=>simp [kids] at hk
theorem Core.inplace (h:Core P N G w0 S a w F oss X) {s:Nat} {p:List Nat} {c':AV} (hk:kids (S s)≠none) (hg:getP (S s) p=some c') :
  ∃ u o1 ou o2,zah w (oss s) (tmo a s) p u/\RepC P w F c' u ou/\oss s=o1++(ou++o2)/\(∀ b,b∈ou->¬ F b/\b<w.heap.size/\b ∉ X)/\ou.Nodup /\
   ∀ (w':World) (F':Nat->Prop) c'' ou'' X',w'.os=w.os->w'.tape=w.tape->(w'.output=w.output/\w.drawn*dK<=w'.drawn*dK)->w.heap.size<=w'.heap.size ->
    (∀ b,b<w.heap.size->b ∉ X->b ∉ ou->w'.heap[b]?=w.heap[b]?)->(∀ b,F b->F' b) ->
    (∀ b,F' b->F b\/((b∈X\/b∈ou\/w.heap.size<=b)/\b<w'.heap.size)) ->
    RepC P w' F' c'' u ou''->(∀ b,b∈ou''->(b∈X\/b∈ou\/w.heap.size<=b)/\b<w'.heap.size/\¬ F' b)->ou''.Nodup ->
    (∀ b,b∈X'->(b∈X\/b∈ou\/w.heap.size<=b)/\b<w'.heap.size/\¬ F' b/\b ∉ ou'')->X'.Nodup ->
    Core P N G w0 (updn s (putP (S s) p c'') S) a w' F' (ins oss s (o1++(ou''++o2))) X':=by
 have hr:=(h.rep s).ofKids hk
 obtain ⟨u,o1,ou,o2,k1,k2,k3,k4⟩:=RepC.at hr hg
 have hnd:=h.nd s
 rw [k3] at hnd
 have n1:=List.nodup_append.1 hnd
 have n2:=List.nodup_append.1 n1.2.1
 have hou:∀ b,b∈ou->b∈oss s:=fun b hb=>by rw [k3]; simp [hb]
 have ho1:∀ b,b∈o1->b∈oss s:=fun b hb=>by rw [k3]; simp [hb]
 have ho2:∀ b,b∈o2->b∈oss s:=fun b hb=>by rw [k3]; simp [hb]
 refine ⟨u,o1,ou,o2,k1,k2,k3,fun b hb=>⟨(h.own s b (hou b hb)).1,(h.own s b (hou b hb)).2,fun hx=>h.xd s b hx (hou b hb)⟩,n2.1,?_⟩
 intro w' F' c'' ou'' X' ho ht hp hs hw hF hF' hc ho'' hn'' hX hXn
 have hother:∀ i b,i≠s->b∈oss i->w'.heap[b]?=w.heap[b]?:=fun i b hi hb =>
  hw b (h.own i b hb).2 (fun hx=>h.xd i b hx hb) (fun hx=>hi (h.dj i s b hb (hou b hx)))
 have hFF:∀ b,F b->w'.heap[b]?=w.heap[b]?:=fun b hb =>
  hw b (h.fw b hb) (fun hx=>(h.xo b hx).1 hb) (fun hx=>(h.own s b (hou b hx)).1 hb)
 have h12:∀ b,b∈o1\/b∈o2->w'.heap[b]?=w.heap[b]?:=fun b hb=>by
  have hbs:b∈oss s:=hb.elim (ho1 b) (ho2 b)
  refine hw b (h.own s b hbs).2 (fun hx=>h.xd s b hx hbs) (fun hx=>?_)
  rcases hb with hb | hb
  .exact n1.2.2 b hb b (by simp [hx]) rfl
  .exact n2.2.2 b hx b hb rfl
 have hnot:∀ i b,b∈oss i->(i≠s\/b∈o1\/b∈o2)->¬ (b∈X\/b∈ou\/w.heap.size<=b):=by
  intro i b hb hc hx
  rcases hx with hx | hx | hx
  .exact h.xd i b hx hb
  .rcases hc with hc | hc | hc
   .exact hc (h.dj i s b hb (hou b hx))
   .exact n1.2.2 b hc b (by simp [hx]) rfl
   .exact n2.2.2 b hx b hc rfl
  .have:=(h.own i b hb).2; omega
 have hown:∀ i b,b∈oss i->(i≠s\/b∈o1\/b∈o2)->¬ F' b/\b<w'.heap.size:=by
  intro i b hb hc
  refine ⟨fun hf=>?_,by have:=(h.own i b hb).2; omega⟩
  rcases hF' b hf with h1 | ⟨h1,_⟩
  .exact (h.own i b hb).1 h1
  .exact hnot i b hb hc h1
 have hnG:∀ b,b∈X\/b∈ou\/w.heap.size<=b->¬ G b:=fun b hb hg=>by
  rcases hb with hb | hb | hb
  .exact h.xG b hb hg
  .exact h.oG s b (hou b hb) hg
  .have:=h.gw b hg; omega
 have oG':∀ i b,b∈ins oss s (o1++(ou''++o2)) i->¬ G b:=fun i b hb=>by
  unfold ins at hb; split at hb
  .rcases List.mem_append.1 hb with hb | hb
   .exact h.oG s b (ho1 b hb)
   .rcases List.mem_append.1 hb with hb | hb
    .exact hnG b (ho'' b hb).1
    .exact h.oG s b (ho2 b hb)
  .exact h.oG i b hb
 refine { sz:=h.sz,kp:=h.kp,df:=h.df,ext:=?_,fB:=fun b hb=>hF b (h.fB b hb),fN:=fun b hb=>(hF' b hb).elim (h.fN b) (fun h1=>.inr (hnG b h1.1)),gw:=fun b hb=>Nat.lt_of_lt_of_le (h.gw b hb) hs,oG:=oG',xG:=fun b hb=>hnG b (hX b hb).1,fw:=fun b hb=>?_,rep:=fun i=>?_,own:=fun i b hb=>?_,nd:=fun i=>?_,dj:=fun i j b hi hj=>?_,xo:=fun b hb=>⟨(hX b hb).2.2.1,(hX b hb).2.1⟩,xn:=hXn,xd:=fun i b hx hb=>?_ }
 .exact h.ext.trans ⟨ho,ht,hp.1,hs,fun b hb=>hw b (h.gw b hb) (fun hx=>h.xG b hx hb) (fun hx=>h.oG s b (hou b hx) hb),hp.2⟩
 .rcases hF' b hb with h1 | h1
  .have:=h.fw b h1; omega
  .exact h1.2
 .show RepT P w' F' _ _ (if i=s then putP (S s) p c'' else kn s (S i)) _ (if i=s then _ else oss i)
  have key:∀ s' p' u',(s'≠s\/p'=[])->zah w (oss s') (tmo a s') p' u'->zah w' (ins oss s (o1++(ou''++o2)) s') (tmo a s') p' u':=by
   intro s' p' u' hc k
   by_cases e:s'=s
   .rcases hc with hc | rfl
    .exact (hc e).elim
    .exact k
   .have e1:ins oss s (o1++(ou''++o2)) s'=oss s':=by simp [ins,e]
    rw [e1]
    exact zbJ (fun _ h=>h) (fun b hb=>hother s' b e hb) k
  split
  .rename_i e; subst e
   exact .cell _ _ _ (k4 w' F' c'' ou'' hF (fun x hx=>by
    rcases hx with hx | hx
    .exact hFF x hx
    .exact h12 x hx) hc)
  .rename_i e
   exact RepT.kn s hF key (h.rep i) (fun b hb=>by
    rcases hb with hb | hb
    .exact hFF b hb
    .exact hother i b e hb)
 .unfold ins at hb; split at hb
  .rename_i e; subst e
   rcases List.mem_append.1 hb with hb | hb
   .exact hown i b (ho1 b hb) (.inr (.inl hb))
   .rcases List.mem_append.1 hb with hb | hb
    .exact ⟨(ho'' b hb).2.2,(ho'' b hb).2.1⟩
    .exact hown i b (ho2 b hb) (.inr (.inr hb))
  .rename_i e
   exact hown i b hb (.inl e)
 .unfold ins; split
  .refine List.nodup_append.2 ⟨n1.1,List.nodup_append.2 ⟨hn'',n2.2.1,fun x hx y hy e=>?_⟩,fun x hx y hy e=>?_⟩
   .subst e; exact hnot s x (ho2 x hy) (.inr (.inr hy)) (ho'' x hx).1
   .subst e
    rcases List.mem_append.1 hy with hy | hy
    .exact hnot s x (ho1 x hx) (.inr (.inl hx)) (ho'' x hy).1
    .exact n1.2.2 x hx x (by simp [hy]) rfl
  .exact h.nd i
 .have old:∀ b,b∈o1++(ou''++o2)->(b∈oss s/\(b∈o1\/b∈o2))\/b∈ou'':=fun b hb=>by
   rcases List.mem_append.1 hb with hb | hb
   .exact .inl ⟨ho1 b hb,.inl hb⟩
   .rcases List.mem_append.1 hb with hb | hb
    .exact .inr hb
    .exact .inl ⟨ho2 b hb,.inr hb⟩
  unfold ins at hi hj
  split at hi <;> split at hj
  .omega
  .rename_i e1 e2
   rcases old b hi with ⟨h1,_⟩ | h1
   .exact (e2 (h.dj j s b hj h1)).elim
   .exact (hnot j b hj (.inl e2) (ho'' b h1).1).elim
  .rename_i e1 e2
   rcases old b hj with ⟨h1,_⟩ | h1
   .exact (e1 (h.dj i s b hi h1)).elim
   .exact (hnot i b hi (.inl e1) (ho'' b h1).1).elim
  .exact h.dj i j b hi hj
 .unfold ins at hb; split at hb
  .rcases List.mem_append.1 hb with hb | hb
   .exact hnot s b (ho1 b hb) (.inr (.inl hb)) (hX b hx).1
   .rcases List.mem_append.1 hb with hb | hb
    .exact (hX b hx).2.2.2 hb
    .exact hnot s b (ho2 b hb) (.inr (.inr hb)) (hX b hx).1
  .rename_i e
   exact hnot i b hb (.inl e) (hX b hx).1
theorem Core.takeP (h:Core P N G w0 S a w F oss X) {s:Nat} {p:List Nat} {c':AV} (hk:kids (S s)≠none) (hg:getP (S s) p=some c') :
  ∃ u ou oss',zah w (oss s) (tmo a s) p u/\RepC P w F c' u ou/\Core P N G w0 (updn s (putP (S s) p .any) S) a w F oss' (ou++X):=by
 obtain ⟨u,o1,ou,o2,k1,k2,k3,k4,k5,k6⟩:=h.inplace hk hg
 exact ⟨u,ou,_,k1,k2,k6 w F .any [] (ou++X) rfl rfl ⟨rfl,Nat.le_refl _⟩ (Nat.le_refl _) (fun _ _ _ _=>rfl) (fun _ h=>h) (fun _ h=>.inl h) (.any _ k2.oneCell) (by simp) List.nodup_nil
  (fun b hb=>by
   rcases List.mem_append.1 hb with hb | hb
   .exact ⟨.inr (.inl hb),(k4 b hb).2.1,(k4 b hb).1,by simp⟩
   .exact ⟨.inl hb,(h.xo b hb).2,(h.xo b hb).1,by simp⟩)
  (List.nodup_append.2 ⟨k5,h.xn,fun x hx y hy e=>(k4 x hx).2.2 (e ▸ hy)⟩)⟩
theorem Core.frzP (h:Core P N G w0 S a w F oss X) {s:Nat} {p:List Nat} {c':AV} (hk:kids (S s)≠none) (hg:getP (S s) p=some c') :
  ∃ (u:Value) (ou:List Nat) (F':Nat->Prop) (oss':Nat->List Nat),zah w (oss s) (tmo a s) p u/\RepC P w F' (frz c') u []/\(∀ b,F b->F' b)/\(∀ b,b∈ou->F' b)/\Core P N G w0 (updn s (putP (S s) p (frz c')) S) a w F' oss' X:=by
 obtain ⟨u,o1,ou,o2,k1,k2,k3,k4,k5,k6⟩:=h.inplace hk hg
 have hf:RepC P w (fun b=>F b\/b∈ou) (frz c') u []:=k2.frz (fun _ h=>.inl h) (fun _ h=>.inr h)
 exact ⟨u,ou,fun b=>F b\/b∈ou,_,k1,hf,fun _ h=>.inl h,fun _ h=>.inr h,
  k6 w (fun b=>F b\/b∈ou) (frz c') [] X rfl rfl ⟨rfl,Nat.le_refl _⟩ (Nat.le_refl _) (fun _ _ _ _=>rfl) (fun _ h=>.inl h) (fun b h=>h.imp id (fun h=>⟨.inr (.inl h),(k4 b h).2.1⟩)) hf (by simp) List.nodup_nil
  (fun b hb=>⟨.inl hb,(h.xo b hb).2,fun hx=>hx.elim (h.xo b hb).1 (fun hx=>(k4 b hx).2.2 hb),by simp⟩) h.xn⟩
end
end Go.Abs


namespace Go.Abs
variable [DrawK]
open Go.RowKit (Below)
def kpB (q:List (List Nat)) (p:List Nat):Bool:=if q.isEmpty then decide (p.length<2) else p.isEmpty || q.contains p
mutual
def kn1 (d:Nat) (q:List (List Nat)):AV->AV
 | .bor s p=>if s=d && !kpB q p then .any else .bor s p
 | .ptr s p o=>if s=d && !kpB q p then .any else .ptr s p o
 | .slp s p o n=>if s=d && !kpB q p then .any else .slp s p o n
 | .agg cs=>.agg (kn1L d q cs)
 | .tup cs=>.tup (kn1L d q cs)
 | .fn f cs=>.fn f (kn1L d q cs)
 | .any=>.any
 | .val v=>.val v
 | .sl n cs=>.sl n cs
 | .own e n cs=>.own e n cs
 | .ofs k e n cs=>.ofs k e n cs
 | .box e cs=>.box e cs
 | .fptr cs=>.fptr cs
 | .mp c=>.mp c
 | .fmp c=>.fmp c
 | .it l es=>.it l es
def kn1L (d:Nat) (q:List (List Nat)):List AV->List AV
 | []=>[]
 | c::cs=>kn1 d q c::kn1L d q cs
end
def updn1 (d:Nat) (v:AV) (q:List (List Nat)) (S:St):St:=fun i=>if i=d then v else kn1 d q (S i)
section
variable {P:Program} {w w':World} {F F':Nat->Prop} {oss oss':Nat->List Nat} {tm:Nat->Value} {q:List (List Nat)}
theorem zfc (d:Nat):∀ cs:List AV,(kn1L d q cs).length=cs.length
 | []=>rfl
 | c::cs=>by simp [kn1L,zfc d cs]
mutual
theorem RepT.kn1 (d:Nat) (hF:∀ b,F b->F' b) (hk:∀ s p u,(s≠d\/kpB q p=true)->zah w (oss s) (tm s) p u->zah w' (oss' s) (tm s) p u)
  {c:AV} {v:Value} {os:List Nat} (h:RepT P w F tm oss c v os) (hw:∀ b,F b\/b∈os->w'.heap[b]?=w.heap[b]?):RepT P w' F' tm oss' (kn1 d q c) v os:=by
 cases h with
 | any v=>exact .any v
 | cell c v os h =>
  have:=RepC.mono hF h hw
  cases h <;> exact .cell _ _ _ this
 | agg cs vs os hl h=>exact .agg _ vs os (by rw [zfc]; exact hl) (RepTL.kn1 d hF hk h hw)
 | tup cs vs os hl h=>exact .tup _ vs os (by rw [zfc]; exact hl) (RepTL.kn1 d hF hk h hw)
 | fn f cs vs os hl h=>exact .fn f _ vs os (by rw [zfc]; exact hl) (RepTL.kn1 d hF hk h hw)
 | bor s p v h =>
  rw [Abs.kn1]
  by_cases hs:(s=d && !kpB q p)=true
  .rw [if_pos hs]; exact .any _
  .rw [if_neg hs]; exact .bor s p v (hk s p v (by
    by_cases e:s=d
    .right; simpa [e] using hs
    .exact .inl e) h)
 | ptr s p off u b h hb =>
  rw [Abs.kn1]
  by_cases hs:(s=d && !kpB q p)=true
  .rw [if_pos hs]; exact .any _
  .rw [if_neg hs]; exact .ptr s p off u b (hk s p u (by
    by_cases e:s=d
    .right; simpa [e] using hs
    .exact .inl e) h) hb
 | slp s p off n cap u b h hb hn =>
  rw [Abs.kn1]
  by_cases hs:(s=d && !kpB q p)=true
  .rw [if_pos hs]; exact .any _
  .rw [if_neg hs]; exact .slp s p off n cap u b (hk s p u (by
    by_cases e:s=d
    .right; simpa [e] using hs
    .exact .inl e) h) hb hn
theorem RepTL.kn1 (d:Nat) (hF:∀ b,F b->F' b) (hk:∀ s p u,(s≠d\/kpB q p=true)->zah w (oss s) (tm s) p u->zah w' (oss' s) (tm s) p u)
  {cs:List AV} {vs:List Value} {os:List Nat} (h:RepTL P w F tm oss cs vs os) (hw:∀ b,F b\/b∈os->w'.heap[b]?=w.heap[b]?):RepTL P w' F' tm oss' (kn1L d q cs) vs os:=by
 cases h with
 | nil vs=>exact .nil vs
 | cons c v os cs vs os' h t=>exact .cons _ _ _ _ _ _ (RepT.kn1 d hF hk h (fun x hx=>hw x (hx.imp id (fun h=>by simp [h])))) (RepTL.kn1 d hF hk t (fun x hx=>hw x (hx.imp id (fun h=>by simp [h]))))
end
end
section
variable {P:Program} {N:Nat × List Nat} {G:Nat->Prop} {w0:W0} {w w':World} {S:St} {a:Act} {F:Nat->Prop} {oss:Nat->List Nat} {X:List Nat}
theorem ziG {c:AV} {v:Value} {os:List Nat} {b:Nat} (h:RepC P w F c v os) (hk:kids c≠none) (hb:zaP v=some b):b∈os:=by
 cases h with
 | own b' _ _ _ _ _ _ _ _ _ _=>simp [zaP] at hb; subst hb; simp
 | box b' _ _ _ _ _ _=>simp [zaP] at hb; subst hb; simp
 | ofs b' _ _ _ _ _ _ _ _ _ _=>simp [zaP] at hb; subst hb; simp
 | own0=>simp [zaP] at hb
 | mp=>simp [zaP] at hb
 | it=>simp [zaP] at hb; subst hb; simp
 | _=>simp [kids] at hk
theorem Core.gentle (h:Core P N G w0 S a w F oss X) {s:Nat} {c:AV} {F':Nat->Prop} {oss':Nat->List Nat} {X':List Nat} (h2:Core P N G w0 (updn s c S) a w F' oss' X') (hF:∀ b,F b->F' b)
  (he:∀ i,i≠s->oss' i=oss i) (hk:kids c≠none):Core P N G w0 (updn1 s c [] S) a w F' oss' X':=by
 refine { h2 with rep:=fun i=>?_ }
 show RepT P w F' (tmo a) oss' (if i=s then c else kn1 s [] (S i)) (tmo a i) (oss' i)
 have hs:=h2.rep s
 have es:updn s c S s=c:=by simp [updn]
 rw [es] at hs
 split
 .rename_i e; subst e; exact hs
 .rename_i e
  rw [he i e]
  refine RepT.kn1 s hF (fun s' p' u' hc k=>?_) (h.rep i) (fun _ _=>rfl)
  by_cases e':s'=s
  .subst e'
   rcases hc with hc | hc
   .exact (hc rfl).elim
   .have hc:p'.length<2:=by simpa [kpB] using hc
    match p',hc with
    | [],_=>exact k
    | [j],_ =>
     obtain ⟨b,cc,ee,fr,v',b1,b2,b3,b4,b5⟩:=k
     exact ⟨b,cc,ee,fr,v',b1,ziG (hs.ofKids hk) hk b1,b3,b4,b5⟩
  .rw [he s' e']; exact k
def zpJ (c:AV) (p:List Nat):Bool:=match getP c p with
 | some c'=>(kids c').isSome
 | none=>false
theorem zot {c:AV} {v:Value} {os:List Nat} (h:RepC P w F c v os) (hk:kids c≠none):∀ k x,v≠.int k x:=by
 intro k x e
 subst e
 cases h <;> simp [kids] at hk
theorem znT {b off:Nat} {cur:Array Value} {e:TypeId} {fr:Nat × Nat} {kd:IntKind} {x:Int} (hb:w.heap[b]?=some (.cells cur e fr)) (hb':w'.heap[b]?=some (.cells (cur.toList.set off (.int kd x)).toArray e fr))
  (hw:∀ z,z≠b->w'.heap[z]?=w.heap[z]?) {X Y:List Nat} {p:List Nat}:∀ {v u u':Value},zah w X v p u->zah w' Y v p u'->(∀ k x,u'≠.int k x)->u'=u:=by
 induction p with
 | nil=>intro v u u' h k _; exact k.trans h.symm
 | cons i p ih =>
  intro v u u' h k hn
  obtain ⟨b1,c1,e1,f1,v1,a1,a2,a3,a4,a5⟩:=h
  obtain ⟨b2,c2,e2,f2,v2,d1,d2,d3,d4,d5⟩:=k
  rw [a1] at d1; injection d1 with d1; subst d1
  by_cases hbb:b1=b
  .subst hbb
   rw [hb] at a3; injection a3 with a3; injection a3 with a3; subst a3
   rw [hb'] at d3; injection d3 with d3; injection d3 with d3; subst d3
   have d4':(cur.toList.set off (.int kd x))[i]?=some v2:=by simpa using d4
   by_cases hi:off=i
   .subst hi
    have hl:off<cur.toList.length:=by
     rcases Nat.lt_or_ge off cur.toList.length with h | h
     .exact h
     .rw [List.set_eq_of_length_le h] at d4'
      exact (List.getElem?_eq_some_iff.1 d4').1
    rw [List.getElem?_set_self hl] at d4'
    injection d4' with d4'
    subst d4'
    cases p with
    | nil=>exact (hn _ _ d5).elim
    | cons j p =>
     obtain ⟨b3,_,_,_,_,g1,_⟩:=d5
     simp [zaP] at g1
   .rw [List.getElem?_set_ne hi] at d4'
    have a4':cur.toList[i]?=some v1:=by simpa using a4
    rw [a4'] at d4'
    injection d4' with d4'
    subst d4'
    exact ih a5 d5 hn
  .rw [hw _ hbb,a3] at d3; injection d3 with d3; injection d3 with d3; subst d3
   rw [a4] at d4; injection d4 with d4; subst d4
   exact ih a5 d5 hn
theorem Core.gentleW (h:Core P N G w0 S a w F oss X) {s b off:Nat} {c:AV} {cur:Array Value} {e:TypeId} {fr:Nat × Nat} {k:IntKind} {x:Int} {q:List (List Nat)} {F':Nat->Prop} {oss':Nat->List Nat} {X':List Nat}
  (h2:Core P N G w0 (updn s c S) a w' F' oss' X') (hF:∀ b,F b->F' b) (he:∀ i,i≠s->oss' i=oss i) (hk:kids c≠none) (hb:w.heap[b]?=some (.cells cur e fr))
  (hb':w'.heap[b]?=some (.cells (cur.toList.set off (.int k x)).toArray e fr)) (hw:∀ z,z≠b->w'.heap[z]?=w.heap[z]?) (hbs:b∈oss s) (hq:q.all (zpJ c)=true) (hq0:q≠[]) :
  Core P N G w0 (updn1 s c q S) a w' F' oss' X':=by
 refine { h2 with rep:=fun i=>?_ }
 show RepT P w' F' (tmo a) oss' (if i=s then c else kn1 s q (S i)) (tmo a i) (oss' i)
 have hs:=h2.rep s
 have es:updn s c S s=c:=by simp [updn]
 rw [es] at hs
 split
 .rename_i e; subst e; exact hs
 .rename_i e
  rw [he i e]
  refine RepT.kn1 s hF (fun s' p' u' hc kk=>?_) (h.rep i) (fun z hz=>hw z fun ez=>?_)
  .by_cases e':s'=s
   .subst e'
    rcases hc with hc | hc
    .exact (hc rfl).elim
    .cases p' with
     | nil=>exact kk
     | cons j p' =>
      have hmem:(j::p')∈q:=by
       cases q with
       | nil=>exact (hq0 rfl).elim
       | cons q0 q=>simpa [kpB] using hc
      have hct:=List.all_eq_true.1 hq _ hmem
      unfold zpJ at hct
      split at hct
      .rename_i c' hg
       have hk':kids c'≠none:=by intro e; rw [e] at hct; simp at hct
       obtain ⟨u2,o1,ou,o2,g1,g2,_⟩:=RepC.at (hs.ofKids hk) hg
       have:=znT hb hb' hw kk g1 (zot g2 hk')
       subst this
       exact g1
      .simp at hct
   .rw [he s' e']
    exact zbJ (fun _ h=>h) (fun z hz=>hw z fun ez=>e' (h.dj s' s z hz (ez ▸ hbs))) kk
  .subst ez
   rcases hz with hz | hz
   .exact (h.own s z hbs).1 hz
   .exact e (h.dj i s z hz hbs)
theorem zd3 {c d:AV} {i:Nat} {p:List Nat} (h:kids c≠none):kids (putP c (i::p) d)≠none:=by
 simp only [putP]
 split
 .split
  .cases c <;> simp_all [kids,zbr]
  .exact h
 .exact h
theorem Core.takeG (h:Core P N G w0 S a w F oss X) {s i:Nat} {p:List Nat} {c':AV} (hk:kids (S s)≠none) (hg:getP (S s) (i::p)=some c') :
  ∃ u ou oss',zah w (oss s) (tmo a s) (i::p) u/\RepC P w F c' u ou/\Core P N G w0 (updn1 s (putP (S s) (i::p) .any) [] S) a w F oss' (ou++X):=by
 obtain ⟨u,o1,ou,o2,k1,k2,k3,k4,k5,k6⟩:=h.inplace hk hg
 have k7:=k6 w F .any [] (ou++X) rfl rfl ⟨rfl,Nat.le_refl _⟩ (Nat.le_refl _) (fun _ _ _ _=>rfl) (fun _ h=>h) (fun _ h=>.inl h) (.any _ k2.oneCell) (by simp) List.nodup_nil
  (fun b hb=>by
   rcases List.mem_append.1 hb with hb | hb
   .exact ⟨.inr (.inl hb),(k4 b hb).2.1,(k4 b hb).1,by simp⟩
   .exact ⟨.inl hb,(h.xo b hb).2,(h.xo b hb).1,by simp⟩)
  (List.nodup_append.2 ⟨k5,h.xn,fun x hx y hy e=>(k4 x hx).2.2 (e ▸ hy)⟩)
 exact ⟨u,ou,_,k1,k2,h.gentle k7 (fun _ h=>h) (fun j hj=>by simp [ins,hj]) (zd3 hk)⟩
end
structure Cfg where
 nv:Nat
 fz:List Nat:=[]
 mu:List Nat:=[]
 tko:List Nat:=[]
def znX (cf:Cfg):List (List Nat):=cf.tko.filterMap fun t=>if 1000000000000000<=t then some [(t-1000000000000000) / 1000,(t-1000000000000000)%1000] else none
def intB:AV->Bool
 | .val (.int _ _)=>true
 | _=>false
inductive Upd where
 | w (d:Nat) (v:AV)
 | n (d:Nat) (v:AV)
 | m (d:Nat) (v:AV) (q:List (List Nat))
def app:List Upd->St->St
 | [],S=>S
 | .w d v::U,S=>app U (upd d v S)
 | .n d v::U,S=>app U (updn d v S)
 | .m d v q::U,S=>app U (updn1 d v q S)
theorem zaH (U V:List Upd):∀ S,app (U++V) S=app V (app U S):=by
 induction U with
 | nil=>intro S; rfl
 | cons u U ih=>intro S; cases u <;> exact ih _
def cv:Value->AV
 | .slice none 0 0=>.val (.slice none 0 0)
 | .int k n=>.val (.int k n)
 | .bool b=>.val (.bool b)
 | .map none=>.val (.map none)
 | .string s=>.val (.string s)
 | .nilFunc=>.val .nilFunc
 | .nilIface=>.val .nilIface
 | .func f x y=>.val (.func f x y)
 | .pointer none=>.val (.pointer none)
 | _=>.any
def aop (S:St):Operand->AV
 | .tmp t=>S t
 | .const v=>cv v
 | .global _=>.any
 | .func f=>.val (.func (.func f) #[] #[])
section
variable {P:Program} {N:Nat × List Nat} {G:Nat->Prop} {w0:W0} {w:World} {S:St} {a:Act} {F:Nat->Prop} {oss:Nat->List Nat} {X:List Nat}
theorem zsv (v:Value) (tm:Nat->Value) (oss:Nat->List Nat):RepT P w F tm oss (cv v) v []:=by
 unfold cv
 split <;> first | exact .any _ | exact .cell _ _ _ (.val _ rfl)
theorem Core.get (h:Core P N G w0 S a w F oss X) (t:Nat):RepT P w F (tmo a) oss (S t) (a.eval (.tmp t)) (oss t):=h.rep t
theorem Core.int (h:Core P N G w0 S a w F oss X) {x:Operand} {v:Value} (hx:aop S x=.val v):a.eval x=v:=by
 cases x with
 | tmp t =>
  have:=h.get t
  simp only [aop] at hx
  rw [hx] at this
  generalize hv:a.eval (.tmp t)=u at this
  generalize oss t=os at this
  cases this with
  | cell _ _ _ h=>cases h with | val _ _=>rfl
 | const u =>
  simp only [aop,cv] at hx
  split at hx <;> first | (injection hx) | simp at hx
 | global g=>simp [aop] at hx
 | func f=>simp only [aop] at hx; injection hx
def isOB:AV->Bool
 | .own ..=>true
 | .ofs ..=>true
 | .box ..=>true
 | .mp ..=>true
 | .it ..=>true
 | _=>false
theorem zh6 {c:AV} (h:isOB c=true):kids c≠none:=by cases c <;> simp [isOB,kids] at *
mutual
def rsv (S:St):AV->Option AV
 | .bor s p=>match kids (S s),getP (S s) p with
  | some _,some c=>if isOB c then some (frz c) else none
  | _,_=>none
 | .val (.slice none 0 0)=>some (.sl 0 [])
 | .val v=>some (.val v)
 | .sl n cs=>some (.sl n cs)
 | .own e n cs=>some (frz (.own e n cs))
 | .ofs k e n cs=>some (frz (.ofs k e n cs))
 | .box e cs=>some (frz (.box e cs))
 | .fptr cs=>some (.fptr cs)
 | .mp c=>some (.fmp c)
 | .fmp c=>some (.fmp c)
 | .slp s p o n=>match kids (S s),getP (S s) p with
  | some _,some c=>match kids c with
   | some cs=>if cs.isEmpty then none else some (.sl n (frzL (cs.drop o)))
   | none=>none
  | _,_=>none
 | .agg cs=>match rsvL S cs with
  | some ds=>some (.agg ds)
  | none=>none
 | .fn f cs=>match rsvL S cs with
  | some ds=>some (.fn f ds)
  | none=>none
 | _=>none
def rsvL (S:St):List AV->Option (List AV)
 | []=>some []
 | c::cs=>match rsv S c,rsvL S cs with
  | some d,some ds=>some (d::ds)
  | _,_=>none
end
mutual
def roots:AV->List Nat
 | .bor s _=>[s]
 | .ptr s _ _=>[s]
 | .slp s _ _ _=>[s]
 | .agg cs=>zaB cs
 | .tup cs=>zaB cs
 | .fn f cs=>zaB cs
 | _=>[]
def zaB:List AV->List Nat
 | []=>[]
 | c::cs=>roots c++zaB cs
end
theorem RepTL.length_eq' {tm:Nat->Value} {cs ds:List AV} (h:rsvL S cs=some ds):ds.length=cs.length:=by
 induction cs generalizing ds with
 | nil=>simp [rsvL] at h; subst h; rfl
 | cons c cs ih =>
  rw [rsvL] at h
  split at h
  .rename_i d ds' h1 h2; injection h with h; subst h; simp [ih h2]
  .simp at h
theorem Core.frzAt (h:Core P N G w0 S a w F oss X) {s:Nat} {p:List Nat} {c:AV} (hk:kids (S s)≠none) (hg:getP (S s) p=some c) {v:Value}
  (hv:zah w (oss s) (tmo a s) p v):RepC P w (fun b=>b<w.heap.size) (frz c) v []:=by
 obtain ⟨u,o1,ou,o2,k1,k2,k3,k4,k5,k6⟩:=h.inplace hk hg
 have:=zaq hv k1
 subst this
 exact k2.frz h.fw (fun b hb=>(k4 b hb).2.1)
mutual
theorem Core.rsv (h:Core P N G w0 S a w F oss X) {c d:AV} {v:Value} {os:List Nat} (hr:RepT P w F (tmo a) oss c v os) (ho:∀ b∈os,b<w.heap.size)
  (hd:rsv S c=some d):∀ tm oss',RepT P w (fun b=>b<w.heap.size) tm oss' d v []:=by
 intro tm oss'
 cases hr with
 | any v=>simp [Abs.rsv] at hd
 | cell c v os hc =>
  cases hc with
  | any v h=>simp [Abs.rsv] at hd
  | val v hv =>
   rw [Abs.rsv.eq_def] at hd
   split at hd <;> simp_all
   .subst hd; exact .cell _ _ _ (.sl0 none 0)
   .subst hd; exact .cell _ _ _ (.val _ hv)
  | sl0 b c=>simp [Abs.rsv] at hd; subst hd; exact .cell _ _ _ (.sl0 b c)
  | sl b off n cap c e fr cs hF hb hl hn=>simp [Abs.rsv] at hd; subst hd; exact .cell _ _ _ (RepC.mono (F:=F) h.fw (.sl b off n cap c e fr cs hF hb hl hn) (fun _ _=>rfl))
  | own0 e=>simp [Abs.rsv] at hd; subst hd; exact .cell _ _ _ (RepC.frz (F:=F) h.fw (.own0 e) ho)
  | own b e n cap c cs os hb hn hc hl=>simp [Abs.rsv] at hd; subst hd; exact .cell _ _ _ (RepC.frz (F:=F) h.fw (.own b e n cap c cs os hb hn hc hl) ho)
  | ofs b k e n cap c cs os hb hn hl=>simp [Abs.rsv] at hd; subst hd; exact .cell _ _ _ (RepC.frz (F:=F) h.fw (.ofs b k e n cap c cs os hb hn hl) ho)
  | box b e c cs os hb hl=>simp [Abs.rsv] at hd; subst hd; exact .cell _ _ _ (RepC.frz (F:=F) h.fw (.box b e c cs os hb hl) ho)
  | fptr b off c e fr cs hF hb hl=>simp [Abs.rsv] at hd; subst hd; exact .cell _ _ _ (RepC.mono (F:=F) h.fw (.fptr b off c e fr cs hF hb hl) (fun _ _=>rfl))
  | mp b es clock c hb hm=>simp [Abs.rsv] at hd; subst hd; exact .cell _ _ _ (.fmp b es clock c (ho b (by simp)) hb hm)
  | fmp b es clock c hF hb hm=>simp [Abs.rsv] at hd; subst hd; exact .cell _ _ _ (.fmp b es clock c (h.fw b hF) hb hm)
  | it=>simp [Abs.rsv] at hd
 | agg cs vs os hl hr =>
  simp only [Abs.rsv] at hd
  split at hd
  .rename_i ds hds
   injection hd with hd; subst hd
   exact .agg ds vs [] (by rw [RepTL.length_eq' (tm:=tm) hds,hl]) (Core.rsvL h hr ho hds tm oss')
  .simp at hd
 | tup cs vs os hl hr=>simp [Abs.rsv] at hd
 | fn f cs vs os hl hr =>
  simp only [Abs.rsv] at hd
  split at hd
  .rename_i ds hds
   injection hd with hd; subst hd
   exact .fn f ds vs [] (by rw [RepTL.length_eq' (tm:=tm) hds,hl]) (Core.rsvL h hr ho hds tm oss')
  .simp at hd
 | bor s p v hw =>
  simp only [Abs.rsv] at hd
  split at hd
  .rename_i x c hk hg
   split at hd
   .injection hd with hd; subst hd
    exact .cell _ _ _ (h.frzAt (by simp [hk]) hg hw)
   .simp at hd
  .simp at hd
 | ptr s p off u b hw hb=>simp [Abs.rsv] at hd
 | slp s p off n cap u b hw hb hn0 =>
  simp only [Abs.rsv] at hd
  split at hd
  .rename_i x c hk hg
   split at hd
   .rename_i cs hkc
    split at hd
    .simp at hd
    .rename_i hne
     injection hd with hd; subst hd
     obtain ⟨u',o1,ou,o2,k1,k2,k3,k4,k5,k6⟩:=h.inplace (by simp [hk]) hg
     have:=zaq hw k1; subst this
     have hlt:∀ z∈ou,z<w.heap.size:=fun z hz=>(k4 z hz).2.1
     have dr:∀ (cs:List AV) (o:Nat),(frzL cs).drop o=frzL (cs.drop o):=fun cs o=>by rw [zbW,zbW,List.map_drop]
     cases k2 with
     | own b' e n' cap' cc cs' ol hb' hn hc hl =>
      simp [kids] at hkc; subst hkc
      simp [zaP] at hb; subst hb
      have hf:=(RepL.frz (F':=fun z=>z<w.heap.size) (fun z hz=>h.fw z hz) hl (fun z hz=>hlt z (by simp [hz]))).drop off
      rw [dr] at hf
      exact .cell _ _ _ (.sl _ off n cap cc _ _ _ (hlt _ (by simp)) hb' hf hn0)
     | ofs b' k e n' cap' cc cs' ol hb' hn hl =>
      simp [kids] at hkc; subst hkc
      simp [zaP] at hb; subst hb
      have hf:=(RepL.frz (F':=fun z=>z<w.heap.size) (fun z hz=>h.fw z hz) hl (fun z hz=>hlt z (by simp [hz]))).drop off
      rw [dr] at hf
      exact .cell _ _ _ (.sl _ off n cap cc _ _ _ (hlt _ (by simp)) hb' hf hn0)
     | box b' e cc cs' ol hb' hl =>
      simp [kids] at hkc; subst hkc
      simp [zaP] at hb; subst hb
      have hf:=(RepL.frz (F':=fun z=>z<w.heap.size) (fun z hz=>h.fw z hz) hl (fun z hz=>hlt z (by simp [hz]))).drop off
      rw [dr] at hf
      exact .cell _ _ _ (.sl _ off n cap cc _ _ _ (hlt _ (by simp)) hb' hf hn0)
     | own0 e=>simp [zaP] at hb
     | mp=>simp [kids] at hkc; subst hkc; simp at hne
     | it=>simp [kids] at hkc; subst hkc; simp at hne
     | _=>simp [kids] at hkc
   .simp at hd
  .simp at hd
theorem Core.rsvL (h:Core P N G w0 S a w F oss X) {cs ds:List AV} {vs:List Value} {os:List Nat} (hr:RepTL P w F (tmo a) oss cs vs os) (ho:∀ b∈os,b<w.heap.size)
  (hd:rsvL S cs=some ds):∀ tm oss',RepTL P w (fun b=>b<w.heap.size) tm oss' ds vs []:=by
 intro tm oss'
 cases hr with
 | nil vs=>simp [Abs.rsvL] at hd; subst hd; exact .nil vs
 | cons c v os cs vs os' hc ht =>
  rw [Abs.rsvL] at hd
  split at hd
  .rename_i d ds' h1 h2
   injection hd with hd; subst hd
   exact .cons d v [] ds' vs [] (Core.rsv h hc (fun b hb=>ho b (by simp [hb])) h1 tm oss') (Core.rsvL h ht (fun b hb=>ho b (by simp [hb])) h2 tm oss')
  .simp at hd
end
theorem Core.op (h:Core P N G w0 S a w F oss X) (x:Operand):∃ os,RepT P w F (tmo a) oss (aop S x) (a.eval x) os/\∀ b∈os,b<w.heap.size:=by
 cases x with
 | tmp t=>exact ⟨oss t,h.rep t,fun b hb=>(h.own t b hb).2⟩
 | const v=>exact ⟨[],zsv v _ _,by simp⟩
 | global g=>exact ⟨[],.any _,by simp⟩
 | func f=>exact ⟨[],.cell _ _ _ (.val _ rfl),by simp⟩
def zaS (S:St):List Operand->Option (List AV)
 | []=>some []
 | x::xs=>match rsv S (aop S x),zaS S xs with
  | some d,some ds=>some (d::ds)
  | _,_=>none
theorem Core.args (h:Core P N G w0 S a w F oss X):∀ {xs:List Operand} {ds:List AV},zaS S xs=some ds ->
  ds.length=xs.length/\∀ tm oss',RepTL P w (fun b=>b<w.heap.size) tm oss' ds (xs.map a.eval) []
 | [],ds,hd=>by simp [zaS] at hd; subst hd; exact ⟨rfl,fun _ _=>.nil _⟩
 | x::xs,ds,hd=>by
  rw [zaS] at hd
  split at hd
  .rename_i d ds' h1 h2
   injection hd with hd; subst hd
   obtain ⟨l,r⟩:=Core.args h h2
   obtain ⟨os,ro,rb⟩:=h.op x
   exact ⟨by simp [l],fun tm oss'=>.cons d _ [] ds' _ [] (h.rsv ro rb h1 tm oss') (r tm oss')⟩
  .simp at hd
def zkr (P:Program) (f:FuncId) (args:List AV) (r:AV):Prop :=
 ∀ (w:World) (vs:List Value),args.length=vs.length->(∀ tm oss,RepTL P w (fun b=>b<w.heap.size) tm oss args vs []) ->
  Calls P f vs.toArray w fun e w'=>∃ v os,e=.returned v/\Ext (fun b=>b<w.heap.size) w w' /\
   (∀ tm oss,RepT P w' (fun b=>w.heap.size<=b/\b<w'.heap.size/\b ∉ os) tm oss r v os)/\os.Nodup/\∀ b∈os,w.heap.size<=b/\b<w'.heap.size
def tkP (fz:Bool) (s:Nat) (p:List Nat) (S:St):Option (AV × List Upd) :=
 match kids (S s),getP (S s) p with
 | some _,some c=>if isOB c then
   if fz then some (frz c,[.n s (putP (S s) p (frz c))])
   else if p.isEmpty then some (c,[.w s .any]) else some (c,[.m s (putP (S s) p .any) []])
  else none
 | _,_=>none
theorem Core.tkP (h:Core P N G w0 S a w F oss X) {fz:Bool} {s:Nat} {p:List Nat} {c:AV} {U:List Upd} (hc:tkP fz s p S=some (c,U)) {v:Value}
  (hv:zah w (oss s) (tmo a s) p v) :
  ∃ F' oss' oc,Core P N G w0 (app U S) a w F' oss' (oc++X)/\RepC P w F' c v oc/\(∀ b,F b->F' b):=by
 simp only [Abs.tkP] at hc
 split at hc
 .rename_i x c' hk hg
  split at hc
  .rename_i hob
   split at hc
   .injection hc with hc; obtain ⟨rfl,rfl⟩:=Prod.mk.injEq .. ▸ hc
    obtain ⟨u,ou,F',oss',k1,k2,k3,k4,k5⟩:=h.frzP (by simp [hk]) hg
    have:=zaq hv k1; subst this
    exact ⟨F',oss',[],k5,k2,k3⟩
   .split at hc
    .rename_i hp
     injection hc with hc; obtain ⟨rfl,rfl⟩:=Prod.mk.injEq .. ▸ hc
     have hp:p=[]:=by simpa using hp
     subst hp
     simp [getP] at hg; subst hg
     obtain ⟨k1,k2⟩:=h.take s
     have hv:v=tmo a s:=hv
     subst hv
     refine ⟨F,_,oss s,k1,?_,fun _ h=>h⟩
     have:=k2.ofKids (by cases hS:S s <;> simp_all [isOB,kl,kids])
     have e:kl [s] (S s)=S s:=by cases hS:S s <;> simp_all [isOB,kl]
     rwa [e] at this
    .rename_i hp
     injection hc with hc; obtain ⟨rfl,rfl⟩:=Prod.mk.injEq .. ▸ hc
     match p,hp,hg,hv with
     | [],hp,_,_=>simp at hp
     | i::p,_,hg,hv =>
     obtain ⟨u,ou,oss',k1,k2,k3⟩:=h.takeG (by simp [hk]) hg
     have:=zaq hv k1; subst this
     exact ⟨F,oss',ou,k3,k2,fun _ h=>h⟩
  .simp at hc
 .simp at hc
def tk (cf:Cfg) (S:St) (x:Operand):Option (AV × List Upd) :=
 match x,aop S x with
 | _,.val v=>some (.val v,[])
 | _,.sl n cs=>some (.sl n cs,[])
 | _,.fptr cs=>some (.fptr cs,[])
 | _,.fmp c=>some (.fmp c,[])
 | .tmp t,.own _ _ _=>tkP (cf.fz.contains t) t [] S
 | .tmp t,.ofs _ _ _ _=>tkP (cf.fz.contains t) t [] S
 | .tmp t,.box _ _=>tkP (cf.fz.contains t) t [] S
 | .tmp t,.mp _=>tkP (cf.fz.contains t) t [] S
 | .tmp t,.it _ _=>tkP false t [] S
 | .tmp t,.bor s p=>tkP (cf.fz.contains t) s p S
 | _,_=>none
theorem Core.tk (h:Core P N G w0 S a w F oss X) {cf:Cfg} {x:Operand} {c:AV} {U:List Upd} (hc:tk cf S x=some (c,U)) :
  ∃ F' oss' oc,Core P N G w0 (app U S) a w F' oss' (oc++X)/\RepC P w F' c (a.eval x) oc/\(∀ b,F b->F' b):=by
 obtain ⟨os,ho,_⟩:=h.op x
 generalize hu:a.eval x=u at ho |-
 unfold Abs.tk at hc
 split at hc
 .rename_i v hv; injection hc with hc; obtain ⟨rfl,rfl⟩:=Prod.mk.injEq .. ▸ hc
  refine ⟨F,oss,[],h,?_,fun _ h=>h⟩
  rw [hv] at ho
  cases ho with
  | cell _ _ _ hc=>cases hc with | val _ hv=>exact .val _ hv
 .rename_i n cs hv; injection hc with hc; obtain ⟨rfl,rfl⟩:=Prod.mk.injEq .. ▸ hc
  refine ⟨F,oss,[],h,?_,fun _ h=>h⟩
  rw [hv] at ho
  cases ho with
  | cell _ _ _ hc=>cases hc with
   | sl0 b c=>exact .sl0 b c
   | sl b off n cap c e fr cs hF hb hl hn=>exact .sl b off n cap c e fr cs hF hb hl hn
 .rename_i cs hv; injection hc with hc; obtain ⟨rfl,rfl⟩:=Prod.mk.injEq .. ▸ hc
  refine ⟨F,oss,[],h,?_,fun _ h=>h⟩
  rw [hv] at ho
  cases ho with
  | cell _ _ _ hc=>cases hc with
   | fptr b off c e fr cs hF hb hl=>exact .fptr b off c e fr cs hF hb hl
 .rename_i cs hv; injection hc with hc; obtain ⟨rfl,rfl⟩:=Prod.mk.injEq .. ▸ hc
  refine ⟨F,oss,[],h,?_,fun _ h=>h⟩
  rw [hv] at ho
  cases ho with
  | cell _ _ _ hc=>cases hc with
   | fmp b es clock c hF hb hm=>exact .fmp b es clock _ hF hb hm
 .rename_i t e n cs hv
  subst hu
  exact h.tkP hc (v:=a.eval (.tmp t)) rfl
 .rename_i t k e n cs hv
  subst hu
  exact h.tkP hc (v:=a.eval (.tmp t)) rfl
 .rename_i t e cs hv
  subst hu
  exact h.tkP hc (v:=a.eval (.tmp t)) rfl
 .rename_i t c hv
  subst hu
  exact h.tkP hc (v:=a.eval (.tmp t)) rfl
 .rename_i t l es hv
  subst hu
  exact h.tkP hc (v:=a.eval (.tmp t)) rfl
 .rename_i t s p hv
  rw [hv] at ho
  cases ho with
  | cell _ _ _ hc=>cases hc
  | bor s p v hw=>exact h.tkP hc hw
 .simp at hc
end
end Go.Abs


namespace Go.Abs
variable [DrawK]
open Go.RowKit (Below)
def inK (k:IntKind) (n:Int):Prop:=k.min<=n/\n<=k.max
theorem zt9 (n:Int):inK .i64 n ↔ -9223372036854775808<=n/\n<=9223372036854775807:=by
 have e1:IntKind.min .i64 = -9223372036854775808:=by decide
 have e2:IntKind.max .i64=9223372036854775807:=by decide
 unfold inK; rw [e1,e2]
theorem zd9 {k:IntKind} {n:Int} (h:inK k n):k.wrap n=n:=by
 obtain ⟨h1,h2⟩:=h
 cases k <;> simp [IntKind.min,IntKind.max,IntKind.wrap,IntKind.signed,IntKind.bits] at*<;> (try split) <;> omega
mutual
def zbC:AV->Bool
 | .own ..=>true
 | .ofs ..=>true
 | .box ..=>true
 | .mp ..=>true
 | .it ..=>true
 | .agg cs=>zaO cs
 | .tup cs=>zaO cs
 | .fn f cs=>zaO cs
 | _=>false
def zaO:List AV->Bool
 | []=>false
 | c::cs=>zbC c || zaO cs
end
section
variable {P:Program} {N:Nat × List Nat} {G:Nat->Prop} {w0:W0} {w w':World} {S:St} {a:Act} {F:Nat->Prop} {oss:Nat->List Nat} {X:List Nat}
mutual
theorem RepT.noOwn {tm:Nat->Value} {c:AV} {v:Value} {os:List Nat} (h:RepT P w F tm oss c v os) (hn:zbC c=false):os=[]:=by
 cases h with
 | any v=>rfl
 | cell c v os h=>cases h <;> simp [zbC] at hn <;> rfl
 | agg cs vs os hl h=>exact RepTL.noOwn h (by simpa [zbC] using hn)
 | tup cs vs os hl h=>exact RepTL.noOwn h (by simpa [zbC] using hn)
 | fn f cs vs os hl h=>exact RepTL.noOwn h (by simpa [zbC] using hn)
 | bor=>rfl
 | ptr=>rfl
 | slp=>rfl
theorem RepTL.noOwn {tm:Nat->Value} {cs:List AV} {vs:List Value} {os:List Nat} (h:RepTL P w F tm oss cs vs os) (hn:zaO cs=false):os=[]:=by
 cases h with
 | nil vs=>rfl
 | cons c v os cs vs os' h t =>
  simp [zaO] at hn
  rw [RepT.noOwn h hn.1,RepTL.noOwn t hn.2]; rfl
end
theorem zam {o:Oper} {v:Value} {K:Act->World->Prop} {Q:Exit->Act->World->Prop} (h:(execOp a.eval o).run P w=.ok (.value v) w') (hk:K (a.put o.dst v) w') :
  o.wp P a w K Q:=by simp only [Oper.wp,Oper.upon,h]; exact hk
theorem zdb {o:Oper} {K:Act->World->Prop} {Q:Exit->Act->World->Prop} (h:(execOp a.eval o).run P w=.ok .skip w') (hk:K (a.put o.dst undef) w') :
  o.wp P a w K Q:=by simp only [Oper.wp,Oper.upon,h]; exact hk
theorem Core.put0 (h:Core P N G w0 S a w F oss []) {d:Nat} (hd:OkD N d) {c:AV} {v:Value} (hr:RepT P w F (tmo a) oss c v []) :
  StRel P N G w0 (upd d c S) (a.put (some d) v) w :=
 (h.put hd hr (by simp) List.nodup_nil (X':=[]) (by simp) List.nodup_nil).st
theorem Core.putX (h:Core P N G w0 S a w F oss X) {d:Nat} (hd:OkD N d) {c:AV} {v:Value} (hr:RepT P w F (tmo a) oss c v X) :
  StRel P N G w0 (upd d c S) (a.put (some d) v) w :=
 (h.put hd hr (fun _ h=>h) h.xn (X':=[]) (by simp) List.nodup_nil).st
theorem Core.drop (h:Core P N G w0 S a w F oss X):Core P N G w0 S a w F oss []:={ h with xo:=by simp,xn:=by simp,xd:=by simp,xG:=by simp }
theorem Core.sub (h:Core P N G w0 S a w F oss X) {X':List Nat} (hs:∀ b,b∈X'->b∈X) (hn:X'.Nodup):Core P N G w0 S a w F oss X' :=
 { h with xo:=fun b hb=>h.xo b (hs b hb),xn:=hn,xd:=fun i b hx=>h.xd i b (hs b hx),xG:=fun b hb=>h.xG b (hs b hb) }
def mvT (cf:Cfg) (d t:Nat) (c:AV):Option (List Nat × List Upd) :=
 if zbC c then
  if (cf.fz.contains d && isOB c)=true then some ([t],[.n t (frz c),.w d (frz c)])
  else if t<cf.nv then (if isOB c then some ([t],[.w d (.bor t [])]) else none) else if t=d then none else if (cf.fz.contains t && isOB c)=true then some ([t],[.n t (frz c),.w d (frz c)]) else some (t::roots c,[.w t .any,.w d (kl [t] c)])
 else some (t::roots c,[.w d c])
def mvS (cf:Cfg) (S:St) (d:Nat):Operand->Option (List Nat × List Upd)
 | .tmp t=>match S t with
  | .any=>none
  | c=>mvT cf d t c
 | x=>match aop S x with
  | .any=>none
  | c=>some ([],[.w d c])
theorem zdT (h:Core P N G w0 S a w F oss []) {cf:Cfg} {d:Nat} (hd:OkD N d) {x:Operand} {rd:List Nat} {U:List Upd} (hm:mvS cf S d x=some (rd,U)) :
  StRel P N G w0 (app U S) (a.put (some d) (a.eval x)) w:=by
 have const:∀ c,RepT P w F (tmo a) oss c (a.eval x) []->StRel P N G w0 (app [.w d c] S) (a.put (some d) (a.eval x)) w:=fun c hc=>h.put0 hd hc
 cases x with
 | tmp t =>
  have hm:mvT cf d t (S t)=some (rd,U):=by
   simp only [mvS] at hm
   split at hm
   .simp at hm
   .exact hm
  have freeze:isOB (S t)=true->StRel P N G w0 (app [.n t (frz (S t)),.w d (frz (S t))] S) (a.put (some d) (a.eval (.tmp t))) w:=fun hob=>by
   have hk:=zh6 hob
   have ht:tkP true t [] S=some (frz (S t),[.n t (frz (S t))]):=by
    unfold tkP
    cases hkk:kids (S t) with
    | none=>exact absurd hkk hk
    | some ks=>simp [getP,hob,putP]
   obtain ⟨F',oss',oc,k1,k2,k3⟩:=h.tkP ht (v:=tmo a t) rfl
   have k1':Core P N G w0 (updn t (frz (S t)) S) a w F' oss' (oc++[]):=k1
   rw [List.append_nil] at k1'
   exact Core.putX k1' hd (.cell _ _ _ k2)
  unfold mvT at hm
  split at hm
  .rename_i ho
   split at hm
   .rename_i hfz
    injection hm with hm; obtain ⟨rfl,rfl⟩:=Prod.mk.injEq .. ▸ hm
    simp only [Bool.and_eq_true] at hfz
    exact freeze hfz.2
   split at hm
   .split at hm
    .injection hm with hm; obtain ⟨rfl,rfl⟩:=Prod.mk.injEq .. ▸ hm
     exact h.put0 hd (.bor t [] _ rfl)
    .simp at hm
   .split at hm
    .simp at hm
    .split at hm
     .rename_i hfz
      injection hm with hm; obtain ⟨rfl,rfl⟩:=Prod.mk.injEq .. ▸ hm
      simp only [Bool.and_eq_true] at hfz
      exact freeze hfz.2
     .injection hm with hm; obtain ⟨rfl,rfl⟩:=Prod.mk.injEq .. ▸ hm
      obtain ⟨k1,k2⟩:=h.take t
      exact Core.putX (by simpa using k1) hd k2
  .rename_i ho
   injection hm with hm; obtain ⟨rfl,rfl⟩:=Prod.mk.injEq .. ▸ hm
   have:=h.get t
   rw [RepT.noOwn this (by simpa using ho)] at this
   exact h.put0 hd this
 | const v =>
  simp only [mvS] at hm
  split at hm
  .simp at hm
  .injection hm with hm; obtain ⟨rfl,rfl⟩:=Prod.mk.injEq .. ▸ hm
   exact const _ (zsv v _ _)
 | global g=>simp [mvS,aop] at hm
 | func f =>
  simp only [mvS] at hm
  split at hm
  .simp at hm
  .injection hm with hm; obtain ⟨rfl,rfl⟩:=Prod.mk.injEq .. ▸ hm
   exact const _ (.cell _ _ _ (.val _ rfl))
def andI (k:IntKind) (x y:Int):Int:=k.wrap (BitVec.ofInt k.bits x &&& BitVec.ofInt k.bits y).toNat
def shrI (k:IntKind) (x y:Int):Int:=x.fdiv (2 ^ min y.toNat k.bits)
def shlI (k:IntKind) (x y:Int):Int:=k.wrap (x*2 ^ min y.toNat k.bits)
def binI (op:BinOp) (k:IntKind) (x y:Int):Option (Prop × Value) :=
 match op with
 | .add=>if k.signed then some (inK k (x+y),.int k (x+y)) else some (True,.int k (k.wrap (x+y)))
 | .sub=>if k.signed then some (inK k (x-y),.int k (x-y)) else some (True,.int k (k.wrap (x-y)))
 | .mul=>if k.signed then some (inK k (x*y),.int k (x*y)) else some (True,.int k (k.wrap (x*y)))
 | .quo=>some (y≠0/\inK k (x.tdiv y),.int k (x.tdiv y))
 | .rem=>some (y≠0,.int k (x.tmod y))
 | .eql=>some (True,.bool (decide (x=y)))
 | .neq=>some (True,.bool (!decide (x=y)))
 | .lss=>some (True,.bool (decide (x<y)))
 | .leq=>some (True,.bool (decide (x<=y)))
 | .gtr=>some (True,.bool (decide (y<x)))
 | .geq=>some (True,.bool (decide (y<=x)))
 | .and=>some (True,.int k (andI k x y))
 | .shr=>some (0<=y,.int k (shrI k x y))
 | .shl=>some (0<=y,.int k (shlI k x y))
 | _=>none
def binW (op:BinOp) (k:IntKind) (x y:Int):Option (Prop × Value) :=
 match op with
 | .add=>some (True,.int k (k.wrap (x+y)))
 | .sub=>some (True,.int k (k.wrap (x-y)))
 | .mul=>some (True,.int k (k.wrap (x*y)))
 | _=>binI op k x y
theorem zaT (op:BinOp) (t:TypeId) (x y:Operand) (k k':IntKind) (m n:Int):(eqGuard op t x y (.int k m) (.int k' n)).run P w=.ok () w:=by
 cases op <;> simp [eqGuard]
theorem zgJ {op:BinOp} {k:IntKind} {x y:Int} {p:Prop} {v:Value} (hb:binI op k x y=some (p,v)) (hp:p) (t:TypeId) (xo yo:Operand) :
  (do eqGuard op t xo yo (.int k x) (.int k y); binOp op t (.int k x) (.int k y):Sem Value).run P w=.ok v w:=by
 have e:∀ r:Sem Value,(do eqGuard op t xo yo (.int k x) (.int k y); r:Sem Value).run P w=r.run P w:=by
  intro r
  rw [Sem.run_bind,zaT]; rfl
 rw [e]
 cases op <;> simp only [binI] at hb <;> first
  | (split at hb <;> (injection hb with hb; obtain ⟨rfl,rfl⟩:=Prod.mk.injEq .. ▸ hb) <;> simp [binOp,Op.intArith] <;> (try rw [zd9 hp]))
  | (injection hb with hb; obtain ⟨rfl,rfl⟩:=Prod.mk.injEq .. ▸ hb; simp [binOp,Op.intDiv,Op.intCmp,hp]; done)
  | (injection hb with hb; obtain ⟨rfl,rfl⟩:=Prod.mk.injEq .. ▸ hb; simp [binOp,Op.intBits,andI]; done)
  | (injection hb with hb; obtain ⟨rfl,rfl⟩:=Prod.mk.injEq .. ▸ hb; simp [binOp,Op.shift,shrI,shlI,show ¬ y<0 by omega]; done)
  | (injection hb with hb; obtain ⟨rfl,rfl⟩:=Prod.mk.injEq .. ▸ hb; simp [binOp,Op.intDiv,Op.intCmp,hp.1,zd9 hp.2]; done)
  | (injection hb with hb; obtain ⟨rfl,rfl⟩:=Prod.mk.injEq .. ▸ hb; simp [binOp,Op.intDiv,Op.intCmp]; done)
  | (injection hb with hb; obtain ⟨rfl,rfl⟩:=Prod.mk.injEq .. ▸ hb; simp [binOp,Op.intDiv,Op.intCmp]; rfl)
  | (simp at hb)
theorem zl5 {op:BinOp} {k:IntKind} {x y:Int} {p:Prop} {v:Value} (hb:binW op k x y=some (p,v)) (hp:p) (t:TypeId) (xo yo:Operand) :
  (do eqGuard op t xo yo (.int k x) (.int k y); binOp op t (.int k x) (.int k y):Sem Value).run P w=.ok v w:=by
 unfold binW at hb
 split at hb
 .injection hb with hb; obtain ⟨rfl,rfl⟩:=Prod.mk.injEq .. ▸ hb
  rw [Sem.run_bind,zaT]; simp [binOp,Op.intArith]
 .injection hb with hb; obtain ⟨rfl,rfl⟩:=Prod.mk.injEq .. ▸ hb
  rw [Sem.run_bind,zaT]; simp [binOp,Op.intArith]
 .injection hb with hb; obtain ⟨rfl,rfl⟩:=Prod.mk.injEq .. ▸ hb
  rw [Sem.run_bind,zaT]; simp [binOp,Op.intArith]
 .exact zgJ hb hp t xo yo
def shB (o:BinOp) (k:IntKind) (x y:Int):Option (Prop × Value):=match o with
 | .shr=>some (0<=y,.int k (shrI k x y))
 | .shl=>some (0<=y,.int k (shlI k x y))
 | _=>none
theorem zmN {o:BinOp} {k k':IntKind} {x y:Int} {p:Prop} {v:Value} (hb:shB o k x y=some (p,v)) (hp:p) (t:TypeId) (xo yo:Operand) :
  v.oneCell'=true/\(do eqGuard o t xo yo (.int k x) (.int k' y); binOp o t (.int k x) (.int k' y):Sem Value).run P w=.ok v w:=by
 unfold shB at hb
 split at hb
 .injection hb with hb; obtain ⟨rfl,rfl⟩:=Prod.mk.injEq .. ▸ hb
  refine ⟨rfl,?_⟩
  rw [Sem.run_bind,zaT]
  simp [binOp,Op.shift,shrI,show ¬ y<0 by omega]
 .injection hb with hb; obtain ⟨rfl,rfl⟩:=Prod.mk.injEq .. ▸ hb
  refine ⟨rfl,?_⟩
  rw [Sem.run_bind,zaT]
  simp [binOp,Op.shift,shlI,show ¬ y<0 by omega]
 .simp at hb
def zl0 (P:Program) (t:TypeId):Bool:=match P.underlying t with
 | some .bool=>true
 | _=>false
theorem zmZ {t:TypeId} (h:zl0 P t=true):P.underlying t=some .bool:=by
 unfold zl0 at h
 split at h
 .assumption
 .simp at h
def binB:BinOp->Bool->Bool->Option (Prop × Value)
 | .eql,m,n=>some (True,.bool (m == n))
 | .neq,m,n=>some (True,.bool (m != n))
 | _,_,_=>none
theorem zeT (op:BinOp) (t:TypeId) (x y:Operand) (m n:Bool):(eqGuard op t x y (.bool m) (.bool n)).run P w=.ok () w:=by
 cases op <;> simp [eqGuard]
theorem zdi {t:TypeId} (ht:zl0 P t=true) (m n:Bool):(Op.equal t (.bool m) (.bool n)).run P w=.ok (m == n) w:=by
 have h:∀ d:Nat,(Op.equalIn (d+1) t (.bool m) (.bool n)).run P w=.ok (m == n) w:=fun d=>by
  simp [Op.equalIn,run_underlying (zmZ ht)]
 simp [Op.equal,Op.maxDepth,h 9999]
theorem zlL {op:BinOp} {m n:Bool} {p:Prop} {v:Value} (hb:binB op m n=some (p,v)) {t:TypeId} (ht:zl0 P t=true) (xo yo:Operand) :
  (do eqGuard op t xo yo (.bool m) (.bool n); binOp op t (.bool m) (.bool n):Sem Value).run P w=.ok v w:=by
 rw [Sem.run_bind,zeT]
 cases op <;> simp [binB] at hb
 .obtain ⟨_,rfl⟩:=hb
  simp [binOp,zdi ht]
 .obtain ⟨_,rfl⟩:=hb
  simp [binOp,zdi ht]
  cases m <;> cases n <;> rfl
def zrH (m n:ByteArray):Bool:=m.toList == n.toList
def binS:BinOp->ByteArray->ByteArray->Option (Prop × Value)
 | .eql,m,n=>some (True,.bool (zrH m n))
 | .neq,m,n=>some (True,.bool (!zrH m n))
 | _,_,_=>none
theorem zf6 (op:BinOp) (t:TypeId) (x y:Operand) (m n:ByteArray):(eqGuard op t x y (.string m) (.string n)).run P w=.ok () w:=by
 cases op <;> simp [eqGuard]
theorem zlD {op:BinOp} {m n:ByteArray} {p:Prop} {v:Value} (hb:binS op m n=some (p,v)) (t:TypeId) (xo yo:Operand) :
  (do eqGuard op t xo yo (.string m) (.string n); binOp op t (.string m) (.string n):Sem Value).run P w=.ok v w:=by
 rw [Sem.run_bind,zf6]
 cases op <;> simp [binS] at hb
 .obtain ⟨_,rfl⟩:=hb
  simp [binOp,Op.stringOp,zrH]
 .obtain ⟨_,rfl⟩:=hb
  simp [binOp,Op.stringOp,zrH]
end
end Go.Abs


namespace Go.Abs
variable [DrawK]
open Go.RowKit (Below)
def zaj (P:Program) (t:TypeId):Option (Option Nat) :=
 match P.underlying t with
 | some (.struct _)=>some (some (P.cellsOf t))
 | some (.array _ _)=>some (some (P.cellsOf t))
 | some _=>some none
 | none=>none
def zaE (P:Program) (t:TypeId):Option TypeId :=
 match P.underlying t with
 | some (.slice e)=>some e
 | _=>none
def zar (P:Program) (e:TypeId):Option (Nat × Nat × List AV) :=
 match P.info? e with
 | some i=>match i.zero with
  | some z=>if z.cells.size=i.size then some (i.size,i.bytes,z.cells.toList.map cv) else none
  | none=>none
 | none=>none
def zlx:TypeDesc->Bool
 | .struct _=>true
 | .array _ _=>true
 | _=>false
theorem zdW {P:Program} {t:TypeId} (h:zaj P t=some none):∃ d,P.underlying t=some d/\zlx d=false:=by
 unfold zaj at h
 split at h <;> first | (rename_i d h1 h2 h3; exact ⟨d,h3,by cases d <;> simp_all [zlx]⟩) | simp at h
theorem zih {P:Program} {t:TypeId} {m:Nat} (h:zaj P t=some (some m)):∃ d,P.underlying t=some d/\zlx d=true/\m=P.cellsOf t:=by
 unfold zaj at h
 split at h
 .rename_i d hd; exact ⟨_,hd,rfl,by simpa using h.symm⟩
 .rename_i d hd; exact ⟨_,hd,rfl,by simpa using h.symm⟩
 .simp at h
 .simp at h
theorem zaX {P:Program} {t e:TypeId} (h:zaE P t=some e):P.underlying t=some (.slice e):=by
 unfold zaE at h
 split at h
 .rename_i e' he; rw [he]; simpa using h
 .simp at h
theorem zaR {P:Program} {e:TypeId} {s b:Nat} {zs:List AV} (h:zar P e=some (s,b,zs)) :
  ∃ i z,P.info? e=some i/\i.zero=some z/\i.size=s/\i.bytes=b/\z.cells.size=s/\zs=z.cells.toList.map cv/\P.cellsOf e=s:=by
 unfold zar at h
 split at h
 .rename_i i hi
  split at h
  .rename_i z hz
   split at h
   .rename_i hs; simp at h; obtain ⟨rfl,rfl,rfl⟩:=h; exact ⟨i,z,hi,hz,rfl,rfl,hs,rfl,by simp [Program.cellsOf,hi]⟩
   .simp at h
  .simp at h
 .simp at h
theorem zcY {P:Program} {t:TypeId} {d:TypeDesc} (h:P.underlying t=some d):∃ i,P.info? t=some i/\P.cellsOf t=i.size:=by
 unfold Program.underlying at h
 cases hi:P.info? t with
 | none=>simp [hi] at h
 | some i=>exact ⟨i,rfl,by simp [Program.cellsOf,hi]⟩
section
variable {P:Program} {N:Nat × List Nat} {G:Nat->Prop} {w0:W0} {w w':World} {S:St} {a:Act} {F:Nat->Prop} {oss:Nat->List Nat} {X:List Nat}
theorem zd4 {t:TypeId} {d:TypeDesc} (h:P.underlying t=some d) (w:World):(isAgg t).run P w=.ok (zlx d) w:=by
 simp only [isAgg,Sem.run_bind,run_underlying h,Result.andThen_ok]
 cases d <;> rfl
theorem zdu {w:World} {X:List Nat} {i:Nat}:∀ {p:List Nat} {v u v':Value} {b:Nat} {c:Array Value} {e:TypeId} {fr:Nat × Nat},zah w X v p u->zaP u=some b->b∈X ->
  w.heap[b]?=some (.cells c e fr)->c[i]?=some v'->zah w X v (p++[i]) v'
 | [],v,u,v',b,c,e,fr,h,hb,hx,hh,hc=>⟨b,c,e,fr,v',by rw [<- (show u=v from h)]; exact hb,hx,hh,hc,rfl⟩
 | j::p,v,u,v',b,c,e,fr,h,hb,hx,hh,hc=>by
  obtain ⟨b1,c1,e1,fr1,v1,h1,h2,h3,h4,h5⟩:=h
  exact ⟨b1,c1,e1,fr1,v1,h1,h2,h3,h4,zdu h5 hb hx hh hc⟩
theorem zjv {c:AV} {u:Value} {os:List Nat} {cs:List AV} (h:RepC P w F c u os) (hk:kids c=some cs) (hne:cs≠[]) :
  ∃ b e cc ol,zaP u=some b/\os=b::ol/\w.heap[b]?=some (.cells cc e (0,0))/\RepL P w F cs cc.toList ol /\
   (∀ (w':World) (F':Nat->Prop) cs' ol' (cc':Array Value),w'.heap[b]?=some (.cells cc' e (0,0))->cc'.size=cc.size->RepL P w' F' cs' cc'.toList ol'->RepC P w' F' (zbr c cs') u (b::ol')):=by
 cases h with
 | own b e n cap cc cs0 ol hb hn hc hl =>
  simp [kids] at hk; subst hk
  exact ⟨b,e,cc,ol,rfl,rfl,hb,hl,fun w' F' cs' ol' cc' hh hs hl'=>.own b e n cap cc' cs' ol' hh hn (by rw [hs]; exact hc) hl'⟩
 | ofs b k e n cap cc cs0 ol hb hn hl =>
  simp [kids] at hk; subst hk
  exact ⟨b,e,cc,ol,rfl,rfl,hb,hl,fun w' F' cs' ol' cc' hh hs hl'=>.ofs b k e n cap cc' cs' ol' hh hn hl'⟩
 | box b e cc cs0 ol hb hl =>
  simp [kids] at hk; subst hk
  exact ⟨b,e,cc,ol,rfl,rfl,hb,hl,fun w' F' cs' ol' cc' hh hs hl'=>.box b e cc' cs' ol' hh hl'⟩
 | own0 e=>simp [kids] at hk; subst hk; exact (hne rfl).elim
 | mp=>simp [kids] at hk; subst hk; exact (hne rfl).elim
 | it=>simp [kids] at hk; subst hk; exact (hne rfl).elim
 | _=>simp [kids] at hk
def ctn (S:St) (s:Nat) (p:List Nat):Option (AV × List AV) :=
 match kids (S s),getP (S s) p with
 | some _,some c=>match kids c with
  | some cs=>some (c,cs)
  | none=>none
 | _,_=>none
theorem zaC {s:Nat} {p:List Nat} {c:AV} {cs:List AV} (h:ctn S s p=some (c,cs)):kids (S s)≠none/\getP (S s) p=some c/\kids c=some cs:=by
 unfold ctn at h
 split at h
 .rename_i x c' hk hg
  split at h
  .rename_i cs' hc
   simp at h; obtain ⟨rfl,rfl⟩:=h
   exact ⟨by simp [hk],hg,hc⟩
  .simp at h
 .simp at h
def adr (S:St):Operand->Option (Nat × List Nat × Nat)
 | .tmp t=>match S t with
  | .ptr s p off=>some (s,p,off)
  | .box _ _=>some (t,[],0)
  | .bor s p=>match ctn S s p with
   | some (.box _ _,_)=>some (s,p,0)
   | _=>none
  | _=>none
 | _=>none
theorem Core.adr (h:Core P N G w0 S a w F oss X) {x:Operand} {s:Nat} {p:List Nat} {off:Nat} (hx:adr S x=some (s,p,off)) {c:AV} {cs:List AV}
  (hc:ctn S s p=some (c,cs)) (hne:cs≠[]) {u:Value} (hu:zah w (oss s) (tmo a s) p u):∃ b,zaP u=some b/\a.eval x=.pointer (some ⟨b,off,none⟩):=by
 obtain ⟨hk,hg,hkc⟩:=zaC hc
 obtain ⟨u',o1,ou,o2,k1,k2,k3,k4,k5,k6⟩:=h.inplace hk hg
 have:=zaq hu k1; subst this
 obtain ⟨b,e,cc,ol,r1,r2,r3,r4,r5⟩:=zjv k2 hkc hne
 refine ⟨b,r1,?_⟩
 cases x with
 | tmp t =>
  have hr:=h.get t
  simp only [Abs.adr] at hx
  generalize hv:a.eval (.tmp t)=v at hr |-
  split at hx
  .rename_i s' p' off' hS
   simp at hx; obtain ⟨rfl,rfl,rfl⟩:=hx
   rw [hS] at hr
   generalize oss t=ot at hr
   cases hr with
   | cell _ _ _ hc=>cases hc
   | ptr _ _ _ u'' b' h1 h2 =>
    have:=zaq hu h1; subst this
    rw [r1] at h2; injection h2 with h2; subst h2; rfl
  .rename_i e' cs' hS
   simp at hx; obtain ⟨rfl,rfl,rfl⟩:=hx
   have hu':u=tmo a t:=hu
   have hv':v=tmo a t:=hv.symm
   rw [<- hu'] at hv'; subst hv'
   rw [hS] at hr
   generalize oss t=ot at hr
   cases hr with
   | cell _ _ _ hc=>cases hc with
    | box b' _ _ _ _ _ _=>simp [zaP] at r1; subst r1; rfl
  .rename_i s' p' hS
   split at hx
   .rename_i e'' cs'' cs3 hct
    simp at hx; obtain ⟨rfl,rfl,rfl⟩:=hx
    rw [hc] at hct; simp at hct; obtain ⟨rfl,rfl⟩:=hct
    rw [hS] at hr
    generalize oss t=ot at hr
    cases hr with
    | cell _ _ _ hc=>cases hc
    | bor _ _ _ h1 =>
     have:=zaq hu h1; subst this
     cases k2 with
     | box b' _ _ _ _ _ _=>simp [zaP] at r1; subst r1; rfl
   .simp at hx
  .simp at hx
 | _=>simp [Abs.adr] at hx
def ldC (s:Nat) (p:List Nat) (i:Nat) (c:AV):AV:=if isOB c then .bor s (p++[i]) else c
theorem zbt {b:Nat} {cc:Array Value} {e:TypeId} {fr:Nat × Nat} (h:w.heap[b]?=some (.cells cc e fr)) (i:Nat):w.cell? ⟨b,i,none⟩=cc[i]?:=by
 simp [World.cell?,h]
theorem zjb {T:TypeId} (hT:zaj P T=some none) {b i:Nat} {v:Value} (h:w.cell? ⟨b,i,none⟩=some v):(Instr.loadAt T (.pointer (some ⟨b,i,none⟩))).run P w=.ok v w:=by
 obtain ⟨d,hd,hf⟩:=zdW hT
 have:=zd4 hd w
 rw [hf] at this
 simp only [Instr.loadAt,Instr.sureAddr,loadVar,Sem.run_bind,Sem.run_pure,Result.andThen_ok,this,load]
 simp [Sem.run,h]
def zad:Operand->List Nat
 | .tmp t=>[t]
 | _=>[]
def ld1A (S:St) (d:Nat) (rx:List Nat) (s:Nat) (p:List Nat) (off:Nat):Option (List Nat × List Upd) :=
 match ctn S s p with
 | some (_,cs)=>match cs[off]? with
  | some .any=>none
  | some c=>some (rx++[s],[.w d (ldC s p off c)])
  | none=>none
 | none=>none
def ld1S (S:St) (d:Nat) (x:Operand):Option (List Nat × List Upd) :=
 match adr S x with
 | some (s,p,off)=>ld1A S d (zad x) s p off
 | none=>match aop S x with
  | .fptr (.any::_)=>none
  | .fptr (c::_)=>some (zad x,[.w d c])
  | _=>none
theorem zo2 (h:Core P N G w0 S a w F oss []) {T:TypeId} (hT:zaj P T=some none) {d:Nat} (hd:OkD N d) {x:Operand} {rd:List Nat} {U:List Upd} (hm:ld1S S d x=some (rd,U)) :
  ∃ v,(Instr.loadAt T (a.eval x)).run P w=.ok v w/\StRel P N G w0 (app U S) (a.put (some d) v) w:=by
 unfold ld1S at hm
 split at hm
 .rename_i s p off ha
  unfold ld1A at hm
  split at hm
  .rename_i c cs hc
   obtain ⟨hk,hg,hkc⟩:=zaC hc
   obtain ⟨u,o1,ou,o2,k1,k2,k3,k4,k5,k6⟩:=h.inplace hk hg
   have key:∀ ci,cs[off]?=some ci->ci≠.any->∃ v,(Instr.loadAt T (a.eval x)).run P w=.ok v w/\StRel P N G w0 (app [.w d (ldC s p off ci)] S) (a.put (some d) v) w:=by
    intro ci hi hne
    have hcs:cs≠[]:=by intro e; subst e; simp at hi
    obtain ⟨b,hb,hx⟩:=h.adr ha hc hcs k1
    obtain ⟨b',e,cc,ol,r1,r2,r3,r4,r5⟩:=zjv k2 hkc hcs
    rw [hb] at r1; injection r1 with r1; subst r1
    obtain ⟨v,l1,lu,l2,e1,e2,e3,e4⟩:=RepL.get r4 hi
    refine ⟨v,?_,?_⟩
    .rw [hx]; exact zjb hT (by rw [zbt r3]; simpa using e1)
    .refine h.put0 hd ?_
     unfold ldC
     split
     .exact .bor s _ v (zdu k1 hb (by rw [k3,r2]; simp) r3 (by simpa using e1))
     .rename_i hob
      have:lu=[]:=(RepT.cell (tm:=tmo a) (oss:=oss) _ _ _ e2).noOwn (by cases e2 <;> simp_all [isOB,zbC])
      subst this
      exact .cell _ _ _ e2
   split at hm
   .simp at hm
   .rename_i ci hne hi
    injection hm with hm; obtain ⟨rfl,rfl⟩:=Prod.mk.injEq .. ▸ hm
    exact key ci hi (fun e=>hne (e ▸ rfl))
   .simp at hm
  .simp at hm
 .split at hm
  .simp at hm
  .rename_i c cs hc hf
   injection hm with hm; obtain ⟨rfl,rfl⟩:=Prod.mk.injEq .. ▸ hm
   obtain ⟨os,ho,_⟩:=h.op x
   rw [hf] at ho
   generalize hu:a.eval x=u at ho
   cases ho with
   | cell _ _ _ hc'=>cases hc' with
    | fptr b off cc e fr cs hF hb hl =>
     obtain ⟨v,e1,e2⟩:=RepL.get0 hl (i:=0) rfl
     simp at e1
     exact ⟨v,zjb hT (by rw [zbt hb]; simpa using e1),h.put0 hd (.cell _ _ _ e2)⟩
  .simp at hm
def ixS (P:Program) (S:St) (d:Nat) (T:TypeId) (x i:Operand):Option (Prop × List Nat × List Upd) :=
 match zaE P T,aop S i with
 | some e,.val (.int _ n)=>match zar P e with
  | some (es,_,_)=>match x,aop S x with
   | .tmp t,.own _ m _=>some (0<=n/\n<m,t::zad i,[.w d (.ptr t [] (n.toNat*es))])
   | .tmp t,.bor s p=>match ctn S s p with
    | some (.own _ m _,_)=>some (0<=n/\n<m,t::s::zad i,[.w d (.ptr s p (n.toNat*es))])
    | some (.ofs k _ m _,_)=>some (0<=n/\n<m,t::s::zad i,[.w d (.ptr s p (k+n.toNat*es))])
    | _=>none
   | .tmp t,.sl m cs=>some (0<=n/\n<m/\cs≠[],t::zad i,[.w d (.fptr (cs.drop (n.toNat*es)))])
   | _,_=>none
  | none=>none
 | _,_=>none
theorem zaQ {e:TypeId} {i:TypeInfo} (h:P.info? e=some i) (w:World):(sizeOf e).run P w=.ok (P.cellsOf e) w:=by
 simp [sizeOf,typeInfo,h,Program.cellsOf]
theorem zaY (b off q:Nat):(⟨b,off,none⟩:Addr).add q=⟨b,off+q,none⟩:=by unfold Addr.add; split <;> simp_all
theorem zoC {T e:TypeId} (hT:zaE P T=some e) {i:TypeInfo} (hi:P.info? e=some i) (k:IntKind) (n:Int) (b off m cap:Nat) (h0:0<=n) (h1:n<m) :
  (Instr.indexAt T (.slice (some ⟨b,off,none⟩) m cap) (.int k n)).run P w=.ok (.pointer (some ⟨b,off+n.toNat*P.cellsOf e,none⟩)) w:=by
 have hu:=zaX hT
 simp only [Instr.indexAt,asIntOf,Sem.run_bind,Sem.run_pure,Result.andThen_ok,run_underlying hu]
 simp only [h0,h1,and_self,if_true,Sem.run_bind,zaQ hi,Result.andThen_ok,Sem.run_pure,zaY]
theorem zql (h:Core P N G w0 S a w F oss []) {T:TypeId} {d:Nat} (hd:OkD N d) {x i:Operand} {p:Prop} {rd:List Nat} {U:List Upd} (hm:ixS P S d T x i=some (p,rd,U)) (hp:p) :
  ∃ v,(Instr.indexAt T (a.eval x) (a.eval i)).run P w=.ok v w/\StRel P N G w0 (app U S) (a.put (some d) v) w:=by
 unfold ixS at hm
 split at hm
 .rename_i e k n hT hi
  split at hm
  case h_2=>simp at hm
  rename_i es by_ zs hI
  obtain ⟨inf,zv,hinf,_,_,_,_,_,hes⟩:=zaR hI
  subst hes
  rw [h.int hi]
  have own:∀ (s:Nat) (q:List Nat) (e':TypeId) (m:Nat) (cs:List AV) (u:Value),ctn S s q=some (.own e' m cs,cs)->zah w (oss s) (tmo a s) q u->0<=n/\n<m ->
    ∃ v,(Instr.indexAt T u (.int k n)).run P w=.ok v w/\StRel P N G w0 (app [.w d (.ptr s q (n.toNat*P.cellsOf e))] S) (a.put (some d) v) w:=by
   intro s q e' m cs u hc hu hn
   obtain ⟨hk,hg,hkc⟩:=zaC hc
   obtain ⟨u',o1,ou,o2,k1,k2,k3,k4,k5,k6⟩:=h.inplace hk hg
   have:=zaq hu k1; subst this
   cases k2 with
   | own0 e=>omega
   | own b e n' cap c cs os hb hn' hc hl =>
    have:=zoC (w:=w) hT hinf k n b 0 m cap hn.1 hn.2
    rw [Nat.zero_add] at this
    exact ⟨_,this,h.put0 hd (.ptr s q _ _ b hu rfl)⟩
  split at hm
  .rename_i t e' m cs hS
   simp only [Option.some.injEq,Prod.mk.injEq] at hm; obtain ⟨rfl,rfl,rfl⟩:=hm
   exact own t [] e' m cs _ (by simp only [aop] at hS; simp [ctn,hS,kids,getP]) rfl hp
  .rename_i t s q hS
   have hr:=h.get t
   simp only [aop] at hS
   rw [hS] at hr
   generalize hu:a.eval (.tmp t)=u at hr |-
   generalize oss t=ot at hr
   split at hm
   .rename_i e' m cs' cs hc
    simp only [Option.some.injEq,Prod.mk.injEq] at hm; obtain ⟨rfl,rfl,rfl⟩:=hm
    have hcs:cs'=cs:=by have:=(zaC hc).2.2; simpa [kids] using this
    subst hcs
    cases hr with
    | cell _ _ _ hc=>cases hc
    | bor _ _ _ h1=>exact own s q e' m cs' _ hc h1 hp
   .rename_i k' e' m cs' cs hc
    simp only [Option.some.injEq,Prod.mk.injEq] at hm; obtain ⟨rfl,rfl,rfl⟩:=hm
    cases hr with
    | cell _ _ _ hc=>cases hc
    | bor _ _ _ hu' =>
     obtain ⟨hk,hg,hkc⟩:=zaC hc
     obtain ⟨u',o1,ou,o2,k1,k2,k3,k4,k5,k6⟩:=h.inplace hk hg
     have:=zaq hu' k1; subst this
     cases k2 with
     | ofs b k'' e n' cap c cs os hb hn' hl =>
      exact ⟨_,zoC (w:=w) hT hinf k n b k' m cap hp.1 hp.2,h.put0 hd (.ptr s q _ _ b hu' rfl)⟩
   .simp at hm
  .rename_i t m cs hS
   simp only [Option.some.injEq,Prod.mk.injEq] at hm; obtain ⟨rfl,rfl,rfl⟩:=hm
   have hr:=h.get t
   simp only [aop] at hS
   rw [hS] at hr
   generalize hu:a.eval (.tmp t)=u at hr |-
   generalize oss t=ot at hr
   cases hr with
   | cell _ _ _ hc=>cases hc with
    | sl0=>exact (hp.2.2 rfl).elim
    | sl b off m cap c e'' fr cs hF hb hl hn =>
     refine ⟨_,zoC (w:=w) hT hinf k n b off m cap hp.1 hp.2.1,h.put0 hd (.cell _ _ _ (.fptr b _ c e'' fr _ hF hb ?_))⟩
     have:=hl.drop (n.toNat*P.cellsOf e)
     rwa [List.drop_drop] at this
  .simp at hm
 .simp at hm
end
end Go.Abs


namespace Go.Abs
variable [DrawK]
open Go.RowKit (Below)
section
variable {P:Program} {N:Nat × List Nat} {G:Nat->Prop} {w0:W0} {w w':World} {S:St} {a:Act} {F:Nat->Prop} {oss:Nat->List Nat} {X:List Nat}
theorem Core.newBlock (h:Core P N G w0 S a w F oss X) {c:Array Value} {e:TypeId} (ho:w'.os=w.os) (ht:w'.tape=w.tape) (hp:w'.output=w.output/\w.drawn*dK<=w'.drawn*dK)
  (hs:w'.heap.size=w.heap.size+1) (hh:w'.heap[w.heap.size]?=some (.cells c e (0,0))) (hw:∀ b,b<w.heap.size->w'.heap[b]?=w.heap[b]?) :
  Core P N G w0 S a w' F oss (w.heap.size::X) :=
 h.world ho ht hp (by omega) (fun b hb _=>hw b hb) (fun _ h=>h) (fun _ h=>.inl h)
  (fun b hb=>by
   rcases List.mem_cons.1 hb with rfl | hb
   .exact ⟨.inr (Nat.le_refl _),by omega,fun hf=>by have:=h.fw _ hf; omega⟩
   .exact ⟨.inl hb,by have:=(h.xo b hb).2; omega,(h.xo b hb).1⟩)
  (List.nodup_cons.2 ⟨fun hx=>by have:=(h.xo _ hx).2; omega,h.xn⟩)
theorem Core.newOwn (h:Core P N G w0 S a w F oss X) {c:Array Value} {e:TypeId} {cs:List AV} {n cap:Nat} (ho:w'.os=w.os) (ht:w'.tape=w.tape) (hp:w'.output=w.output/\w.drawn*dK<=w'.drawn*dK)
  (hs:w'.heap.size=w.heap.size+1) (hh:w'.heap[w.heap.size]?=some (.cells c e (0,0))) (hw:∀ b,b<w.heap.size->w'.heap[b]?=w.heap[b]?)
  (hn:n<=cap) (hc:cap*P.cellsOf e<=c.size) (hl:RepL P w F cs c.toList X) {d:Nat} (hd:OkD N d) :
  StRel P N G w0 (upd d (.own e n cs) S) (a.put (some d) (.slice (some ⟨w.heap.size,0,none⟩) n cap)) w':=by
 refine (h.newBlock ho ht hp hs hh hw).putX hd (.cell _ _ _ (.own _ e n cap c cs X hh hn hc (hl.mono (fun _ h=>h) (fun b hb=>?_))))
 rcases hb with hb | hb
 .exact hw b (h.fw b hb)
 .exact hw b (h.xo b hb).2
theorem Core.newBox (h:Core P N G w0 S a w F oss X) {c:Array Value} {e:TypeId} {cs:List AV} (ho:w'.os=w.os) (ht:w'.tape=w.tape) (hp:w'.output=w.output/\w.drawn*dK<=w'.drawn*dK)
  (hs:w'.heap.size=w.heap.size+1) (hh:w'.heap[w.heap.size]?=some (.cells c e (0,0))) (hw:∀ b,b<w.heap.size->w'.heap[b]?=w.heap[b]?)
  (hl:RepL P w F cs c.toList X) {d:Nat} (hd:OkD N d) :
  StRel P N G w0 (upd d (.box e cs) S) (a.put (some d) (.pointer (some ⟨w.heap.size,0,none⟩))) w':=by
 refine (h.newBlock ho ht hp hs hh hw).putX hd (.cell _ _ _ (.box _ e c cs X hh (hl.mono (fun _ h=>h) (fun b hb=>?_))))
 rcases hb with hb | hb
 .exact hw b (h.fw b hb)
 .exact hw b (h.xo b hb).2
def tks (cf:Cfg):St->List Operand->Option (List AV × List Upd)
 | _,[]=>some ([],[])
 | S,x::xs=>match tk cf S x with
  | some (c,U)=>match tks cf (app U S) xs with
   | some (cs,V)=>some (c::cs,U++V)
   | none=>none
  | none=>none
theorem Core.tks {cf:Cfg}:∀ {xs:List Operand} {S:St} {F:Nat->Prop} {oss:Nat->List Nat} {X:List Nat} (_:Core P N G w0 S a w F oss X) {cs:List AV} {U:List Upd},
  tks cf S xs=some (cs,U)->∃ F' oss' oc,Core P N G w0 (app U S) a w F' oss' (oc++X)/\RepL P w F' cs (xs.map a.eval) oc/\cs.length=xs.length/\(∀ b,F b->F' b)
 | [],S,F,oss,X,h,cs,U,hc=>by
  simp [Abs.tks] at hc; obtain ⟨rfl,rfl⟩:=hc
  exact ⟨F,oss,[],h,.nil _,rfl,fun _ h=>h⟩
 | x::xs,S,F,oss,X,h,cs,U,hc=>by
  rw [Abs.tks] at hc
  split at hc
  .rename_i c U1 h1
   split at hc
   .rename_i cs' V h2
    simp only [Option.some.injEq,Prod.mk.injEq] at hc; obtain ⟨rfl,rfl⟩:=hc
    obtain ⟨F1,oss1,oc1,k1,k2,k3⟩:=h.tk h1
    obtain ⟨F2,oss2,oc2,m1,m2,m3,m4⟩:=Core.tks k1 h2
    refine ⟨F2,oss2,oc1++oc2,?_,?_,by simp [m3],fun b hb=>m4 b (k3 b hb)⟩
    .rw [zaH]
     refine m1.sub (fun b hb=>?_) ?_
     .simp only [List.mem_append] at hb |-
      rcases hb with (hb | hb) | hb
      .exact .inr (.inl hb)
      .exact .inl hb
      .exact .inr (.inr hb)
     .have:=m1.xn
      simp only [List.nodup_append,List.mem_append] at this |-
      obtain ⟨n1,⟨n2,n3,n4⟩,n5⟩:=this
      refine ⟨⟨n2,n1,fun x hx y hy e=>n5 y hy x (.inl hx) e.symm⟩,n3,fun x hx y hy=>?_⟩
      rcases hx with hx | hx
      .exact n4 x hx y hy
      .exact n5 x hx y (.inr hy)
    .exact .cons _ _ _ _ _ _ (k2.mono m4 (fun _ _=>rfl)) m2
   .simp at hc
  .simp at hc
def zok:Nat->List (Nat × Operand)->Bool
 | _,[]=>true
 | k,(i,_)::ps=>i == k && zok (k+1) ps
def bsS (P:Program) (cf:Cfg) (S:St) (d:Nat) (T:TypeId) (len:Nat) (parts:List (Nat × Operand)):Option (Prop × List Nat × List Upd) :=
 match zaE P T with
 | some e=>match zar P e with
  | some (1,_,_)=>if zok 0 parts && (parts.length == len) then
    match tks cf S (parts.map (·.2)) with
    | some (cs,U)=>some (len<=16777216,parts.flatMap (fun x=>zad x.2),U++[.w d (.own e len cs)])
    | none=>none
   else none
  | _=>none
 | none=>none
theorem zrK (vs:List Value) (h1:∀ v∈vs,v.oneCell'=true):∀ (k:Nat) (cells:Array Value),k+vs.length<=cells.size ->
  Instr.fill (fun i=>some (i*1,1)) cells ((vs.zipIdx k).map fun x=>(x.2,x.1))=some (cells.toList.take k++vs++cells.toList.drop (k+vs.length)).toArray:=by
 induction vs with
 | nil=>intro k cells h; simp [Instr.fill]
 | cons v vs ih =>
  intro k cells h
  have hv:v.cells=#[v]:=by
   have:=h1 v (by simp)
   cases v <;> simp [Value.oneCell',Value.cells] at *
  simp only [List.length_cons] at h
  have hk:k<cells.size:=by omega
  simp only [List.zipIdx_cons,List.map_cons,Instr.fill,Nat.mul_one,hv]
  have hs:(#[v]:Array Value).zipIdx.foldl (fun cs (x:Value × Nat)=>cs.setIfInBounds (k+x.2) x.1) cells=cells.setIfInBounds k v:=by simp [Array.zipIdx]
  simp only [List.size_toArray,List.length_cons,List.length_nil,Nat.zero_add]
  rw [if_neg (by simp; omega)]
  have:=ih (fun u hu=>h1 u (by simp [hu])) (k+1) (cells.setIfInBounds k v) (by simp; omega)
  simp only [Nat.mul_one] at this
  erw [hs,this]
  congr 2
  simp only [Array.toList_setIfInBounds,List.length_cons]
  have e1:(cells.toList.set k v).take (k+1)=cells.toList.take k++[v]:=by
   rw [List.take_add_one,List.take_set_of_le (Nat.le_refl k)]
   simp [hk]
  rw [e1,List.drop_set_of_lt (by omega)]
  simp [Nat.add_assoc,Nat.add_comm 1]
theorem zeO (a:Act):∀ (parts:List (Nat × Operand)) (k:Nat),zok k parts=true ->
  (parts.map fun x=>(x.1,a.eval x.2))=(((parts.map (·.2)).map a.eval).zipIdx k).map fun x=>(x.2,x.1)
 | [],k,_=>rfl
 | (i,x)::ps,k,h=>by
  simp [zok] at h
  simp [h.1,zeO a ps (k+1) h.2]
theorem zq6 (h:Core P N G w0 S a w F oss []) {cf:Cfg} {T:TypeId} {len:Nat} {parts:Array (Nat × Operand)} {d:Nat} (hd:OkD N d) {p:Prop} {rd:List Nat} {U:List Upd}
  (hm:bsS P cf S d T len parts.toList=some (p,rd,U)) (hp:p) :
  ∃ v w',(Instr.buildSlice T len (parts.map fun (i,x)=>(i,a.eval x))).run P w=.ok v w'/\StRel P N G w0 (app U S) (a.put (some d) v) w':=by
 unfold bsS at hm
 split at hm
 .rename_i e hT
  have hu:=zaX hT
  split at hm
  .rename_i b zs hI
   obtain ⟨i,z,i1,i2,i3,i4,i5,i6,i7⟩:=zaR hI
   split at hm
   .rename_i hidx
    simp only [Bool.and_eq_true,beq_iff_eq] at hidx
    split at hm
    .rename_i cs U1 hk
     simp only [Option.some.injEq,Prod.mk.injEq] at hm; obtain ⟨rfl,rfl,rfl⟩:=hm
     obtain ⟨F',oss',oc,k1,k2,k3,k4⟩:=h.tks hk
     simp only [List.append_nil] at k1
     rw [zaH]
     have hlen:cs.length=len:=by rw [k3]; simpa using hidx.2
     have key:∀ c:Array Value,c.toList=(parts.toList.map (·.2)).map a.eval->StRel P N G w0 (app [.w d (.own e len cs)] (app U1 S)) (a.put (some d) (.slice (some ⟨w.heap.size,0,none⟩) len len)) (w.alloc (.cells c e)):=by
      intro c hc
      have hsz:c.size=len:=by rw [<- Array.length_toList,hc]; simpa using hidx.2
      exact k1.newOwn (w':=w.alloc (.cells c e)) (c:=c) (e:=e) (cs:=cs) (n:=len) (cap:=len) rfl rfl ⟨rfl,by first | exact Nat.le_refl _ | exact zbk _⟩ (by simp) (heap_alloc_new w _) (fun b hb=>Below.heap_alloc w _ b hb) (Nat.le_refl _) (by rw [i7,hsz]; omega) (by rw [hc]; exact k2) hd
     have hpl:(parts.map fun (i,x)=>(i,a.eval x)).toList=((((parts.toList.map (·.2)).map a.eval).zipIdx 0).map fun x=>(x.2,x.1)):=by
      rw [Array.toList_map]; exact zeO a _ 0 hidx.1
     by_cases h0:len=0
     .subst h0
      have hnil:parts.toList=[]:=List.eq_nil_of_length_eq_zero (by simpa using hidx.2)
      refine ⟨_,_,?_,key #[] (by simp [hnil])⟩
      simp [Instr.buildSlice,run_underlying hu,zaQ i1,newRow,hnil,Instr.fill]
      have:parts=#[]:=by apply Array.ext'; simpa using hnil
      subst this; simp [Array.range_zero']
     .refine ⟨_,_,Go.run_buildSlice w T e len _ (((parts.toList.map (·.2)).map a.eval).toArray) i z hu i1 i2 (by rw [i3]; omega) (by rw [i3]; omega) ?_,key _ rfl⟩
      rw [hpl,i3]
      rw [zrK _ _ 0 _ (by simp; simpa using Nat.le_of_eq hidx.2)]
      .have e1:((parts.toList.map (·.2)).map a.eval).length=len:=by simpa using hidx.2
       congr 2
       rw [List.take_zero,List.nil_append,Nat.zero_add,e1,List.drop_of_length_le (by simp),List.append_nil]
      .have:=k2.oneCell
       rw [k3] at this
       intro v hv
       exact this v (by rw [List.take_of_length_le (by simp)]; exact hv)
    .simp at hm
   .simp at hm
  .simp at hm
 .simp at hm
end
end Go.Abs


namespace Go.Abs
variable [DrawK]
open Go.RowKit (Below)
section
variable {P:Program} {N:Nat × List Nat} {G:Nat->Prop} {w0:W0} {w w':World} {S:St} {a:Act} {F:Nat->Prop} {oss:Nat->List Nat} {X:List Nat}
def isV:AV->Bool
 | .val _=>true
 | _=>false
def mkS (P:Program) (S:St) (d:Nat) (T:TypeId) (len cap:Operand):Option (Prop × List Nat × List Upd) :=
 match zaE P T,aop S len,aop S cap with
 | some e,.val (.int _ n),.val (.int _ c)=>match zar P e with
  | some (1,by_,[.val z])=>some (0<=n/\n<=c/\(by_:Int)*c<=281474976710656/\c<=9223372036854775807,zad len++zad cap,[.w d (.own e n.toNat (List.replicate n.toNat (.val z)))])
  | some (_,by_,zs)=>if zs.all isV=true then some (0<=n/\n<=c/\(by_:Int)*c<=281474976710656/\c<=9223372036854775807,zad len++zad cap,[.w d (.own e n.toNat (List.replicate n.toNat zs).flatten)]) else none
  | none=>none
 | _,_,_=>none
theorem znP {u z:Value} (h:cv u=.val z):u=z/\z.oneCell'=true:=by
 unfold cv at h
 split at h <;> first | (injection h with h; subst h; exact ⟨rfl,rfl⟩) | simp at h
theorem RepL.replicate {c:AV} {v:Value} (h:RepC P w F c v []):∀ (n m:Nat),n<=m->RepL P w F (List.replicate n c) (List.replicate m v) []
 | 0,m,_=>.nil _
 | n+1,0,h=>by omega
 | n+1,m+1,hm=>by
  rw [List.replicate_succ,List.replicate_succ]
  exact .cons _ _ [] _ _ [] h (RepL.replicate h n m (by omega))
theorem RepL.of_get {F:Nat->Prop}:∀ {cs:List AV} {vs:List Value},(∀ (j:Nat) c,cs[j]?=some c->∃ v,vs[j]?=some v/\RepC P w F c v [])->RepL P w F cs vs []
 | [],vs,_=>.nil _
 | c::cs,[],h=>by
  obtain ⟨v,hv,_⟩:=h 0 c rfl
  simp at hv
 | c::cs,v::vs,h=>by
  obtain ⟨v',hv,hr⟩:=h 0 c rfl
  simp at hv; subst hv
  exact .cons _ _ [] _ _ [] hr (RepL.of_get (fun j c hj=>by simpa using h (j+1) c (by simpa using hj)))
theorem zkS {α:Type} (zs:List α) (hp:0<zs.length):∀ (n j:Nat),(List.replicate n zs).flatten[j]?=if j<n*zs.length then zs[j%zs.length]? else none
 | 0,j=>by simp
 | n+1,j=>by
  rw [List.replicate_succ,List.flatten_cons]
  by_cases h:j<zs.length
  .rw [List.getElem?_append_left h,Nat.mod_eq_of_lt h,if_pos (by rw [Nat.add_mul]; omega)]
  .rw [List.getElem?_append_right (by omega),zkS zs hp n,Nat.mod_eq_sub_mod (by omega:j >= zs.length)]
   by_cases h2:j-zs.length<n*zs.length
   .rw [if_pos h2,if_pos (by rw [Nat.add_mul]; omega)]
   .rw [if_neg h2,if_neg (by rw [Nat.add_mul]; omega)]
theorem zrr {z:Array Value} (hz:((z.toList.map cv).all isV)=true) (n m:Nat) (h:n<=m):RepL P w F (List.replicate n (z.toList.map cv)).flatten (madeCells z (m*z.size)).toList []:=by
 refine RepL.of_get (fun j c hj=>?_)
 rcases Nat.eq_zero_or_pos z.size with h0 | hp
 .have:z.toList=[]:=List.eq_nil_of_length_eq_zero (by simpa using h0)
  rw [this] at hj
  simp at hj
 rw [zkS _ (by simpa using hp)] at hj
 split at hj
 .rename_i hlt
  simp only [List.length_map,Array.length_toList] at hlt hj
  have hjz:j%z.size<z.size:=Nat.mod_lt _ hp
  rw [List.getElem?_map] at hj
  have e1:z.toList[j%z.size]?=some z[j%z.size]! := by simp [hjz]
  rw [e1] at hj
  simp only [Option.map_some,Option.some.injEq] at hj
  have hjm:j<m*z.size:=Nat.lt_of_lt_of_le hlt (Nat.mul_le_mul_right _ h)
  refine ⟨z[j%z.size]!,?_,?_⟩
  .rw [Array.getElem?_toList]; simp [madeCells,hjm]
  .have hv:=(List.all_eq_true.1 hz) c (by rw [<- hj]; exact List.mem_map.2 ⟨_,List.mem_of_getElem? e1,rfl⟩)
   cases c with
   | val u =>
    obtain ⟨rfl,h2⟩:=znP hj
    exact .val _ h2
   | _=>simp [isV] at hv
 .simp at hj
theorem zqS (h:Core P N G w0 S a w F oss []) {T:TypeId} {len cap:Operand} {d:Nat} (hd:OkD N d) {p:Prop} {rd:List Nat} {U:List Upd}
  (hm:mkS P S d T len cap=some (p,rd,U)) (hp:p) :
  ∃ v w',(Instr.makeSlice T (a.eval len) (a.eval cap)).run P w=.ok v w'/\StRel P N G w0 (app U S) (a.put (some d) v) w':=by
 unfold mkS at hm
 split at hm
 .rename_i e k n k' c hT hl hc
  have hu:=zaX hT
  split at hm
  .rename_i by_ z hI
   simp only [Option.some.injEq,Prod.mk.injEq] at hm; obtain ⟨rfl,rfl,rfl⟩:=hm
   obtain ⟨i,zv,i1,i2,i3,i4,i5,i6,i7⟩:=zaR hI
   rw [h.int hl,h.int hc]
   obtain ⟨p1,p2,p3,p4⟩:=hp
   subst i4
   refine ⟨_,_,run_make w T e i zv hu i1 i2 k k' n c p1 p2 p3 p4,?_⟩
   obtain ⟨z0,hz0⟩:∃ z0,zv.cells=#[z0]:=by
    have:zv.cells.toList.length=1:=by simpa using i5
    match hh:zv.cells.toList,this with
    | [z0],_=>exact ⟨z0,by apply Array.ext'; simpa using hh⟩
   rw [hz0] at i6
   simp at i6
   obtain ⟨rfl,hone⟩:=znP i6.symm
   have hlist:(madeCells zv.cells (c.toNat*i.size)).toList=List.replicate c.toNat z0:=by
    rw [hz0,i3,Nat.mul_one,toList_madeCells_one]
   exact h.newOwn (w':=w.alloc (.cells (madeCells zv.cells (c.toNat*i.size)) e)) (c:=madeCells zv.cells (c.toNat*i.size)) (e:=e) (n:=n.toNat) (cap:=c.toNat) rfl rfl ⟨rfl,by first | exact Nat.le_refl _ | exact zbk _⟩ (by simp) (heap_alloc_new w _) (fun b hb=>Below.heap_alloc w _ b hb)
    (by omega) (by rw [i7,<- Array.length_toList,hlist]; simp) (by rw [hlist]; exact RepL.replicate (.val z0 hone) _ _ (by omega)) hd
  .rename_i by_ zs _ hI
   split at hm
   .rename_i hz
    simp only [Option.some.injEq,Prod.mk.injEq] at hm; obtain ⟨rfl,rfl,rfl⟩:=hm
    obtain ⟨i,zv,i1,i2,i3,i4,i5,i6,i7⟩:=zaR hI
    rw [h.int hl,h.int hc]
    obtain ⟨p1,p2,p3,p4⟩:=hp
    subst i4
    refine ⟨_,_,run_make w T e i zv hu i1 i2 k k' n c p1 p2 p3 p4,?_⟩
    rw [i6] at hz |-
    have hsz:i.size=zv.cells.size:=by rw [i3,i5]
    rw [hsz]
    exact h.newOwn (w':=w.alloc (.cells (madeCells zv.cells (c.toNat*zv.cells.size)) e)) (c:=madeCells zv.cells (c.toNat*zv.cells.size)) (e:=e) (n:=n.toNat) (cap:=c.toNat) rfl rfl ⟨rfl,by first | exact Nat.le_refl _ | exact zbk _⟩ (by simp) (heap_alloc_new w _) (fun b hb=>Below.heap_alloc w _ b hb)
     (by omega) (by rw [i7,size_madeCells,i5]; exact Nat.le_refl _) (zrr hz _ _ (by omega)) hd
   .simp at hm
  .simp at hm
 .simp at hm
def st1S (P:Program) (cf:Cfg) (S:St) (T:TypeId) (x y:Operand):Option (Prop × List Nat × List Upd) :=
 match tk cf S y with
 | some (c,U)=>match adr (app U S) x with
  | some (s,p,off)=>match ctn (app U S) s p with
   | some (cc,cs) =>
    if znX cf=[]\/p=[] then some (P.cellsOf T=1/\off<cs.length,zad x++zad y++[s],U++[.n s (putP ((app U S) s) p (zbr cc (cs.set off c)))])
    else some ((P.cellsOf T=1/\off<cs.length)/\intB c=true/\(znX cf).all (zpJ (putP ((app U S) s) p (zbr cc (cs.set off c))))=true,zad x++zad y++[s],
     U++[.m s (putP ((app U S) s) p (zbr cc (cs.set off c))) (znX cf)])
   | none=>none
  | none=>none
 | none=>none
theorem zpq (h:Core P N G w0 S a w F oss []) {cf:Cfg} {T:TypeId} (hT:zaj P T=some none) {x y:Operand} {p:Prop} {rd:List Nat} {U:List Upd} (hm:st1S P cf S T x y=some (p,rd,U)) (hp:p) :
  ∃ w',(Instr.storeAt T (a.eval x) (a.eval y)).run P w=.ok () w'/\StRel P N G w0 (app U S) a w':=by
 unfold st1S at hm
 split at hm
 .rename_i c U1 htk
  obtain ⟨F1,oss1,oc,h1,hc,hF⟩:=h.tk htk
  simp only [List.append_nil] at h1
  split at hm
  .rename_i s q off ha
   split at hm
   .rename_i cc cs hct
    have hp2:P.cellsOf T=1/\off<cs.length:=by
     split at hm
     .simp only [Option.some.injEq,Prod.mk.injEq] at hm; obtain ⟨rfl,rfl,rfl⟩:=hm; exact hp
     .simp only [Option.some.injEq,Prod.mk.injEq] at hm; obtain ⟨rfl,rfl,rfl⟩:=hm; exact hp.1
    obtain ⟨hsz,hoff⟩:=hp2
    obtain ⟨hk,hg,hkc⟩:=zaC hct
    have hcs:cs≠[]:=by intro e; subst e; simp at hoff
    obtain ⟨u,o1,ou,o2,k1,k2,k3,k4,k5,k6⟩:=h1.inplace hk hg
    obtain ⟨b,hb,hx⟩:=h1.adr ha hct hcs k1
    obtain ⟨b',e,cur,ol,r1,r2,r3,r4,r5⟩:=zjv k2 hkc hcs
    rw [hb] at r1; injection r1 with r1; subst r1
    obtain ⟨vo,l1,lu,l2,e1,e2,e3,e4⟩:=RepL.get r4 (List.getElem?_eq_getElem hoff)
    have hone:=hc.oneCell
    have hlen:off<cur.size:=by rw [<- Array.length_toList]; exact (List.getElem?_eq_some_iff.1 e1).1
    have hcells:(a.eval y).cells=#[a.eval y]:=by
     cases hy:a.eval y <;> simp [hy,Value.oneCell',Value.cells] at *
    have hst:=run_storeCells_at P b off e [a.eval y] 0 cur w r3 (by simp; omega) (by simpa using hone)
    have hrow:(cur.toList.take (off+0)++[a.eval y]++cur.toList.drop (off+0+[a.eval y].length))=cur.toList.set off (a.eval y):=by
     rw [Nat.add_zero,List.set_eq_take_append_cons_drop,if_pos (by simpa using hlen)]; simp
    rw [hrow] at hst
    obtain ⟨i,hi⟩:∃ i,P.info? T=some i:=by
     obtain ⟨d,hd,_⟩:=zdW hT
     obtain ⟨i,hi,_⟩:=zcY hd
     exact ⟨i,hi⟩
    refine ⟨w.setRow b (cur.toList.set off (a.eval y)).toArray,?_,?_⟩
    .rw [hx]
     simp only [Instr.storeAt,Instr.sureAddr,storeVar,Sem.run_bind,Sem.run_pure,Result.andThen_ok,zaQ hi,hsz,hcells]
     simpa using hst
    .have hbou:b∈ou:=by rw [r2]; simp
     have hbn:∀ z,z∈l1\/z∈l2->z≠b:=by
      intro z hz ez
      rw [r2,e3] at k5
      have:=(List.nodup_cons.1 k5).1
      exact this (by subst ez; rcases hz with hz | hz <;> simp [hz])
     have hw':∀ z,z≠b->(w.setRow b (cur.toList.set off (a.eval y)).toArray).heap[z]?=w.heap[z]?:=fun z hz=>setRow_other w b z _ hz
     have hocb:∀ z,z∈oc->z≠b:=fun z hz ez=>(k4 b hbou).2.2 (ez ▸ hz)
     have hFb:∀ z,F1 z->z≠b:=fun z hz ez=>(k4 b hbou).1 (ez ▸ hz)
     have hrow':=e4 (w.setRow b (cur.toList.set off (a.eval y)).toArray) F1 c oc (a.eval y) (fun _ h=>h)
      (fun z hz=>hw' z (by rcases hz with hz | hz | hz; exact hFb z hz; exact hbn z (.inl hz); exact hbn z (.inr hz)))
      (hc.mono (fun _ h=>h) (fun z hz=>hw' z (by rcases hz with hz | hz; exact hFb z hz; exact hocb z hz)))
     have hnew:=r5 (w.setRow b (cur.toList.set off (a.eval y)).toArray) F1 _ _ (cur.toList.set off (a.eval y)).toArray (setRow_heap w b cur _ e _ r3) (by simp) hrow'
     have fin:∀ oss',Core P N G w0 (updn s (putP ((app U1 S) s) q (zbr cc (cs.set off c))) (app U1 S)) a (w.setRow b (cur.toList.set off (a.eval y)).toArray) F1 oss' []->(∀ i,i≠s->oss' i=oss1 i) ->
       StRel P N G w0 (app U S) a (w.setRow b (cur.toList.set off (a.eval y)).toArray):=by
      intro oss' kk he
      split at hm
      .simp only [Option.some.injEq,Prod.mk.injEq] at hm; obtain ⟨rfl,rfl,rfl⟩:=hm
       rw [zaH]
       exact kk.st
      .rename_i hne
       simp only [Option.some.injEq,Prod.mk.injEq] at hm; obtain ⟨rfl,rfl,rfl⟩:=hm
       rw [zaH]
       obtain ⟨_,hi,hq⟩:=hp
       have hne2:znX cf≠[]/\q≠[]:=⟨fun e=>hne (.inl e),fun e=>hne (.inr e)⟩
       obtain ⟨ki,xi,hce⟩:∃ k x,c=.val (.int k x):=by
        unfold intB at hi
        split at hi
        .exact ⟨_,_,rfl⟩
        .simp at hi
       have hev:a.eval y=.int ki xi:=by
        rw [hce] at hc
        generalize a.eval y=v at hc
        cases hc with
        | val _ _=>rfl
       have hb1:w.heap[b]?=some (.cells cur e (0,0)):=r3
       have hb2:(w.setRow b (cur.toList.set off (a.eval y)).toArray).heap[b]?=some (.cells (cur.toList.set off (.int ki xi)).toArray e (0,0)):=by
        rw [<- hev]; exact setRow_heap w b cur _ e _ r3
       have hbs:b∈oss1 s:=by rw [k3]; simp [hbou]
       obtain ⟨j,q',rfl⟩:∃ j q',q=j::q':=by
        cases q with
        | nil=>exact (hne2.2 rfl).elim
        | cons j q'=>exact ⟨j,q',rfl⟩
       exact (h1.gentleW kk (fun _ h=>h) he (zd3 hk) hb1 hb2 hw' hbs hq hne2.1).st
     refine fin _ (k6 (w.setRow b (cur.toList.set off (a.eval y)).toArray) F1 _ _ [] rfl rfl ⟨rfl,Nat.le_refl _⟩ (by simp) (fun z _ _ hz=>hw' z (fun ez=>hz (ez ▸ hbou))) (fun _ h=>h) (fun _ h=>.inl h) hnew ?_ ?_ (by simp) List.nodup_nil) (fun i hi=>by simp [ins,hi])
     .intro z hz
      have hsz:(w.setRow b (cur.toList.set off (a.eval y)).toArray).heap.size=w.heap.size:=by simp
      rw [hsz]
      have hin:z∈oc\/z∈ou:=by
       rw [r2,e3]
       simp only [List.mem_cons,List.mem_append] at hz |-
       rcases hz with hz | hz | hz | hz <;> simp [hz]
      rcases hin with hin | hin
      .exact ⟨.inl hin,(h1.xo z hin).2,(h1.xo z hin).1⟩
      .exact ⟨.inr (.inl hin),(k4 z hin).2.1,(k4 z hin).1⟩
     .rw [r2,e3] at k5
      have hd:∀ z,z∈ou->z ∉ oc:=fun z hz=>(k4 z hz).2.2
      simp only [List.nodup_cons,List.nodup_append,List.mem_append] at k5 |-
      obtain ⟨n0,n1,⟨n2,n3,n4⟩,n5⟩:=k5
      have m1:∀ z,z∈l1\/z∈l2->z∈ou:=fun z hz=>by rw [r2,e3]; rcases hz with hz | hz <;> simp [hz]
      refine ⟨fun hz=>?_,n1,⟨h1.xn,n3,fun x hx y hy e=>hd y (m1 y (.inr hy)) (e ▸ hx)⟩,fun x hx y hy e=>?_⟩
      .rcases hz with hz | hz | hz
       .exact hbn _ (.inl hz) rfl
       .exact hocb _ hz rfl
       .exact hbn _ (.inr hz) rfl
      .rcases hy with hy | hy
       .exact hd x (m1 x (.inl hx)) (e ▸ hy)
       .exact n5 x hx y (.inr hy) e
   .simp at hm
  .simp at hm
 .simp at hm
def els (S:St) (y:Operand):Option (Nat × List AV × List Upd) :=
 match y,aop S y with
 | _,.val (.slice none 0 0)=>some (0,[],[])
 | _,.sl m ds=>some (m,ds,[])
 | .tmp t,.own _ m ds=>some (m,ds,[.w t .any])
 | .tmp _,.bor s p=>match ctn S s p with
  | some (.own _ m _,ds)=>if zaO ds then none else some (m,ds,[])
  | _=>none
 | _,_=>none
def zfl (e0:TypeId):Option (AV × List Upd)->Option (TypeId × Nat × List AV × List Upd)
 | some (.own e n cs,U)=>some (e,n,cs,U)
 | some (.val (.slice none 0 0),U)=>some (e0,0,[],U)
 | _=>none
def apS (P:Program) (S:St) (d:Nat) (T:TypeId) (x y:Operand):Option (Prop × List Nat × List Upd) :=
 match zaE P T with
 | some e=>match zar P e with
  | some (es,by_,_)=>match zfl e (tk { nv:=0 } S x) with
   | some (e',n,cs,U1)=>match els (app U1 S) y with
    | some (m,ds,U2)=>some (e'=e/\cs.length=n*es/\ds.length=m*es/\(n+m)*by_<=140737488355328/\n+m<=9223372036854775807/\0<es,
      zad x++zad y,U1++U2++[.w d (.own e (n+m) (cs++ds))])
    | none=>none
   | none=>none
  | none=>none
 | none=>none
theorem RepL.noOwn {cs:List AV} {vs:List Value} {os:List Nat} (h:RepL P w F cs vs os) (hn:zaO cs=false):os=[]:=by
 induction cs generalizing vs os with
 | nil=>cases h; rfl
 | cons c cs ih =>
  cases h with
  | cons c v os cs vs os' h t =>
   simp [zaO] at hn
   have e1:os=[]:=(RepT.cell (tm:=fun _=>undef) (oss:=fun _=>[]) _ _ _ h).noOwn hn.1
   rw [e1,ih t hn.2]; rfl
theorem zm4 (h:Core P N G w0 S a w F oss X) {y:Operand} {m:Nat} {ds:List AV} {U:List Upd} (hm:els S y=some (m,ds,U)) :
  ∃ oss' oc base c news,Core P N G w0 (app U S) a w F oss' (oc++X)/\a.eval y=.slice base m c/\RepL P w F ds news oc /\
   (ds=[]\/∃ ad,base=some ad/\∀ j u,news[j]?=some u->w.cell? (ad.add j)=some u):=by
 obtain ⟨os,ho,hbs⟩:=h.op y
 unfold els at hm
 split at hm
 .rename_i hy
  simp only [Option.some.injEq,Prod.mk.injEq] at hm; obtain ⟨rfl,rfl,rfl⟩:=hm
  exact ⟨oss,[],none,0,[],h,h.int hy,.nil _,.inl rfl⟩
 .rename_i m ds hy
  simp only [Option.some.injEq,Prod.mk.injEq] at hm; obtain ⟨rfl,rfl,rfl⟩:=hm
  rw [hy] at ho
  generalize hu:a.eval _=u at ho |-
  cases ho with
  | cell _ _ _ hc=>cases hc with
   | sl0 base cap=>exact ⟨oss,[],base,cap,[],h,rfl,.nil _,.inl rfl⟩
   | sl b off n cap c e fr cs hF hb hl hn =>
    exact ⟨oss,[],_,cap,_,h,rfl,hl,.inr ⟨_,rfl,fun j u hj=>by rw [zaY,zbt hb]; simpa [List.getElem?_drop] using hj⟩⟩
 .rename_i t e m ds hy
  simp only [Option.some.injEq,Prod.mk.injEq] at hm; obtain ⟨rfl,rfl,rfl⟩:=hm
  obtain ⟨k1,k2⟩:=h.take t
  have k3:=k2.ofKids (by simp only [aop] at hy; simp [hy,kl,kids])
  simp only [aop] at hy
  rw [hy,kl] at k3
  have hv:a.eval (.tmp t)=tmo a t:=rfl
  rw [hv]
  generalize tmo a t=u at k3
  generalize ho':oss t=ot at k3
  cases k3 with
  | own0 e=>exact ⟨_,[],none,0,[],k1.sub (fun b hb=>by simp at hb; simp [hb]) h.xn,rfl,.nil _,.inl rfl⟩
  | own b e n cap c cs os hb hn hc hl =>
   refine ⟨_,os,_,cap,_,k1.sub (X':=os++X) (fun z hz=>?_) ?_,rfl,hl,.inr ⟨_,rfl,fun j u hj=>by rw [zaY,zbt hb]; simpa using hj⟩⟩
   .rw [ho']; simp only [List.mem_append,List.mem_cons] at hz |-; rcases hz with hz | hz <;> simp [hz]
   .have:=k1.xn
    rw [ho'] at this
    exact (List.nodup_cons.1 this).2
 .rename_i t s p hy
  split at hm
  .rename_i e m' cs' ds' hct
   split at hm
   .simp at hm
   .rename_i hno
    simp only [Option.some.injEq,Prod.mk.injEq] at hm; obtain ⟨rfl,rfl,rfl⟩:=hm
    have hr:=h.get t
    simp only [aop] at hy
    rw [hy] at hr
    generalize hu:a.eval (.tmp t)=u at hr |-
    generalize oss t=ot at hr
    obtain ⟨hk,hg,hkc⟩:=zaC hct
    obtain ⟨u',o1,ou,o2,k1,k2,k3,k4,k5,k6⟩:=h.inplace hk hg
    cases hr with
    | cell _ _ _ hc=>cases hc
    | bor _ _ _ hw =>
     have:=zaq hw k1; subst this
     simp [kids] at hkc; subst hkc
     cases k2 with
     | own0 e=>exact ⟨oss,[],none,0,[],h,rfl,.nil _,.inl rfl⟩
     | own b e n cap c cs os hb hn hc hl =>
      have:=hl.noOwn (by simpa using hno)
      subst this
      exact ⟨oss,[],_,cap,_,h,rfl,hl,.inr ⟨_,rfl,fun j u hj=>by rw [zaY,zbt hb]; simpa using hj⟩⟩
  .simp at hm
 .simp at hm
theorem zcX {t e ty:TypeId} (ht:P.underlying t=some (.slice e)) {i:TypeInfo} (hi:P.info? e=some i) (b y:Option Addr) (n cap c:Nat) (hn:n<=cap) (hb:y=none\/True) :
  (Builtin.append_ #[t,t] ty #[.slice b n cap,.slice y 0 c]).run P w=.ok (.slice b n cap) w:=by
 cases b <;> cases y <;> simp [Builtin.append_,run_underlying ht,sizeOf,typeInfo,hi,Builtin.lenOf,hn,Builtin.firstCells,loadCells,loadCellsFrom,storeCells]
end
end Go.Abs


namespace Go.Abs
variable [DrawK]
open Go.RowKit (Below)
section
variable {P:Program} {N:Nat × List Nat} {G:Nat->Prop} {w0:W0} {w w':World} {S:St} {a:Act} {F:Nat->Prop} {oss:Nat->List Nat} {X:List Nat}
theorem zf5 {e0:TypeId} {r:Option (AV × List Upd)} {e:TypeId} {n:Nat} {cs:List AV} {U:List Upd} (h:zfl e0 r=some (e,n,cs,U)) :
  r=some (.own e n cs,U)\/(r=some (.val (.slice none 0 0),U)/\n=0/\cs=[]):=by
 unfold zfl at h
 split at h
 .simp at h; obtain ⟨rfl,rfl,rfl,rfl⟩:=h; exact .inl rfl
 .simp at h; obtain ⟨rfl,rfl,rfl,rfl⟩:=h; exact .inr ⟨rfl,rfl,rfl⟩
 .simp at h
theorem zdw (w:World) (o:Obj):(w.drew.alloc o).heap[w.heap.size]?=some o:=heap_alloc_new w.drew o
theorem zdn (w:World) (o:Obj) (b:Nat) (h:b<w.heap.size):(w.drew.alloc o).heap[b]?=w.heap[b]?:=Below.heap_alloc w.drew o b h
theorem zpL (h:Core P N G w0 S a w F oss []) {T ty:TypeId} {x y:Operand} {d:Nat} (hd:OkD N d) {p:Prop} {rd:List Nat} {U:List Upd}
  (hm:apS P S d T x y=some (p,rd,U)) (hp:p) :
  ∃ v w',(Builtin.append_ #[T,T] ty #[a.eval x,a.eval y]).run P w=.ok v w'/\StRel P N G w0 (app U S) (a.put (some d) v) w':=by
 unfold apS at hm
 split at hm
 .rename_i e hT
  have hu:=zaX hT
  split at hm
  .rename_i es by_ zs hI
   obtain ⟨i,zv,i1,i2,i3,i4,i5,i6,i7⟩:=zaR hI
   subst i4
   split at hm
   .rename_i e' n cs U1 hx
    split at hm
    .rename_i m ds U2 hy
     simp only [Option.some.injEq,Prod.mk.injEq] at hm; obtain ⟨rfl,rfl,rfl⟩:=hm
     obtain ⟨p1,p2,p3,p4,p5,p6⟩:=hp
     rw [zaH,zaH]
     have hx':∃ F1 oss1 ox,Core P N G w0 (app U1 S) a w F1 oss1 ox /\
       ((a.eval x=.slice none 0 0/\n=0/\cs=[]/\ox=[]) \/
        ∃ g cap cur ol,a.eval x=.slice (some ⟨g,0,none⟩) n cap/\ox=g::ol/\w.heap[g]?=some (.cells cur e' (0,0))/\n<=cap/\cap*P.cellsOf e'<=cur.size/\RepL P w F1 cs cur.toList ol):=by
      rcases zf5 hx with hx1 | ⟨hx1,hn0,hc0⟩
      .obtain ⟨F1,oss1,ox,k1,k2,k3⟩:=h.tk hx1
       simp only [List.append_nil] at k1
       refine ⟨F1,oss1,ox,k1,?_⟩
       generalize a.eval x=u at k2
       cases k2 with
       | own0 e=>exact .inl ⟨rfl,rfl,rfl,rfl⟩
       | own g e n cap cur cs ol hb hn hc hl=>exact .inr ⟨g,cap,cur,ol,rfl,rfl,hb,hn,hc,hl⟩
      .obtain ⟨F1,oss1,ox,k1,k2,k3⟩:=h.tk hx1
       simp only [List.append_nil] at k1
       refine ⟨F1,oss1,ox,k1,?_⟩
       generalize a.eval x=u at k2
       cases k2 with
       | val _ _=>exact .inl ⟨rfl,hn0,hc0,rfl⟩
     obtain ⟨F1,oss1,ox,k1,hx2⟩:=hx'
     obtain ⟨oss2,oy,base,c,news,m1,hye,m3,m4⟩:=zm4 k1 hy
     rw [hye]
     have hF1:∀ b,F1 b->b<w.heap.size:=k1.fw
     by_cases hm0:ds=[]
     .subst hm0
      have hm00:m=0:=by
       have h0:m*es=0:=by simpa using p3.symm
       rcases Nat.mul_eq_zero.1 h0 with h | h
       .exact h
       .omega
      subst hm00
      simp only [Nat.add_zero,List.append_nil]
      rcases hx2 with ⟨hxe,rfl,rfl,rfl⟩ | ⟨g,cap,cur,ol,hxe,rfl,hg,hn,hc,hl⟩
      .refine ⟨_,w,by rw [hxe]; exact zcX hu i1 none base 0 0 c (Nat.le_refl _) (.inr trivial),?_⟩
       have:=m1.sub (X':=[]) (by simp) List.nodup_nil
       exact this.put0 hd (.cell _ _ _ (.own0 e))
      .refine ⟨_,w,by rw [hxe]; exact zcX hu i1 _ base n cap c hn (.inr trivial),?_⟩
       subst p1
       have:=m1.sub (X':=g::ol) (fun b hb=>by simp only [List.mem_append]; exact .inr hb) k1.xn
       exact this.putX hd (.cell _ _ _ (.own g _ n cap cur cs ol hg hn hc hl))
     .obtain ⟨ad,rfl,hread⟩:=m4.resolve_left hm0
      have hmpos:0<m:=by
       rcases Nat.eq_zero_or_pos m with h0 | h0
       .subst h0; simp at p3; exact (hm0 p3).elim
       .exact h0
      subst p1
      have hnl:=m3.length_le
      let nw:=news.take ds.length
      have hnw:nw.length=m*i.size:=by simp only [nw]; rw [List.length_take,Nat.min_eq_left hnl,p3,i3]
      have hnwr:∀ j u,nw[j]?=some u->w.cell? (ad.add j)=some u:=fun j u hj=>hread j u (by
       simp only [nw,List.getElem?_take] at hj; split at hj; exact hj; simp at hj)
      have hnw1:∀ u∈nw,u.oneCell'=true:=m3.oneCell
      have hds:RepL P w F1 ds nw oy:=m3.take
      rcases hx2 with ⟨hxe,rfl,rfl,rfl⟩ | ⟨g,cap,cur,ol,hxe,rfl,hg,hn,hc,hl⟩
      ·
       rw [hxe]
       simp only [Nat.zero_add,List.nil_append]
       refine ⟨_,_,run_append_nil w T ty e' i zv hu i1 i2 ad m c nw hnw hnwr hmpos (by omega) (by simp only [Nat.zero_add] at p4; omega),?_⟩
       have hge:=grownCap_ge w m 0 e'
       have m1':Core P N G w0 (app U2 (app U1 S)) a w F1 oss2 oy:=by simpa using m1
       refine Core.newOwn m1' (w':=w.drew.alloc (.cells (nw.toArray++Builtin.zeroCells zv.cells (grownCap w m 0 e'-m)) e')) (e:=e') (cs:=ds) (n:=m) (cap:=grownCap w m 0 e') rfl rfl ⟨rfl,by first | exact Nat.le_refl _ | exact zbk _⟩ (by simp) (zdw w _) (fun b hb=>zdn w _ b hb) hge ?_ ?_ hd
       .rw [i7]; simp [size_zeroCells,hnw,i5,i3,<- Nat.add_mul,Nat.add_sub_cancel' hge]
       .rw [Array.toList_append]; exact hds.more _
      .by_cases hroom:n+m<=cap
       ·
        rw [hxe]
        have hfit:n*i.size+nw.length<=cur.size:=by
         rw [hnw,<- Nat.add_mul,i3]
         refine Nat.le_trans (Nat.mul_le_mul_right _ hroom) (by rw [i7] at hc; exact hc)
        refine ⟨_,_,run_append_room w T ty e' i hu i1 g n cap cur hg ad m c nw hnw hnwr hnw1 hroom hfit,?_⟩
        have hrow:(w.setRow g (cur.toList.take (n*i.size)++nw++cur.toList.drop (n*i.size+nw.length)).toArray).heap[g]?=some (.cells (cur.toList.take (n*i.size)++nw++cur.toList.drop (n*i.size+nw.length)).toArray e' (0,0)) :=
         setRow_heap w g cur _ e' _ hg
        have hot:∀ b,b≠g->(w.setRow g (cur.toList.take (n*i.size)++nw++cur.toList.drop (n*i.size+nw.length)).toArray).heap[b]?=w.heap[b]?:=fun b hb=>setRow_other w g b _ hb
        have hnd:=m1.xn
        have hgX:g∈oy++g::ol:=by simp
        have hgn:∀ b,b∈oy\/b∈ol->b≠g:=by
         intro b hb eb
         subst eb
         rw [List.nodup_append] at hnd
         rcases hb with hb | hb
         .exact hnd.2.2 b hb b (by simp) rfl
         .exact (List.nodup_cons.1 hnd.2.1).1 hb
        have hFg:∀ b,F1 b->b≠g:=fun b hb eb=>(m1.xo g hgX).1 (eb ▸ hb)
        have mw:Core P N G w0 (app U2 (app U1 S)) a (w.setRow g (cur.toList.take (n*i.size)++nw++cur.toList.drop (n*i.size+nw.length)).toArray) F1 oss2 (oy++g::ol) :=
         m1.world rfl rfl ⟨rfl,Nat.le_refl _⟩ (by simp) (fun b hb hx=>hot b (fun eb=>hx (eb ▸ hgX))) (fun _ h=>h) (fun _ h=>.inl h) (fun b hb=>⟨.inl hb,by simpa using (m1.xo b hb).2,(m1.xo b hb).1⟩) m1.xn
        have hcsl:cs.length=n*i.size:=by rw [i3]; exact p2
        have hl':RepL P (w.setRow g (cur.toList.take (n*i.size)++nw++cur.toList.drop (n*i.size+nw.length)).toArray) F1 (cs++ds) ((cur.toList.take (n*i.size)++nw++cur.toList.drop (n*i.size+nw.length)).toArray).toList (ol++oy):=by
         simp only
         refine RepL.more (RepL.append ?_ ?_ ?_) _
         .have ht:=(hl.mono (F':=F1) (fun _ h=>h) (fun b hb=>hot b (by rcases hb with hb | hb; exact hFg b hb; exact hgn b (.inr hb)))).take
          rw [hcsl] at ht; exact ht
         .rw [List.length_take,hcsl]; simp; omega
         .exact hds.mono (fun _ h=>h) (fun b hb=>hot b (by rcases hb with hb | hb; exact hFg b hb; exact hgn b (.inl hb)))
        have hnd2:(g::(ol++oy)).Nodup:=by
         rw [List.nodup_append] at hnd
         have h2:=List.nodup_cons.1 hnd.2.1
         refine List.nodup_cons.2 ⟨fun hx=>?_,List.nodup_append.2 ⟨h2.2,hnd.1,fun x hx y hy e=>hnd.2.2 y hy x (by simp [hx]) e.symm⟩⟩
         rcases List.mem_append.1 hx with hx | hx
         .exact h2.1 hx
         .exact hnd.2.2 g hx g (by simp) rfl
        have mw2:=mw.sub (X':=g::(ol++oy)) (fun b hb=>by simp only [List.mem_cons,List.mem_append] at hb |-; rcases hb with hb | hb | hb <;> simp [hb]) hnd2
        refine mw2.putX hd (.cell _ _ _ (.own g e' (n+m) cap _ (cs++ds) _ hrow hroom ?_ hl'))
        simp only [List.size_toArray,List.length_append,List.length_take,List.length_drop,Array.length_toList]
        omega
       ·
        rw [hxe]
        have hcsl:cs.length=n*i.size:=by rw [i3]; exact p2
        have holds:∀ j u,(cur.toList.take cs.length)[j]?=some u->w.cell? ((⟨g,0,none⟩:Addr).add j)=some u:=fun j u hj=>by
         rw [zaY,zbt hg]
         simp only [List.getElem?_take] at hj
         split at hj
         .simpa using hj
         .simp at hj
        have hcl:=hl.length_le
        have hol:(cur.toList.take cs.length).length=n*i.size:=by rw [List.length_take]; omega
        refine ⟨_,_,run_append_grow w T ty e' i zv hu i1 i2 ⟨g,0,none⟩ n cap (cur.toList.take cs.length) hol holds ad m c nw hnw hnwr (by omega) (by omega) (growslice_fits (by omega) p4),?_⟩
        have hge:=grownCap_ge w (n+m) cap e'
        have hnd:=m1.xn
        have mw2:=m1.sub (X':=ol++oy) (fun b hb=>by simp only [List.mem_cons,List.mem_append] at hb |-; rcases hb with hb | hb <;> simp [hb]) (by
         rw [List.nodup_append] at hnd
         have h2:=List.nodup_cons.1 hnd.2.1
         exact List.nodup_append.2 ⟨h2.2,hnd.1,fun x hx y hy e=>hnd.2.2 y hy x (by simp [hx]) e.symm⟩)
        refine Core.newOwn mw2 (w':=w.drew.alloc (.cells ((cur.toList.take cs.length).toArray++nw.toArray++Builtin.zeroCells zv.cells (grownCap w (n+m) cap e'-(n+m))) e')) (e:=e') (cs:=cs++ds) (n:=n+m) (cap:=grownCap w (n+m) cap e') rfl rfl ⟨rfl,by first | exact Nat.le_refl _ | exact zbk _⟩ (by simp) (zdw w _) (fun b hb=>zdn w _ b hb) hge ?_ ?_ hd
        .rw [i7]
         simp only [Array.size_append,List.size_toArray,hol,hnw,size_zeroCells,i5,i3,<- Nat.add_mul]
         rw [Nat.add_sub_cancel' hge]; exact Nat.le_refl _
        .simp only [Array.toList_append]
         refine RepL.more (RepL.append hl.take ?_ hds) _
         rw [List.length_take]; omega
    .simp at hm
   .simp at hm
  .simp at hm
 .simp at hm
end
end Go.Abs


namespace Go.Abs
variable [DrawK]
open Go.RowKit (Below)
section
variable {P:Program} {N:Nat × List Nat} {G:Nat->Prop} {w0:W0} {w w':World} {S:St} {a:Act} {F:Nat->Prop} {oss:Nat->List Nat} {X:List Nat}
theorem zlA {t:Nat}:a.put (some t) (tmo a t)=a:=by
 have key:∀ tm:Array Value,tm.setIfInBounds t (tm.getD t undef)=tm:=by
  intro tm
  apply Array.ext_getElem?
  intro i
  rw [Array.getElem?_setIfInBounds]
  split
  .rename_i e; subst e
   split
   .rename_i hl; simp [Array.getD,hl]
   .rename_i hl; simp at hl; simp [hl]
  .rfl
 obtain ⟨tm,df⟩:=a
 exact congrArg (fun x=>Act.mk x df) (key tm)
theorem Core.reput (h:Core P N G w0 S a w F oss X) {t:Nat} (ht:t<N.1) {c:AV} {od:List Nat} (hr:RepT P w F (tmo a) oss c (tmo a t) od)
  (ho:∀ b,b∈od->b∈X) (hn:od.Nodup) {X':List Nat} (hX:∀ b,b∈X'->b∈X/\b ∉ od) (hn':X'.Nodup) :
  Core P N G w0 (upd t c S) a w F (ins oss t od) X':=by
 have:=h.put' ht (.inr rfl) hr ho hn hX hn'
 rwa [zlA] at this
theorem StRel.lit (h:StRel P N G w0 S a w) {g:Nat} (hg:g<N.1) {c b:Bool} (hS:S g=.val (.bool c)) (e:c=b):StRel P N G w0 (upd g (.val (.bool b)) S) a w:=by
 subst e
 obtain ⟨F,oss,h⟩:=h
 have:=h.rep g
 rw [hS] at this
 have h0:=RepT.noOwn this rfl
 rw [h0] at this
 exact (h.reput hg this (by simp) List.nodup_nil (X':=[]) (by simp) List.nodup_nil).st
def lnS (P:Program) (S:St) (d:Nat) (T:TypeId) (x:Operand):Option (Prop × List Nat × List Upd) :=
 match zaE P T with
 | some _=>match x,aop S x with
  | _,.sl n _=>some (True,zad x,[.w d (.val (.int .i64 n))])
  | _,.val (.slice none 0 0)=>some (True,zad x,[.w d (.val (.int .i64 0))])
  | _,.own _ n _=>some (True,zad x,[.w d (.val (.int .i64 n))])
  | .tmp _,.bor s p=>match ctn S s p with
   | some (.own _ n _,_)=>some (True,zad x++[s],[.w d (.val (.int .i64 n))])
   | some (.ofs _ _ n _,_)=>some (True,zad x++[s],[.w d (.val (.int .i64 n))])
   | _=>none
  | _,_=>none
 | none=>match P.underlying T,aop S x with
  | some .string,.val (.string s)=>some (True,zad x,[.w d (.val (.int .i64 s.size))])
  | _,_=>none
theorem zcS {T e:TypeId} (hT:zaE P T=some e) (ty:TypeId) (b:Option Addr) (n cap:Nat):(Builtin.len_ #[T] ty #[.slice b n cap]).run P w=.ok (.int .i64 n) w:=by
 simp [Builtin.len_,run_underlying (zaX hT),goInt]
theorem zpF (h:Core P N G w0 S a w F oss []) {T ty:TypeId} {x:Operand} {d:Nat} (hd:OkD N d) {p:Prop} {rd:List Nat} {U:List Upd} (hm:lnS P S d T x=some (p,rd,U)) :
  ∃ v,(Builtin.len_ #[T] ty #[a.eval x]).run P w=.ok v w/\StRel P N G w0 (app U S) (a.put (some d) v) w:=by
 obtain ⟨os,ho,_⟩:=h.op x
 have fin:∀ n:Int,StRel P N G w0 (app [.w d (.val (.int .i64 n))] S) (a.put (some d) (.int .i64 n)) w:=fun n=>h.put0 hd (.cell _ _ _ (.val _ rfl))
 unfold lnS at hm
 split at hm
 .rename_i e hT
  split at hm
  .rename_i n cs hx
   simp only [Option.some.injEq,Prod.mk.injEq] at hm; obtain ⟨rfl,rfl,rfl⟩:=hm
   rw [hx] at ho
   generalize a.eval _=u at ho |-
   cases ho with
   | cell _ _ _ hc=>cases hc with
    | sl0=>exact ⟨_,zcS hT ty _ _ _,fin _⟩
    | sl=>exact ⟨_,zcS hT ty _ _ _,fin _⟩
  .rename_i hx
   simp only [Option.some.injEq,Prod.mk.injEq] at hm; obtain ⟨rfl,rfl,rfl⟩:=hm
   exact ⟨_,by rw [h.int hx]; exact zcS hT ty _ _ _,fin _⟩
  .rename_i e' n cs hx
   simp only [Option.some.injEq,Prod.mk.injEq] at hm; obtain ⟨rfl,rfl,rfl⟩:=hm
   rw [hx] at ho
   generalize a.eval _=u at ho |-
   cases ho with
   | cell _ _ _ hc=>cases hc with
    | own0=>exact ⟨_,zcS hT ty _ _ _,fin _⟩
    | own=>exact ⟨_,zcS hT ty _ _ _,fin _⟩
  .rename_i t s q hx
   split at hm
   .rename_i e' n cs' cs hc
    simp only [Option.some.injEq,Prod.mk.injEq] at hm; obtain ⟨rfl,rfl,rfl⟩:=hm
    obtain ⟨hk,hg,hkc⟩:=zaC hc
    obtain ⟨u',o1,ou,o2,k1,k2,k3,k4,k5,k6⟩:=h.inplace hk hg
    rw [hx] at ho
    generalize a.eval _=u at ho |-
    cases ho with
    | cell _ _ _ hc=>cases hc
    | bor _ _ _ hw =>
     have:=zaq hw k1; subst this
     cases k2 with
     | own0=>exact ⟨_,zcS hT ty _ _ _,fin _⟩
     | own=>exact ⟨_,zcS hT ty _ _ _,fin _⟩
   .rename_i k' e' n cs' cs hc
    simp only [Option.some.injEq,Prod.mk.injEq] at hm; obtain ⟨rfl,rfl,rfl⟩:=hm
    obtain ⟨hk,hg,hkc⟩:=zaC hc
    obtain ⟨u',o1,ou,o2,k1,k2,k3,k4,k5,k6⟩:=h.inplace hk hg
    rw [hx] at ho
    generalize a.eval _=u at ho |-
    cases ho with
    | cell _ _ _ hc=>cases hc
    | bor _ _ _ hw =>
     have:=zaq hw k1; subst this
     cases k2 with
     | ofs=>exact ⟨_,zcS hT ty _ _ _,fin _⟩
   .simp at hm
  .simp at hm
 .split at hm
  .rename_i s hT hx
   simp only [Option.some.injEq,Prod.mk.injEq] at hm; obtain ⟨rfl,rfl,rfl⟩:=hm
   exact ⟨_,by rw [h.int hx]; simp [Builtin.len_,run_underlying hT,goInt],fin _⟩
  .simp at hm
def exS (S:St) (N:Nat × List Nat) (d:Nat) (t:Operand) (i:Nat):Option (Prop × List Nat × List Upd) :=
 match t with
 | .tmp t=>match S t with
  | .tup cs=>match cs[i]? with
   | some .any=>none
   | some c=>if zbC c then some (t<N.1/\t≠d,[t],[.w t (.tup (cs.set i .any)),.w d (kl [t] c)]) else some (True,[t],[.w d c])
   | none=>none
  | _=>none
 | _=>none
theorem RepTL.get {tm:Nat->Value} {cs:List AV} {vs:List Value} {os:List Nat} (h:RepTL P w F tm oss cs vs os) {i:Nat} {c:AV} (hi:cs[i]?=some c) :
  ∃ v o1 oc o2,vs[i]?=some v/\RepT P w F tm oss c v oc/\os=o1++(oc++o2)/\RepTL P w F tm oss (cs.set i .any) vs (o1++o2):=by
 induction cs generalizing vs os i with
 | nil=>simp at hi
 | cons d cs ih =>
  cases h with
  | cons d v os cs vs os' hd t =>
   cases i with
   | zero =>
    simp at hi; subst hi
    exact ⟨v,[],os,os',rfl,hd,by simp,by simpa using RepTL.cons _ _ _ _ _ _ (.any v) t⟩
   | succ i =>
    simp at hi
    obtain ⟨u,o1,ou,o2,e1,e2,e3,e4⟩:=ih t hi
    exact ⟨u,os++o1,ou,o2,by simpa using e1,e2,by simp [e3],by simpa using RepTL.cons _ _ _ _ _ _ hd e4⟩
theorem zcj (W:List Nat):∀ cs:List AV,(klL W cs).length=cs.length
 | []=>rfl
 | c::cs=>by simp [klL,zcj W cs]
theorem zfP (W:List Nat):∀ cs:List AV,klL W cs=cs.map (kl W)
 | []=>rfl
 | c::cs=>by rw [klL,zfP W cs,List.map_cons]
mutual
theorem zo3 (W:List Nat):∀ c:AV,kl W (kl W c)=kl W c
 | .bor s p=>by by_cases h:s∈W <;> simp [kl,h]
 | .ptr s p o=>by by_cases h:s∈W <;> simp [kl,h]
 | .slp s p o n=>by by_cases h:s∈W <;> simp [kl,h]
 | .agg cs=>by simp [kl,zd7 W cs]
 | .tup cs=>by simp [kl,zd7 W cs]
 | .fn f cs=>by simp [kl,zd7 W cs]
 | .any=>rfl
 | .val v=>rfl
 | .sl n cs=>rfl
 | .own e n cs=>rfl
 | .ofs k e n cs=>rfl
 | .box e cs=>rfl
 | .fptr cs=>rfl
 | .mp c=>rfl
 | .fmp c=>rfl
 | .it l es=>rfl
theorem zd7 (W:List Nat):∀ cs:List AV,klL W (klL W cs)=klL W cs
 | []=>rfl
 | c::cs=>by simp [klL,zo3 W c,zd7 W cs]
end
theorem zqk (h:Core P N G w0 S a w F oss []) {x:Operand} {i d:Nat} (hd:OkD N d) {p:Prop} {rd:List Nat} {U:List Upd} (hm:exS S N d x i=some (p,rd,U)) (hp:p) :
  ∃ v,(Instr.extract (a.eval x) i).run P w=.ok v w/\StRel P N G w0 (app U S) (a.put (some d) v) w:=by
 unfold exS at hm
 split at hm
 .rename_i t
  split at hm
  .rename_i cs hS
   have hr:=h.rep t
   have run:∀ {vs:List Value} {v:Value},a.eval (.tmp t)=.tuple vs.toArray->vs[i]?=some v->(Instr.extract (a.eval (.tmp t)) i).run P w=.ok v w:=fun he hv=>by
    rw [he]; simp [Instr.extract,hv]
   split at hm
   .simp at hm
   .rename_i c hne hi
    split at hm
    .rename_i hown
     simp only [Option.some.injEq,Prod.mk.injEq] at hm; obtain ⟨rfl,rfl,rfl⟩:=hm
     obtain ⟨k1,k2⟩:=h.take t
     rw [hS] at k2
     have hv:a.eval (.tmp t)=tmo a t:=rfl
     generalize hu:tmo a t=u at k2 hv
     generalize ho:oss t=ot at k2 k1
     rw [kl] at k2
     cases k2 with
     | cell _ _ _ hc=>cases hc
     | tup _ vs os hl hL =>
      have hi':(klL [t] cs)[i]?=some (kl [t] c):=by rw [zfP,List.getElem?_map,hi]; rfl
      obtain ⟨v,o1,oc,o2,e1,e2,e3,e4⟩:=hL.get hi'
      subst e3
      refine ⟨v,run hv e1,?_⟩
      simp only [List.append_nil] at k1
      have hnd:=k1.xn
      have n1:=List.nodup_append.1 hnd
      have n2:=List.nodup_append.1 n1.2.1
      have hset:(klL [t] cs).set i .any=klL [t] (cs.set i .any):=by
       rw [zfP,zfP,List.map_set]; rfl
      have back:Core P N G w0 (upd t (.tup (cs.set i .any)) S) a w F (ins (ins oss t []) t (o1++o2)) oc:=by
       have hr2:RepT P w F (tmo a) (ins oss t []) (.tup (klL [t] (cs.set i .any))) (tmo a t) (o1++o2):=by
        rw [hu]; exact .tup _ vs _ (by rw [zcj,List.length_set,<- hl,zcj]) (hset ▸ e4)
       have:=k1.reput (t:=t) hp.1 hr2 (fun b hb=>by simp only [List.mem_append] at hb |-; rcases hb with hb | hb <;> simp [hb])
        (List.nodup_append.2 ⟨n1.1,n2.2.1,fun x hx y hy e=>n1.2.2 x hx y (by simp [hy]) e⟩) (X':=oc)
        (fun b hb=>⟨by simp [hb],fun hx=>by
         rcases List.mem_append.1 hx with hx | hx
         .exact n1.2.2 b hx b (by simp [hb]) rfl
         .exact n2.2.2 b hb b hx rfl⟩) n2.1
       have heq:upd t (.tup (klL [t] (cs.set i .any))) (upd t .any S)=upd t (.tup (cs.set i .any)) S:=by
        funext j
        simp only [upd]
        split
        .simp [kl,zd7]
        .exact zo3 _ _
       rwa [heq] at this
      have he2:RepT P w F (tmo a) (ins (ins oss t []) t (o1++o2)) (kl [t] (kl [t] c)) v oc :=
       RepT.kl [t] (fun _ h=>h) (fun s p u hs k=>by
        have hs:s≠t:=by simpa using hs
        simpa [ins,hs] using k) e2 (fun _ _=>rfl)
      rw [zo3] at he2
      exact back.putX hd he2
    .rename_i hown
     simp only [Option.some.injEq,Prod.mk.injEq] at hm; obtain ⟨rfl,rfl,rfl⟩:=hm
     rw [hS] at hr
     have hv:a.eval (.tmp t)=tmo a t:=rfl
     generalize tmo a t=u at hr hv
     generalize oss t=ot at hr
     cases hr with
     | cell _ _ _ hc=>cases hc
     | tup _ vs os hl hL =>
      obtain ⟨v,o1,oc,o2,e1,e2,e3,e4⟩:=hL.get hi
      refine ⟨v,run hv e1,?_⟩
      rw [e2.noOwn (by simpa using hown)] at e2
      exact h.put0 hd e2
   .simp at hm
  .simp at hm
 .simp at hm
def unI (op:UnOp) (v:Value):Option (Prop × Value) :=
 match op,v with
 | .not,.bool b=>some (True,.bool !b)
 | .neg,.int k n=>if k.signed then some (inK k (-n),.int k (-n)) else none
 | _,_=>none
theorem zoU {op:UnOp} {v u:Value} {p:Prop} (h:unI op v=some (p,u)) (hp:p):(Op.unary op v).run P w=.ok u w:=by
 unfold unI at h
 split at h
 .simp only [Option.some.injEq,Prod.mk.injEq] at h; obtain ⟨rfl,rfl⟩:=h; rfl
 .rename_i k n
  split at h
  .simp only [Option.some.injEq,Prod.mk.injEq] at h; obtain ⟨rfl,rfl⟩:=h
   simp [Op.unary,Op.intArith,zd9 hp]
  .simp at h
 .simp at h
def cnI (P:Program) (t:TypeId) (v:Value):Option (Prop × Value) :=
 match P.underlying t,v with
 | some (.int k),.int _ n=>if k.signed then some (inK k n,.int k n) else some (True,.int k (k.wrap n))
 | _,_=>none
theorem zop {s t:TypeId} {v u:Value} {p:Prop} (hs:∃ d,P.underlying s=some d) (h:cnI P t v=some (p,u)) (hp:p):(convert s t v).run P w=.ok u w:=by
 obtain ⟨d,hd⟩:=hs
 unfold cnI at h
 split at h
 .rename_i k k' n ht
  have e:(convert s t (.int k' n)).run P w=.ok (.int k (k.wrap n)) w:=by
   simp [convert,run_underlying hd,run_underlying ht,Conv.intToInt]
  split at h
  .simp only [Option.some.injEq,Prod.mk.injEq] at h; obtain ⟨rfl,rfl⟩:=h
   rw [e,zd9 hp]
  .simp only [Option.some.injEq,Prod.mk.injEq] at h; obtain ⟨rfl,rfl⟩:=h
   exact e
 .simp at h
end
end Go.Abs


namespace Go.Abs
variable [DrawK]
open Go.RowKit (Below)
def zvK (P:Program) (f:FuncId) (args:List AV) (r:AV) (outs:List AV):Prop :=
 ∀ (w:World) (vs:List Value) (os:List Nat),args.length=vs.length->os.Nodup->(∀ b∈os,b<w.heap.size) ->
  (∀ tm oss,RepTL P w (fun b=>b<w.heap.size/\b ∉ os) tm oss args vs os) ->
  Calls P f vs.toArray w fun e w'=>∃ v orr oo,e=.returned v/\Ext (fun b=>b<w.heap.size/\b ∉ os) w w' /\
   (∀ F tm oss,RepT P w' F tm oss r v orr)/\(∀ F tm oss,RepTL P w' F tm oss outs vs oo)/\outs.length=vs.length/\(orr++oo).Nodup /\
   ∀ b,b∈orr\/b∈oo->(b∈os\/w.heap.size<=b)/\b<w'.heap.size
abbrev Loc:=Nat × List Nat
def locB:AV->List Loc
 | .bor s p=>[(s,p)]
 | _=>[]
def locs (t:Nat):AV->List Loc
 | .bor s p=>[(s,p)]
 | .own _ _ _=>[(t,[])]
 | .box _ _=>[(t,[])]
 | .mp _=>[(t,[])]
 | .agg cs=>cs.flatMap locB
 | _=>[]
def zbu:List AV->List AV->Option (List AV × List AV)
 | [],l=>some ([],l)
 | .bor _ _::cs,c::l=>match zbu cs l with
  | some (ds,l')=>some (c::ds,l')
  | none=>none
 | .val v::cs,l=>match zbu cs l with
  | some (ds,l')=>some (.val v::ds,l')
  | none=>none
 | .sl n xs::cs,l=>match zbu cs l with
  | some (ds,l')=>some (.sl n xs::ds,l')
  | none=>none
 | _,_=>none
def fillA:AV->List AV->Option (AV × List AV)
 | .bor _ _,c::l=>some (c,l)
 | .own _ _ _,c::l=>some (c,l)
 | .box _ _,c::l=>some (c,l)
 | .mp _,c::l=>some (c,l)
 | .fmp c,l=>some (.fmp c,l)
 | .fptr c,l=>some (.fptr c,l)
 | .val v,l=>some (.val v,l)
 | .sl n cs,l=>some (.sl n cs,l)
 | .agg cs,l=>match zbu cs l with
  | some (ds,l')=>some (.agg ds,l')
  | none=>none
 | _,_=>none
def fillArgs (S:St):List Operand->List AV->Option (List AV)
 | [],[]=>some []
 | x::xs,l=>match fillA (aop S x) l with
  | some (d,l')=>match fillArgs S xs l' with
   | some ds=>some (d::ds)
   | none=>none
  | none=>none
 | _,_=>none
def zao (S:St):List Operand->List Loc
 | []=>[]
 | .tmp t::xs=>locs t (S t)++zao S xs
 | _::xs=>zao S xs
def zgk:List AV->List AV->Option (List AV)
 | [],_=>some []
 | .bor _ _::cs,d::ds=>match zgk cs ds with
  | some l=>if isOB d then some (d::l) else none
  | none=>none
 | _::cs,_::ds=>zgk cs ds
 | _::_,[]=>none
def anyB:AV->Bool
 | .any=>true
 | _=>false
def zlJ:AV->AV->Option (List AV)
 | .bor _ _,d=>if isOB d then some [d] else none
 | .own _ _ _,d=>if isOB d || anyB d then some [d] else none
 | .box _ _,d=>if isOB d then some [d] else none
 | .mp _,d=>if isOB d then some [d] else none
 | .agg cs,.agg ds=>zgk cs ds
 | .agg _,_=>none
 | _,_=>some []
def zaG (S:St):List Operand->List AV->Option (List AV)
 | [],_=>some []
 | x::xs,d::ds=>match zlJ (aop S x) d,zaG S xs ds with
  | some a,some b=>some (a++b)
  | _,_=>none
 | _::_,[]=>none
def tkLs:St->List Loc->Option (List AV × St)
 | S,[]=>some ([],S)
 | S,(s,p)::ls=>match ctn S s p with
  | some (c,_)=>match tkLs (updn s (putP (S s) p .any) S) ls with
   | some (cs,S')=>some (c::cs,S')
   | none=>none
  | none=>none
def tkLm:St->List Loc->Option (List AV × St)
 | S,[]=>some ([],S)
 | S,(s,[])::ls=>match ctn S s [] with
  | some (c,_)=>match tkLm (updn s .any S) ls with
   | some (cs,S')=>some (c::cs,S')
   | none=>none
  | none=>none
 | S,(s,[i])::ls=>match ctn S s [i] with
  | some (c,_)=>match tkLm (updn1 s (putP (S s) [i] .any) [] S) ls with
   | some (cs,S')=>some (c::cs,S')
   | none=>none
  | none=>none
 | _,_=>none
def ptLs:St->List Loc->List AV->Option St
 | S,[],_=>some S
 | S,(s,[])::ls,c::cs=>ptLs (updn s c S) ls cs
 | S,(s,i::p)::ls,c::cs=>match kids (S s),getP (S s) (i::p) with
  | some _,some .any=>ptLs (updn1 s (putP (S s) (i::p) c) [] S) ls cs
  | _,_=>none
 | _,_::_,[]=>none
section
variable {P:Program} {N:Nat × List Nat} {G:Nat->Prop} {w0:W0} {w w':World} {S:St} {a:Act} {F:Nat->Prop} {oss:Nat->List Nat} {X:List Nat}
inductive At (P:Program) (w:World) (F:Nat->Prop) (tm:Nat->Value):List Loc->List AV->List Value->List Nat->Prop
 | nil:At P w F tm [] [] [] []
 | cons (s:Nat) (p:List Nat) (c:AV) (u:Value) (o:List Nat) (ls:List Loc) (cs:List AV) (us:List Value) (os:List Nat) (Y:List Nat)
   (hw:zah w Y (tm s) p u) (hr:RepC P w F c u o) (t:At P w F tm ls cs us os):At P w F tm ((s,p)::ls) (c::cs) (u::us) (o++os)
theorem Core.tkLs:∀ {ls:List Loc} {S:St} {oss:Nat->List Nat} {X:List Nat} (_:Core P N G w0 S a w F oss X) {cs:List AV} {S':St},tkLs S ls=some (cs,S') ->
  ∃ us oc oss',Core P N G w0 S' a w F oss' (oc++X)/\At P w F (tmo a) ls cs us oc
 | [],S,oss,X,h,cs,S',hc=>by
  simp [Abs.tkLs] at hc; obtain ⟨rfl,rfl⟩:=hc
  exact ⟨[],[],oss,h,.nil⟩
 | (s,p)::ls,S,oss,X,h,cs,S',hc=>by
  rw [Abs.tkLs] at hc
  split at hc
  .rename_i c cc hct
   obtain ⟨hk,hg,hkc⟩:=zaC hct
   split at hc
   .rename_i cs1 S1 h1
    simp only [Option.some.injEq,Prod.mk.injEq] at hc; obtain ⟨rfl,rfl⟩:=hc
    obtain ⟨u,ou,oss1,k1,k2,k3⟩:=h.takeP hk hg
    obtain ⟨us,oc,oss2,m1,m2⟩:=Core.tkLs k3 h1
    refine ⟨u::us,ou++oc,oss2,?_,.cons s p c u ou ls cs1 us oc _ k1 k2 m2⟩
    refine m1.sub (fun b hb=>?_) ?_
    .simp only [List.mem_append] at hb |-
     rcases hb with (hb | hb) | hb
     .exact .inr (.inl hb)
     .exact .inl hb
     .exact .inr (.inr hb)
    .have:=m1.xn
     simp only [List.nodup_append,List.mem_append] at this |-
     obtain ⟨n1,⟨n2,n3,n4⟩,n5⟩:=this
     refine ⟨⟨n2,n1,fun x hx y hy e=>n5 y hy x (.inl hx) e.symm⟩,n3,fun x hx y hy=>?_⟩
     rcases hx with hx | hx
     .exact n4 x hx y hy
     .exact n5 x hx y (.inr hy)
   .simp at hc
  .simp at hc
theorem Core.tkLm:∀ {ls:List Loc} {S:St} {oss:Nat->List Nat} {X:List Nat} (_:Core P N G w0 S a w F oss X) {cs:List AV} {S':St},tkLm S ls=some (cs,S') ->
  ∃ us oc oss',Core P N G w0 S' a w F oss' (oc++X)/\At P w F (tmo a) ls cs us oc
 | [],S,oss,X,h,cs,S',hc=>by
  simp [Abs.tkLm] at hc; obtain ⟨rfl,rfl⟩:=hc
  exact ⟨[],[],oss,h,.nil⟩
 | (s,p)::ls,S,oss,X,h,cs,S',hc=>by
  have fin:∀ {c cc:List AV} {c0:AV} {S1 S2:St} {cs1:List AV} {u:Value} {ou:List Nat} {oss1:Nat->List Nat},zah w (oss s) (tmo a s) p u->RepC P w F c0 u ou->Core P N G w0 S1 a w F oss1 (ou++X) ->
    Abs.tkLm S1 ls=some (cs1,S2)->∃ us oc oss',Core P N G w0 S2 a w F oss' (oc++X)/\At P w F (tmo a) ((s,p)::ls) (c0::cs1) us oc:=by
   intro c cc c0 S1 S2 cs1 u ou oss1 k1 k2 k3 h1
   obtain ⟨us,oc,oss2,m1,m2⟩:=Core.tkLm k3 h1
   refine ⟨u::us,ou++oc,oss2,?_,.cons s p c0 u ou ls cs1 us oc _ k1 k2 m2⟩
   refine m1.sub (fun b hb=>?_) ?_
   .simp only [List.mem_append] at hb |-
    rcases hb with (hb | hb) | hb
    .exact .inr (.inl hb)
    .exact .inl hb
    .exact .inr (.inr hb)
   .have:=m1.xn
    simp only [List.nodup_append,List.mem_append] at this |-
    obtain ⟨n1,⟨n2,n3,n4⟩,n5⟩:=this
    refine ⟨⟨n2,n1,fun x hx y hy e=>n5 y hy x (.inl hx) e.symm⟩,n3,fun x hx y hy=>?_⟩
    rcases hx with hx | hx
    .exact n4 x hx y hy
    .exact n5 x hx y (.inr hy)
  match p,hc,@fin with
  | [],hc,fin =>
   rw [Abs.tkLm] at hc
   split at hc
   .rename_i c cc hct
    obtain ⟨hk,hg,hkc⟩:=zaC hct
    split at hc
    .rename_i cs1 S1 h1
     simp only [Option.some.injEq,Prod.mk.injEq] at hc; obtain ⟨rfl,rfl⟩:=hc
     obtain ⟨u,ou,oss1,k1,k2,k3⟩:=h.takeP hk hg
     exact fin (c:=[]) (cc:=[]) k1 k2 k3 h1
    .simp at hc
   .simp at hc
  | [i],hc,fin =>
   rw [Abs.tkLm] at hc
   split at hc
   .rename_i c cc hct
    obtain ⟨hk,hg,hkc⟩:=zaC hct
    split at hc
    .rename_i cs1 S1 h1
     simp only [Option.some.injEq,Prod.mk.injEq] at hc; obtain ⟨rfl,rfl⟩:=hc
     obtain ⟨u,o1,ou,o2,k1,k2,k3,k4,k5,k6⟩:=h.inplace hk hg
     have k7:=k6 w F .any [] (ou++X) rfl rfl ⟨rfl,Nat.le_refl _⟩ (Nat.le_refl _) (fun _ _ _ _=>rfl) (fun _ h=>h) (fun _ h=>.inl h) (.any _ k2.oneCell) (by simp) List.nodup_nil
      (fun b hb=>by
       rcases List.mem_append.1 hb with hb | hb
       .exact ⟨.inr (.inl hb),(k4 b hb).2.1,(k4 b hb).1,by simp⟩
       .exact ⟨.inl hb,(h.xo b hb).2,(h.xo b hb).1,by simp⟩)
      (List.nodup_append.2 ⟨k5,h.xn,fun x hx y hy e=>(k4 x hx).2.2 (e ▸ hy)⟩)
     exact fin (c:=[]) (cc:=[]) k1 k2 (h.gentle k7 (fun _ h=>h) (fun j hj=>by simp [ins,hj]) (zd3 hk)) h1
    .simp at hc
   .simp at hc
  | _::_::_,hc,fin=>simp [Abs.tkLm] at hc
inductive Bk (P:Program) (w:World) (F:Nat->Prop) (tm:Nat->Value):List Loc->List AV->List Nat->Prop
 | nil:Bk P w F tm [] [] []
 | cons (s:Nat) (p:List Nat) (c:AV) (u:Value) (o:List Nat) (ls:List Loc) (cs:List AV) (os:List Nat) (Y:List Nat)
   (hw:zah w Y (tm s) p u) (hr:RepC P w F c u o) (t:Bk P w F tm ls cs os):Bk P w F tm ((s,p)::ls) (c::cs) (o++os)
theorem Core.reputN (h:Core P N G w0 S a w F oss X) {t:Nat} (ht:t<N.1) {c:AV} {od X':List Nat} (hr:RepC P w F c (tmo a t) od)
  (ho:∀ b,b∈od->b∈X) (hn:od.Nodup) (hX:∀ b,b∈X'->b∈X/\b ∉ od) (hn':X'.Nodup):Core P N G w0 (updn t c S) a w F (ins oss t od) X':=by
 refine { h.reput (t:=t) ht (.cell _ _ _ hr) ho hn hX hn' with rep:=fun i=>?_ }
 show RepT P w F (tmo a) (ins oss t od) (if i=t then c else kn t (S i)) (tmo a i) (ins oss t od i)
 split
 .rename_i e
  subst e
  have:ins oss i od i=od:=by simp [ins]
  rw [this]
  exact .cell _ _ _ hr
 .rename_i e
  have:ins oss t od i=oss i:=by simp [ins,e]
  rw [this]
  refine RepT.kn t (fun _ h=>h) (fun s p u hc k=>?_) (h.rep i) (fun _ _=>rfl)
  by_cases e':s=t
  .rcases hc with hc | hc
   .exact (hc e').elim
   .subst hc; exact k
  .have:ins oss t od s=oss s:=by simp [ins,e']
   rw [this]; exact k
theorem Core.ptLs:∀ {ls:List Loc} {S:St} {oss:Nat->List Nat} {cs:List AV} {oc:List Nat} {X:List Nat} (_:Core P N G w0 S a w F oss (oc++X)) (_:Bk P w F (tmo a) ls cs oc) (_:∀ l∈ls,l.1<N.1)
  {S':St},ptLs S ls cs=some S'->∃ oss',Core P N G w0 S' a w F oss' X
 | [],S,oss,cs,oc,X,h,hb,hN,S',hc=>by
  simp [Abs.ptLs] at hc; subst hc
  cases hb; exact ⟨oss,h⟩
 | (s,[])::ls,S,oss,cs,oc,X,h,hb,hN,S',hc=>by
  cases hb with
  | cons _ _ c u o _ cs os Y hw hr t =>
   rw [Abs.ptLs] at hc
   have hu:u=tmo a s:=hw
   subst hu
   have hx:=h.xn
   have e1:∀ b,b∈os++X->b ∉ o:=by
    intro b hb hbo
    rw [List.append_assoc] at hx
    exact (List.nodup_append.1 hx).2.2 b hbo b hb rfl
   rw [List.append_assoc] at hx
   have:=h.reputN (t:=s) (hN (s,[]) (by simp)) hr (fun b hb=>by simp [hb]) (List.nodup_append.1 hx).1 (X':=os++X)
    (fun b hb=>⟨by simp only [List.mem_append] at hb |-; rcases hb with hb | hb <;> simp [hb],e1 b hb⟩) (List.nodup_append.1 hx).2.1
   exact Core.ptLs this t (fun l hl=>hN l (by simp [hl])) hc
 | (s,i::p)::ls,S,oss,cs,oc,X,h,hb,hN,S',hc=>by
  cases hb with
  | cons _ _ c u o _ cs os Y hw hr t =>
   rw [Abs.ptLs] at hc
   split at hc
   .rename_i k hk hg
    obtain ⟨u',o1,ou,o2,k1,k2,k3,k4,k5,k6⟩:=h.inplace (by simp [hk]) hg
    have:=zaq hw k1; subst this
    have hx:=h.xn
    rw [List.append_assoc] at hx
    have hx1:=List.nodup_append.1 hx
    have:=k6 w F c o (os++X) rfl rfl ⟨rfl,Nat.le_refl _⟩ (Nat.le_refl _) (fun _ _ _ _=>rfl) (fun _ h=>h) (fun _ h=>.inl h) hr
     (fun b hb=>by have hm:b∈(o++os)++X:=by simp [hb]
                   exact ⟨.inl hm,(h.xo b hm).2,(h.xo b hm).1⟩) hx1.1
     (fun b hb=>by have hm:b∈(o++os)++X:=by simp only [List.mem_append] at hb |-; rcases hb with hb | hb <;> simp [hb]
                   exact ⟨.inl hm,(h.xo b hm).2,(h.xo b hm).1,fun ho=>hx1.2.2 b ho b hb rfl⟩) hx1.2.1
    exact Core.ptLs (h.gentle this (fun _ h=>h) (fun j hj=>by simp [ins,hj]) (zd3 (by simp [hk]))) t (fun l hl=>hN l (by simp [hl])) hc
   .simp at hc
theorem At.append {ls ls':List Loc} {cs cs':List AV} {us us':List Value} {os os':List Nat} {tm:Nat->Value} (h:At P w F tm ls cs us os) (k:At P w F tm ls' cs' us' os') :
  At P w F tm (ls++ls') (cs++cs') (us++us') (os++os'):=by
 induction h with
 | nil=>exact k
 | cons s p c u o ls cs us os Y hw hr t ih=>simpa using At.cons s p c u o _ _ _ _ Y hw hr ih
theorem At.split {tm:Nat->Value}:∀ {ls ls':List Loc} {cs:List AV} {us:List Value} {os:List Nat},At P w F tm (ls++ls') cs us os ->
  ∃ c1 c2 u1 u2 o1 o2,cs=c1++c2/\us=u1++u2/\os=o1++o2/\At P w F tm ls c1 u1 o1/\At P w F tm ls' c2 u2 o2
 | [],ls',cs,us,os,h=>⟨[],cs,[],us,[],os,rfl,rfl,rfl,.nil,h⟩
 | l::ls,ls',cs,us,os,h=>by
  cases h with
  | cons s p c u o ls cs us os Y hw hr t =>
   obtain ⟨c1,c2,u1,u2,o1,o2,rfl,rfl,rfl,h1,h2⟩:=At.split t
   exact ⟨c::c1,c2,u::u1,u2,o++o1,o2,rfl,rfl,by simp,.cons s p c u o ls c1 u1 o1 Y hw hr h1,h2⟩
theorem zdK {F0:Nat->Prop} (hF:∀ b,F b->F0 b) {tm:Nat->Value}:∀ {cs ds:List AV} {vs:List Value} {os:List Nat} (_:RepTL P w F tm oss cs vs os)
  {lf l':List AV} {us:List Value} {oc:List Nat} (_:At P w F tm (cs.flatMap locB) lf us oc) (_:zbu cs (lf++l')=some (ds,l')),(∀ tm' oss',RepTL P w F0 tm' oss' ds vs oc)/\ds.length=cs.length
 | [],ds,vs,os,h,lf,l',us,oc,ha,hf=>by
  cases ha
  simp [zbu] at hf; subst hf
  exact ⟨fun _ _=>.nil _,rfl⟩
 | c::cs,ds,vs,os,h,lf,l',us,oc,ha,hf=>by
  cases h with
  | cons _ v o1 _ vs o2 hc ht =>
   rw [List.flatMap_cons] at ha
   obtain ⟨c1,c2,u1,u2,q1,q2,rfl,rfl,rfl,h1,h2⟩:=At.split ha
   rw [List.append_assoc] at hf
   have main:∀ d,(∀ tm' oss',RepT P w F0 tm' oss' d v q1)->(match zbu cs (c2++l') with | some (ds,l')=>some (d::ds,l') | none=>none)=some (ds,l') ->
     (∀ tm' oss',RepTL P w F0 tm' oss' ds (v::vs) (q1++q2))/\ds.length=(c::cs).length:=by
    intro d hd hm
    split at hm
    .rename_i ds1 l1 h3
     simp only [Option.some.injEq,Prod.mk.injEq] at hm; obtain ⟨rfl,rfl⟩:=hm
     obtain ⟨k1,k2⟩:=zdK hF ht h2 h3
     exact ⟨fun tm' oss'=>.cons _ _ _ _ _ _ (hd tm' oss') (k1 tm' oss'),by simp [k2]⟩
    .simp at hm
   cases c with
   | bor s p =>
    cases h1 with
    | cons _ _ c u o ls cs' us' os' Y hw hr t =>
     cases t
     simp only [List.cons_append,List.nil_append,zbu] at hf
     refine main c (fun tm' oss'=>?_) hf
     cases hc with
     | cell _ _ _ hc=>cases hc
     | bor _ _ _ h =>
      have:=zaq hw h; subst this
      simpa using RepT.cell _ _ _ (hr.mono hF (fun _ _=>rfl))
   | val x =>
    cases h1
    simp only [List.nil_append,zbu] at hf
    refine main _ (fun tm' oss'=>?_) hf
    cases hc with
    | cell _ _ _ hc=>cases hc with | val _ hv=>exact .cell _ _ _ (.val _ hv)
   | sl n xs =>
    cases h1
    simp only [List.nil_append,zbu] at hf
    refine main _ (fun tm' oss'=>?_) hf
    have:=hc.noOwn rfl
    subst this
    cases hc with
    | cell _ _ _ hc=>exact .cell _ _ _ (hc.mono hF (fun _ _=>rfl))
   | _=>simp [zbu] at hf
theorem zoh {F0:Nat->Prop} (hF:∀ b,F b->F0 b) {tm:Nat->Value} {t:Nat} {c d:AV} {v:Value} {os:List Nat} (h:RepT P w F tm oss c v os) (hv:isOB c=true->v=tm t)
  {lf l':List AV} {us:List Value} {oc:List Nat} (ha:At P w F tm (locs t c) lf us oc) (hf:fillA c (lf++l')=some (d,l')):∀ tm' oss',RepT P w F0 tm' oss' d v oc:=by
 intro tm' oss'
 have own:isOB c=true->locs t c=[(t,[])]->fillA c (lf++l')=some (d,l')->(∀ x l,fillA c (x::l)=some (x,l))->RepT P w F0 tm' oss' d v oc:=by
  intro ho hl hf hx
  rw [hl] at ha
  cases ha with
  | cons s p c u o ls cs us os Y hw hr t =>
   cases t
   rw [List.cons_append,List.nil_append,hx] at hf
   simp only [Option.some.injEq,Prod.mk.injEq] at hf; obtain ⟨rfl,_⟩:=hf
   have hw:u=tm _:=hw
   rw [<- hv ho] at hw; subst hw
   simpa using RepT.cell _ _ _ (hr.mono hF (fun _ _=>rfl))
 cases c with
 | any=>simp [fillA] at hf
 | val x =>
  cases ha
  have h2:RepT P w F0 tm' oss' (.val x) v []:=by
   cases h with
   | cell _ _ _ hc=>cases hc with | val _ hv=>exact .cell _ _ _ (.val _ hv)
  simp [fillA] at hf
  obtain ⟨rfl,_⟩:=hf
  exact h2
 | sl n xs =>
  cases ha
  simp [fillA] at hf; subst hf
  have:=h.noOwn rfl
  subst this
  cases h with
  | cell _ _ _ hc=>exact .cell _ _ _ (hc.mono hF (fun _ _=>rfl))
 | own e n cs=>exact own rfl rfl hf (fun _ _=>rfl)
 | ofs k e n cs=>simp [fillA] at hf
 | box e cs=>exact own rfl rfl hf (fun _ _=>rfl)
 | mp c=>exact own rfl rfl hf (fun _ _=>rfl)
 | it l es=>simp [fillA] at hf
 | slp s p o n=>simp [fillA] at hf
 | fmp c =>
  cases ha
  simp [fillA] at hf; subst hf
  have:=h.noOwn rfl
  subst this
  cases h with
  | cell _ _ _ hc=>exact .cell _ _ _ (hc.mono hF (fun _ _=>rfl))
 | agg cs =>
  cases h with
  | cell _ _ _ hc=>cases hc
  | agg _ vs os hl h =>
   simp only [fillA] at hf
   split at hf
   .rename_i ds l'' hds
    simp only [Option.some.injEq,Prod.mk.injEq] at hf; obtain ⟨rfl,rfl⟩:=hf
    obtain ⟨k1,k2⟩:=zdK hF h ha hds
    exact .agg ds vs oc (k2.trans hl) (k1 tm' oss')
   .simp at hf
 | tup cs=>simp [fillA] at hf
 | fn f cs=>simp [fillA] at hf
 | bor s p =>
  cases ha with
  | cons _ _ c u o ls cs us os Y hw hr t =>
   cases t
   simp [fillA] at hf; subst hf
   cases h with
   | cell _ _ _ hc=>cases hc
   | bor _ _ _ h =>
    have:=zaq hw h; subst this
    simpa using RepT.cell _ _ _ (hr.mono hF (fun _ _=>rfl))
 | ptr=>simp [fillA] at hf
 | fptr cs =>
  cases ha
  simp [fillA] at hf; subst hf
  have:=h.noOwn rfl
  subst this
  cases h with
  | cell _ _ _ hc=>exact .cell _ _ _ (hc.mono hF (fun _ _=>rfl))
theorem Core.opOwn (h:Core P N G w0 S a w F oss X) {x:Operand} (hx:∀ t,x≠.tmp t):isOB (aop S x)=false:=by
 cases x with
 | tmp t=>exact (hx t rfl).elim
 | const v=>simp only [aop]; unfold cv; split <;> rfl
 | global g=>rfl
 | func f=>rfl
theorem zft:∀ {cs ds l l':List AV},zbu cs l=some (ds,l')->∃ lf,l=lf++l'/\lf.length=(cs.flatMap locB).length
 | [],ds,l,l',h=>by simp [zbu] at h; obtain ⟨_,rfl⟩:=h; exact ⟨[],rfl,rfl⟩
 | c::cs,ds,l,l',h=>by
  have plain:(match zbu cs l with | some (ds,l')=>some ((default:AV)::ds,l') | none=>none).isSome=true->locB c=[]->∀ d,(match zbu cs l with | some (ds,l')=>some (d::ds,l') | none=>none)=some (ds,l') ->
    ∃ lf,l=lf++l'/\lf.length=((c::cs).flatMap locB).length:=by
   intro _ hl d hm
   split at hm
   .rename_i ds1 l1 h3
    simp only [Option.some.injEq,Prod.mk.injEq] at hm; obtain ⟨_,rfl⟩:=hm
    obtain ⟨lf,e1,e2⟩:=zft h3
    exact ⟨lf,e1,by simp [hl,e2]⟩
   .simp at hm
  cases c with
  | bor s p =>
   cases l with
   | nil=>simp [zbu] at h
   | cons x l =>
    simp only [zbu] at h
    split at h
    .rename_i ds1 l1 h3
     simp only [Option.some.injEq,Prod.mk.injEq] at h; obtain ⟨_,rfl⟩:=h
     obtain ⟨lf,e1,e2⟩:=zft h3
     exact ⟨x::lf,by simp [e1],by simp [locB,e2]⟩
    .simp at h
  | val v=>exact plain (by simp only [zbu] at h; split at h <;> simp_all) rfl _ (by simpa only [zbu] using h)
  | sl n xs=>exact plain (by simp only [zbu] at h; split at h <;> simp_all) rfl _ (by simpa only [zbu] using h)
  | _=>simp [zbu] at h
theorem zpf {c d:AV} {l l':List AV} (h:fillA c l=some (d,l')) (t:Nat):∃ lf,l=lf++l'/\lf.length=(locs t c).length:=by
 cases c with
 | any=>simp [fillA] at h
 | val x =>
  refine ⟨[],?_,rfl⟩
  rw [fillA.eq_def] at h
  split at h <;> simp_all
 | sl n xs=>simp [fillA] at h; exact ⟨[],by simp [h.2],rfl⟩
 | own e n cs=>cases l with
  | nil=>simp [fillA] at h
  | cons x l=>simp [fillA] at h; exact ⟨[x],by simp [h.2],rfl⟩
 | ofs k e n cs=>simp [fillA] at h
 | box e cs=>cases l with
  | nil=>simp [fillA] at h
  | cons x l=>simp [fillA] at h; exact ⟨[x],by simp [h.2],rfl⟩
 | bor s p=>cases l with
  | nil=>simp [fillA] at h
  | cons x l=>simp [fillA] at h; exact ⟨[x],by simp [h.2],rfl⟩
 | agg cs =>
  simp only [fillA] at h
  split at h
  .rename_i ds l1 h3
   simp only [Option.some.injEq,Prod.mk.injEq] at h; obtain ⟨_,rfl⟩:=h
   exact zft h3
  .simp at h
 | tup cs=>simp [fillA] at h
 | fn f cs=>simp [fillA] at h
 | ptr=>simp [fillA] at h
 | fptr cs=>simp [fillA] at h; exact ⟨[],by simp [h.2],rfl⟩
 | fmp c=>simp [fillA] at h; exact ⟨[],by simp [h.2],rfl⟩
 | it=>simp [fillA] at h
 | slp=>simp [fillA] at h
 | mp c=>cases l with
  | nil=>simp [fillA] at h
  | cons x l=>simp [fillA] at h; exact ⟨[x],by simp [h.2],rfl⟩
theorem At.len {tm:Nat->Value} {ls:List Loc} {cs:List AV} {us:List Value} {os:List Nat} (h:At P w F tm ls cs us os):cs.length=ls.length:=by
 induction h with
 | nil=>rfl
 | cons=>simpa
theorem Core.margs {F0:Nat->Prop} (h:Core P N G w0 S a w F oss X) (hF:∀ b,F b->F0 b):∀ {xs:List Operand} {ds lf:List AV} {us:List Value} {oc:List Nat},At P w F (tmo a) (zao S xs) lf us oc ->
  fillArgs S xs lf=some ds->(∀ tm' oss',RepTL P w F0 tm' oss' ds (xs.map a.eval) oc)/\ds.length=xs.length
 | [],ds,lf,us,oc,ha,hf=>by
  cases ha
  simp [fillArgs] at hf; subst hf
  exact ⟨fun _ _=>.nil _,rfl⟩
 | x::xs,ds,lf,us,oc,ha,hf=>by
  have key:∀ {l0:List Loc} {c1 c2:List AV} {u1 u2:List Value} {q1 q2:List Nat} (t:Nat),locs t (aop S x)=l0->(isOB (aop S x)=true->a.eval x=tmo a t)->At P w F (tmo a) l0 c1 u1 q1 ->
    At P w F (tmo a) (zao S xs) c2 u2 q2->fillArgs S (x::xs) (c1++c2)=some ds->(∀ tm' oss',RepTL P w F0 tm' oss' ds ((x::xs).map a.eval) (q1++q2))/\ds.length=(x::xs).length:=by
   intro l0 c1 c2 u1 u2 q1 q2 t hl hv h1 h2 hf
   rw [fillArgs.eq_def] at hf
   simp only at hf
   split at hf
   .rename_i d l' hfa
    split at hf
    .rename_i ds1 hfs
     injection hf with hf; subst hf
     obtain ⟨lf1,e1,e2⟩:=zpf hfa t
     have:l'=c2/\lf1=c1:=by
      have hlen:lf1.length=c1.length:=by rw [e2,hl,<- h1.len]
      have:=List.append_inj e1 hlen.symm
      exact ⟨this.2.symm,this.1.symm⟩
     obtain ⟨rfl,rfl⟩:=this
     obtain ⟨os,ho,_⟩:=h.op x
     subst hl
     obtain ⟨k1,k2⟩:=Core.margs h hF h2 hfs
     exact ⟨fun tm' oss'=>.cons _ _ _ _ _ _ (zoh hF ho hv h1 hfa tm' oss') (k1 tm' oss'),by simp [k2]⟩
    .simp at hf
   .simp at hf
  cases x with
  | tmp t =>
   obtain ⟨c1,c2,u1,u2,q1,q2,rfl,rfl,rfl,h1,h2⟩:=At.split (by simpa only [zao] using ha)
   exact key t rfl (fun _=>rfl) h1 h2 hf
  | const v=>exact key (c1:=[]) (q1:=[]) (u1:=[]) 0 (by simp only [aop]; unfold cv; split <;> rfl) (fun ho=>by rw [h.opOwn (by simp)] at ho; simp at ho) .nil (by simpa only [zao] using ha) hf
  | global g=>simp [fillArgs,aop,fillA] at hf
  | func f=>exact key (c1:=[]) (q1:=[]) (u1:=[]) 0 rfl (fun ho=>by rw [h.opOwn (by simp)] at ho; simp at ho) .nil (by simpa only [zao] using ha) hf
theorem Bk.append {ls ls':List Loc} {cs cs':List AV} {os os':List Nat} {tm:Nat->Value} (h:Bk P w F tm ls cs os) (k:Bk P w F tm ls' cs' os') :
  Bk P w F tm (ls++ls') (cs++cs') (os++os'):=by
 induction h with
 | nil=>exact k
 | cons s p c u o ls cs os Y hw hr t ih=>simpa using Bk.cons s p c u o _ _ _ Y hw hr ih
theorem zcH {tm:Nat->Value} {d:AV} {v:Value} {os:List Nat} (h:RepT P w F tm oss d v os) (ho:isOB d=true):RepC P w F d v os:=h.ofKids (zh6 ho)
theorem zhG {F':Nat->Prop} {tm tm':Nat->Value} {oss':Nat->List Nat}:∀ {cs outs lf:List AV} {vs:List Value} {os oo:List Nat},RepTL P w F tm oss cs vs os->RepTL P w' F' tm' oss' outs vs oo ->
  (∀ l∈cs.flatMap locB,∀ v,zah w (oss l.1) (tm l.1) l.2 v->∃ Y,zah w' Y (tm l.1) l.2 v)->zgk cs outs=some lf->∃ o',Bk P w' F' tm (cs.flatMap locB) lf o'/\(∀ b,b∈o'->b∈oo)/\(oo.Nodup->o'.Nodup)
 | [],outs,lf,vs,os,oo,h,k,hT,hl=>by simp [zgk] at hl; subst hl; exact ⟨[],.nil,by simp,fun _=>List.nodup_nil⟩
 | c::cs,[],lf,vs,os,oo,h,k,hT,hl=>by cases c <;> simp [zgk] at hl
 | c::cs,d::outs,lf,vs,os,oo,h,k,hT,hl=>by
  cases h with
  | cons _ v o1 _ vs o2 hc ht =>
   cases k with
   | cons _ _ p1 _ _ p2 kc kt =>
    have hT2:∀ l∈cs.flatMap locB,∀ v,zah w (oss l.1) (tm l.1) l.2 v->∃ Y,zah w' Y (tm l.1) l.2 v:=fun l hl=>hT l (by rw [List.flatMap_cons]; simp [hl])
    have plain:locB c=[]->zgk cs outs=some lf->∃ o',Bk P w' F' tm ((c::cs).flatMap locB) lf o'/\(∀ b,b∈o'->b∈p1++p2)/\((p1++p2).Nodup->o'.Nodup):=by
     intro e1 e2
     obtain ⟨o',q1,q2,q3⟩:=zhG ht kt hT2 e2
     exact ⟨o',by rw [List.flatMap_cons,e1]; exact q1,fun b hb=>by simp [q2 b hb],fun hn=>q3 (List.nodup_append.1 hn).2.1⟩
    cases c with
    | bor s p =>
     simp only [zgk] at hl
     split at hl
     .rename_i l h3
      split at hl
      .rename_i hob
       injection hl with hl; subst hl
       obtain ⟨o',q1,q2,q3⟩:=zhG ht kt hT2 h3
       have hw:zah w (oss s) (tm s) p v:=by
        cases hc with
        | cell _ _ _ hc=>cases hc
        | bor _ _ _ h=>exact h
       obtain ⟨Y,hY⟩:=hT (s,p) (by simp [locB]) v hw
       refine ⟨p1++o',.cons s p d v p1 _ _ o' Y hY (zcH kc hob) q1,fun b hb=>?_,fun hn=>?_⟩
       .rcases List.mem_append.1 hb with hb | hb
        .simp [hb]
        .simp [q2 b hb]
       .have:=List.nodup_append.1 hn
        exact List.nodup_append.2 ⟨this.1,q3 this.2.1,fun x hx y hy=>this.2.2 x hx y (q2 y hy)⟩
      .simp at hl
     .simp at hl
    | _=>exact plain rfl (by simpa only [zgk] using hl)
theorem zpz {F':Nat->Prop} {tm tm':Nat->Value} {oss':Nat->List Nat} {t:Nat} {c d:AV} {v:Value} {os oo:List Nat} (h:RepT P w F tm oss c v os) (hv:isOB c=true->v=tm t) (k:RepT P w' F' tm' oss' d v oo)
  (hT:∀ l∈locs t c,∀ v,zah w (oss l.1) (tm l.1) l.2 v->∃ Y,zah w' Y (tm l.1) l.2 v) {lf:List AV} (hl:zlJ c d=some lf):∃ o',Bk P w' F' tm (locs t c) lf o'/\(∀ b,b∈o'->b∈oo)/\(oo.Nodup->o'.Nodup):=by
 have own:∀ {y:Bool},(y=true->RepC P w' F' d v oo)->isOB c=true->locs t c=[(t,[])]->(if y then some [d] else none)=some lf->∃ o',Bk P w' F' tm (locs t c) lf o'/\(∀ b,b∈o'->b∈oo)/\(oo.Nodup->o'.Nodup):=by
  intro y hy ho e1 e2
  split at e2
  .rename_i hob
   injection e2 with e2; subst e2
   rw [e1]
   exact ⟨oo++[],.cons t [] d v oo _ _ [] [] (hv ho) (hy hob) .nil,by simp,by simp⟩
  .simp at e2
 have plain:locs t c=[]->some ([]:List AV)=some lf->∃ o',Bk P w' F' tm (locs t c) lf o'/\(∀ b,b∈o'->b∈oo)/\(oo.Nodup->o'.Nodup):=by
  intro e1 e2
  injection e2 with e2; subst e2
  rw [e1]; exact ⟨[],.nil,by simp,fun _=>List.nodup_nil⟩
 cases c with
 | own e n cs =>
  refine own (fun hb=>?_) rfl rfl hl
  by_cases ho:isOB d=true
  .exact zcH k ho
  .have hd:d=.any:=by cases d <;> simp_all [anyB]
   subst hd
   have ov:v.oneCell'=true:=by
    cases h with
    | cell _ _ _ hc=>cases hc <;> rfl
   cases k with
   | any=>exact .any _ ov
   | cell _ _ _ kc=>exact kc
 | ofs k e n cs=>exact plain rfl (by simpa [zlJ] using hl)
 | box e cs=>exact own (fun hb=>zcH k hb) rfl rfl hl
 | mp c=>exact own (fun hb=>zcH k hb) rfl rfl hl
 | bor s p =>
  simp only [zlJ] at hl
  split at hl
  .rename_i hob
   injection hl with hl; subst hl
   have hw:zah w (oss s) (tm s) p v:=by
    cases h with
    | cell _ _ _ hc=>cases hc
    | bor _ _ _ h=>exact h
   obtain ⟨Y,hY⟩:=hT (s,p) (by simp [locs]) v hw
   exact ⟨oo++[],.cons s p d v oo _ _ [] Y hY (zcH k hob) .nil,by simp,by simp⟩
  .simp at hl
 | agg cs =>
  cases d with
  | agg ds =>
   generalize hvv:v=vv at k
   cases h with
   | cell _ _ _ hc=>cases hc
   | agg _ vs os hl' hL =>
    cases k with
    | cell _ _ _ hc=>cases hc
    | agg _ vs' oo hl'' kL =>
     have:vs=vs':=by injection hvv with h; simpa using h
     subst this
     exact zhG hL kL hT hl
  | _=>simp [zlJ] at hl
 | any=>exact plain rfl hl
 | val=>exact plain rfl hl
 | sl=>exact plain rfl hl
 | tup=>exact plain rfl hl
 | fn f=>exact plain rfl hl
 | ptr=>exact plain rfl hl
 | fptr=>exact plain rfl hl
 | fmp=>exact plain rfl hl
 | it=>exact plain rfl hl
 | slp=>exact plain rfl hl
theorem Core.mouts {F':Nat->Prop} {tm':Nat->Value} {oss':Nat->List Nat} (h:Core P N G w0 S a w F oss X):∀ {xs:List Operand} {outs lf:List AV} {oo:List Nat},RepTL P w' F' tm' oss' outs (xs.map a.eval) oo ->
  (∀ l∈zao S xs,∀ v,zah w (oss l.1) (tmo a l.1) l.2 v->∃ Y,zah w' Y (tmo a l.1) l.2 v)->zaG S xs outs=some lf ->
  ∃ o',Bk P w' F' (tmo a) (zao S xs) lf o'/\(∀ b,b∈o'->b∈oo)/\(oo.Nodup->o'.Nodup)
 | [],outs,lf,oo,k,hT,hl=>by simp [zaG] at hl; subst hl; exact ⟨[],.nil,by simp,fun _=>List.nodup_nil⟩
 | x::xs,[],lf,oo,k,hT,hl=>by simp [zaG] at hl
 | x::xs,d::outs,lf,oo,k,hT,hl=>by
  cases k with
  | cons _ _ p1 _ _ p2 kc kt =>
   simp only [zaG] at hl
   split at hl
   .rename_i l1 l2 h1 h2
    injection hl with hl; subst hl
    obtain ⟨os,ho,_⟩:=h.op x
    have fin:∀ {t:Nat},(isOB (aop S x)=true->a.eval x=tmo a t)->zao S (x::xs)=locs t (aop S x)++zao S xs ->
      ∃ o',Bk P w' F' (tmo a) (zao S (x::xs)) (l1++l2) o'/\(∀ b,b∈o'->b∈p1++p2)/\((p1++p2).Nodup->o'.Nodup):=by
     intro t hv e1
     rw [e1] at hT |-
     obtain ⟨o1,q1,q2,q3⟩:=zpz ho hv kc (fun l hl=>hT l (by simp [hl])) h1
     obtain ⟨o2,r1,r2,r3⟩:=Core.mouts h kt (fun l hl=>hT l (by simp [hl])) h2
     refine ⟨o1++o2,q1.append r1,fun b hb=>?_,fun hn=>?_⟩
     .rcases List.mem_append.1 hb with hb | hb
      .simp [q2 b hb]
      .simp [r2 b hb]
     .have:=List.nodup_append.1 hn
      exact List.nodup_append.2 ⟨q3 this.1,r3 this.2.1,fun x hx y hy=>this.2.2 x (q2 x hx) y (r2 y hy)⟩
    cases x with
    | tmp t=>exact fin (fun _=>rfl) rfl
    | const v=>exact fin (t:=0) (fun ho=>by rw [h.opOwn (by simp)] at ho; simp at ho) (by simp only [aop,zao]; unfold cv; split <;> rfl)
    | global g=>exact fin (t:=0) (fun ho=>by simp [aop,isOB] at ho) rfl
    | func f=>exact fin (t:=0) (fun ho=>by simp [aop,isOB] at ho) rfl
   .simp at hl
end
end Go.Abs


namespace Go.Abs
variable [DrawK]
open Go.RowKit (Below)
section
variable {P:Program} {N:Nat × List Nat} {G:Nat->Prop} {w0:W0} {w w':World} {S:St} {a:Act} {F:Nat->Prop} {oss:Nat->List Nat} {X:List Nat}
mutual
theorem zdL {tm tm':Nat->Value} {oss oss':Nat->List Nat} {c:AV} {v:Value} {os:List Nat} (h:RepT P w F tm oss c v os) (hr:roots c=[]):RepT P w F tm' oss' c v os:=by
 cases h with
 | any v=>exact .any v
 | cell c v os h=>exact .cell _ _ _ h
 | agg cs vs os hl h=>exact .agg cs vs os hl (zbe h hr)
 | tup cs vs os hl h=>exact .tup cs vs os hl (zbe h hr)
 | fn f cs vs os hl h=>exact .fn f cs vs os hl (zbe h hr)
 | bor s p v h=>simp [roots] at hr
 | ptr s p off u b h hb=>simp [roots] at hr
 | slp s p off n cap u b h hb hn=>simp [roots] at hr
theorem zbe {tm tm':Nat->Value} {oss oss':Nat->List Nat} {cs:List AV} {vs:List Value} {os:List Nat} (h:RepTL P w F tm oss cs vs os) (hr:zaB cs=[]):RepTL P w F tm' oss' cs vs os:=by
 cases h with
 | nil vs=>exact .nil vs
 | cons c v os cs vs os' h t =>
  simp [zaB] at hr
  exact .cons c v os cs vs os' (zdL h hr.1) (zbe t hr.2)
end
theorem zfN {T:TypeId} {m:Nat} (hT:zaj P T=some (some m)) {b off:Nat} {vs:List Value} (hl:vs.length=m) (h:∀ j v,vs[j]?=some v->w.cell? ⟨b,off+j,none⟩=some v) :
  (loadVar T ⟨b,off,none⟩).run P w=.ok (.agg vs.toArray) w:=by
 obtain ⟨d,hd,hf,hm⟩:=zih hT
 obtain ⟨i,hi,hs⟩:=zcY hd
 have h1:=zd4 hd w
 rw [hf] at h1
 have h2:=run_loadCells_list (P:=P) w ⟨b,off,none⟩ vs (fun j v hj=>by rw [zaY]; exact h j v hj)
 rw [hl,hm] at h2
 simp only [loadVar,Sem.run_bind,h1,Result.andThen_ok,if_true,zaQ hi,h2,Sem.run_pure]
theorem RepL.toT {tm:Nat->Value} {cs:List AV} {vs:List Value} {os:List Nat} (h:RepL P w F cs vs os):RepTL P w F tm oss cs vs os:=by
 induction cs generalizing vs os with
 | nil=>cases h; exact .nil _
 | cons c cs ih=>cases h with | cons c v os cs vs os' h t=>exact .cons _ _ _ _ _ _ (.cell _ _ _ h) (ih t)
def tkU:St->List Loc->Option (List AV × List Upd)
 | _,[]=>some ([],[])
 | S,(s,p)::ls=>match ctn S s p with
  | some (c,_)=>match tkU (updn s (putP (S s) p .any) S) ls with
   | some (cs,U)=>some (c::cs,.n s (putP (S s) p .any)::U)
   | none=>none
  | none=>none
theorem zsn:∀ {ls:List Loc} {S:St} {cs:List AV} {U:List Upd},tkU S ls=some (cs,U)->tkLs S ls=some (cs,app U S)
 | [],S,cs,U,h=>by simp [tkU] at h; obtain ⟨rfl,rfl⟩:=h; rfl
 | (s,p)::ls,S,cs,U,h=>by
  rw [tkU] at h
  split at h
  .rename_i c cc hc
   split at h
   .rename_i cs' U' h'
    injection h with h; obtain ⟨rfl,rfl⟩:=Prod.mk.injEq .. ▸ h
    rw [tkLs,hc]
    simp only
    rw [zsn h']
    rfl
   .simp at h
  .simp at h
def takeA (S:St) (t:Nat):Option (List AV × List Upd) :=
 match S t with
 | .agg cs=>if zaO cs then if (zaB cs).isEmpty then some (cs,[.w t .any]) else none
  else match tkU S (cs.flatMap locB) with
   | some (lf,U)=>match zbu cs lf with
    | some (es,[])=>some (es,U)
    | _=>none
   | none=>none
 | _=>none
theorem Core.takeA (h:Core P N G w0 S a w F oss X) {t:Nat} {es:List AV} {U:List Upd} (hc:takeA S t=some (es,U)) :
  ∃ oss' oc vs,tmo a t=.agg vs.toArray/\Core P N G w0 (app U S) a w F oss' (oc++X)/\(∀ tm oss'',RepTL P w F tm oss'' es vs oc)/\es.length=vs.length:=by
 unfold Abs.takeA at hc
 split at hc
 .rename_i cs hS
  have hr:=h.rep t
  rw [hS] at hr
  split at hc
  .split at hc
   .rename_i hroots
    injection hc with hc; obtain ⟨rfl,rfl⟩:=Prod.mk.injEq .. ▸ hc
    obtain ⟨k1,k2⟩:=h.take t
    generalize hu:tmo a t=u at hr
    generalize ho:oss t=ot at hr k1
    cases hr with
    | cell _ _ _ hc=>cases hc
    | agg _ vs os hl hL=>exact ⟨_,ot,vs,rfl,k1,fun tm oss''=>zbe hL (by simpa using hroots),hl⟩
   .simp at hc
  .split at hc
   .rename_i lf U1 h1
    split at hc
    .rename_i es' h3
     injection hc with hc; obtain ⟨rfl,rfl⟩:=Prod.mk.injEq .. ▸ hc
     obtain ⟨us,oc,oss1,k1,k2⟩:=h.tkLs (zsn h1)
     generalize hu:tmo a t=u at hr
     generalize oss t=ot at hr
     cases hr with
     | cell _ _ _ hc=>cases hc
     | agg _ vs os hl hL =>
      have h3':zbu cs (lf++[])=some (es',[]):=by simpa using h3
      obtain ⟨m1,m2⟩:=zdK (F0:=F) (fun _ h=>h) hL k2 h3'
      exact ⟨oss1,oc,vs,rfl,k1,m1,m2.trans hl⟩
    .simp at hc
   .simp at hc
 .simp at hc
def ztR:AV->Bool
 | .val _=>true
 | .sl _ _=>true
 | .own _ _ _=>true
 | .box _ _=>true
 | .fptr _=>true
 | .mp _=>true
 | .fmp _=>true
 | _=>false
def zgc:List AV->Bool
 | []=>true
 | c::cs=>ztR c && zgc cs
theorem RepTL.toL {tm:Nat->Value}:∀ {cs:List AV} {vs:List Value} {os:List Nat},RepTL P w F tm oss cs vs os->zgc cs=true->RepL P w F cs vs os
 | [],vs,os,h,_=>by cases h; exact .nil _
 | c::cs,vs,os,h,hb=>by
  simp [zgc] at hb
  cases h with
  | cons _ v o1 _ vs o2 h t =>
   refine .cons _ _ _ _ _ _ ?_ (RepTL.toL t hb.2)
   cases h with
   | cell _ _ _ h=>exact h
   | _=>simp [ztR] at hb
def ldCs (s:Nat) (p:List Nat):Nat->List AV->List AV
 | _,[]=>[]
 | i,c::cs=>ldC s p i c::ldCs s p (i+1) cs
theorem zhB {tm:Nat->Value} {s:Nat} {p:List Nat} {u:Value} {b:Nat} {c:Array Value} {e:TypeId} {fr:Nat × Nat} (hu:zah w (oss s) (tm s) p u) (hb:zaP u=some b) (hx:b∈oss s)
  (hh:w.heap[b]?=some (.cells c e fr)):∀ {cs:List AV} {vs:List Value} {os:List Nat} (i:Nat),RepL P w F cs vs os->(∀ j v,vs[j]?=some v->c[i+j]?=some v)->RepTL P w F tm oss (ldCs s p i cs) vs []
 | [],vs,os,i,h,hv=>.nil _
 | d::cs,vs,os,i,h,hv=>by
  cases h with
  | cons _ v o1 _ vs o2 h t =>
   have ht:=zhB hu hb hx hh (i+1) t (fun j v hj=>by rw [show i+1+j=i+(j+1) by omega]; exact hv (j+1) v (by simpa using hj))
   refine .cons _ _ [] _ _ [] ?_ ht
   unfold ldC
   split
   .exact .bor s (p++[i]) v (zdu hu hb hx hh (hv 0 v (by simp)))
   .rename_i ho
    cases h with
    | own0=>simp [isOB] at ho
    | own=>simp [isOB] at ho
    | ofs=>simp [isOB] at ho
    | box=>simp [isOB] at ho
    | mp=>simp [isOB] at ho
    | it=>simp [isOB] at ho
    | fmp b es clock c h1 h2 h3=>exact .cell _ _ _ (.fmp b es clock c h1 h2 h3)
    | any v h=>exact .any v
    | val v h=>exact .cell _ _ _ (.val v h)
    | sl0 x y=>exact .cell _ _ _ (.sl0 x y)
    | sl b off n cap c e fr cs h1 h2 h3 h4=>exact .cell _ _ _ (.sl b off n cap c e fr cs h1 h2 h3 h4)
    | fptr b off c e fr cs h1 h2 h3=>exact .cell _ _ _ (.fptr b off c e fr cs h1 h2 h3)
def zjy:List AV->Bool
 | []=>true
 | .val _::cs=>zjy cs
 | _::_=>false
theorem zjK:∀ (us:List Value),zjy (us.map cv)=true->RepL P w F (us.map cv) us []
 | [],_=>.nil _
 | u::us,h=>by
  rw [List.map_cons] at h |-
  generalize hc:cv u=c at h |-
  cases c with
  | val z =>
   obtain ⟨rfl,h1⟩:=znP hc
   exact .cons _ _ [] _ _ [] (.val _ h1) (zjK us (by simpa [zjy] using h))
  | _=>simp [zjy] at h
def alS (P:Program) (d:Nat) (T:TypeId):Option (Prop × List Nat × List Upd) :=
 match zar P T with
 | some (_,_,zs)=>if zjy zs then some (True,[],[.w d (.box T zs)]) else none
 | none=>none
theorem zrG (h:Core P N G w0 S a w F oss []) {T:TypeId} {d:Nat} (hd:OkD N d) {p:Prop} {rd:List Nat} {U:List Upd} (hm:alS P d T=some (p,rd,U)) :
  ∃ v w',(Instr.alloc T true (.tuple #[])).run P w=.ok v w'/\StRel P N G w0 (app U S) (a.put (some d) v) w':=by
 unfold alS at hm
 split at hm
 .rename_i s by_ zs hI
  split at hm
  .rename_i hz
   simp only [Option.some.injEq,Prod.mk.injEq] at hm; obtain ⟨rfl,rfl,rfl⟩:=hm
   obtain ⟨i,z,i1,i2,i3,i4,i5,i6,i7⟩:=zaR hI
   subst i6
   refine ⟨_,w.alloc (.cells z.cells T),?_,h.newBox (w':=w.alloc (.cells z.cells T)) (c:=z.cells) (e:=T) rfl rfl ⟨rfl,by first | exact Nat.le_refl _ | exact zbk _⟩ (by simp) (heap_alloc_new w _) (fun b hb=>Below.heap_alloc w _ b hb) (zjK _ hz) hd⟩
   simp [Instr.alloc,zeroValue,typeInfo,i1,i2,newVar,newRow]
  .simp at hm
 .simp at hm
def bxS (cf:Cfg) (N:Nat × List Nat) (S:St) (d:Nat) (T:TypeId) (x:Operand):Option (Prop × List Nat × List Upd) :=
 match x,aop S x with
 | .tmp t,.agg cs=>match takeA S t with
  | some (es,U)=>if zgc es then
    if zaO cs then some (t<N.1/\t≠d,zad x,U++[.w d (.box T es),.w t (.agg (ldCs d [] 0 es))])
    else some (True,zad x,U++[.w d (.box T es)])
   else none
  | none=>none
 | _,_=>match tk cf S x with
  | some (c,U)=>some (True,zad x,U++[.w d (.box T [c])])
  | none=>none
theorem znN (T:TypeId) (v:Value) (w:World):(Instr.box T v).run P w=.ok (.pointer (some ⟨w.heap.size,0,none⟩)) (w.alloc (.cells v.cells T)):=by
 simp [Instr.box,newVar,newRow]
theorem zd0 {v:Value} (h:v.oneCell'=true):v.cells=#[v]:=by
 cases v <;> simp [Value.oneCell',Value.cells] at *
theorem zrf (h:Core P N G w0 S a w F oss []) {cf:Cfg} {T:TypeId} {d:Nat} (hd:OkD N d) {x:Operand} {p:Prop} {rd:List Nat} {U:List Upd} (hm:bxS cf N S d T x=some (p,rd,U)) (hp:p) :
  ∃ v w',(Instr.box T (a.eval x)).run P w=.ok v w'/\StRel P N G w0 (app U S) (a.put (some d) v) w':=by
 unfold bxS at hm
 split at hm
 .rename_i t cs hS
  split at hm
  .rename_i es U1 ht
   split at hm
   .rename_i hcb
    obtain ⟨oss',oc,vs,k1,k2,k3,k4⟩:=h.takeA ht
    have hev:a.eval (.tmp t)=.agg vs.toArray:=k1
    have hL:=(k3 (tmo a) oss').toL hcb
    simp only [List.append_nil] at k2
    have hnew:∀ {cc:Array Value},cc.toList=vs->RepL P w F es cc.toList oc:=fun e=>by rw [e]; exact hL
    have fin:=k2.newBox (w':=w.alloc (.cells vs.toArray T)) (c:=vs.toArray) (e:=T) rfl rfl ⟨rfl,by first | exact Nat.le_refl _ | exact zbk _⟩ (by simp) (heap_alloc_new w _) (fun b hb=>Below.heap_alloc w _ b hb) (hnew rfl) hd
    have hrun:(Instr.box T (a.eval (.tmp t))).run P w=.ok (.pointer (some ⟨w.heap.size,0,none⟩)) (w.alloc (.cells vs.toArray T)):=by
     rw [hev,znN]; rfl
    split at hm
    .simp only [Option.some.injEq,Prod.mk.injEq] at hm; obtain ⟨rfl,rfl,rfl⟩:=hm
     obtain ⟨hp1,hp2⟩:=hp
     refine ⟨_,_,hrun,?_⟩
     rw [zaH]
     obtain ⟨F2,oss2,m⟩:=fin
     have hrd:=m.rep d
     have hSd:upd d (.box T es) (app U1 S) d=.box T es:=by simp [upd,kl]
     rw [hSd] at hrd
     have hcd:=hrd.ofKids (by simp [kids])
     have hbase:zaP (tmo (a.put (some d) (.pointer (some ⟨w.heap.size,0,none⟩))) d)=some w.heap.size:=by
      have hl:d<a.tmps.size:=by rw [h.sz]; exact hd.1
      simp [tmo,Act.put,hl,zaP]
     have hval:tmo (a.put (some d) (.pointer (some ⟨w.heap.size,0,none⟩))) d=.pointer (some ⟨w.heap.size,0,none⟩):=by
      have hl:d<a.tmps.size:=by rw [h.sz]; exact hd.1
      simp [tmo,Act.put,hl]
     rw [hval] at hcd
     have hvt:tmo (a.put (some d) (.pointer (some ⟨w.heap.size,0,none⟩))) t=.agg vs.toArray:=by
      rw [<- k1]
      simp [tmo,Act.put,Array.getElem?_setIfInBounds,Ne.symm hp2]
     have hap:StRel P N G w0 (upd t (.agg (ldCs d [] 0 es)) (upd d (.box T es) (app U1 S))) ((a.put (some d) (.pointer (some ⟨w.heap.size,0,none⟩))).put (some t) (.agg vs.toArray)) (w.alloc (.cells vs.toArray T)):=by
      generalize ho:oss2 d=od at hcd
      cases hcd with
      | box b _ c _ ol hb hl =>
       have hb':(w.alloc (.cells vs.toArray T)).heap[w.heap.size]?=some (.cells vs.toArray T (0,0)):=heap_alloc_new w _
       refine (m.put' hp1 (.inr hvt.symm) (c:=.agg (ldCs d [] 0 es)) (od:=[]) (X':=[]) ?_ (by simp) List.nodup_nil (by simp) List.nodup_nil).st
       have hll:(ldCs d [] 0 es).length=vs.length:=by
        have:∀ (cs:List AV) (i:Nat),(ldCs d [] i cs).length=cs.length:=by
         intro cs; induction cs with
         | nil=>intro i; rfl
         | cons c cs ih=>intro i; simp [ldCs,ih]
        rw [this,k4]
       refine .agg _ vs [] hll ?_
       have hq:RepL P (w.alloc (.cells vs.toArray T)) F2 es vs ol:=by
        rw [hb] at hb'
        injection hb' with hb'
        injection hb' with hb' _ _
        subst hb'
        exact hl
       exact zhB (u:=tmo (a.put (some d) (.pointer (some ⟨w.heap.size,0,none⟩))) d) (p:=[]) (by exact rfl) hbase (by rw [ho]; simp) hb' 0 hq (fun j v hj=>by rw [Nat.zero_add]; simpa using hj)
     have hput:(a.put (some d) (.pointer (some ⟨w.heap.size,0,none⟩))).put (some t) (.agg vs.toArray)=a.put (some d) (.pointer (some ⟨w.heap.size,0,none⟩)):=by
      rw [<- hvt]
      exact zlA ..
     rw [hput] at hap
     exact hap
    .simp only [Option.some.injEq,Prod.mk.injEq] at hm; obtain ⟨rfl,rfl,rfl⟩:=hm
     refine ⟨_,_,hrun,?_⟩
     rw [zaH]
     exact fin
   .simp at hm
  .simp at hm
 .rename_i x _ _ _
  split at hm
  .rename_i c U1 ht
   simp only [Option.some.injEq,Prod.mk.injEq] at hm; obtain ⟨rfl,rfl,rfl⟩:=hm
   obtain ⟨F',oss',oc,k1,k2,k3⟩:=h.tk ht
   simp only [List.append_nil] at k1
   refine ⟨_,_,znN T _ w,?_⟩
   rw [zaH,zd0 k2.oneCell]
   have hL:RepL P w F' [c] [a.eval x] oc:=by
    have:=RepL.cons c (a.eval x) oc [] [] [] k2 (.nil [])
    simpa using this
   exact k1.newBox (w':=w.alloc (.cells #[a.eval x] T)) (c:=#[a.eval x]) (e:=T) rfl rfl ⟨rfl,by first | exact Nat.le_refl _ | exact zbk _⟩ (by simp) (heap_alloc_new w _) (fun b hb=>Below.heap_alloc w _ b hb) hL hd
  .simp at hm
def fldT (P:Program) (T:TypeId) (i:Nat):Option Nat :=
 match P.underlying T with
 | some (.struct fs)=>match fs[i]? with
  | some f=>if P.cellsOf f.type=0 then none else some f.offset
  | none=>none
 | _=>none
def faS (P:Program) (S:St) (d:Nat) (T:TypeId) (x:Operand) (i:Nat):Option (Prop × List Nat × List Upd) :=
 match fldT P T i with
 | some o=>match adr S x with
  | some (s,p,off)=>match ctn S s p with
   | some (_,cs)=>some (cs≠[],zad x++[s],[.w d (.ptr s p (off+o))])
   | none=>none
  | none=>match aop S x with
   | .fptr cs=>some (True,zad x,[.w d (.fptr (cs.drop o))])
   | _=>none
 | none=>none
theorem zfw {T:TypeId} {i o:Nat} (h:fldT P T i=some o) (b off:Nat) (w:World) :
  (Instr.fieldAt T (.pointer (some ⟨b,off,none⟩)) i).run P w=.ok (.pointer (some ⟨b,off+o,none⟩)) w:=by
 unfold fldT at h
 split at h
 .rename_i fs hT
  split at h
  .rename_i f hf
   split at h
   .simp at h
   .rename_i hz
    injection h with h; subst h
    obtain ⟨it,hi,hs⟩:∃ it,P.info? f.type=some it/\P.cellsOf f.type=it.size:=by
     cases hi:P.info? f.type with
     | none=>simp [Program.cellsOf,hi] at hz
     | some it=>exact ⟨it,rfl,by simp [Program.cellsOf,hi]⟩
    rw [hs] at hz
    simp [Instr.fieldAt,run_underlying hT,hf,Instr.sureAddr,fieldPlace,zaQ hi,hs,hz,Addr.add]
  .simp at h
 .simp at h
theorem zpH (h:Core P N G w0 S a w F oss []) {T:TypeId} {i d:Nat} (hd:OkD N d) {x:Operand} {p:Prop} {rd:List Nat} {U:List Upd} (hm:faS P S d T x i=some (p,rd,U)) (hp:p) :
  ∃ v,(Instr.fieldAt T (a.eval x) i).run P w=.ok v w/\StRel P N G w0 (app U S) (a.put (some d) v) w:=by
 unfold faS at hm
 split at hm
 .rename_i o hF
  split at hm
  .rename_i s q off ha
   split at hm
   .rename_i cc cs hc
    simp only [Option.some.injEq,Prod.mk.injEq] at hm; obtain ⟨rfl,rfl,rfl⟩:=hm
    obtain ⟨hk,hg,hkc⟩:=zaC hc
    obtain ⟨u,o1,ou,o2,k1,k2,k3,k4,k5,k6⟩:=h.inplace hk hg
    obtain ⟨b,hb,hx⟩:=h.adr ha hc hp k1
    exact ⟨_,by rw [hx]; exact zfw hF b off w,h.put0 hd (.ptr s q (off+o) u b k1 hb)⟩
   .simp at hm
  .split at hm
   .rename_i cs hx
    simp only [Option.some.injEq,Prod.mk.injEq] at hm; obtain ⟨rfl,rfl,rfl⟩:=hm
    obtain ⟨os,ho,_⟩:=h.op x
    rw [hx] at ho
    generalize a.eval x=u at ho |-
    cases ho with
    | cell _ _ _ hc=>cases hc with
     | fptr b off c e fr cs hF' hb hl =>
      refine ⟨_,zfw hF b off w,h.put0 hd (.cell _ _ _ (.fptr b (off+o) c e fr (cs.drop o) hF' hb ?_))⟩
      have:=hl.drop o
      rwa [List.drop_drop] at this
   .simp at hm
 .simp at hm
def ldAS (S:St) (d m:Nat) (x:Operand):Option (Prop × List Nat × List Upd) :=
 match adr S x with
 | some (s,p,off)=>match ctn S s p with
  | some (_,cs)=>some (cs≠[]/\off+m<=cs.length,zad x++[s],[.w d (.agg (ldCs s p off ((cs.drop off).take m)))])
  | none=>none
 | none=>match aop S x with
  | .fptr cs=>some (0<m/\m<=cs.length,zad x,[.w d (.agg (cs.take m))])
  | _=>none
theorem zlz (s:Nat) (p:List Nat):∀ (cs:List AV) (i:Nat),(ldCs s p i cs).length=cs.length
 | [],_=>rfl
 | c::cs,i=>by simp [ldCs,zlz s p cs (i+1)]
theorem RepL.part:∀ {cs:List AV} {vs:List Value} {os:List Nat},RepL P w F cs vs os->∀ k,∃ o1 o2,os=o1++o2/\RepL P w F (cs.take k) (vs.take k) o1/\RepL P w F (cs.drop k) (vs.drop k) o2
 | cs,vs,os,h,0=>⟨[],os,rfl,.nil _,by simpa using h⟩
 | [],vs,os,h,k+1=>by cases h; exact ⟨[],[],rfl,by simp; exact .nil _,by simp; exact .nil _⟩
 | c::cs,vs,os,h,k+1=>by
  cases h with
  | cons _ v o1 _ vs o2 h t =>
   obtain ⟨p1,p2,rfl,h1,h2⟩:=RepL.part t k
   exact ⟨o1++p1,p2,by simp,by simpa using RepL.cons _ _ _ _ _ _ h h1,by simpa using h2⟩
theorem zo0 (h:Core P N G w0 S a w F oss []) {T:TypeId} {m d:Nat} (hT:zaj P T=some (some m)) (hd:OkD N d) {x:Operand} {p:Prop} {rd:List Nat} {U:List Upd} (hm:ldAS S d m x=some (p,rd,U)) (hp:p) :
  ∃ v,(Instr.loadAt T (a.eval x)).run P w=.ok v w/\StRel P N G w0 (app U S) (a.put (some d) v) w:=by
 have run:∀ {b off:Nat} {c:Array Value} {e:TypeId} {fr:Nat × Nat},w.heap[b]?=some (.cells c e fr)->off+m<=c.size ->
   (Instr.loadAt T (.pointer (some ⟨b,off,none⟩))).run P w=.ok (.agg ((c.toList.drop off).take m).toArray) w:=by
  intro b off c e fr hb hl
  have:=zfN (w:=w) hT (b:=b) (off:=off) (vs:=(c.toList.drop off).take m) (by simp; omega) (fun j v hj=>by
   rw [zbt hb]
   rw [List.getElem?_take] at hj
   split at hj
   .rw [List.getElem?_drop] at hj; simpa using hj
   .simp at hj)
  simp only [Instr.loadAt,Instr.sureAddr,Sem.run_bind,Sem.run_pure,Result.andThen_ok,this]
 unfold ldAS at hm
 split at hm
 .rename_i s q off ha
  split at hm
  .rename_i cc cs hc
   simp only [Option.some.injEq,Prod.mk.injEq] at hm; obtain ⟨rfl,rfl,rfl⟩:=hm
   obtain ⟨hne,hlen⟩:=hp
   obtain ⟨hk,hg,hkc⟩:=zaC hc
   obtain ⟨u,o1,ou,o2,k1,k2,k3,k4,k5,k6⟩:=h.inplace hk hg
   obtain ⟨b,hb,hx⟩:=h.adr ha hc hne k1
   obtain ⟨b',e,cur,ol,r1,r2,r3,r4,r5⟩:=zjv k2 hkc hne
   rw [hb] at r1; injection r1 with r1; subst r1
   have hll:=r4.length_le
   refine ⟨_,by rw [hx]; exact run r3 (by rw [<- Array.length_toList]; omega),h.put0 hd (.agg _ _ [] ?_ ?_)⟩
   .rw [zlz]; simp; rw [<- Array.length_toList]; omega
   .obtain ⟨p1,p2,e1,g1,g2⟩:=r4.part off
    obtain ⟨p3,p4,e3,g3,g4⟩:=g2.part m
    exact zhB k1 hb (by rw [k3,r2]; simp) r3 off g3 (fun j v hj=>by
     rw [List.getElem?_take] at hj
     split at hj
     .rw [List.getElem?_drop] at hj; simpa using hj
     .simp at hj)
  .simp at hm
 .split at hm
  .rename_i cs hx
   simp only [Option.some.injEq,Prod.mk.injEq] at hm; obtain ⟨rfl,rfl,rfl⟩:=hm
   obtain ⟨os,ho,_⟩:=h.op x
   rw [hx] at ho
   generalize a.eval x=u at ho |-
   cases ho with
   | cell _ _ _ hc=>cases hc with
    | fptr b off c e fr cs hF' hb hl =>
     have hll:=hl.length_le
     simp at hll
     have hp:0<m/\m<=cs.length:=hp
     refine ⟨_,run hb (by omega),h.put0 hd (.agg _ _ [] (by simp; omega) ?_)⟩
     obtain ⟨p1,p2,e1,g1,g2⟩:=hl.part m
     have:p1=[]:=by
      have:=congrArg List.length e1
      simp at this
      exact List.eq_nil_of_length_eq_zero (by omega)
     subst this
     exact g1.toT
  .simp at hm
def setMany {α:Type}:List α->Nat->List α->List α
 | l,_,[]=>l
 | l,o,e::es=>setMany (l.set o e) (o+1) es
theorem zcn {α:Type}:∀ (es l:List α) (o:Nat),o+es.length<=l.length->setMany l o es=l.take o++es++l.drop (o+es.length)
 | [],l,o,h=>by simp [setMany]
 | e::es,l,o,h=>by
  simp only [List.length_cons] at h
  rw [setMany,zcn es (l.set o e) (o+1) (by simp; omega)]
  rw [List.take_add_one,List.take_set_of_le (Nat.le_refl o),List.drop_set_of_lt (by omega)]
  simp [show o<l.length by omega,Nat.add_assoc,Nat.add_comm 1]
theorem RepL.setMany:∀ {es:List AV} {vs:List Value} {oc:List Nat} {w':World} {F':Nat->Prop},RepL P w' F' es vs oc->es.length=vs.length ->
  ∀ {cs:List AV} {us:List Value} {os:List Nat} (o:Nat),RepL P w' F' cs us os->o+es.length<=cs.length ->
  ∃ os',RepL P w' F' (Abs.setMany cs o es) (Abs.setMany us o vs) os'/\(∀ b,b∈os'->b∈os\/b∈oc)/\((os++oc).Nodup->os'.Nodup)
 | [],vs,oc,w',F',h,hl,cs,us,os,o,k,hb=>by
  cases h
  have:vs=[]:=by simpa using hl.symm
  subst this
  exact ⟨os,k,fun b hb=>.inl hb,fun hn=>by simpa using hn⟩
 | e::es,vs,oc,w',F',h,hl,cs,us,os,o,k,hb=>by
  simp only [List.length_cons] at hb
  cases h with
  | cons _ v p1 _ vs p2 h t =>
   obtain ⟨v0,o1,ou,o2,q1,q2,q3,q4⟩:=RepL.get k (i:=o) (List.getElem?_eq_getElem (show o<cs.length by omega))
   have k':=q4 w' F' e p1 v (fun _ h=>h) (fun _ _=>rfl) h
   obtain ⟨os',m1,m2,m3⟩:=RepL.setMany t (by simpa using hl) (o+1) k' (by simp; omega)
   refine ⟨os',m1,fun b hb=>?_,fun hn=>m3 ?_⟩
   .rcases m2 b hb with hb | hb
    .simp only [List.mem_append] at hb |-
     rw [q3]
     rcases hb with hb | hb | hb <;> simp [hb]
    .exact .inr (by simp [hb])
   .rw [q3] at hn
    simp only [List.nodup_append,List.mem_append] at hn |-
    obtain ⟨⟨n1,⟨n2,n3,n4⟩,n5⟩,⟨n6,n7,n8⟩,n9⟩:=hn
    refine ⟨⟨n1,⟨n6,n3,fun x hx y hy e=>n9 y (.inr (.inr hy)) x (.inl hx) e.symm⟩,fun x hx y hy=>?_⟩,n7,fun x hx y hy=>?_⟩
    .rcases hy with hy | hy
     .exact n9 x (.inl hx) y (.inl hy)
     .exact n5 x hx y (.inr hy)
    .rcases hx with hx | hx | hx
     .exact n9 x (.inl hx) y (.inr hy)
     .exact n8 x hx y hy
     .exact n9 x (.inr (.inr hx)) y (.inr hy)
def stAS (P:Program) (S:St) (T:TypeId) (x y:Operand):Option (Prop × List Nat × List Upd) :=
 match y with
 | .tmp t=>match takeA S t with
  | some (es,U)=>match adr (app U S) x with
   | some (s,p,off)=>match ctn (app U S) s p with
    | some (cc,cs)=>some (P.cellsOf T=es.length/\off+es.length<=cs.length/\cs≠[]/\zgc es=true,zad x++zad y++[s],U++[.n s (putP ((app U S) s) p (zbr cc (setMany cs off es)))])
    | none=>none
   | none=>none
  | none=>none
 | _=>none
theorem zom (h:Core P N G w0 S a w F oss []) {T:TypeId} {m:Nat} (hT:zaj P T=some (some m)) {x y:Operand} {p:Prop} {rd:List Nat} {U:List Upd} (hm:stAS P S T x y=some (p,rd,U)) (hp:p) :
  ∃ w',(Instr.storeAt T (a.eval x) (a.eval y)).run P w=.ok () w'/\StRel P N G w0 (app U S) a w':=by
 unfold stAS at hm
 split at hm
 .rename_i t
  split at hm
  .rename_i es U1 htk
   obtain ⟨oss1,oc,vs,hv,h1,hes,hlen⟩:=h.takeA htk
   simp only [List.append_nil] at h1
   split at hm
   .rename_i s q off ha
    split at hm
    .rename_i cc cs hct
     simp only [Option.some.injEq,Prod.mk.injEq] at hm; obtain ⟨rfl,rfl,rfl⟩:=hm
     obtain ⟨hsz,hoff,hcs,hcb⟩:=hp
     obtain ⟨hk,hg,hkc⟩:=zaC hct
     obtain ⟨u,o1,ou,o2,k1,k2,k3,k4,k5,k6⟩:=h1.inplace hk hg
     obtain ⟨b,hb,hx⟩:=h1.adr ha hct hcs k1
     obtain ⟨b',e,cur,ol,r1,r2,r3,r4,r5⟩:=zjv k2 hkc hcs
     rw [hb] at r1; injection r1 with r1; subst r1
     have hL:=(hes (tmo a) oss1).toL hcb
     have hone:∀ v∈vs,v.oneCell'=true:=by
      have:=hL.oneCell
      rw [hlen,List.take_length] at this
      exact this
     have hll:=r4.length_le
     have hlv:off+vs.length<=cur.size:=by rw [<- Array.length_toList,<- hlen]; omega
     have hst:=run_storeCells_at P b off e vs 0 cur w r3 (by simpa using hlv) hone
     have hrow:(cur.toList.take (off+0)++vs++cur.toList.drop (off+0+vs.length))=Abs.setMany cur.toList off vs:=by
      rw [Nat.add_zero,zcn vs cur.toList off (by simpa using hlv)]
     rw [hrow] at hst
     have hsm:(Abs.setMany cur.toList off vs).length=cur.size:=by
      rw [zcn vs cur.toList off (by simpa using hlv)]; simp; omega
     obtain ⟨i,hi,hs2⟩:∃ i,P.info? T=some i/\P.cellsOf T=i.size:=by
      obtain ⟨d,hd,_⟩:=zih hT
      exact zcY hd
     let W':=w.setRow b (Abs.setMany cur.toList off vs).toArray
     have hev:a.eval (.tmp t)=.agg vs.toArray:=hv
     refine ⟨W',?_,?_⟩
     .rw [hx,hev]
      have hc:(Value.agg vs.toArray).cells=vs.toArray:=rfl
      simp only [Instr.storeAt,Instr.sureAddr,storeVar,Sem.run_bind,Sem.run_pure,Result.andThen_ok,zaQ hi,hc]
      rw [hsz,hlen]
      simpa [W'] using hst
     .rw [zaH]
      have hbou:b∈ou:=by rw [r2]; simp
      have hbol:∀ z,z∈ol->z≠b:=by
       intro z hz ez
       rw [r2] at k5
       exact (List.nodup_cons.1 k5).1 (ez ▸ hz)
      have hw':∀ z,z≠b->W'.heap[z]?=w.heap[z]?:=fun z hz=>setRow_other w b z _ hz
      have hocb:∀ z,z∈oc->z≠b:=fun z hz ez=>(k4 b hbou).2.2 (ez ▸ hz)
      have hFb:∀ z,F z->z≠b:=fun z hz ez=>(k4 b hbou).1 (ez ▸ hz)
      have r4':RepL P W' F cs cur.toList ol:=r4.mono (fun _ h=>h) (fun z hz=>hw' z (by rcases hz with hz | hz; exact hFb z hz; exact hbol z hz))
      have hL':RepL P W' F es vs oc:=hL.mono (fun _ h=>h) (fun z hz=>hw' z (by rcases hz with hz | hz; exact hFb z hz; exact hocb z hz))
      obtain ⟨os',g1,g2,g3⟩:=RepL.setMany hL' hlen off r4' hoff
      have hnew:=r5 W' F _ os' (Abs.setMany cur.toList off vs).toArray (setRow_heap w b cur _ e _ r3) (by simpa using hsm) (by simpa using g1)
      have hsz':W'.heap.size=w.heap.size:=by simp [W']
      refine (k6 W' F _ _ [] rfl rfl ⟨rfl,Nat.le_refl _⟩ (by rw [hsz']; exact Nat.le_refl _) (fun z _ _ hz=>hw' z (fun ez=>hz (ez ▸ hbou))) (fun _ h=>h) (fun _ h=>.inl h) hnew ?_ ?_ (by simp) List.nodup_nil).st
      .intro z hz
       rw [hsz']
       have hin:z∈oc\/z∈ou:=by
        rw [r2]
        rcases List.mem_cons.1 hz with hz | hz
        .exact .inr (by simp [hz])
        .rcases g2 z hz with hz | hz
         .exact .inr (by simp [hz])
         .exact .inl hz
       rcases hin with hin | hin
       .exact ⟨.inl hin,(h1.xo z hin).2,(h1.xo z hin).1⟩
       .exact ⟨.inr (.inl hin),(k4 z hin).2.1,(k4 z hin).1⟩
      .have hd:∀ z,z∈ou->z ∉ oc:=fun z hz=>(k4 z hz).2.2
       rw [r2] at k5 hd
       have k5:=List.nodup_cons.1 k5
       refine List.nodup_cons.2 ⟨fun hz=>?_,g3 (List.nodup_append.2 ⟨k5.2,h1.xn,fun x hx y hy e=>hd y (by rw [<- e]; simp [hx]) hy⟩)⟩
       rcases g2 b hz with hz | hz
       .exact k5.1 hz
       .exact hd b (by simp) hz
    .simp at hm
   .simp at hm
  .simp at hm
 .simp at hm
end
end Go.Abs


namespace Go.Abs
variable [DrawK]
open Go.RowKit (Below)
abbrev R:=Option (Prop × List Nat × List Upd)
section
variable {P:Program} {N:Nat × List Nat} {G:Nat->Prop} {w0:W0} {w w':World} {S:St} {a:Act} {F:Nat->Prop} {oss:Nat->List Nat} {X:List Nat}
def arrT (P:Program) (T:TypeId):Option (Nat × Nat × Bool) :=
 match P.underlying T with
 | some (.array n e)=>match P.info? e with
  | some i=>some (n,i.size,zaj P e == some none)
  | none=>none
 | _=>none
theorem zfR {T:TypeId} {n es:Nat} {b:Bool} (h:arrT P T=some (n,es,b)):∃ e i,P.underlying T=some (.array n e)/\P.info? e=some i/\i.size=es/\(b=true->zaj P e=some none):=by
 unfold arrT at h
 split at h
 .rename_i n' e hu
  split at h
  .rename_i i hi
   simp only [Option.some.injEq,Prod.mk.injEq] at h; obtain ⟨rfl,rfl,rfl⟩:=h
   exact ⟨e,i,hu,hi,rfl,fun hb=>by simpa using hb⟩
  .simp at h
 .simp at h
def ixA (P:Program) (S:St) (d:Nat) (T:TypeId) (x i:Operand):R :=
 match arrT P T,aop S i with
 | some (len,es,_),.val (.int _ n)=>match adr S x with
  | some (s,p,off)=>match ctn S s p with
   | some (_,cs)=>some (0<=n/\n<len/\cs≠[],zad x++zad i++[s],[.w d (.ptr s p (off+n.toNat*es))])
   | none=>none
  | none=>match aop S x with
   | .fptr cs=>some (0<=n/\n<len,zad x++zad i,[.w d (.fptr (cs.drop (n.toNat*es)))])
   | _=>none
 | _,_=>none
theorem zoa {T:TypeId} {len es:Nat} {bb:Bool} (h:arrT P T=some (len,es,bb)) (b off:Nat) (k:IntKind) (n:Int) (h0:0<=n) (h1:n<len) (w:World) :
  (Instr.indexAt T (.pointer (some ⟨b,off,none⟩)) (.int k n)).run P w=.ok (.pointer (some ⟨b,off+n.toNat*es,none⟩)) w:=by
 obtain ⟨e,i,hu,hi,hs,_⟩:=zfR h
 have hz:(sizeOf e).run P w=.ok es w:=by rw [zaQ hi]; simp [Program.cellsOf,hi,hs]
 simp only [Instr.indexAt,asIntOf,Sem.run_bind,Sem.run_pure,Result.andThen_ok,run_underlying hu,Instr.sureAddr]
 simp only [h0,h1,and_self,if_true,Sem.run_bind,hz,Result.andThen_ok,Sem.run_pure,zaY]
theorem zoM (h:Core P N G w0 S a w F oss []) {T:TypeId} {d:Nat} (hd:OkD N d) {x i:Operand} {p:Prop} {rd:List Nat} {U:List Upd} (hm:ixA P S d T x i=some (p,rd,U)) (hp:p) :
  ∃ v,(Instr.indexAt T (a.eval x) (a.eval i)).run P w=.ok v w/\StRel P N G w0 (app U S) (a.put (some d) v) w:=by
 unfold ixA at hm
 split at hm
 .rename_i len es bb k n hT hi
  rw [h.int hi]
  split at hm
  .rename_i s q off ha
   split at hm
   .rename_i cc cs hc
    simp only [Option.some.injEq,Prod.mk.injEq] at hm; obtain ⟨rfl,rfl,rfl⟩:=hm
    obtain ⟨h0,h1,hne⟩:=hp
    obtain ⟨hk,hg,hkc⟩:=zaC hc
    obtain ⟨u,o1,ou,o2,k1,k2,k3,k4,k5,k6⟩:=h.inplace hk hg
    obtain ⟨b,hb,hx⟩:=h.adr ha hc hne k1
    exact ⟨_,by rw [hx]; exact zoa hT b off k n h0 h1 w,h.put0 hd (.ptr s q _ u b k1 hb)⟩
   .simp at hm
  .split at hm
   .rename_i cs hx
    simp only [Option.some.injEq,Prod.mk.injEq] at hm; obtain ⟨rfl,rfl,rfl⟩:=hm
    obtain ⟨os,ho,_⟩:=h.op x
    rw [hx] at ho
    generalize a.eval x=u at ho |-
    cases ho with
    | cell _ _ _ hc=>cases hc with
     | fptr b off c e fr cs hF' hb hl =>
      refine ⟨_,zoa hT b off k n hp.1 hp.2 w,h.put0 hd (.cell _ _ _ (.fptr b _ c e fr _ hF' hb ?_))⟩
      have:=hl.drop (n.toNat*es)
      rwa [List.drop_drop] at this
   .simp at hm
 .simp at hm
def ixR (P:Program) (S:St) (d:Nat) (T:TypeId) (x i:Operand):R :=
 match zaE P T with
 | some _=>ixS P S d T x i
 | none=>ixA P S d T x i
theorem zmx (h:Core P N G w0 S a w F oss []) {T:TypeId} {d:Nat} (hd:OkD N d) {x i:Operand} {p:Prop} {rd:List Nat} {U:List Upd} (hm:ixR P S d T x i=some (p,rd,U)) (hp:p) :
  ∃ v,(Instr.indexAt T (a.eval x) (a.eval i)).run P w=.ok v w/\StRel P N G w0 (app U S) (a.put (some d) v) w:=by
 unfold ixR at hm
 split at hm
 .exact zql h hd hm hp
 .exact zoM h hd hm hp
def ptS (S:St) (N:Nat × List Nat) (d t:Nat) (i:Nat):R :=
 match S t with
 | .agg cs=>match cs[i]? with
  | some .any=>none
  | some c=>if zbC c then some (t<N.1/\t≠d,[t],[.w t (.agg (cs.set i .any)),.w d (kl [t] c)]) else some (True,[t],[.w d c])
  | none=>none
 | _=>none
theorem zkQ (h:Core P N G w0 S a w F oss []) {t i d:Nat} (hd:OkD N d) {p:Prop} {rd:List Nat} {U:List Upd} (hm:ptS S N d t i=some (p,rd,U)) (hp:p) :
  ∃ vs v,a.eval (.tmp t)=.agg (List.toArray vs)/\vs[i]?=some v/\StRel P N G w0 (app U S) (a.put (some d) v) w:=by
 unfold ptS at hm
 split at hm
 .rename_i cs hS
  have hr:=h.rep t
  split at hm
  .simp at hm
  .rename_i c hne hi
   split at hm
   .rename_i hown
    simp only [Option.some.injEq,Prod.mk.injEq] at hm; obtain ⟨rfl,rfl,rfl⟩:=hm
    obtain ⟨k1,k2⟩:=h.take t
    rw [hS] at k2
    have hv:a.eval (.tmp t)=tmo a t:=rfl
    generalize hu:tmo a t=u at k2 hv
    generalize ho:oss t=ot at k2 k1
    rw [kl] at k2
    cases k2 with
    | cell _ _ _ hc=>cases hc
    | agg _ vs os hl hL =>
     have hi':(klL [t] cs)[i]?=some (kl [t] c):=by rw [zfP,List.getElem?_map,hi]; rfl
     obtain ⟨v,o1,oc,o2,e1,e2,e3,e4⟩:=hL.get hi'
     subst e3
     refine ⟨vs,v,hv,e1,?_⟩
     simp only [List.append_nil] at k1
     have hnd:=k1.xn
     have n1:=List.nodup_append.1 hnd
     have n2:=List.nodup_append.1 n1.2.1
     have hset:(klL [t] cs).set i .any=klL [t] (cs.set i .any):=by
      rw [zfP,zfP,List.map_set]; rfl
     have back:Core P N G w0 (upd t (.agg (cs.set i .any)) S) a w F (ins (ins oss t []) t (o1++o2)) oc:=by
      have hr2:RepT P w F (tmo a) (ins oss t []) (.agg (klL [t] (cs.set i .any))) (tmo a t) (o1++o2):=by
       rw [hu]; exact .agg _ vs _ (by rw [zcj,List.length_set,<- hl,zcj]) (hset ▸ e4)
      have:=k1.reput (t:=t) hp.1 hr2 (fun b hb=>by simp only [List.mem_append] at hb |-; rcases hb with hb | hb <;> simp [hb])
       (List.nodup_append.2 ⟨n1.1,n2.2.1,fun x hx y hy e=>n1.2.2 x hx y (by simp [hy]) e⟩) (X':=oc)
       (fun b hb=>⟨by simp [hb],fun hx=>by
        rcases List.mem_append.1 hx with hx | hx
        .exact n1.2.2 b hx b (by simp [hb]) rfl
        .exact n2.2.2 b hb b hx rfl⟩) n2.1
      have heq:upd t (.agg (klL [t] (cs.set i .any))) (upd t .any S)=upd t (.agg (cs.set i .any)) S:=by
       funext j
       simp only [upd]
       split
       .simp [kl,zd7]
       .exact zo3 _ _
      rwa [heq] at this
     have he2:RepT P w F (tmo a) (ins (ins oss t []) t (o1++o2)) (kl [t] (kl [t] c)) v oc :=
      RepT.kl [t] (fun _ h=>h) (fun s p u hs k=>by
       have hs:s≠t:=by simpa using hs
       simpa [ins,hs] using k) e2 (fun _ _=>rfl)
     rw [zo3] at he2
     exact back.putX hd he2
   .rename_i hown
    simp only [Option.some.injEq,Prod.mk.injEq] at hm; obtain ⟨rfl,rfl,rfl⟩:=hm
    rw [hS] at hr
    have hv:a.eval (.tmp t)=tmo a t:=rfl
    generalize tmo a t=u at hr hv
    generalize oss t=ot at hr
    cases hr with
    | cell _ _ _ hc=>cases hc
    | agg _ vs os hl hL =>
     obtain ⟨v,o1,oc,o2,e1,e2,e3,e4⟩:=hL.get hi
     refine ⟨vs,v,hv,e1,?_⟩
     rw [e2.noOwn (by simpa using hown)] at e2
     exact h.put0 hd e2
  .simp at hm
 .simp at hm
def ivS (P:Program) (S:St) (N:Nat × List Nat) (d:Nat) (T:TypeId) (x i:Operand):R :=
 match x with
 | .tmp t=>match arrT P T,aop S i with
  | some (len,1,true),.val (.int _ n)=>match ptS S N d t n.toNat with
   | some (p,rd,U)=>some (0<=n/\n<len/\p,rd++zad i,U)
   | none=>none
  | _,_=>none
 | _=>none
theorem ziR {e:TypeId} (h:zaj P e=some none) (vs:List Value) (i:Nat) (v:Value) (hv:vs[i]?=some v) (w:World):(part e vs.toArray i).run P w=.ok v w:=by
 obtain ⟨d,hd,hf⟩:=zdW h
 have:=zd4 hd w
 rw [hf] at this
 simp [part,this,hv]
theorem zq3 (h:Core P N G w0 S a w F oss []) {T:TypeId} {d:Nat} (hd:OkD N d) {x i:Operand} {p:Prop} {rd:List Nat} {U:List Upd} (hm:ivS P S N d T x i=some (p,rd,U)) (hp:p) :
  ∃ v,(Instr.index T (a.eval x) (a.eval i)).run P w=.ok v w/\StRel P N G w0 (app U S) (a.put (some d) v) w:=by
 unfold ivS at hm
 split at hm
 .rename_i t
  split at hm
  .rename_i len k n hT hi
   rw [h.int hi]
   split at hm
   .rename_i q rd' U' hpt
    simp only [Option.some.injEq,Prod.mk.injEq] at hm; obtain ⟨rfl,rfl,rfl⟩:=hm
    obtain ⟨h0,h1,hq⟩:=hp
    obtain ⟨vs,v,e1,e2,e3⟩:=zkQ h hd hpt hq
    obtain ⟨e,inf,hu,hinf,hs,hb⟩:=zfR hT
    refine ⟨v,?_,e3⟩
    have hz:(sizeOf e).run P w=.ok 1 w:=by rw [zaQ hinf]; simp [Program.cellsOf,hinf,hs]
    rw [e1]
    simp only [Instr.index,asIntOf,Sem.run_bind,Sem.run_pure,Result.andThen_ok,run_underlying hu,h0,h1,and_self,if_true,hz,Nat.mul_one,ziR (hb rfl) vs _ v e2 w]
   .simp at hm
  .simp at hm
 .simp at hm
def zat (P:Program) (T:TypeId) (i:Nat):Option Nat :=
 match P.underlying T with
 | some (.struct fs)=>match fs[i]? with
  | some f=>if zaj P f.type=some none then some f.offset else none
  | none=>none
 | _=>none
def fdS (P:Program) (S:St) (N:Nat × List Nat) (d:Nat) (T:TypeId) (x:Operand) (i:Nat):R :=
 match x with
 | .tmp t=>match zat P T i with
  | some o=>ptS S N d t o
  | _=>none
 | _=>none
theorem zqp (h:Core P N G w0 S a w F oss []) {T:TypeId} {d i:Nat} (hd:OkD N d) {x:Operand} {p:Prop} {rd:List Nat} {U:List Upd} (hm:fdS P S N d T x i=some (p,rd,U)) (hp:p) :
  ∃ v,(Instr.field T (a.eval x) i).run P w=.ok v w/\StRel P N G w0 (app U S) (a.put (some d) v) w:=by
 unfold fdS at hm
 split at hm
 .rename_i t
  split at hm
  .rename_i o hF
   obtain ⟨vs,v,e1,e2,e3⟩:=zkQ h hd hm hp
   refine ⟨v,?_,e3⟩
   unfold zat at hF
   split at hF
   .rename_i fs hu
    split at hF
    .rename_i f hf
     split at hF
     .rename_i hk
      injection hF with hF; subst hF
      rw [e1]
      simp [Instr.field,run_underlying hu,hf,asAgg,ziR hk vs _ v e2 w]
     .simp at hF
    .simp at hF
   .simp at hF
  .simp at hm
 .simp at hm
def bnd (S:St):Option Operand->Int->Option Int
 | none,z=>some z
 | some x,_=>match aop S x with
  | .val (.int _ n)=>some n
  | _=>none
def zcM:Option Operand->List Nat
 | none=>[]
 | some x=>zad x
def prS (S:St) (d es:Nat) (rd:List Nat) (s:Nat) (p:List Nat) (o m:Nat) (lo hi:Option Operand):R :=
 match bnd S lo 0,bnd S hi m with
 | some l,some h=>some (0<=l/\l<h/\h<=m,rd++[s],[.w d (.slp s p (o+l.toNat*es) (h-l).toNat)])
 | _,_=>none
def poS (S:St) (d es:Nat) (rd:List Nat) (s:Nat) (p:List Nat) (lo hi:Option Operand):R :=
 match tkP false s p S with
 | some (.own e m cs,U)=>match bnd S lo 0,bnd S hi m with
  | some l,some h=>if hi.isSome then some (l=0/\0<=h/\h<=m,rd++[s],U++[.w d (.own e h.toNat (cs.take (h.toNat*es)))]) else some (0<=l/\l<h/\h=m,rd++[s],U++[.w d (.ofs (l.toNat*es) e (h-l).toNat cs)])
  | _,_=>none
 | _=>none
def foS (S:St) (d es:Nat) (rd:List Nat) (s:Nat) (p:List Nat) (lo hi:Option Operand):R :=
 match tkP true s p S with
 | some (.sl m cs,U)=>match bnd S lo 0,bnd S hi m with
  | some l,some h=>some (0<=l/\l<=h/\h<=m,rd++[s],U++[.w d (.sl (h-l).toNat ((cs.drop (l.toNat*es)).take ((h-l).toNat*es)))])
  | _,_=>none
 | _=>none
def slS (P:Program) (cf:Cfg) (S:St) (d:Nat) (T:TypeId) (x:Operand) (lo hi:Option Operand):R :=
 match zaE P T with
 | some e=>match zar P e with
  | some (es,_,_)=>match x with
   | .tmp t=>match S t with
    | .sl m cs=>match bnd S lo 0,bnd S hi m with
     | some l,some h=>some (0<=l/\l<=h/\h<=m,zad x++zcM lo++zcM hi,[.w d (.sl (h-l).toNat ((cs.drop (l.toNat*es)).take ((h-l).toNat*es)))])
     | _,_=>none
    | .own _ m _=>if cf.tko.contains d then poS S d es (t::zcM lo++zcM hi) t [] lo hi else prS S d es (t::zcM lo++zcM hi) t [] 0 m lo hi
    | .bor s p=>if cf.fz.contains d then foS S d es (t::zcM lo++zcM hi) s p lo hi else if cf.tko.contains d then poS S d es (t::zcM lo++zcM hi) s p lo hi else match ctn S s p with
     | some (.own _ m _,_)=>prS S d es (t::zcM lo++zcM hi) s p 0 m lo hi
     | _=>none
    | .slp s p o m=>prS S d es (t::zcM lo++zcM hi) s p o m lo hi
    | _=>none
   | _=>none
  | none=>none
 | none=>match arrT P T with
  | some (n,es,_)=>match adr S x with
   | some (s,p,off)=>match ctn S s p with
    | some (_,cs)=>match prS S d es (zad x++zcM lo++zcM hi) s p off n lo hi with
     | some (q,rd,U)=>some (cs≠[]/\q,rd,U)
     | none=>none
    | none=>none
   | none=>none
  | none=>none
theorem zpj (h:Core P N G w0 S a w F oss X) {lo:Option Operand} {z l:Int} (hb:bnd S lo z=some l):(lo=none/\l=z)\/∃ x k,lo=some x/\a.eval x=.int k l:=by
 cases lo with
 | none=>simp [bnd] at hb; exact .inl ⟨rfl,hb.symm⟩
 | some x =>
  simp only [bnd] at hb
  split at hb
  .rename_i k n hx
   injection hb with hb; subst hb
   exact .inr ⟨x,k,rfl,h.int hx⟩
  .simp at hb
theorem zgY (h:Core P N G w0 S a w F oss X) {lo hi:Option Operand} {l hh:Int} {len cap:Nat} (h1:bnd S lo 0=some l) (h2:bnd S hi len=some hh) (h0:0<=l) (h3:l<=hh) (h4:hh<=len) (hc:len<=cap) (b:Bool) :
  (Instr.sliceBounds b len cap (lo.map a.eval) (hi.map a.eval) none).run P w=.ok (l.toNat,hh.toNat,cap) w:=by
 have e1:(hh.toNat:Int)=hh:=Int.toNat_of_nonneg (by omega)
 rcases zpj h h1 with ⟨rfl,rfl⟩ | ⟨x,k,rfl,hx⟩ <;> rcases zpj h h2 with ⟨rfl,rfl⟩ | ⟨y,k',rfl,hy⟩
 .simp [Instr.sliceBounds]
 .simp [Instr.sliceBounds,hy,run_sliceBound,show 0<=hh by omega,show hh<=(cap:Int) by omega]
 .simp [Instr.sliceBounds,hx,run_sliceBound,h0,h3,h4]
 .simp [Instr.sliceBounds,hx,hy,run_sliceBound,show 0<=hh by omega,show hh<=(cap:Int) by omega,h0,h3,e1]
theorem zeD {T e:TypeId} (hT:zaE P T=some e) {es by_:Nat} {zs:List AV} (hI:zar P e=some (es,by_,zs)) (h:Core P N G w0 S a w F oss X) {lo hi:Option Operand} {l hh:Int} {len cap:Nat}
  (h1:bnd S lo 0=some l) (h2:bnd S hi len=some hh) (h0:0<=l) (h3:l<=hh) (h4:hh<=len) (hc:len<=cap) (base:Option Addr) :
  (Instr.sliceAt T (.slice base len cap) (lo.map a.eval) (hi.map a.eval) none).run P w=.ok (.slice (if cap=l.toNat then base else base.map (·.add (l.toNat*es))) (hh-l).toNat (cap-l.toNat)) w:=by
 have hu:=zaX hT
 obtain ⟨i,z,hi',_,hs,_,_,_,hcs⟩:=zaR hI
 have hz:(sizeOf e).run P w=.ok es w:=by rw [zaQ hi',hcs]
 have e:(hh-l).toNat=hh.toNat-l.toNat:=by omega
 rw [e]
 simp [Instr.sliceAt,Instr.slice,run_underlying hu,zgY h h1 h2 h0 h3 h4 hc,hz]
theorem zln (h:Core P N G w0 S a w F oss []) {d es:Nat} (hd:OkD N d) {s:Nat} {p:List Nat} {o m:Nat} {lo hi:Option Operand} {rd0 rd:List Nat} {q:Prop} {U:List Upd} (hm:prS S d es rd0 s p o m lo hi=some (q,rd,U)) (hq:q)
  {u:Value} {b cap:Nat} (hu:zah w (oss s) (tmo a s) p u) (hb:zaP u=some b) (hc:m<=cap) :
  ∃ l hh,bnd S lo 0=some l/\bnd S hi m=some hh/\0<=l/\l<hh/\hh<=m /\
   StRel P N G w0 (app U S) (a.put (some d) (.slice (some ⟨b,o+l.toNat*es,none⟩) (hh-l).toNat (cap-l.toNat))) w:=by
 unfold prS at hm
 split at hm
 .rename_i l hh h1 h2
  simp only [Option.some.injEq,Prod.mk.injEq] at hm; obtain ⟨rfl,rfl,rfl⟩:=hm
  obtain ⟨q1,q2,q3⟩:=hq
  exact ⟨l,hh,h1,h2,q1,q2,q3,h.put0 hd (.slp s p _ _ _ u b hu hb (by omega))⟩
 .simp at hm
theorem zlt (h:Core P N G w0 S a w F oss []) {T e:TypeId} (hT:zaE P T=some e) {es by_:Nat} {zs:List AV} (hI:zar P e=some (es,by_,zs)) {d:Nat} (hd:OkD N d) {s:Nat} {p:List Nat} {lo hi:Option Operand} {rd0 rd:List Nat} {q:Prop} {U:List Upd}
  (hm:poS S d es rd0 s p lo hi=some (q,rd,U)) (hq:q) {u:Value} (hu:zah w (oss s) (tmo a s) p u) :
  ∃ v,(Instr.sliceAt T u (lo.map a.eval) (hi.map a.eval) none).run P w=.ok v w/\StRel P N G w0 (app U S) (a.put (some d) v) w:=by
 unfold poS at hm
 split at hm
 .rename_i e' m cs U1 htk
  split at hm
  .rename_i l hh h1 h2
   split at hm
   case isFalse =>
    simp only [Option.some.injEq,Prod.mk.injEq] at hm; obtain ⟨rfl,rfl,rfl⟩:=hm
    obtain ⟨q1,q2,q3⟩:=hq
    obtain ⟨F',oss',oc,k1,k2,k3⟩:=h.tkP htk hu
    simp only [List.append_nil] at k1
    rw [zaH]
    cases k2 with
    | own0 e=>omega
    | own b e n cap c cs os hb hn hc hl =>
     refine ⟨_,zeD hT hI h h1 h2 q1 (by omega) (by omega) hn (some ⟨b,0,none⟩),?_⟩
     rw [if_neg (by omega)]
     simp only [Option.map_some,zaY,Nat.zero_add]
     exact k1.putX hd (.cell _ _ _ (.ofs b _ e' _ _ c _ os hb (by omega) hl))
   simp only [Option.some.injEq,Prod.mk.injEq] at hm; obtain ⟨rfl,rfl,rfl⟩:=hm
   obtain ⟨rfl,q2,q3⟩:=hq
   obtain ⟨F',oss',oc,k1,k2,k3⟩:=h.tkP htk hu
   simp only [List.append_nil] at k1
   rw [zaH]
   cases k2 with
   | own0 e =>
    have hh0:hh=0:=by omega
    subst hh0
    refine ⟨_,zeD hT hI h h1 h2 (Int.le_refl _) q2 q3 (Nat.le_refl 0) none,?_⟩
    have:=k1.put0 hd (c:=.own e' 0 []) (v:=.slice none 0 0) (.cell _ _ _ (.own0 e'))
    simpa [app] using this
   | own b e n cap c cs os hb hn hc hl =>
    refine ⟨_,zeD hT hI h h1 h2 (Int.le_refl _) q2 q3 hn (some ⟨b,0,none⟩),?_⟩
    have e0:(if cap=(0:Int).toNat then some (⟨b,0,none⟩:Addr) else (some (⟨b,0,none⟩:Addr)).map (·.add ((0:Int).toNat*es)))=some ⟨b,0,none⟩:=by
     split
     .rfl
     .simp [zaY]
    rw [e0]
    obtain ⟨p1,p2,e1,g1,g2⟩:=RepL.part hl (hh.toNat*es)
    have hsub:=k1.sub (X':=b::p1) (fun z hz=>by rw [e1]; rcases List.mem_cons.1 hz with hz | hz <;> simp [hz]) (by
     have:=k1.xn
     rw [e1] at this
     have n1:=List.nodup_cons.1 this
     exact List.nodup_cons.2 ⟨fun hx=>n1.1 (by simp [hx]),(List.nodup_append.1 n1.2).1⟩)
    have g1':=g1.of_take
    simp only [Int.sub_zero,Int.toNat_zero,Nat.sub_zero]
    exact hsub.putX hd (.cell _ _ _ (.own b e' hh.toNat cap c _ p1 hb (by omega) hc g1'))
  .simp at hm
 .simp at hm
theorem zpT (h:Core P N G w0 S a w F oss []) {T e:TypeId} (hT:zaE P T=some e) {es by_:Nat} {zs:List AV} (hI:zar P e=some (es,by_,zs)) {d:Nat} (hd:OkD N d) {s:Nat} {p:List Nat} {lo hi:Option Operand} {rd0 rd:List Nat} {q:Prop} {U:List Upd}
  (hm:foS S d es rd0 s p lo hi=some (q,rd,U)) (hq:q) {u:Value} (hu:zah w (oss s) (tmo a s) p u) :
  ∃ v,(Instr.sliceAt T u (lo.map a.eval) (hi.map a.eval) none).run P w=.ok v w/\StRel P N G w0 (app U S) (a.put (some d) v) w:=by
 unfold foS at hm
 split at hm
 .rename_i m cs U1 htk
  split at hm
  .rename_i l hh h1 h2
   simp only [Option.some.injEq,Prod.mk.injEq] at hm; obtain ⟨rfl,rfl,rfl⟩:=hm
   obtain ⟨q1,q2,q3⟩:=hq
   obtain ⟨F',oss',oc,k1,k2,k3⟩:=h.tkP htk hu
   simp only [List.append_nil] at k1
   rw [zaH]
   cases k2 with
   | sl0 base cap =>
    refine ⟨_,zeD hT hI h h1 h2 q1 q2 q3 (Nat.zero_le cap) base,?_⟩
    have e0:(hh-l).toNat=0:=by omega
    rw [e0]
    simpa [app] using k1.put0 hd (.cell _ _ _ (.sl0 _ _))
   | sl b off n cap c e' fr cs hF hb hl hn =>
    refine ⟨_,zeD hT hI h h1 h2 q1 q2 q3 hn _,?_⟩
    by_cases hz:cap=l.toNat
    .rw [if_pos hz]
     have e0:(hh-l).toNat=0:=by omega
     rw [e0]
     simpa [app] using k1.put0 hd (.cell _ _ _ (.sl0 _ _))
    .rw [if_neg hz]
     have:=(hl.drop (l.toNat*es)).pref ((hh-l).toNat*es)
     rw [List.drop_drop] at this
     refine k1.put0 hd ?_
     simpa [zaY] using RepT.cell (P:=P) (w:=w) (F:=F') (tm:=tmo a) (oss:=oss') _ _ _ (RepC.sl b (off+l.toNat*es) (hh-l).toNat (cap-l.toNat) c e' fr _ hF hb this (by omega))
  .simp at hm
 .simp at hm
theorem zq8 (h:Core P N G w0 S a w F oss []) {cf:Cfg} {T:TypeId} {d:Nat} (hd:OkD N d) {x:Operand} {lo hi:Option Operand} {p:Prop} {rd:List Nat} {U:List Upd} (hm:slS P cf S d T x lo hi=some (p,rd,U)) (hp:p) :
  ∃ v,(Instr.sliceAt T (a.eval x) (lo.map a.eval) (hi.map a.eval) none).run P w=.ok v w/\StRel P N G w0 (app U S) (a.put (some d) v) w:=by
 have part:∀ {T e:TypeId} {es by_:Nat} {zs:List AV},zaE P T=some e->zar P e=some (es,by_,zs)->∀ {rd0:List Nat} {s:Nat} {q:List Nat} {o m cap b:Nat} {u:Value},zah w (oss s) (tmo a s) q u->zaP u=some b->m<=cap ->
   prS S d es rd0 s q o m lo hi=some (p,rd,U)->∃ v,(Instr.sliceAt T (.slice (some ⟨b,o,none⟩) m cap) (lo.map a.eval) (hi.map a.eval) none).run P w=.ok v w/\StRel P N G w0 (app U S) (a.put (some d) v) w:=by
  intro T e es by_ zs hT hI rd0 s q o m cap b u hu hb hc hm
  obtain ⟨l,hh,h1,h2,h3,h4,h5,h6⟩:=zln h hd hm hp hu hb hc
  refine ⟨_,zeD hT hI h h1 h2 h3 (by omega) h5 hc _,?_⟩
  rw [if_neg (by omega)]
  simpa [zaY] using h6
 unfold slS at hm
 split at hm
 .rename_i e hT
  split at hm
  .rename_i es by_ zs hI
   split at hm
   case h_2=>simp at hm
   rename_i t
   split at hm
   .rename_i m cs hx
    split at hm
    .rename_i l hh h1 h2
     simp only [Option.some.injEq,Prod.mk.injEq] at hm; obtain ⟨rfl,rfl,rfl⟩:=hm
     obtain ⟨q1,q2,q3⟩:=hp
     have ho:=h.get t
     rw [hx] at ho
     generalize a.eval (.tmp t)=u at ho |-
     generalize oss t=ot at ho
     cases ho with
     | cell _ _ _ hc=>cases hc with
      | sl0 base cap =>
       refine ⟨_,zeD hT hI h h1 h2 q1 q2 q3 (Nat.zero_le cap) base,?_⟩
       have e0:(hh-l).toNat=0:=by omega
       rw [e0]
       simpa [app] using h.put0 hd (.cell _ _ _ (.sl0 _ _))
      | sl b off m cap c e' fr cs hF hb hl hn =>
       refine ⟨_,zeD hT hI h h1 h2 q1 q2 q3 hn _,?_⟩
       by_cases hz:cap=l.toNat
       .rw [if_pos hz]
        have e0:(hh-l).toNat=0:=by omega
        rw [e0]
        simpa [app] using h.put0 hd (.cell _ _ _ (.sl0 _ _))
       .rw [if_neg hz]
        have:=(hl.drop (l.toNat*es)).pref ((hh-l).toNat*es)
        rw [List.drop_drop] at this
        refine h.put0 hd ?_
        simpa [zaY] using RepT.cell (P:=P) (w:=w) (F:=F) (tm:=tmo a) (oss:=oss) _ _ _ (RepC.sl b (off+l.toNat*es) (hh-l).toNat (cap-l.toNat) c e' fr _ hF hb this (by omega))
    .simp at hm
   .rename_i e' m cs hx
    have hr:=h.rep t
    rw [hx] at hr
    split at hm
    .exact zlt h hT hI hd hm hp (u:=a.eval (.tmp t)) rfl
    .have hv:a.eval (.tmp t)=tmo a t:=rfl
     rw [hv]
     generalize hge:tmo a t=u at hr |-
     have hu:zah w (oss t) (tmo a t) [] u:=hge.symm
     clear hv hge
     generalize oss t=ot at hr
     cases hr with
     | cell _ _ _ hc=>cases hc with
      | own0 =>
       unfold prS at hm
       split at hm
       .simp only [Option.some.injEq,Prod.mk.injEq] at hm; obtain ⟨rfl,rfl,rfl⟩:=hm; omega
       .simp at hm
      | own b e n cap c cs os hb hn hc hl=>exact part hT hI hu (show zaP (.slice (some ⟨b,0,none⟩) m cap)=some b from rfl) hn hm
   .rename_i s q hx
    have hr:=h.rep t
    rw [hx] at hr
    have hv:a.eval (.tmp t)=tmo a t:=rfl
    rw [hv]
    generalize tmo a t=u at hr |-
    generalize oss t=ot at hr
    cases hr with
    | cell _ _ _ hc=>cases hc
    | bor _ _ _ hw =>
     split at hm
     .exact zpT h hT hI hd hm hp hw
     split at hm
     .exact zlt h hT hI hd hm hp hw
     .split at hm
      .rename_i e' m cs' cs hc
       obtain ⟨hk,hg,hkc⟩:=zaC hc
       obtain ⟨u',o1,ou,o2,k1,k2,k3,k4,k5,k6⟩:=h.inplace hk hg
       have:=zaq hw k1; subst this
       cases k2 with
       | own0 =>
        unfold prS at hm
        split at hm
        .simp only [Option.some.injEq,Prod.mk.injEq] at hm; obtain ⟨rfl,rfl,rfl⟩:=hm; omega
        .simp at hm
       | own b e n cap c cs os hb hn hc hl=>exact part hT hI hw (show zaP (.slice (some ⟨b,0,none⟩) m cap)=some b from rfl) hn hm
      .simp at hm
   .rename_i s q o m hx
    have hr:=h.rep t
    rw [hx] at hr
    have hv:a.eval (.tmp t)=tmo a t:=rfl
    rw [hv]
    generalize tmo a t=u at hr |-
    generalize oss t=ot at hr
    cases hr with
    | cell _ _ _ hc=>cases hc
    | slp _ _ _ _ cap u b hw hb hn=>exact part hT hI hw hb hn hm
   .simp at hm
  .simp at hm
 .rename_i hT
  split at hm
  .rename_i n es bb hA
   split at hm
   .rename_i s q off ha
    split at hm
    .rename_i cc cs hc
     split at hm
     .rename_i q' rd' U' hpr
      simp only [Option.some.injEq,Prod.mk.injEq] at hm; obtain ⟨rfl,rfl,rfl⟩:=hm
      obtain ⟨hne,hq⟩:=hp
      obtain ⟨hk,hg,hkc⟩:=zaC hc
      obtain ⟨u,o1,ou,o2,k1,k2,k3,k4,k5,k6⟩:=h.inplace hk hg
      obtain ⟨b,hb,hx⟩:=h.adr ha hc hne k1
      obtain ⟨l,hh,h1,h2,h3,h4,h5,h6⟩:=zln h hd hpr hq k1 hb (Nat.le_refl n)
      obtain ⟨e,i,hu,hi',hs,_⟩:=zfR hA
      have hz:(sizeOf e).run P w=.ok es w:=by rw [zaQ hi']; simp [Program.cellsOf,hi',hs]
      have hbd:=zgY h h1 h2 h3 (by omega) h5 (Nat.le_refl n) false
      refine ⟨_,?_,h6⟩
      rw [hx]
      have e2:(hh-l).toNat=hh.toNat-l.toNat:=by omega
      rw [e2]
      have hnz:¬ n=l.toNat:=by omega
      simp [Instr.sliceAt,run_underlying hu,Instr.sureAddr,hbd,hz,hnz,zaY]
     .simp at hm
    .simp at hm
   .simp at hm
  .simp at hm
end
end Go.Abs

