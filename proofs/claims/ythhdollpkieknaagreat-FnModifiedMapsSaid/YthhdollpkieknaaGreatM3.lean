/- Texts of the own layer and contracts, part 3: AbsL AbsN AbsM AbsP AbsQ AbsW AbsW2 AbsX AbsW3 AbsY. -/
import Derived.Below
import Derived.ChangeSame
import Derived.OpenShut
import Derived.ReadAgain
import Derived.ChangeBears
import Derived.Lib.SmallJoins
import Derived.Shelf.SlSortCmp.NoneTotal
import Derived.Test.YthhdollpkieknaaGreatM2
set_option linter.unusedSectionVars false
set_option linter.unusedVariables false
set_option linter.unusedSimpArgs false
set_option maxHeartbeats 4000000
set_option maxRecDepth 100000
namespace Go.Abs
variable [DrawK]
open Go.RowKit (Below)
section
variable {P:Program} {N:Nat × List Nat} {G:Nat->Prop} {w0:W0} {w w':World} {S:St} {a:Act} {F:Nat->Prop} {oss:Nat->List Nat} {X:List Nat}
def zcD (tm:Nat->Value):ResultVar->Sem Value
 | .tmp t=>pure (tm t)
 | .cell a t=>do loadVar t (<- asAddr (tm a))
mutual
theorem RepT.fresh {F':Nat->Prop} {tm:Nat->Value} {c:AV} {v:Value} {os:List Nat} (h:RepT P w F tm oss c v os) (hf:zax c=true):RepT P w F' tm oss c v os:=by
 cases h with
 | any v=>exact .any v
 | cell c v os h=>exact .cell _ _ _ (h.fresh hf)
 | agg cs vs os hl h=>exact .agg cs vs os hl (RepTL.fresh h (by simpa [zax] using hf))
 | tup cs vs os hl h=>exact .tup cs vs os hl (RepTL.fresh h (by simpa [zax] using hf))
 | fn f cs vs os hl h=>exact .fn f cs vs os hl (RepTL.fresh h (by simpa [zax] using hf))
 | bor s p v h=>simp [zax] at hf
 | ptr s p off u b h hb=>simp [zax] at hf
 | slp s p off n cap u b h hb hn=>simp [zax] at hf
theorem RepTL.fresh {F':Nat->Prop} {tm:Nat->Value} {cs:List AV} {vs:List Value} {os:List Nat} (h:RepTL P w F tm oss cs vs os) (hf:zav cs=true):RepTL P w F' tm oss cs vs os:=by
 cases h with
 | nil vs=>exact .nil vs
 | cons c v os cs vs os' h t =>
  simp [zav] at hf
  exact .cons c v os cs vs os' (RepT.fresh h hf.1) (RepTL.fresh t hf.2)
end
inductive UL (P:Program) (w:World) (F:Nat->Prop):List AV->List Value->List Nat->Prop
 | nil:UL P w F [] [] []
 | cons (c:AV) (v:Value) (os:List Nat) (cs:List AV) (vs:List Value) (os':List Nat) (h:∀ tm oss,RepT P w F tm oss c v os) (t:UL P w F cs vs os'):UL P w F (c::cs) (v::vs) (os++os')
theorem UL.all {cs:List AV} {vs:List Value} {os:List Nat} (h:UL P w F cs vs os) (tm:Nat->Value) (oss:Nat->List Nat):RepTL P w F tm oss cs vs os:=by
 induction h with
 | nil=>exact .nil _
 | cons c v os cs vs os' h t ih=>exact .cons _ _ _ _ _ _ (h tm oss) ih
theorem UL.split {cs:List AV} {vs:List Value} {os:List Nat} (k:Nat) (h:UL P w F cs vs os):∃ o1 o2,os=o1++o2/\UL P w F (cs.take k) (vs.take k) o1/\UL P w F (cs.drop k) (vs.drop k) o2:=by
 induction h generalizing k with
 | nil=>exact ⟨[],[],rfl,by simpa using UL.nil,by simpa using UL.nil⟩
 | cons c v os cs vs os' h t ih =>
  cases k with
  | zero=>exact ⟨[],_,rfl,by simpa using UL.nil,by simpa using UL.cons _ _ _ _ _ _ h t⟩
  | succ k =>
   obtain ⟨o1,o2,rfl,h1,h2⟩:=ih k
   exact ⟨os++o1,o2,by simp,by simpa using UL.cons _ _ _ _ _ _ h h1,by simpa using h2⟩
theorem UL.parts {cs:List AV} {vs:List Value} {os:List Nat} (h:UL P w F cs vs os) :
  ∃ f:Nat->List Nat,(∀ (i:Nat) (c:AV),cs[i]?=some c->∃ v,vs[i]?=some v/\∀ tm oss,RepT P w F tm oss c v (f i))/\(∀ i b,b∈f i->b∈os) /\
   (os.Nodup->(∀ i,(f i).Nodup)/\∀ i j b,b∈f i->b∈f j->i=j):=by
 induction h with
 | nil=>exact ⟨fun _=>[],by simp,by simp,fun _=>⟨fun _=>List.nodup_nil,by simp⟩⟩
 | cons c v o1 cs vs o2 h t ih =>
  obtain ⟨f,f1,f3,f4⟩:=ih
  refine ⟨fun i=>match i with | 0=>o1 | i+1=>f i,fun i d hi=>?_,fun i b hb=>?_,fun hn=>⟨fun i=>?_,fun i j b hi hj=>?_⟩⟩
  .cases i with
   | zero=>simp at hi; subst hi; exact ⟨v,rfl,h⟩
   | succ i=>simp at hi; simpa using f1 i d hi
  .cases i with
   | zero=>simp at hb; simp [hb]
   | succ i=>simp at hb; simp [f3 i b hb]
  .have n:=List.nodup_append.1 hn
   cases i with
   | zero=>exact n.1
   | succ i=>exact (f4 n.2.1).1 i
  .have n:=List.nodup_append.1 hn
   cases i with
   | zero=>cases j with
    | zero=>rfl
    | succ j=>exact (n.2.2 b hi b (f3 j b hj) rfl).elim
   | succ i=>cases j with
    | zero=>exact (n.2.2 b hj b (f3 i b hi) rfl).elim
    | succ j=>rw [(f4 n.2.1).2 i j b hi hj]
theorem Core.ret:∀ {rs:List ResultVar} {S:St} {F:Nat->Prop} {oss:Nat->List Nat} {X:List Nat} (_:Core P N G w0 S a w F oss X) {cs:List AV},za9 P S rs=some cs ->
  ∃ F' oss' oc vs S',(rs.mapM (zcD (tmo a))).run P w=.ok vs w/\Core P N G w0 S' a w F' oss' (oc++X)/\UL P w F' cs vs oc/\cs.length=vs.length/\vs.length=rs.length/\(∀ b,F b->F' b)
 | [],S,F,oss,X,h,cs,hc=>by
  simp [za9] at hc; subst hc
  exact ⟨F,oss,[],[],S,rfl,h,.nil,rfl,rfl,fun _ h=>h⟩
 | .tmp t::rs,S,F,oss,X,h,cs,hc=>by
  rw [za9] at hc
  have fin:∀ {S1:St} {F1:Nat->Prop} {oss1:Nat->List Nat} {c:AV} {o1:List Nat} {ds:List AV},Core P N G w0 S1 a w F1 oss1 (o1++X)->(∀ tm oss'',RepT P w F1 tm oss'' c (tmo a t) o1) ->
    (∀ b,F b->F1 b)->za9 P S1 rs=some ds ->
    ∃ F' oss' oc vs S',((ResultVar.tmp t::rs).mapM (zcD (tmo a))).run P w=.ok vs w/\Core P N G w0 S' a w F' oss' (oc++X)/\UL P w F' (c::ds) vs oc/\(c::ds).length=vs.length/\vs.length=(ResultVar.tmp t::rs).length/\(∀ b,F b->F' b):=by
   intro S1 F1 oss1 c o1 ds k1 k2 k3 h2
   obtain ⟨F2,oss2,oc2,vs,S',m1,m2,m3,m4,m5,m6⟩:=Core.ret k1 h2
   refine ⟨F2,oss2,o1++oc2,tmo a t::vs,S',?_,?_,?_,by simp [m4],by simp [m5],fun b hb=>m6 b (k3 b hb)⟩
   .simp [List.mapM_cons,zcD,m1]
   .refine m2.sub (fun b hb=>?_) ?_
    .simp only [List.mem_append] at hb |-
     rcases hb with (hb | hb) | hb
     .exact .inr (.inl hb)
     .exact .inl hb
     .exact .inr (.inr hb)
    .have:=m2.xn
     simp only [List.nodup_append,List.mem_append] at this |-
     obtain ⟨n1,⟨n2,n3,n4⟩,n5⟩:=this
     refine ⟨⟨n2,n1,fun x hx y hy e=>n5 y hy x (.inl hx) e.symm⟩,n3,fun x hx y hy=>?_⟩
     rcases hx with hx | hx
     .exact n4 x hx y hy
     .exact n5 x hx y (.inr hy)
   .exact .cons _ _ _ _ _ _ (fun tm oss''=>RepT.mono (tm:=tm) (oss:=oss'') m6 (fun _ _ _ h=>h) (k2 tm oss'') (fun _ _=>rfl)) m3
  split at hc
  .rename_i cs' hS
   have hr:=h.rep t
   rw [hS] at hr
   split at hc
   .split at hc
    .rename_i hroots
     split at hc
     .rename_i ds h2
      injection hc with hc; subst hc
      obtain ⟨k1,k2⟩:=h.take t
      exact fin k1 (fun tm oss''=>zdL hr (by simpa [roots] using hroots)) (fun _ h=>h) h2
     .simp at hc
    .simp at hc
   .split at hc
    .rename_i lf S1 h1
     split at hc
     .rename_i es h3
      split at hc
      .rename_i ds h2
       injection hc with hc; subst hc
       obtain ⟨us,oc,oss1,k1,k2⟩:=h.tkLs h1
       generalize hu:tmo a t=u at hr
       generalize oss t=ot at hr
       cases hr with
       | cell _ _ _ hc=>cases hc
       | agg _ vs os hl hL =>
        have h3':zbu cs' (lf++[])=some (es,[]):=by simpa using h3
        obtain ⟨m1,m2⟩:=zdK (F0:=F) (fun _ h=>h) hL k2 h3'
        refine fin k1 (fun tm oss''=>?_) (fun _ h=>h) h2
        rw [hu]
        exact .agg es vs oc (m2.trans hl) (m1 tm oss'')
      .simp at hc
     .simp at hc
    .simp at hc
  .split at hc
   .rename_i c U h1
    split at hc
    .rename_i ds h2
     injection hc with hc; subst hc
     obtain ⟨F1,oss1,oc1,k1,k2,k3⟩:=h.tk h1
     exact fin k1 (fun tm oss''=>.cell _ _ _ k2) k3 h2
    .simp at hc
   .simp at hc
 | .cell t ty::rs,S,F,oss,X,h,cs,hc=>by
  rw [za9] at hc
  split at hc
  .rename_i e bs m hS hT
   split at hc
   .rename_i hlen
    split at hc
    .rename_i ds h2
     injection hc with hc; subst hc
     obtain ⟨k1,k2⟩:=h.take t
     have k3:=k2.ofKids (by simp [hS,kl,kids])
     rw [hS,kl] at k3
     generalize hu:tmo a t=u at k3
     generalize ho:oss t=ot at k3 k1
     cases k3 with
     | box b _ c _ ol hb hl =>
      have k4:=k1.sub (X':=ol++X) (fun z hz=>by simp only [List.mem_append,List.mem_cons] at hz |-; rcases hz with hz | hz <;> simp [hz]) (List.nodup_cons.1 k1.xn).2
      obtain ⟨F2,oss2,oc2,vs,S',m1,m2,m3,m4,m5,m6⟩:=Core.ret k4 h2
      have hll:=hl.length_le
      have hrun:(loadVar ty ⟨b,0,none⟩).run P w=.ok (.agg (c.toList.take bs.length).toArray) w :=
       zfN hT (by rw [List.length_take,<- hlen]; omega) (fun j v hj=>by
        rw [zbt hb,Nat.zero_add]
        simp only [List.getElem?_take] at hj
        split at hj
        .simpa using hj
        .simp at hj)
      refine ⟨F2,oss2,ol++oc2,.agg (c.toList.take bs.length).toArray::vs,S',?_,?_,?_,by simp [m4],by simp [m5],m6⟩
      .simp [List.mapM_cons,zcD,m1,hu,asAddr,hrun]
      .refine m2.sub (fun z hz=>?_) ?_
       .simp only [List.mem_append] at hz |-
        rcases hz with (hz | hz) | hz
        .exact .inr (.inl hz)
        .exact .inl hz
        .exact .inr (.inr hz)
       .have:=m2.xn
        simp only [List.nodup_append,List.mem_append] at this |-
        obtain ⟨n1,⟨n2,n3,n4⟩,n5⟩:=this
        refine ⟨⟨n2,n1,fun x hx y hy e=>n5 y hy x (.inl hx) e.symm⟩,n3,fun x hx y hy=>?_⟩
        rcases hx with hx | hx
        .exact n4 x hx y hy
        .exact n5 x hx y (.inr hy)
      .refine .cons _ _ _ _ _ _ (fun tm oss''=>.agg _ _ _ (by rw [List.length_take]; omega) ?_) m3
       exact ((hl.mono (F':=F2) m6 (fun _ _=>rfl)).take).toT
    .simp at hc
   .simp at hc
  .simp at hc
theorem zjY (fn:Func) (tmps:Array Value) {vs:List Value} (h:(fn.results.toList.mapM (zcD (fun i=>tmps.getD i undef))).run P w=.ok vs w) :
  (results fn tmps).run P w=.ok (if h:vs.length=1 then vs[0] else .tuple vs.toArray) w:=by
 have e:(fn.results.mapM (zcD (fun i=>tmps.getD i undef))).run P w=.ok vs.toArray w:=by
  have:fn.results=fn.results.toList.toArray:=by simp
  rw [this,List.mapM_toArray,Sem.run_map,h]; rfl
 have e2:(results fn tmps)=(fn.results.mapM (zcD (fun i=>tmps.getD i undef)) >>= fun vs=>pure (if h:vs.size=1 then vs[0] else .tuple vs)):=by
  unfold results
  congr 1
 rw [e2,Sem.run_bind,e]
 simp
theorem RepTL.parts {tm:Nat->Value}:∀ {cs:List AV} {vs:List Value} {os:List Nat},RepTL P w F tm oss cs vs os ->
  ∃ f:Nat->List Nat,(∀ (i:Nat) (c:AV),cs[i]?=some c->∃ v,vs[i]?=some v/\RepT P w F tm oss c v (f i))/\(∀ i,cs.length<=i->f i=[])/\(∀ i b,b∈f i->b∈os) /\
   (os.Nodup->(∀ i,(f i).Nodup)/\∀ i j b,b∈f i->b∈f j->i=j)
 | [],vs,os,h=>⟨fun _=>[],by simp,by simp,by simp,fun _=>⟨fun _=>List.nodup_nil,by simp⟩⟩
 | c::cs,vs,os,h=>by
  cases h with
  | cons _ v o1 _ vs o2 h t =>
   obtain ⟨f,f1,f2,f3,f4⟩:=RepTL.parts t
   refine ⟨fun i=>match i with | 0=>o1 | i+1=>f i,fun i d hi=>?_,fun i hi=>?_,fun i b hb=>?_,fun hn=>⟨fun i=>?_,fun i j b hi hj=>?_⟩⟩
   .cases i with
    | zero=>simp at hi; subst hi; exact ⟨v,rfl,h⟩
    | succ i=>simp at hi; simpa using f1 i d hi
   .cases i with
    | zero=>simp at hi
    | succ i=>exact f2 i (by simpa using hi)
   .cases i with
    | zero=>simp only at hb; simp [hb]
    | succ i=>simp only at hb; simp [f3 i b hb]
   .have hn:=List.nodup_append.1 hn
    cases i with
    | zero=>exact hn.1
    | succ i=>exact (f4 hn.2.1).1 i
   .have hn:=List.nodup_append.1 hn
    cases i with
    | zero=>cases j with
     | zero=>rfl
     | succ j=>exact (hn.2.2 b hi b (f3 j b hj) rfl).elim
    | succ i=>cases j with
     | zero=>exact (hn.2.2 b hj b (f3 i b hi) rfl).elim
     | succ j=>rw [(f4 hn.2.1).2 i j b hi hj]
def zbc (kp:List Nat) (cs:List AV) (n:Nat):List AV:=(List.range n).map fun i=>match kp.idxOf? i with
 | some j=>cs.getD j .any
 | none=>.any
def retM (P:Program) (rs:List ResultVar) (kp:List Nat) (n:Nat) (r:AV) (outs:List AV):Exit->St->Prop
 | .normal,S=>∃ cs,za9 P S (rs++kp.map .tmp)=some cs/\zbh (cs.take rs.length)=r/\zbc kp (cs.drop rs.length) n=outs/\zav cs=true
 | .ret,S=>∃ cs,za9 P S (rs++kp.map .tmp)=some cs/\zbh (cs.take rs.length)=r/\zbc kp (cs.drop rs.length) n=outs/\zav cs=true
 | _,_=>False
theorem zjc (tm:Nat->Value):∀ kp:List Nat,((kp.map ResultVar.tmp).mapM (zcD tm)).run P w=.ok (kp.map tm) w
 | []=>rfl
 | k::kp=>by
  rw [List.map_cons,List.map_cons,List.mapM_cons,Sem.run_bind]
  have:=zjc tm kp
  simp only [zcD,Sem.run_pure,Result.andThen_ok,Sem.run_bind,this]
theorem zhR {kp:List Nat} {i j:Nat} (h:kp.idxOf? i=some j):j<kp.length/\kp[j]?=some i:=by
 have:=List.idxOf?_eq_some_iff.1 h
 obtain ⟨h1,h2,_⟩:=this
 exact ⟨h1,by rw [List.getElem?_eq_getElem h1]; exact congrArg some (by simpa using h2)⟩
theorem zfx:∀ {cs:List AV} (j:Nat),zav cs=true->zax (cs.getD j .any)=true
 | [],j,_=>by simp [zax]
 | c::cs,0,h=>by simp [zav] at h; simpa using h.1
 | c::cs,j+1,h=>by simp [zav] at h; simpa using zfx j h.2
def retG (P:Program) (rs:List ResultVar) (kp:List Nat) (n:Nat) (r:AV) (outs:List AV):Exit->St->Prop
 | .normal,S=>∃ cs,za9 P S (rs++kp.map .tmp)=some cs/\zbh (cs.take rs.length)=r/\zbc kp (cs.drop rs.length) n=outs
 | .ret,S=>∃ cs,za9 P S (rs++kp.map .tmp)=some cs/\zbh (cs.take rs.length)=r/\zbc kp (cs.drop rs.length) n=outs
 | _,_=>False
theorem zmw {kp:List Nat} {cs:List AV} (hlen:cs.length=kp.length) {o:List Nat} {vals:Nat->Value}
  (h:UL P w F cs (kp.map vals) o) (n:Nat) (ho:o.Nodup):∃ oo,(∀ tm oss,RepTL P w F tm oss (zbc kp cs n) ((List.range n).map vals) oo)/\(∀ b,b∈oo->b∈o)/\oo.Nodup:=by
 obtain ⟨f,f1,f3,f4⟩:=h.parts
 obtain ⟨n1,n2⟩:=f4 ho
 let g:Nat->List Nat:=fun i=>match kp.idxOf? i with
  | some j=>f j
  | none=>[]
 have hg:∀ i b,b∈g i->b∈o:=fun i b hb=>by
  simp only [g] at hb
  split at hb
  .exact f3 _ b hb
  .simp at hb
 have main:∀ m,m<=n->∃ oo,(∀ tm oss,RepTL P w F tm oss (((List.range' (n-m) m)).map fun i=>match kp.idxOf? i with | some j=>cs.getD j .any | none=>.any) ((List.range' (n-m) m).map vals) oo) /\
   (∀ b,b∈oo->∃ i,n-m<=i/\b∈g i)/\oo.Nodup:=by
  intro m
  induction m with
  | zero=>intro _; exact ⟨[],fun _ _=>.nil _,by simp,List.nodup_nil⟩
  | succ m ih =>
   intro hm
   obtain ⟨oo,k1,k2,k3⟩:=ih (by omega)
   have e:List.range' (n-(m+1)) (m+1)=(n-(m+1))::List.range' (n-m) m:=by
    rw [List.range'_succ]; congr 1; congr 1; omega
   rw [e]
   refine ⟨g (n-(m+1))++oo,fun tm oss=>?_,fun b hb=>?_,?_⟩
   .refine .cons _ _ _ _ _ _ ?_ (k1 tm oss)
    simp only [g]
    split
    .rename_i j hj
     have hjl:=zhR hj
     have hjc:cs[j]?=some (cs.getD j .any):=by
      have hl:j<cs.length:=by omega
      simp [List.getD,List.getElem?_eq_getElem hl]
     obtain ⟨v,e1,e2⟩:=f1 j _ hjc
     have hv:v=vals (n-(m+1)):=by
      rw [List.getElem?_map,hjl.2] at e1
      simpa using e1.symm
     subst hv
     exact e2 tm oss
    .exact .any _
   .rcases List.mem_append.1 hb with hb | hb
    .exact ⟨_,Nat.le_refl _,hb⟩
    .obtain ⟨i,h1,h2⟩:=k2 b hb
     exact ⟨i,by omega,h2⟩
   .refine List.nodup_append.2 ⟨?_,k3,fun x hx y hy e=>?_⟩
    .simp only [g]; split; exact n1 _; exact List.nodup_nil
    .subst e
     obtain ⟨i,h1,h2⟩:=k2 x hy
     simp only [g] at hx h2
     split at hx
     .rename_i j hj
      split at h2
      .rename_i j' hj'
       have:=n2 j j' x hx h2
       subst this
       have e1:=(zhR hj).2
       rw [(zhR hj').2] at e1
       injection e1 with e1
       omega
      .simp at h2
     .simp at hx
 obtain ⟨oo,k1,k2,k3⟩:=main n (Nat.le_refl _)
 refine ⟨oo,fun tm oss=>?_,fun b hb=>?_,k3⟩
 .have:=k1 tm oss
  rw [Nat.sub_self,<- List.range_eq_range'] at this
  exact this
 .obtain ⟨i,_,h2⟩:=k2 b hb
  exact hg i b h2
theorem zlI {tm:Nat->Value} {rs:List ResultVar} {kp:List Nat} {vals:List Value} (h:((rs++kp.map ResultVar.tmp).mapM (zcD tm)).run P w=.ok vals w) (hl:vals.length=(rs++kp.map ResultVar.tmp).length) :
  ∃ v1,(rs.mapM (zcD tm)).run P w=.ok v1 w/\vals=v1++kp.map tm/\v1.length=rs.length:=by
 rw [List.mapM_append,Sem.run_bind] at h
 cases h1:(rs.mapM (zcD tm)).run P w with
 | halt x w1=>rw [h1] at h; simp at h
 | ok v1 w1 =>
  rw [h1] at h
  simp only [Result.andThen_ok,Sem.run_bind,zjc,Sem.run_pure] at h
  injection h with e1 e2
  subst e1 e2
  exact ⟨v1,rfl,rfl,by simpa using hl⟩
theorem zlV {N:Nat × List Nat} (h:StRel P N G w0 S a w) {os:List Nat} (hG:∀ b,b<w0.1.heap.size->b ∉ os->G b) {fn:Func} {kp:List Nat} (hkN:∀ i∈kp,i∈N.2) {n:Nat} {cs:List AV} (hc:za9 P S (fn.results.toList++kp.map .tmp)=some cs) {vs:List Value} (hv:∀ i∈kp,vs[i]?=some (w0.2 i)) (hvl:vs.length=n) :
  ∃ v,(results fn a.tmps).run P w=.ok v w/\cs.length=(fn.results.toList++kp.map ResultVar.tmp).length/\∃ (v':Value) (orr oo:List Nat) (F':Nat->Prop),Ending.returned v=.returned v'/\Ext G w0.1 w/\(∀ b,w0.3 b->F' b) /\
   (∀ b,F' b->w0.3 b\/((b∈os\/w0.1.heap.size<=b)/\b<w.heap.size)) /\
   (∀ tm oss,RepT P w F' tm oss (zbh (cs.take fn.results.toList.length)) v' orr)/\(∀ tm oss,RepTL P w F' tm oss (zbc kp (cs.drop fn.results.toList.length) n) vs oo)/\(zbc kp (cs.drop fn.results.toList.length) n).length=vs.length/\(orr++oo).Nodup /\
   ∀ b,b∈orr\/b∈oo->(b∈os\/w0.1.heap.size<=b)/\b<w.heap.size/\¬ F' b:=by
 obtain ⟨F,oss,h⟩:=h
 obtain ⟨F',oss',oc,vals,S',k1,k2,k3,k4,k5,k6⟩:=h.ret hc
 simp only [List.append_nil] at k2
 obtain ⟨v1,h1,rfl,hv1⟩:=zlI k1 k5
 have hnG:∀ b,¬ G b->b∈os\/w0.1.heap.size<=b:=fun b hb=>by
  rcases Nat.lt_or_ge b w0.1.heap.size with hlt | hge
  .by_cases hx:b∈os
   .exact .inl hx
   .exact (hb (hG b hlt hx)).elim
  .exact .inr hge
 have hown:∀ b∈oc,(b∈os\/w0.1.heap.size<=b)/\b<w.heap.size/\¬ F' b:=fun b hb=>⟨hnG b (k2.xG b hb),(k2.xo b hb).2,(k2.xo b hb).1⟩
 have hclen:cs.length=fn.results.toList.length+kp.length:=by rw [k4]; simp [hv1]
 obtain ⟨o1,o2,rfl,s1,s2⟩:=k3.split fn.results.toList.length
 have hx:=k2.xn
 have hx2:=List.nodup_append.1 hx
 have e1:(v1++kp.map (tmo a)).take fn.results.toList.length=v1:=List.take_left' hv1
 have e2:(v1++kp.map (tmo a)).drop fn.results.toList.length=kp.map (tmo a):=List.drop_left' hv1
 rw [e1] at s1
 rw [e2] at s2
 have hkv:kp.map (tmo a)=kp.map w0.2:=List.map_congr_left (fun i hi=>k2.kp i (hkN i hi))
 rw [hkv] at s2
 let vl:Nat->Value:=fun i=>vs.getD i undef
 have hvl2:kp.map w0.2=kp.map vl:=List.map_congr_left (fun i hi=>by simp [vl,List.getD,hv i hi])
 rw [hvl2] at s2
 have hrange:(List.range n).map vl=vs:=by
  subst hvl
  apply List.ext_getElem?
  intro i
  rw [List.getElem?_map]
  by_cases hi:i<vs.length
  .simp [hi,vl,List.getD]
  .simp [hi]
 obtain ⟨oo,q1,q2,q3⟩:=zmw (by rw [List.length_drop,hclen]; omega) s2 n hx2.2.1
 rw [hrange] at q1
 have hrl:(cs.take fn.results.toList.length).length=fn.results.toList.length:=by rw [List.length_take]; omega
 refine ⟨_,zjY fn a.tmps h1,k4.trans k5,_,o1,oo,F',rfl,k2.ext,k2.fB,fun b hb=>?_,fun tm oss=>?_,q1,by simp [zbc,hvl],List.nodup_append.2 ⟨hx2.1,q3,fun x hx y hy=>hx2.2.2 x hx y (q2 y hy)⟩,
  fun b hb=>hown b (by rcases hb with hb | hb; exact List.mem_append.2 (.inl hb); exact List.mem_append.2 (.inr (q2 b hb)))⟩
 .rcases k2.fN b hb with h | h
  .exact .inl h
  .exact .inr ⟨hnG b h,k2.fw b hb⟩
 have s1:=s1.all tm oss
 unfold zbh
 split
 .rename_i c hcs
  rw [hcs] at s1 hrl
  obtain ⟨x,rfl⟩:=List.length_eq_one_iff.1 (hv1.trans hrl.symm)
  simp only [List.length_cons,List.length_nil,Nat.zero_add,dite_true,List.getElem_cons_zero] at s1 |-
  generalize ho:o1=o1' at s1
  cases s1 with
  | cons _ _ p1 _ _ p2 g1 g2 =>
   cases g2
   simp only [List.append_nil] at ho
   subst ho
   rw [List.append_nil]
   exact g1
 .rename_i hne
  have hl:v1.length≠1:=by
   intro e
   rw [hv1,<- hrl] at e
   obtain ⟨c,hc'⟩:=List.length_eq_one_iff.1 e
   exact hne c hc'
  rw [dif_neg hl]
  exact .tup _ _ _ (by rw [hrl,hv1]) s1
theorem zbK (hm : P.follows .mixedOrders = true) {f : FuncId} {fn : Func} {c : Code} (cf : Cfg) {args : List AV} {R : AV -> List AV -> Prop} {Q : Exit -> St -> Prop} (kp : List Nat) (hfn : P.funcs[f]? = some fn) (hname : (fn.name == "runtime.NumGoroutine") = false) (hb : fn.body = some c)
  (hkl:∀ i∈kp,i<args.length) (hn:args.length<=fn.ntmps) (hd:zbN (fn.ntmps,kp) c=true)
  (hQ:∀ e S,Q e S->(e=.normal\/e=.ret)/\∃ cs,za9 P S (fn.results.toList++kp.map .tmp)=some cs/\(cs.length=(fn.results.toList++kp.map ResultVar.tmp).length->R (zbh (cs.take fn.results.toList.length)) (zbc kp (cs.drop fn.results.toList.length) args.length)))
  (h:vc P cf (fn.ntmps,kp) c Q (zha args)):RCon P f args R:=by
 refine ⟨⟨fn,hfn,hname,by simp [hb]⟩,?_⟩
 intro w vs os F0 hl hos hosl hF0 hrep
 refine calls_of_wp hfn hb ?_
 have hgetv:∀ i v,vs[i]?=some v->tmo { tmps:=vs.toArray++Array.replicate (fn.ntmps-vs.toArray.size) undef,defers:=[] } i=v:=by
  intro i v hi
  have hlt:i<vs.length:=(List.getElem?_eq_some_iff.1 hi).1
  have h3:(vs.toArray++Array.replicate (fn.ntmps-vs.toArray.size) undef)[i]?=some v:=by
   rw [Array.getElem?_append_left (by simpa using hlt)]; simpa using hi
  simp only [List.size_toArray] at h3
  simp [tmo,h3]
 obtain ⟨f,f1,f2,f3,f4⟩:=(hrep (tmo { tmps:=vs.toArray++Array.replicate (fn.ntmps-vs.toArray.size) undef,defers:=[] }) (fun _=>[])).parts
 obtain ⟨n1,n2⟩:=f4 hos
 have hst:StRel P (fn.ntmps,kp) (fun b=>b<w.heap.size/\b ∉ os) ⟨w,fun i=>vs.getD i undef,F0⟩ (zha args) { tmps:=vs.toArray++Array.replicate (fn.ntmps-vs.toArray.size) undef,defers:=[] } w:=by
  refine ⟨F0,f,{ sz:=?_,kp:=fun i hi=>?_,df:=rfl,ext:=Ext.refl _ _,fB:=fun _ h=>h,fN:=fun _ h=>.inl h,gw:=fun _ h=>h.1,oG:=fun i b hb h=>h.2 (f3 i b hb),xG:=by simp,fw:=hF0,rep:=fun i=>?_,own:=fun i b hb=>⟨(hosl b (f3 i b hb)).2,(hosl b (f3 i b hb)).1⟩,nd:=n1,dj:=n2,xo:=by simp,xn:=List.nodup_nil,xd:=by simp }⟩
  .simp; omega
  .have hlt:i<vs.length:=by rw [<- hl]; exact hkl i hi
   rw [hgetv i vs[i] (List.getElem?_eq_getElem hlt)]
   simp [List.getD,hlt]
  .unfold zha
   split
   .rename_i c hi
    obtain ⟨v,h1,h2⟩:=f1 i c hi
    rw [hgetv i v h1]
    exact RepT.mono (fun _ h=>h) (fun s p u k=>zbJ (by simp) (fun _ _=>rfl) k) h2 (fun _ _=>rfl)
   .rename_i hi
    rw [f2 i (by simpa using hi)]
    exact .any _
 refine zp3 hm hd hst h (fun e S a w' hq hr=>?_)
 have fin:(∃ cs,za9 P S (fn.results.toList++kp.map .tmp)=some cs/\(cs.length=(fn.results.toList++kp.map ResultVar.tmp).length->R (zbh (cs.take fn.results.toList.length)) (zbc kp (cs.drop fn.results.toList.length) args.length))) ->
   ∃ v,(results fn a.tmps).run P w'=.ok v w'/\(∃ (r:AV) (outs:List AV),R r outs/\∃ (v':Value) (orr oo:List Nat) (F':Nat->Prop),Ending.returned v=.returned v'/\Ext (fun b=>b<w.heap.size/\b ∉ os) w w'/\(∀ b,F0 b->F' b) /\
   (∀ b,F' b->F0 b\/((b∈os\/w.heap.size<=b)/\b<w'.heap.size)) /\
   (∀ tm oss,RepT P w' F' tm oss r v' orr)/\(∀ tm oss,RepTL P w' F' tm oss outs vs oo)/\outs.length=vs.length/\(orr++oo).Nodup /\
   ∀ b,b∈orr\/b∈oo->(b∈os\/w.heap.size<=b)/\b<w'.heap.size/\¬ F' b):=by
  rintro ⟨cs,h1,hR⟩
  obtain ⟨v,q1,hlen,q2⟩:=zlV (w0:=⟨w,fun i=>vs.getD i undef,F0⟩) hr (fun b h1 h2=>⟨h1,h2⟩) (fun i hi=>hi) h1
   (fun i hi=>by have hlt:i<vs.length:=by rw [<- hl]; exact hkl i hi
                 simp [List.getD,hlt]) hl.symm
  exact ⟨v,q1,_,_,hR hlen,q2⟩
 have hdf:a.defers=[]:=by obtain ⟨_,_,h⟩:=hr; exact h.df
 obtain ⟨he,hc⟩:=hQ e S hq
 rcases he with rfl | rfl <;> exact ⟨hdf,fin hc⟩
theorem RCon.g {f:FuncId} {args:List AV} {r:AV} {outs:List AV} (h:RCon P f args fun r' o'=>r'=r/\o'=outs):GCon P f args r outs :=
 ⟨h.1,fun w vs os F0 hl hn ho hF hr=>(h.2 w vs os F0 hl hn ho hF hr).mono fun e w' ⟨r',o',⟨e1,e2⟩,k⟩=>by rw [e1,e2] at k; exact k⟩
theorem RCon.m {f:FuncId} {args:List AV} {r:AV} {outs:List AV} (h:RCon P f args fun r' o'=>(r'=r/\o'=outs)/\zax r'=true/\zav o'=true):MCon P f args r outs:=by
 refine ⟨h.1,fun w vs os hl hn hs hrep=>?_⟩
 refine (h.2 w vs os (fun b=>b<w.heap.size/\b ∉ os) hl hn (fun b hb=>⟨hs b hb,fun hx=>hx.2 hb⟩) (fun b hb=>hb.1) hrep).mono ?_
 rintro e w' ⟨_,_,⟨⟨rfl,rfl⟩,hr,ho⟩,v,orr,oo,F',he,hx,_,_,h1,h2,h3,h4,h5⟩
 exact ⟨v,orr,oo,he,hx,fun F tm oss=>(h1 tm oss).fresh hr,fun F tm oss=>(h2 tm oss).fresh ho,h3,h4,fun b hb=>⟨(h5 b hb).1,(h5 b hb).2.1⟩⟩
theorem GCon.m {f:FuncId} {args:List AV} {r:AV} {outs:List AV} (h:GCon P f args r outs) (hr:zax r=true) (ho:zav outs=true):MCon P f args r outs:=(h.r (R:=fun r' o'=>(r'=r/\o'=outs)/\zax r'=true/\zav o'=true) ⟨⟨rfl,rfl⟩,hr,ho⟩).m
theorem RCon.c {f:FuncId} {args:List AV} {r:AV} (h:RCon P f args fun r' _=>∀ w F v os,(∀ tm oss,RepT P w F tm oss r' v os)->∀ F tm oss,RepT P w F tm oss r v os):Con P f args r:=by
 refine ⟨h.1,fun w vs hl hrep=>?_⟩
 refine (h.2 w vs [] (fun b=>b<w.heap.size) hl List.nodup_nil (by simp) (fun b hb=>hb) hrep).mono ?_
 rintro e w' ⟨_,_,hR,v,orr,oo,F',he,hx,_,_,h1,h2,h3,h4,h5⟩
 refine ⟨v,orr,he,by simpa using hx,fun tm oss=>hR _ _ _ _ h1 _ tm oss,(List.nodup_append.1 h4).1,fun b hb=>?_⟩
 have:=h5 b (.inl hb)
 exact ⟨by simpa using this.1,this.2.1⟩
theorem zab (hm:P.follows .mixedOrders=true) {f:FuncId} {fn:Func} {c:Code} (cf:Cfg) {args:List AV} {r:AV} (hfn:P.funcs[f]?=some fn)
  (h : vc P cf (fn.ntmps, []) c (retQ P fn.results.toList r) (zha args)) (hname : (fn.name == "runtime.NumGoroutine") = false := by decide) (hb : fn.body = some c := by exact rfl)
  (hn:args.length<=fn.ntmps:=by simp) (hd:zbN (fn.ntmps,[]) c=true:=by decide) (hf:zax r=true:=by first | (simp [zax,zav,go_sem]; done) | rfl):Con P f args r :=
 (zbK hm cf [] hfn hname hb (by simp) hn hd (fun e S hq=>by
  cases e <;> first | exact hq.elim | exact ⟨by simp,hq.imp fun cs k=>⟨by simpa using k.1,fun hl w F v os k2 F' tm oss=>by
   rw [List.take_of_length_le (by simp [hl]),k.2] at k2
   exact (k2 tm oss).fresh hf⟩⟩) h).c
theorem zbw (hm:P.follows .mixedOrders=true) {f:FuncId} {fn:Func} {c:Code} (cf:Cfg) {args:List AV} {r:AV} {outs:List AV} (kp:List Nat) (hfn:P.funcs[f]?=some fn)
  (h : vc P cf (fn.ntmps, kp) c (retM P fn.results.toList kp args.length r outs) (zha args)) (hname : (fn.name == "runtime.NumGoroutine") = false := by decide) (hb : fn.body = some c := by exact rfl)
  (hkl:∀ i∈kp,i<args.length:=by simp) (hn:args.length<=fn.ntmps:=by simp) (hd:zbN (fn.ntmps,kp) c=true:=by decide):MCon P f args r outs:=by
 have tk:∀ {cs:List AV} (k:Nat),zav cs=true->zav (cs.take k)=true/\zav (cs.drop k)=true:=by
  intro cs
  induction cs with
  | nil=>intro k _; simp [zav]
  | cons c l ih =>
   intro k hl
   simp [zav] at hl
   cases k with
   | zero=>simp [zav,hl]
   | succ k=>simpa [zav,hl.1] using ih k hl.2
 have fr:∀ {cs:List AV} (k n:Nat),zav cs=true->zax (zbh (cs.take k))=true/\zav (zbc kp (cs.drop k) n)=true:=by
  intro cs k n hf
  refine ⟨?_,?_⟩
  .have:=(tk k hf).1
   unfold zbh
   split
   .rename_i c e; rw [e] at this; simpa [zav] using this
   .simpa [zax] using this
  .unfold zbc
   generalize List.range n=l
   induction l with
   | nil=>rfl
   | cons i l ih =>
    rw [List.map_cons,zav,ih,Bool.and_true]
    split
    .exact zfx _ (tk k hf).2
    .rfl
 refine (zbK hm cf kp hfn hname hb hkl hn hd (fun e S hq=>?_) h).m
 cases e <;> first | exact hq.elim | exact ⟨by simp,hq.imp fun cs k=>⟨k.1,fun _=>⟨⟨k.2.1,k.2.2.1⟩,fr _ _ k.2.2.2⟩⟩⟩
theorem zaf (hm:P.follows .mixedOrders=true) {f:FuncId} {fn:Func} {c:Code} (cf:Cfg) {args:List AV} {r:AV} {outs:List AV} (kp:List Nat) (hfn:P.funcs[f]?=some fn)
  (h : vc P cf (fn.ntmps, kp) c (retG P fn.results.toList kp args.length r outs) (zha args)) (hname : (fn.name == "runtime.NumGoroutine") = false := by decide) (hb : fn.body = some c := by exact rfl)
  (hkl:∀ i∈kp,i<args.length:=by simp) (hn:args.length<=fn.ntmps:=by simp) (hd:zbN (fn.ntmps,kp) c=true:=by decide):GCon P f args r outs:=by
 refine (zbK hm cf kp hfn hname hb hkl hn hd (fun e S hq=>?_) h).g
 cases e <;> first | exact hq.elim | exact ⟨by simp,hq.imp fun cs k=>⟨k.1,fun _=>k.2⟩⟩
def retR (P:Program) (rs:List ResultVar) (kp:List Nat) (n:Nat) (R:AV->List AV->Prop):Exit->St->Prop
 | .normal,S=>∃ cs,za9 P S (rs++kp.map .tmp)=some cs/\R (zbh (cs.take rs.length)) (zbc kp (cs.drop rs.length) n)
 | .ret,S=>∃ cs,za9 P S (rs++kp.map .tmp)=some cs/\R (zbh (cs.take rs.length)) (zbc kp (cs.drop rs.length) n)
 | _,_=>False
theorem zaD (hm:P.follows .mixedOrders=true) {f:FuncId} {fn:Func} {c:Code} (cf:Cfg) {args:List AV} {R:AV->List AV->Prop} (kp:List Nat) (hfn:P.funcs[f]?=some fn)
  (h : vc P cf (fn.ntmps, kp) c (retR P fn.results.toList kp args.length R) (zha args)) (hname : (fn.name == "runtime.NumGoroutine") = false := by decide) (hb : fn.body = some c := by exact rfl)
  (hkl:∀ i∈kp,i<args.length:=by simp) (hn:args.length<=fn.ntmps:=by simp) (hd:zbN (fn.ntmps,kp) c=true:=by decide):RCon P f args R:=by
 refine zbK hm cf kp hfn hname hb hkl hn hd (fun e S hq=>?_) h
 cases e <;> first | exact hq.elim | exact ⟨by simp,hq.imp fun cs k=>⟨k.1,fun _=>k.2⟩⟩
end
end Go.Abs


namespace Go.Abs
variable [DrawK]
open Go.RowKit (Below)
def reset (W:List Nat) (T:List (Nat × AV)) (S:St):St:=fun i=>match T.lookup i with
 | some v=>v
 | none=>if W.contains i then .any else kl W (S i)
def Off (W:List Nat) (S0 S:St):Prop:=∀ i,i ∉ W->kl W (S i)=kl W (S0 i)
def Trk (S:St):List (Nat × AV)->Prop
 | []=>True
 | (d,v)::T=>S d=v/\Trk S T
def Nb (W:List Nat):List (Nat × AV)->Prop
 | []=>True
 | (_,v)::T=>kl W v=v/\Nb W T
mutual
theorem zhc {W V:List Nat} (h:∀ x∈V,x∈W):∀ c:AV,kl W (kl V c)=kl W c
 | .bor s p=>by
  by_cases hv:s∈V
  .have:=h s hv; simp [kl,hv,this]
  .simp [kl,hv]
 | .ptr s p o=>by
  by_cases hv:s∈V
  .have:=h s hv; simp [kl,hv,this]
  .simp [kl,hv]
 | .slp s p o n=>by
  by_cases hv:s∈V
  .have:=h s hv; simp [kl,hv,this]
  .simp [kl,hv]
 | .agg cs=>by simp [kl,ze8 h cs]
 | .tup cs=>by simp [kl,ze8 h cs]
 | .fn f cs=>by simp [kl,ze8 h cs]
 | .any=>rfl
 | .val v=>rfl
 | .sl n cs=>rfl
 | .own e n cs=>rfl
 | .ofs k e n cs=>rfl
 | .box e cs=>rfl
 | .fptr cs=>rfl
 | .mp c=>rfl
 | .fmp c=>rfl
 | .it l es=>rfl
theorem ze8 {W V:List Nat} (h:∀ x∈V,x∈W):∀ cs:List AV,klL W (klL V cs)=klL W cs
 | []=>rfl
 | c::cs=>by simp [klL,zhc h c,ze8 h cs]
end
mutual
theorem ztG {W:List Nat} {d:Nat} (h:d∈W):∀ c:AV,kl W (kn d c)=kl W c
 | .bor s p=>by
  by_cases hv:s=d
  .subst hv; cases p <;> simp [kl,kn,h]
  .simp [kl,kn,hv]
 | .ptr s p o=>by
  by_cases hv:s=d
  .subst hv; cases p <;> simp [kl,kn,h]
  .simp [kl,kn,hv]
 | .slp s p o n=>by
  by_cases hv:s=d
  .subst hv; cases p <;> simp [kl,kn,h]
  .simp [kl,kn,hv]
 | .agg cs=>by simp [kl,kn,zhL h cs]
 | .tup cs=>by simp [kl,kn,zhL h cs]
 | .fn f cs=>by simp [kl,kn,zhL h cs]
 | .any=>rfl
 | .val v=>rfl
 | .sl n cs=>rfl
 | .own e n cs=>rfl
 | .ofs k e n cs=>rfl
 | .box e cs=>rfl
 | .fptr cs=>rfl
 | .mp c=>rfl
 | .fmp c=>rfl
 | .it l es=>rfl
theorem zhL {W:List Nat} {d:Nat} (h:d∈W):∀ cs:List AV,klL W (knL d cs)=klL W cs
 | []=>rfl
 | c::cs=>by simp [klL,knL,ztG h c,zhL h cs]
end
mutual
theorem zov {W:List Nat} {d:Nat} {q:List (List Nat)} (h:d∈W):∀ c:AV,kl W (kn1 d q c)=kl W c
 | .bor s p=>by
  by_cases hv:s=d
  .subst hv
   by_cases hp:kpB q p=true <;> simp [kl,kn1,h,hp]
  .simp [kl,kn1,hv]
 | .ptr s p o=>by
  by_cases hv:s=d
  .subst hv
   by_cases hp:kpB q p=true <;> simp [kl,kn1,h,hp]
  .simp [kl,kn1,hv]
 | .slp s p o n=>by
  by_cases hv:s=d
  .subst hv
   by_cases hp:kpB q p=true <;> simp [kl,kn1,h,hp]
  .simp [kl,kn1,hv]
 | .agg cs=>by simp [kl,kn1,zeZ h cs]
 | .tup cs=>by simp [kl,kn1,zeZ h cs]
 | .fn f cs=>by simp [kl,kn1,zeZ h cs]
 | .any=>rfl
 | .val v=>rfl
 | .sl n cs=>rfl
 | .own e n cs=>rfl
 | .ofs k e n cs=>rfl
 | .box e cs=>rfl
 | .fptr cs=>rfl
 | .mp c=>rfl
 | .fmp c=>rfl
 | .it l es=>rfl
theorem zeZ {W:List Nat} {d:Nat} {q:List (List Nat)} (h:d∈W):∀ cs:List AV,klL W (kn1L d q cs)=klL W cs
 | []=>rfl
 | c::cs=>by simp [klL,kn1L,zov h c,zeZ h cs]
end
theorem Off.refl (W:List Nat) (S:St):Off W S S:=fun _ _=>rfl
theorem Off.upd {W:List Nat} {S0 S:St} {d:Nat} {v:AV} (hd:d∈W) (h:Off W S0 S):Off W S0 (upd d v S):=fun i hi=>by
 have hne:i≠d:=fun e=>hi (e ▸ hd)
 show kl W (kl [d] (if i=d then v else S i))=_
 rw [if_neg hne,zhc (by simpa using hd)]
 exact h i hi
theorem Off.updn {W:List Nat} {S0 S:St} {d:Nat} {v:AV} (hd:d∈W) (h:Off W S0 S):Off W S0 (updn d v S):=fun i hi=>by
 have hne:i≠d:=fun e=>hi (e ▸ hd)
 show kl W (if i=d then v else kn d (S i))=_
 rw [if_neg hne,ztG hd]
 exact h i hi
theorem Off.updn1 {W:List Nat} {S0 S:St} {d:Nat} {v:AV} {q:List (List Nat)} (hd:d∈W) (h:Off W S0 S):Off W S0 (updn1 d v q S):=fun i hi=>by
 have hne:i≠d:=fun e=>hi (e ▸ hd)
 show kl W (if i=d then v else kn1 d q (S i))=_
 rw [if_neg hne,zov hd]
 exact h i hi
theorem Off.reset {W V:List Nat} {T:List (Nat × AV)} {S0 S:St} (hV:∀ x∈V,x∈W) (hT:∀ p∈T,p.1∈W) (h:Off W S0 S):Off W S0 (reset V T S):=fun i hi=>by
 unfold Abs.reset
 split
 .rename_i v hl
  have:∃ p∈T,p.1=i:=by
   clear h hV
   induction T with
   | nil=>simp at hl
   | cons p T ih =>
    obtain ⟨d,u⟩:=p
    rw [List.lookup_cons] at hl
    split at hl
    .rename_i e; exact ⟨(d,u),by simp,by simpa using Eq.symm (by simpa using e)⟩
    .obtain ⟨q,h1,h2⟩:=ih (fun p hp=>hT p (by simp [hp])) hl
     exact ⟨q,by simp [h1],h2⟩
  obtain ⟨p,hp,e⟩:=this
  exact (hi (e ▸ hT p hp)).elim
 .rename_i hl
  split
  .rename_i hc
   exact (hi (hV i (by simpa using hc))).elim
  .rw [zhc hV]; exact h i hi
section
variable {P:Program} {N:Nat × List Nat} {G:Nat->Prop} {w0:W0} {w w':World} {S:St} {a:Act} {F:Nat->Prop} {oss:Nat->List Nat} {X:List Nat}
theorem Trk.lookup {S:St}:∀ {T:List (Nat × AV)},Trk S T->∀ {i v},T.lookup i=some v->S i=v
 | [],_,i,v,h=>by simp at h
 | (d,u)::T,ht,i,v,h=>by
  rw [List.lookup_cons] at h
  split at h
  .rename_i e
   have e:i=d:=by simpa using e
   injection h with h
   rw [e,<- h]; exact ht.1
  .exact Trk.lookup ht.2 h
theorem Nb.lookup {W:List Nat}:∀ {T:List (Nat × AV)},Nb W T->∀ {i v},T.lookup i=some v->kl W v=v
 | [],_,i,v,h=>by simp at h
 | (d,u)::T,ht,i,v,h=>by
  rw [List.lookup_cons] at h
  split at h
  .injection h with h
   rw [<- h]; exact ht.1
  .exact Nb.lookup ht.2 h
theorem zob {W:List Nat} {T:List (Nat × AV)} {S0 S:St} (h1:Off W S0 S) (h2:Trk S T) (h3:Nb W T):Weak S (reset W T S0):=by
 intro P N G w0 a w h
 obtain ⟨F,oss,h⟩:=h
 let oss':Nat->List Nat:=fun i=>if (T.lookup i).isNone && W.contains i then [] else oss i
 have hsub:∀ i b,b∈oss' i->b∈oss i:=fun i b hb=>by
  simp only [oss'] at hb; split at hb
  .simp at hb
  .exact hb
 have hk:∀ s p u,¬ s∈W->zah w (oss s) (tmo a s) p u->zah w (oss' s) (tmo a s) p u:=by
  intro s p u hs k
  have:oss' s=oss s:=by simp only [oss']; rw [if_neg (by simp [hs])]
  rw [this]; exact k
 refine ⟨F,oss',{ sz:=h.sz,kp:=h.kp,df:=h.df,ext:=h.ext,fB:=h.fB,fN:=h.fN,gw:=h.gw,oG:=fun i b hb=>h.oG i b (hsub i b hb),xG:=by simp,fw:=h.fw,rep:=fun i=>?_,own:=fun i b hb=>h.own i b (hsub i b hb),nd:=fun i=>?_,dj:=fun i j b hi hj=>h.dj i j b (hsub i b hi) (hsub j b hj),xo:=by simp,xn:=List.nodup_nil,xd:=by simp }⟩
 .show RepT P w F (tmo a) oss' (match T.lookup i with | some v=>v | none=>if W.contains i then .any else kl W (S0 i)) (tmo a i) (oss' i)
  split
  .rename_i v hl
   have e:oss' i=oss i:=by simp only [oss']; rw [if_neg (by simp [hl])]
   rw [e]
   have:=h.rep i
   rw [h2.lookup hl] at this
   have k:=RepT.kl W (fun _ h=>h) hk this (fun _ _=>rfl)
   rwa [h3.lookup hl] at k
  .rename_i hl
   split
   .rename_i hc
    have e:oss' i=[]:=by simp only [oss']; rw [if_pos (by simp [hl]; simpa using hc)]
    rw [e]; exact .any _
   .rename_i hc
    have e:oss' i=oss i:=by simp only [oss']; rw [if_neg (by simp; intro _; simpa using hc)]
    rw [e,<- h1 i (by simpa using hc)]
    exact RepT.kl W (fun _ h=>h) hk (h.rep i) (fun _ _=>rfl)
 .simp only [oss']; split
  .exact List.nodup_nil
  .exact h.nd i
def zpY {α:Type} (W:List Nat) (T:α->List (Nat × AV)) (inv:α->Prop) (μ:α->Nat) (x:α) (S0:St) (Q:Exit->St->Prop):Exit->St->Prop
 | .normal,S=>∃ y,inv y/\μ y<μ x/\Off W S0 S/\Trk S (T y)/\Nb W (T y)
 | e,S=>Q e S
@[go_sem] theorem zrZ {α:Type} (W:List Nat) (T:α->List (Nat × AV)) (inv:α->Prop) (μ:α->Nat) (x:α) (S0:St) (Q:Exit->St->Prop) (S:St) :
  zpY W T inv μ x S0 Q .normal S=∃ y,inv y/\μ y<μ x/\Off W S0 S/\Trk S (T y)/\Nb W (T y):=rfl
@[go_sem] theorem zvz {α:Type} (W:List Nat) (T:α->List (Nat × AV)) (inv:α->Prop) (μ:α->Nat) (x:α) (S0:St) (Q:Exit->St->Prop) (S:St) :
  zpY W T inv μ x S0 Q .ret S=Q .ret S:=rfl
@[go_sem] theorem zu1 {α:Type} (W:List Nat) (T:α->List (Nat × AV)) (inv:α->Prop) (μ:α->Nat) (x:α) (S0:St) (Q:Exit->St->Prop) (S:St) (id:Nat) :
  zpY W T inv μ x S0 Q (.exit id) S=Q (.exit id) S:=rfl
theorem zn4 {cf:Cfg}:∀ {c:Code} {Q Q':Exit->St->Prop} {S:St},(∀ e S,Q e S->Q' e S)->vc P cf N c Q S->vc P cf N c Q' S:=by
 have ops:∀ (os:Array Oper) (l:List Oper) (K K':St->Prop) (S:St),(∀ S,K S->K' S)->zcQ P cf N os l K S->zcQ P cf N os l K' S:=by
  have op:∀ (o:Oper) (K K':St->Prop) (S:St),(∀ S,K S->K' S)->vcOp P cf N o K S->vcOp P cf N o K' S:=by
   intro o K K' S hK h
   unfold vcOp at h |-
   split at h
   .split at h
    .rename_i hmu
     rw [if_pos hmu]
     unfold MVC at h |-
     split at h
     .split at h
      .obtain ⟨h1,r,outs,hc,h2⟩:=h
       refine ⟨h1,r,outs,hc,?_⟩
       split at h2
       .split at h2
        .split at h2
         .exact ⟨h2.1,hK _ h2.2⟩
         .exact hK _ h2
        .exact h2
       .exact h2
      .exact h
     .exact h
    .rename_i hmu
     rw [if_neg hmu]
     split at h
     .rename_i hgu
      rw [if_pos hgu]
      unfold GVC at h |-
      split at h
      .split at h
       .obtain ⟨h1,r,outs,hc,h2⟩:=h
        refine ⟨h1,r,outs,hc,?_⟩
        split at h2
        .split at h2
         .split at h2
          .exact ⟨h2.1,hK _ h2.2⟩
          .exact hK _ h2
         .exact h2
        .exact h2
       .exact h
      .exact h
     rename_i hgu
     rw [if_neg hgu]
     split at h
     .rename_i hru
      rw [if_pos hru]
      unfold RVC at h |-
      split at h
      .split at h
       .obtain ⟨h1,R,hc,h2⟩:=h
        refine ⟨h1,R,hc,fun r outs hR=>?_⟩
        replace h2:=h2 r outs hR
        split at h2
        .split at h2
         .split at h2
          .exact ⟨h2.1,hK _ h2.2⟩
          .exact hK _ h2
         .exact h2
        .exact h2
       .exact h
      .exact h
     rename_i hru
     rw [if_neg hru]
     split at h
     .obtain ⟨r,hc,h2⟩:=h
      refine ⟨r,hc,?_⟩
      split at h2
      .exact ⟨h2.1,hK _ h2.2⟩
      .exact hK _ h2
     .exact h
   .split at h
    .split at h
     .obtain ⟨r,hc,h2⟩:=h
      refine ⟨r,hc,?_⟩
      split at h2
      .exact ⟨h2.1,hK _ h2.2⟩
      .exact hK _ h2
     .exact h
    .split at h
     .exact ⟨h.1,fun es he=>hK _ (h.2 es he)⟩
     .split at h
      .exact ⟨h.1,fun e=>hK _ (h.2.1 e),fun l1 k x l2 e=>hK _ (h.2.2 l1 k x l2 e)⟩
      .split at h
       .exact ⟨h.1,fun b hb=>hK _ (h.2 b hb)⟩
       .split at h
        .exact ⟨h.1,hK _ h.2⟩
        .exact h
  intro os l
  induction l with
  | nil=>intro K K' S hK h; exact hK S h
  | cons o l ih =>
   intro K K' S hK h
   unfold zcQ at h |-
   split at h
   .exact op o _ _ S (fun S h=>ih K K' S hK h) h
   .split at h
    .split at h
     .refine ⟨h.1,fun hc=>op o _ _ _ (fun S h=>ih K K' S hK h) (h.2.1 hc),fun hc=>?_⟩
      exact ih K K' _ hK (h.2.2 hc)
     .exact ih K K' _ hK h
     .exact h
    .exact h
 intro c
 induction c with
 | skip=>intro Q Q' S hQ h; exact hQ _ _ h
 | region id os draw =>
  intro Q Q' S hQ h
  simp only [vc] at h |-
  split at h
  .rename_i hd; rw [if_pos hd]; exact DrawSel.mono h (hQ _)
  .rename_i hd; rw [if_neg hd]; exact ops _ _ _ _ _ (fun S h=>hQ _ _ h) h
 | seq x y ihx ihy =>
  intro Q Q' S hQ h
  refine ihx (fun e S h=>?_) h
  cases e <;> first | exact ihy hQ h | exact hQ _ _ h
 | cond c x y ihx ihy =>
  intro Q Q' S hQ h
  simp only [vc] at h |-
  split at h
  .exact ⟨fun ht=>ihx hQ (h.1 ht),fun ht=>ihy hQ (h.2 ht)⟩
  .exact h
 | block id b ih =>
  intro Q Q' S hQ h
  refine ih (fun e S h=>?_) h
  cases e <;> first | exact hQ _ _ h | skip
  simp only [zfz] at h |-
  split at h
  .rename_i e; rw [if_pos e]; exact hQ _ _ h
  .rename_i e; rw [if_neg e]; exact hQ _ _ h
 | loop b ih =>
  intro Q Q' S hQ h
  obtain ⟨I,h1,h2⟩:=h
  refine ⟨I,h1,fun n S hI=>ih (fun e S h=>?_) (h2 n S hI)⟩
  cases e <;> first | exact h | exact hQ _ _ h
 | exit id=>intro Q Q' S hQ h; exact hQ _ _ h
 | ret=>intro Q Q' S hQ h; exact hQ _ _ h
 | _=>intro Q Q' S hQ h; exact h.elim
theorem zac {cf:Cfg} {b:Code} {Q:Exit->St->Prop} {S0:St} {α:Type} (W:List Nat) (T:α->List (Nat × AV)) (inv:α->Prop) (μ:α->Nat) (x0:α)
  (h0:inv x0) (h1:Trk S0 (T x0)) (h2:Nb W (T x0)) (h:∀ x,inv x->vc P cf N b (zpY W T inv μ x S0 Q) (reset W (T x) S0)):zkZ (vc P cf N b) Q S0:=by
 refine ⟨fun n S=>∃ x,inv x/\n=μ x/\S=reset W (T x) S0,⟨μ x0,_,zob (Off.refl W S0) h1 h2,x0,h0,rfl,rfl⟩,?_⟩
 rintro n S ⟨x,hx,rfl,rfl⟩
 refine zn4 (fun e S hq=>?_) (h x hx)
 cases e with
 | normal =>
  obtain ⟨y,y1,y2,y3,y4,y5⟩:=hq
  exact ⟨μ y,y2,_,zob y3 y4 y5,y,y1,rfl,rfl⟩
 | _=>exact hq
end
@[go_sem] theorem zvg (W:List Nat) (T:List (Nat × AV)) (S:St) (i:Nat):reset W T S i=(match T.lookup i with
 | some v=>v
 | none=>if W.contains i then .any else kl W (S i)):=rfl
@[go_sem] theorem zxs (S:St):Trk S []=True:=rfl
@[go_sem] theorem zwR (S:St) (d:Nat) (v:AV) (T:List (Nat × AV)):Trk S ((d,v)::T)=(S d=v/\Trk S T):=rfl
@[go_sem] theorem zyI (W:List Nat):Nb W []=True:=rfl
@[go_sem] theorem zx5 (W:List Nat) (d:Nat) (v:AV) (T:List (Nat × AV)):Nb W ((d,v)::T)=(kl W v=v/\Nb W T):=rfl
theorem ztp (W:List Nat) (S0 S:St) (d:Nat) (v:AV) (hd:d∈W):Off W S0 (upd d v S) ↔ Off W S0 S:=by
 constructor
 .intro h i hi
  have hne:i≠d:=fun e=>hi (e ▸ hd)
  have:=h i hi
  rw [show upd d v S i=kl [d] (if i=d then v else S i) from rfl,if_neg hne,zhc (by simpa using hd)] at this
  exact this
 .exact Off.upd hd
theorem zrL (W:List Nat) (S0 S:St) (d:Nat) (v:AV) (hd:d∈W):Off W S0 (updn d v S) ↔ Off W S0 S:=by
 constructor
 .intro h i hi
  have hne:i≠d:=fun e=>hi (e ▸ hd)
  have:=h i hi
  rw [show updn d v S i=(if i=d then v else kn d (S i)) from rfl,if_neg hne,ztG hd] at this
  exact this
 .exact Off.updn hd
theorem zpd (W:List Nat) (S0 S:St) (d:Nat) (v:AV) (q:List (List Nat)) (hd:d∈W):Off W S0 (updn1 d v q S) ↔ Off W S0 S:=by
 constructor
 .intro h i hi
  have hne:i≠d:=fun e=>hi (e ▸ hd)
  have:=h i hi
  rw [show updn1 d v q S i=(if i=d then v else kn1 d q (S i)) from rfl,if_neg hne,zov hd] at this
  exact this
 .exact Off.updn1 hd
attribute [go_sem] ztp zrL zpd
theorem zaa (W:List Nat) (T:List (Nat × AV)) (S0:St) (hT:∀ p∈T,p.1∈W):Off W S0 (reset W T S0):=Off.reset (fun _ h=>h) hT (Off.refl W S0)
end Go.Abs


namespace Go.Abs
variable [DrawK]
@[go_sem] theorem zxw (d:Nat) (v:AV) (S:St) (i:Nat):upd d v S i=kl [d] (if i=d then v else S i):=rfl
@[go_sem] theorem zwX (d:Nat) (v:AV) (S:St) (i:Nat):updn d v S i=if i=d then v else kn d (S i):=rfl
@[go_sem] theorem zyJ (W:List Nat):kl W .any=.any:=rfl
@[go_sem] theorem zyE (W:List Nat) (v:Value):kl W (.val v)=.val v:=rfl
@[go_sem] theorem zyS (W:List Nat) (n:Nat) (cs:List AV):kl W (.sl n cs)=.sl n cs:=rfl
@[go_sem] theorem zyL (W:List Nat) (e n:Nat) (cs:List AV):kl W (.own e n cs)=.own e n cs:=rfl
@[go_sem] theorem zyj (W:List Nat) (k e n:Nat) (cs:List AV):kl W (.ofs k e n cs)=.ofs k e n cs:=rfl
@[go_sem] theorem zyD (W:List Nat) (e:Nat) (cs:List AV):kl W (.box e cs)=.box e cs:=rfl
@[go_sem] theorem zxl (W:List Nat) (cs:List AV):kl W (.fptr cs)=.fptr cs:=rfl
@[go_sem] theorem zyF (W:List Nat) (cs:List AV):kl W (.agg cs)=.agg (klL W cs):=by rw [kl]
@[go_sem] theorem zyH (W:List Nat) (cs:List AV):kl W (.tup cs)=.tup (klL W cs):=by rw [kl]
@[go_sem] theorem zyM (W:List Nat) (f:FuncId) (cs:List AV):kl W (.fn f cs)=.fn f (klL W cs):=by rw [kl]
@[go_sem] theorem zwU (W:List Nat):klL W []=[]:=rfl
@[go_sem] theorem zw0 (W:List Nat) (c:AV) (cs:List AV):klL W (c::cs)=kl W c::klL W cs:=by rw [klL]
@[go_sem] theorem zyh (d s:Nat) (p:List Nat):kl [d] (.bor s p)=if s=d then .any else .bor s p:=by
 rw [kl]; by_cases h:s=d <;> simp [h]
@[go_sem] theorem zyK (d s:Nat) (p:List Nat) (o:Nat):kl [d] (.ptr s p o)=if s=d then .any else .ptr s p o:=by
 rw [kl]; by_cases h:s=d <;> simp [h]
@[go_sem] theorem zyG (d:Nat):kn d .any=.any:=rfl
@[go_sem] theorem zyi (d:Nat) (v:Value):kn d (.val v)=.val v:=rfl
@[go_sem] theorem zyR (d:Nat) (n:Nat) (cs:List AV):kn d (.sl n cs)=.sl n cs:=rfl
@[go_sem] theorem zyz (d:Nat) (e n:Nat) (cs:List AV):kn d (.own e n cs)=.own e n cs:=rfl
@[go_sem] theorem zyq (d:Nat) (k e n:Nat) (cs:List AV):kn d (.ofs k e n cs)=.ofs k e n cs:=rfl
@[go_sem] theorem zyC (d:Nat) (e:Nat) (cs:List AV):kn d (.box e cs)=.box e cs:=rfl
@[go_sem] theorem zxx (d:Nat) (cs:List AV):kn d (.fptr cs)=.fptr cs:=rfl
@[go_sem] theorem zyl (d:Nat) (cs:List AV):kn d (.agg cs)=.agg (knL d cs):=by rw [kn]
@[go_sem] theorem zyw (d:Nat) (cs:List AV):kn d (.tup cs)=.tup (knL d cs):=by rw [kn]
@[go_sem] theorem zyT (d:Nat) (f:FuncId) (cs:List AV):kn d (.fn f cs)=.fn f (knL d cs):=by rw [kn]
@[go_sem] theorem zwZ (d:Nat):knL d []=[]:=rfl
@[go_sem] theorem zwP (d:Nat) (c:AV) (cs:List AV):knL d (c::cs)=kn d c::knL d cs:=by rw [knL]
@[go_sem] theorem zxX (d s:Nat):kn d (.bor s [])=.bor s []:=by rw [kn]; simp
@[go_sem] theorem zxI (d s i:Nat) (p:List Nat):kn d (.bor s (i::p))=if s=d then .any else .bor s (i::p):=by
 rw [kn]; by_cases h:s=d <;> simp [h]
@[go_sem] theorem zx6 (d s o:Nat):kn d (.ptr s [] o)=.ptr s [] o:=by rw [kn]; simp
@[go_sem] theorem zyg (d s i:Nat) (p:List Nat) (o:Nat):kn d (.ptr s (i::p) o)=if s=d then .any else .ptr s (i::p) o:=by
 rw [kn]; by_cases h:s=d <;> simp [h]
@[go_sem] theorem zxU (d:Nat) (q:List (List Nat)):kn1 d q .any=.any:=rfl
@[go_sem] theorem zxS (d:Nat) (q:List (List Nat)) (v:Value):kn1 d q (.val v)=.val v:=rfl
@[go_sem] theorem zyv (d:Nat) (q:List (List Nat)) (n:Nat) (cs:List AV):kn1 d q (.sl n cs)=.sl n cs:=rfl
@[go_sem] theorem zyf (d:Nat) (q:List (List Nat)) (e n:Nat) (cs:List AV):kn1 d q (.own e n cs)=.own e n cs:=rfl
@[go_sem] theorem zxW (d:Nat) (q:List (List Nat)) (k e n:Nat) (cs:List AV):kn1 d q (.ofs k e n cs)=.ofs k e n cs:=rfl
@[go_sem] theorem zx9 (d:Nat) (q:List (List Nat)) (e:Nat) (cs:List AV):kn1 d q (.box e cs)=.box e cs:=rfl
@[go_sem] theorem zxb (d:Nat) (q:List (List Nat)) (cs:List AV):kn1 d q (.fptr cs)=.fptr cs:=rfl
@[go_sem] theorem zyd (d:Nat) (q:List (List Nat)) (cs:List AV):kn1 d q (.agg cs)=.agg (kn1L d q cs):=by rw [kn1]
@[go_sem] theorem zyc (d:Nat) (q:List (List Nat)) (cs:List AV):kn1 d q (.tup cs)=.tup (kn1L d q cs):=by rw [kn1]
@[go_sem] theorem zyx (d:Nat) (q:List (List Nat)) (f:FuncId) (cs:List AV):kn1 d q (.fn f cs)=.fn f (kn1L d q cs):=by rw [kn1]
@[go_sem] theorem zwi (d:Nat) (q:List (List Nat)):kn1L d q []=[]:=rfl
@[go_sem] theorem zwm (d:Nat) (q:List (List Nat)) (c:AV) (cs:List AV):kn1L d q (c::cs)=kn1 d q c::kn1L d q cs:=by rw [kn1L]
@[go_sem] theorem zxj (d s:Nat) (p:List Nat):kn1 d [] (.bor s p)=if s=d/\2<=p.length then .any else .bor s p:=by rw [kn1]; simp [kpB]
@[go_sem] theorem zwq (d s:Nat) (q0:List Nat) (q:List (List Nat)) (p:List Nat):kn1 d (q0::q) (.bor s p)=if s=d/\¬ (p=[]\/p∈q0::q) then .any else .bor s p:=by rw [kn1]; simp [kpB]
@[go_sem] theorem zxp (d s:Nat) (p:List Nat) (o:Nat):kn1 d [] (.ptr s p o)=if s=d/\2<=p.length then .any else .ptr s p o:=by rw [kn1]; simp [kpB]
@[go_sem] theorem zvZ (d s:Nat) (q0:List Nat) (q:List (List Nat)) (p:List Nat) (o:Nat):kn1 d (q0::q) (.ptr s p o)=if s=d/\¬ (p=[]\/p∈q0::q) then .any else .ptr s p o:=by rw [kn1]; simp [kpB]
@[go_sem] theorem zvR (d:Nat) (v:AV) (q:List (List Nat)) (S:St) (i:Nat):updn1 d v q S i=if i=d then v else kn1 d q (S i):=rfl
@[go_sem] theorem zyP (W:List Nat) (c:Key->Option Int):kl W (.mp c)=.mp c:=rfl
@[go_sem] theorem zyt (W:List Nat) (c:Key->Option Int):kl W (.fmp c)=.fmp c:=rfl
@[go_sem] theorem zyQ (W:List Nat) (l:Option (Key × Int)) (es:List (Key × Int)):kl W (.it l es)=.it l es:=rfl
@[go_sem] theorem zym (d s:Nat) (p:List Nat) (o n:Nat):kl [d] (.slp s p o n)=if s=d then .any else .slp s p o n:=by
 rw [kl]; by_cases h:s=d <;> simp [h]
@[go_sem] theorem zyO (d:Nat) (c:Key->Option Int):kn d (.mp c)=.mp c:=rfl
@[go_sem] theorem zyk (d:Nat) (c:Key->Option Int):kn d (.fmp c)=.fmp c:=rfl
@[go_sem] theorem zyN (d:Nat) (l:Option (Key × Int)) (es:List (Key × Int)):kn d (.it l es)=.it l es:=rfl
@[go_sem] theorem zxm (d s o n:Nat):kn d (.slp s [] o n)=.slp s [] o n:=by rw [kn]; simp
@[go_sem] theorem zxz (d s i:Nat) (p:List Nat) (o n:Nat):kn d (.slp s (i::p) o n)=if s=d then .any else .slp s (i::p) o n:=by
 rw [kn]; by_cases h:s=d <;> simp [h]
@[go_sem] theorem zyp (d:Nat) (q:List (List Nat)) (c:Key->Option Int):kn1 d q (.mp c)=.mp c:=rfl
@[go_sem] theorem zxJ (d:Nat) (q:List (List Nat)) (c:Key->Option Int):kn1 d q (.fmp c)=.fmp c:=rfl
@[go_sem] theorem zyy (d:Nat) (q:List (List Nat)) (l:Option (Key × Int)) (es:List (Key × Int)):kn1 d q (.it l es)=.it l es:=rfl
@[go_sem] theorem zxY (d s:Nat) (p:List Nat) (o n:Nat):kn1 d [] (.slp s p o n)=if s=d/\2<=p.length then .any else .slp s p o n:=by rw [kn1]; simp [kpB]
@[go_sem] theorem zvN (d s:Nat) (q0:List Nat) (q:List (List Nat)) (p:List Nat) (o n:Nat):kn1 d (q0::q) (.slp s p o n)=if s=d/\¬ (p=[]\/p∈q0::q) then .any else .slp s p o n:=by rw [kn1]; simp [kpB]
@[go_sem] theorem zw7 (W:List Nat) (k:Key):kl W (zew k)=zew k:=rfl
@[go_sem] theorem zxa (d:Nat) (k:Key):kn d (zew k)=zew k:=rfl
@[go_sem] theorem zwj (d:Nat) (q:List (List Nat)) (k:Key):kn1 d q (zew k)=zew k:=rfl
@[go_sem] theorem zvk:cv (.map none)=.val (.map none):=rfl
@[go_sem] theorem zsr (k:Key):zbC (zew k)=false:=rfl
@[go_sem] theorem zu2 (k:Key):keyA (zew k)=some k:=rfl
@[go_sem] theorem zwI (k:Key):frz (zew k)=zew k:=rfl
@[go_sem] theorem zvf (args:List AV) (i:Nat):zha args i=(match args[i]? with | some c=>c | none=>.any):=rfl
@[go_sem] theorem zxK (S:St) (t:Nat):aop S (.tmp t)=S t:=rfl
@[go_sem] theorem zvY (S:St) (v:Value):aop S (.const v)=cv v:=rfl
@[go_sem] theorem zw3 (S:St) (f:FuncId):aop S (.func f)=.val (.func (.func f) #[] #[]):=rfl
@[go_sem] theorem zwv:cv (.pointer none)=.val (.pointer none):=rfl
@[go_sem] theorem zyA:cv (.slice none 0 0)=.val (.slice none 0 0):=rfl
@[go_sem] theorem zyu (k:IntKind) (n:Int):cv (.int k n)=.val (.int k n):=rfl
@[go_sem] theorem zxy (b:Bool):cv (.bool b)=.val (.bool b):=rfl
@[go_sem] theorem zv6 (s:ByteArray):cv (.string s)=.val (.string s):=rfl
@[go_sem] theorem zur (i:Nat):List.lookup i ([]:List (Nat × AV))=none:=rfl
@[go_sem] theorem zr9 (i d:Nat) (v:AV) (T:List (Nat × AV)):List.lookup i ((d,v)::T)=if i=d then some v else List.lookup i T:=by
 rw [List.lookup_cons]
 by_cases h:i=d
 .simp [h]
 .have:(i == d)=false:=by simpa using h
  simp [h,this]
attribute [go_sem] znX intB zpJ ncS binB binS alt alt2 alt3 nrg rmv insA zfk ziP zoi zqe mxS binW ixR ixA ivS fdS ptS bnd zcM prS poS foS slS plc srcC cpS bdS plTs putAll b0S b1S blS mmS mapA keyA lkS mplc muS enS zhN zll tkLm zjr zfW cap1 caps mfS bxS faS alS stAS ldAS takeA tkU ldCs ldC ztR zgc zjy setMany app zj0 zi1 za7 zdG za2 mvR mvS mvT valR ldR stR zbC zaO isOB roots zaB binI shB unI cnI ld1S ld1A adr ctn kids zbr getP putP ldC IntKind.signed zad ixS mkS isV st1S apS els zfl tk tkP tks bsS zok lnS exS zaS rsv rsvL frz frzL zfT zfE za9 zbh zt9
section
variable (P:Program) (cf:Cfg) (N:Nat × List Nat) (ops:Array Oper) (K:St->Prop) (Q:Exit->St->Prop) (S:St)
@[go_sem] theorem zwK:zcQ P cf N ops [] K S=K S:=rfl
@[go_sem] theorem zuy (dst:Option Tmp) (op:Op) (ty:TypeId) (pos:String) (after:Array Edge) (l:List Oper) :
  zcQ P cf N ops (⟨dst,op,ty,pos,after,none⟩::l) K S=vcOp P cf N ⟨dst,op,ty,pos,after,none⟩ (zcQ P cf N ops l K) S:=rfl
def zmz (g:Nat) (b:Bool) (A B:St->Prop) (S:St):Prop :=
 match S g with
 | .val (.bool c)=>g<N.1/\zdM (c == b) A B (upd g (.val (.bool b)) S) (upd g (.val (.bool !b)) S)
 | .tup []=>B S
 | _=>False
@[go_sem] theorem zup (dst:Option Tmp) (op:Op) (ty:TypeId) (pos:String) (after:Array Edge) (j:Nat) (b:Bool) (l:List Oper) :
  zcQ P cf N ops (⟨dst,op,ty,pos,after,some (j,b)⟩::l) K S=(match zfT ops j with
   | some g=>zmz N g b (vcOp P cf N ⟨dst,op,ty,pos,after,some (j,b)⟩ (zcQ P cf N ops l K)) (zrv ⟨dst,op,ty,pos,after,some (j,b)⟩ (zcQ P cf N ops l K)) S
   | none=>False):=rfl
@[go_sem] theorem zt4 (g:Nat) (b:Bool) (A B:St->Prop):zmz N g b A B S=(match S g with
 | .val (.bool c)=>g<N.1/\zdM (c == b) A B (upd g (.val (.bool b)) S) (upd g (.val (.bool !b)) S)
 | .tup []=>B S
 | _=>False):=rfl
@[go_sem] theorem zxd (o:Oper):vcOp P cf N o K S=(match za7 o.op with
 | some (f,xs)=>if cf.mu.contains f then MVC P N f xs o.dst K S else if cf.mu.contains (1000000+f) then GVC P cf N f xs o.dst K S else if cf.mu.contains (2000000+f) then RVC P cf N f xs o.dst K S else match zaS S xs with
  | some asx=>CallVC P cf N f asx o.dst K S
  | none=>False
 | none=>match zjr S o.op with
  | some (f,xs,cs)=>match zaS S xs,rsvL S cs with
   | some asx,some bs=>CallVC P cf N f (asx++bs) o.dst K S
   | _,_=>False
  | none=>match zfk P S o.op,o.dst with
   | some c,some d=>zhN N c d K S
   | _,_=>match ziP S o.op,o.dst with
    | some (t,rem),some d=>zll N t rem d K S
    | _,_=>match zoi P S o.op,o.dst with
     | some n,some d=>zqe N n d K S
     | _,_=>match zdG P cf N S o.op o.dst with
      | some (p,_,U)=>p/\K (app U S)
      | none=>False):=rfl
@[go_sem] theorem zvI (o:Oper):zrv o K S=K (app (zfE o) S):=rfl
@[go_sem] theorem zxV:vc P cf N .skip Q S=Q .normal S:=rfl
@[go_sem] theorem zvi (id:Nat):vc P cf N (.region id ops false) Q S=zcQ P cf N ops ops.toList (Q .normal) S:=rfl
@[go_sem] theorem zxG (id:Nat):vc P cf N (.region id ops true) Q S=DrawSel P cf N ops id (Q .normal) S:=rfl
@[go_sem] theorem zxQ (i:Nat) (tr:List Ent):vcD P cf N ops i [] K tr S=zvA ops K tr S:=rfl
@[go_sem] theorem zwr (i:Nat) (tr:List Ent) (dst:Option Tmp) (op:Op) (ty:TypeId) (pos:String) (after:Array Edge) (l:List Oper) :
  vcD P cf N ops i (⟨dst,op,ty,pos,after,none⟩::l) K tr S=runV P cf N i ⟨dst,op,ty,pos,after,none⟩ [] (vcD P cf N ops (i+1) l K) tr S:=rfl
@[go_sem] theorem zvB (i:Nat) (tr:List Ent) (dst:Option Tmp) (op:Op) (ty:TypeId) (pos:String) (after:Array Edge) (j:Nat) (b:Bool) (l:List Oper) :
  vcD P cf N ops i (⟨dst,op,ty,pos,after,some (j,b)⟩::l) K tr S=(match zfT ops j with
   | some g=>zia N g b (runV P cf N i ⟨dst,op,ty,pos,after,some (j,b)⟩ [g] (vcD P cf N ops (i+1) l K)) (zuR i ⟨dst,op,ty,pos,after,some (j,b)⟩ [g] (vcD P cf N ops (i+1) l K)) tr S
   | none=>False):=rfl
@[go_sem] theorem zwS (i:Nat) (o:Oper) (G:List Nat) (C:List Ent->St->Prop) (tr:List Ent):runV P cf N i o G C tr S=(match zfW S o.op with
 | some (f,xs)=>match zaS S xs with
  | some asx=>zbx (G++(opsD S o.op).flatMap (rdO S)) S=true/\CallD P cf N f asx o.dst i (G++(opsD S o.op).flatMap (rdO S)) C tr S
  | none=>False
 | none=>runD P cf N i o G C tr S):=rfl
@[go_sem] theorem zw8 (i:Nat) (o:Oper) (G:List Nat) (C:List Ent->St->Prop) (tr:List Ent):runD P cf N i o G C tr S=(match za7 o.op with
 | some (f,xs)=>if (cf.mu.contains f || cf.mu.contains (1000000+f))=true then ziM P N f xs o.dst i (G++(opsD S o.op).flatMap (rdO S)) C tr S else match zaS S xs with
  | some asx=>zbx (G++(opsD S o.op).flatMap (rdO S)) S=true/\CallD P cf N f asx o.dst i (G++(opsD S o.op).flatMap (rdO S)) C tr S
  | none=>False
 | none=>match zdG P cf N S o.op o.dst with
  | some (p,_,U)=>(zbx (G++(opsD S o.op).flatMap (rdO S)) S && inB (rts U) (G++(opsD S o.op).flatMap (rdO S)))=true/\p/\C (⟨i,G++(opsD S o.op).flatMap (rdO S),wrs U⟩::tr) (app U S)
  | none=>False):=rfl
@[go_sem] theorem zvu (i:Nat) (o:Oper) (G:List Nat) (C:List Ent->St->Prop) (tr:List Ent):zuR i o G C tr S=(zbx G S=true/\C (⟨i,G,wrs (zfE o)⟩::tr) (app (zfE o) S)):=rfl
@[go_sem] theorem zuU (g:Nat) (b:Bool) (A B:List Ent->St->Prop) (tr:List Ent):zia N g b A B tr S=(match S g with
 | .val (.bool c)=>g<N.1/\zl3 (c == b) A B tr S
 | .tup []=>B tr S
 | _=>False):=rfl
@[go_sem] theorem zuT (A B:List Ent->St->Prop) (tr:List Ent):zl3 true A B tr S=A tr S:=by simp [zl3]
@[go_sem] theorem zt0 (A B:List Ent->St->Prop) (tr:List Ent):zl3 false A B tr S=B tr S:=by simp [zl3]
@[go_sem] theorem zuZ (X:List (Nat × Nat)) (Ls:List (List Nat)):zi2 P cf N ops X Ls K S=(zgZ ops X Ls=true/\AllY P cf N ops (excL X) (fun _=>[]) K S Ls):=rfl
@[go_sem] theorem zte (id:Nat):DrawSel P cf N ops id K S=(match alt cf id with
 | some (q,n)=>if q.c=99 then zi2 P cf N ops [(q.p,q.d)] [insA q.d q.p (rmv q.d (nrg 0 n)),nrg 0 n] K S
  else zi2 P cf N ops [(q.p,q.c),(q.p,q.d)] [insA q.c q.p (rmv q.c (nrg 0 n)),nrg 0 n,insA q.p q.d (rmv q.p (nrg 0 n))] K S
 | none=>match alt2 cf id with
  | some (q,n)=>if q.c=99 then DrawVC5 P cf N ops q n K S else DrawVC4 P cf N ops q n K S
  | none=>if alt3 cf id=true then DrawVC6 P cf N ops K S else zkI P cf N ops K S):=rfl
@[go_sem] theorem zwY (q:Nat->Nat->Bool) (R:Nat->List Upd):AllY P cf N ops q R K S []=True:=rfl
@[go_sem] theorem zv4 (q:Nat->Nat->Bool) (R:Nat->List Upd) (l:List Nat) (Ls:List (List Nat)):AllY P cf N ops q R K S (l::Ls)=(vcY P cf N ops q R l K [] S/\AllY P cf N ops q R K S Ls):=rfl
@[go_sem] theorem zxn (q:Nat->Nat->Bool) (R:Nat->List Upd) (tr:List Ent):vcY P cf N ops q R [] K tr S=(okX ops q tr=true/\K S):=rfl
@[go_sem] theorem zwQ (q:Nat->Nat->Bool) (R:Nat->List Upd) (i:Nat) (tr:List Ent) (l:List Nat):vcY P cf N ops q R (i::l) K tr S=(match ops[i]? with
 | some o=>match o.guard with
  | none=>runD P cf N i o [] (fixK cf R i o S (vcY P cf N ops q R l K)) tr S
  | some _=>False
 | none=>False):=rfl
@[go_sem] theorem zw9 (R:Nat->List Upd) (i:Nat) (o:Oper) (S S':St) (C:List Ent->St->Prop) (tr:List Ent):fixK cf R i o S C tr S'=(fixC cf R i o S S'/\C tr S'):=rfl
@[go_sem] theorem zwW (R:Nat->List Upd) (i:Nat) (o:Oper) (S S':St):fixC cf R i o S S'=(match za7 o.op with
 | none=>True
 | some (f,xs)=>match o.dst with
  | none=>False
  | some d=>if (cf.mu.contains f || cf.mu.contains (1000000+f))=true then match zao S xs with
   | [(s,[])]=>s≠d/\R i=[.n s .any,.n s (S' s),.w d (S' d)]
   | [(s,[]),(t,[])]=>(s≠t/\s≠d/\t≠d)/\R i=[.n s .any,.n t .any,.n s (S' s),.n t (S' t),.w d (S' d)]
   | []=>R i=[.w d (S' d)]
   | _=>False
   else R i=[.w d (S' d)]):=rfl
@[go_sem] theorem zuW:zkI P cf N ops K S=(zcg ops=true/\vcD P cf N ops 0 ops.toList K [] S):=rfl
@[go_sem] theorem zyn (x y:Code):vc P cf N (.seq x y) Q S=vc P cf N x (zmG (vc P cf N y Q) Q) S:=rfl
@[go_sem] theorem zxi (c:Operand) (x y:Code):vc P cf N (.cond c x y) Q S=(match aop S c with
  | .val (.bool t)=>zdM t (vc P cf N x Q) (vc P cf N y Q) S S
  | _=>False):=rfl
@[go_sem] theorem zxc (id:Nat) (b:Code):vc P cf N (.block id b) Q S=vc P cf N b (zfz id Q) S:=rfl
@[go_sem] theorem zxO (b:Code):vc P cf N (.loop b) Q S=zkZ (vc P cf N b) Q S:=rfl
@[go_sem] theorem zx0 (id:Nat):vc P cf N (.exit id) Q S=Q (.exit id) S:=rfl
@[go_sem] theorem zys:vc P cf N .ret Q S=Q .ret S:=rfl
@[go_sem] theorem zsd:zmG K Q .normal S=K S:=rfl
@[go_sem] theorem zwJ:zmG K Q .ret S=Q .ret S:=rfl
@[go_sem] theorem zuX (id:Nat):zmG K Q (.exit id) S=Q (.exit id) S:=rfl
@[go_sem] theorem zpG (id:Nat):zfz id Q .normal S=Q .normal S:=rfl
@[go_sem] theorem zu0 (id:Nat):zfz id Q .ret S=Q .ret S:=rfl
@[go_sem] theorem ztq (id id':Nat):zfz id Q (.exit id') S=if id'=id then Q .normal S else Q (.exit id') S:=rfl
@[go_sem] theorem zvL (I:Nat->St->Prop) (n:Nat):ztF I n Q .ret S=Q .ret S:=rfl
@[go_sem] theorem zuV (I:Nat->St->Prop) (n id:Nat):ztF I n Q (.exit id) S=Q (.exit id) S:=rfl
@[go_sem] theorem zwV (rs:List ResultVar) (r:AV):retQ P rs r .ret S=∃ cs,za9 P S rs=some cs/\zbh cs=r:=rfl
@[go_sem] theorem zuI (rs:List ResultVar) (r:AV):retQ P rs r .normal S=∃ cs,za9 P S rs=some cs/\zbh cs=r:=rfl
@[go_sem] theorem zw6 (rs:List ResultVar) (kp:List Nat) (n:Nat) (r:AV) (outs:List AV):retM P rs kp n r outs .ret S=∃ cs,za9 P S (rs++kp.map .tmp)=some cs/\zbh (cs.take rs.length)=r/\zbc kp (cs.drop rs.length) n=outs/\zav cs=true:=rfl
@[go_sem] theorem zw2 (rs:List ResultVar) (kp:List Nat) (n:Nat) (R:AV->List AV->Prop):retR P rs kp n R .ret S=∃ cs,za9 P S (rs++kp.map .tmp)=some cs/\R (zbh (cs.take rs.length)) (zbc kp (cs.drop rs.length) n):=rfl
@[go_sem] theorem ztm (rs:List ResultVar) (kp:List Nat) (n:Nat) (R:AV->List AV->Prop):retR P rs kp n R .normal S=∃ cs,za9 P S (rs++kp.map .tmp)=some cs/\R (zbh (cs.take rs.length)) (zbc kp (cs.drop rs.length) n):=rfl
end
attribute [go_sem] opsD zbx inB wrs rts rdO af afL Op.operands Call.operands OkD MVC GVC RVC ziM locs locB zao fillA zbu fillArgs zlJ anyB zgk zaG tkLs ptLs zj1 zbc zax zav
end Go.Abs


namespace Go.Abs
variable [DrawK]
open Go.RowKit Go.WideShapes Go.ChangeShapes
theorem RepT.val_eq {P:Program} {w:World} {F:Nat->Prop} {tm:Nat->Value} {oss:Nat->List Nat} {u v:Value} {os:List Nat} (h:RepT P w F tm oss (.val u) v os):v=u:=by
 generalize hc:AV.val u=c at h
 cases h with
 | cell c v os h=>subst hc; cases h; rfl
 | _=>simp at hc
theorem Con.calls {P:Program} {f:FuncId} {args:List AV} (h:Con P f args (.bool true)) {vs:List Value} (hl:args.length=vs.length) {w:World}
  (ha:∀ tm oss,RepTL P w (fun b=>b<w.heap.size) tm oss args vs []) :
  Calls P f vs.toArray w fun e w'=>e=.returned (.bool true)/\Below w.heap.size w w' :=
 (h.2 w vs hl ha).mono fun e w' ⟨v,os,he,hb,hr,_⟩=>⟨by rw [he,(hr (fun _=>undef) (fun _=>[])).val_eq],hb.below⟩
theorem RepT.nil_own {P:Program} {w:World} {F:Nat->Prop} {tm:Nat->Value} {oss:Nat->List Nat} {v:Value} {os:List Nat} (e:TypeId) (h:RepT P w F tm oss (.val (.slice none 0 0)) v os):RepT P w F tm oss (.own e 0 []) v os:=by
 generalize hc:AV.val (.slice none 0 0)=c at h
 cases h with
 | cell c v os h=>subst hc; cases h; exact .cell _ _ _ (.own0 e)
 | _=>simp at hc
def retE (P:Program) (rs:List ResultVar) (r:AV):Exit->St->Prop
 | .normal,S=>∃ cs,za9 P S rs=some cs/\(zbh cs=r\/(zbh cs=.val (.slice none 0 0)/\∃ e,r=.own e 0 []))
 | .ret,S=>∃ cs,za9 P S rs=some cs/\(zbh cs=r\/(zbh cs=.val (.slice none 0 0)/\∃ e,r=.own e 0 []))
 | _,_=>False
@[go_sem] theorem zwO (P:Program) (rs:List ResultVar) (r:AV) (S:St):retE P rs r .ret S=∃ cs,za9 P S rs=some cs/\(zbh cs=r\/(zbh cs=.val (.slice none 0 0)/\∃ e,r=.own e 0 [])):=rfl
@[go_sem] theorem zt3 (P:Program) (rs:List ResultVar) (r:AV) (S:St):retE P rs r .normal S=∃ cs,za9 P S rs=some cs/\(zbh cs=r\/(zbh cs=.val (.slice none 0 0)/\∃ e,r=.own e 0 [])):=rfl
@[go_sem] theorem zxe (P:Program) (rs:List ResultVar) (kp:List Nat) (n:Nat) (r:AV) (outs:List AV) (S:St):retG P rs kp n r outs .ret S=∃ cs,za9 P S (rs++kp.map .tmp)=some cs/\zbh (cs.take rs.length)=r/\zbc kp (cs.drop rs.length) n=outs:=rfl
@[go_sem] theorem zuq (P:Program) (rs:List ResultVar) (kp:List Nat) (n:Nat) (r:AV) (outs:List AV) (S:St):retG P rs kp n r outs .normal S=∃ cs,za9 P S (rs++kp.map .tmp)=some cs/\zbh (cs.take rs.length)=r/\zbc kp (cs.drop rs.length) n=outs:=rfl
@[go_sem] theorem zuM (P:Program) (rs:List ResultVar) (kp:List Nat) (n:Nat) (r:AV) (outs:List AV) (S:St):retM P rs kp n r outs .normal S=∃ cs,za9 P S (rs++kp.map .tmp)=some cs/\zbh (cs.take rs.length)=r/\zbc kp (cs.drop rs.length) n=outs/\zav cs=true:=rfl
theorem zgA {P:Program} (hm:P.follows .mixedOrders=true) {f:FuncId} {fn:Func} {c:Code} (cf:Cfg) {args:List AV} {r:AV} (hfn:P.funcs[f]?=some fn)
  (h : vc P cf (fn.ntmps, []) c (retE P fn.results.toList r) (zha args)) (hname : (fn.name == "runtime.NumGoroutine") = false := by decide) (hb : fn.body = some c := by exact rfl)
  (hn:args.length<=fn.ntmps:=by simp) (hd:zbN (fn.ntmps,[]) c=true:=by decide) (hf:zax r=true:=by first | (simp [zax,zav,go_sem]; done) | rfl):Con P f args r :=
 (zbK hm cf [] hfn hname hb (by simp) hn hd (fun e S hq=>by
  cases e <;> first | exact hq.elim | exact ⟨by simp,hq.imp fun cs k=>⟨by simpa using k.1,fun hl w F v os k2 F' tm oss=>by
   rw [List.take_of_length_le (by simp [hl])] at k2
   rcases k.2 with e1 | ⟨e1,e,rfl⟩
   .rw [e1] at k2; exact (k2 tm oss).fresh hf
   .rw [e1] at k2; exact ((k2 tm oss).fresh rfl).nil_own e⟩⟩) h).c
inductive WkL:List AV->List AV->Prop
 | nil:WkL [] []
 | same (c:AV) (cs ds:List AV) (h:WkL cs ds):WkL (c::cs) (c::ds)
 | own (e:TypeId) (cs ds:List AV) (h:WkL cs ds):WkL (.val (.slice none 0 0)::cs) (.own e 0 []::ds)
theorem WkL.len {cs ds:List AV} (h:WkL cs ds):cs.length=ds.length:=by
 induction h with
 | nil=>rfl
 | same=>simpa
 | own=>simpa
theorem WkL.rep {P:Program} {w:World} {F:Nat->Prop} {tm:Nat->Value} {oss:Nat->List Nat} {cs ds:List AV} (h:WkL cs ds):∀ {vs:List Value} {os:List Nat},RepTL P w F tm oss cs vs os->RepTL P w F tm oss ds vs os:=by
 induction h with
 | nil=>intro vs os h; exact h
 | same c cs ds h ih =>
  intro vs os k
  cases k with
  | cons _ v o1 _ vs o2 k1 k2=>exact .cons _ _ _ _ _ _ k1 (ih k2)
 | own e cs ds h ih =>
  intro vs os k
  cases k with
  | cons _ v o1 _ vs o2 k1 k2=>exact .cons _ _ _ _ _ _ (k1.nil_own e) (ih k2)
theorem Con.wk {P:Program} {f:FuncId} {args cs ds:List AV} (h:Con P f args (.tup cs)) (hw:WkL cs ds):Con P f args (.tup ds):=by
 refine ⟨h.1,fun w vs hl ha=>(h.2 w vs hl ha).mono ?_⟩
 rintro e w' ⟨v,os,he,hb,hr,hn,ho⟩
 refine ⟨v,os,he,hb,fun tm oss=>?_,hn,ho⟩
 have:=hr tm oss
 generalize hc:AV.tup cs=c at this
 cases this with
 | cell c v os h=>subst hc; cases h
 | tup cs' vs os hl h =>
  injection hc with hc; subst hc
  exact .tup _ _ _ (by rw [<- hl,hw.len]) (hw.rep h)
 | _=>simp at hc
theorem Con.n1 {P:Program} {f:FuncId} {args:List AV} {x:AV} (e:TypeId) (h:Con P f args (.tup [.val (.slice none 0 0),x])):Con P f args (.tup [.own e 0 [],x]) :=
 h.wk (.own e _ _ (.same _ _ _ .nil))
theorem Con.n2 {P:Program} {f:FuncId} {args:List AV} {x:AV} (e e':TypeId) (h:Con P f args (.tup [.val (.slice none 0 0),.val (.slice none 0 0),x])):Con P f args (.tup [.own e 0 [],.own e' 0 [],x]) :=
 h.wk (.own e _ _ (.own e' _ _ (.same _ _ _ .nil)))
theorem Con.gfz {P:Program} {f:FuncId} {args cs ds:List AV} {e:TypeId} {n:Nat} (h:Con P f args (.own e n cs)) (ha:zaO args=false) (hd:frzL cs=ds):GCon P f args (.own e n ds) (args.map fun _=>.any):=by
 subst hd
 refine ⟨h.1,fun w vs os F0 hl hn ho hF hr=>?_⟩
 obtain rfl:=(hr (fun _=>undef) (fun _=>[])).noOwn ha
 refine (h.2 w vs hl (fun tm oss=>by
  have:=RepTL.kl (w':=w) (F':=fun b=>b<w.heap.size) (tm':=tm) (oss':=oss) [] (fun b hb=>hF b hb) (fun _ _ _ _ h=>h) (hr tm oss) (fun _ _=>rfl)
  rwa [zcV] at this)).mono ?_
 rintro x w' ⟨v,os,he,hb,hr',hnd,hos⟩
 have outs:∀ (F':Nat->Prop) (vs:List Value) (args:List AV),args.length=vs.length->∀ tm oss,RepTL P w' F' tm oss (args.map fun _=>AV.any) vs []:=by
  intro F' vs
  induction vs with
  | nil=>intro args hl tm oss; rw [List.length_eq_zero_iff.1 hl]; exact .nil _
  | cons v vs ih=>intro args hl tm oss; cases args with
   | nil=>simp at hl
   | cons c args=>exact .cons _ _ [] _ _ [] (.any _) (ih args (by simpa using hl) tm oss)
 have hx:Ext (fun b=>b<w.heap.size/\b ∉ ([]:List Nat)) w w':=⟨hb.os,hb.tape,hb.output,hb.size,fun k hk=>hb.block k hk.1,hb.drawn⟩
 have h1:=hr' (fun _=>undef) (fun _=>[])
 generalize hc:AV.own e n cs=c at h1
 generalize hoo:os=oo at h1
 cases h1 with
 | cell c v os h1 =>
  subst hc
  cases h1 with
  | own0 e=>exact ⟨_,[],[],F0,he,hx,fun _ h=>h,fun _ h=>.inl h,fun tm oss=>.cell _ _ _ (.own0 e),outs _ _ _ hl,by simpa using hl,by simp,by simp⟩
  | own b e n cap c cs ok hb1 hn1 hc1 hl1 =>
   subst hoo
   have hb0:=hos b (by simp)
   have hnd2:=List.nodup_cons.1 hnd
   refine ⟨_,[b],[],fun x=>F0 x\/(w.heap.size<=x/\x<w'.heap.size/\x≠b),he,hx,fun _ h=>.inl h,fun x hx=>?_,fun tm oss=>.cell _ _ _ (.own b e n cap c _ [] hb1 hn1 hc1 ?_),outs _ _ _ hl,by simpa using hl,by simp,fun x hx=>?_⟩
   .rcases hx with hx | hx
    .exact .inl hx
    .exact .inr ⟨.inr hx.1,hx.2.1⟩
   .refine RepL.frz (fun x hx=>?_) hl1 (fun x hx=>?_)
    .exact .inr ⟨hx.1,hx.2.1,fun e=>hx.2.2 (by simp [e])⟩
    .have:=hos x (by simp [hx])
     exact .inr ⟨this.1,this.2,fun e=>hnd2.1 (e ▸ hx)⟩
   .simp at hx
    subst hx
    refine ⟨.inr hb0.1,hb0.2,fun hf=>?_⟩
    rcases hf with hf | hf
    .have:=hF x hf; omega
    .exact hf.2.2 rfl
 | _=>simp at hc
section
variable {H:Type} {enc:TypeId × Value->H} {P:Program}
theorem post_of_below {f:Func} {s:ChangeSpec} {apart fresh handsOn again:Bool} {W W':World} {args:Array Value} {v:Value} {ds gs:List (DataW H)} {before pa pv:List MemPlace}
  (hW:DataW.Whole enc P f.params.toList s.vars apart W args.toList ds gs before)
  (hres:∀ (b:Nat) (sp:Nat->Bool) (hd:Bool),DataW.TrodAll enc P W' b sp hd f.resultTypes.toList (v.resultList f.resultTypes.size) (s.fn H (ds++gs)).results [])
  (hargs:∀ sp:Nat->Bool,(∀ p∈before,sp p.block=true)->DataW.TrodAll enc P W' 0 sp true f.params.toList args.toList (s.fn H (ds++gs)).args pa)
  (hvars:∀ sp:Nat->Bool,(∀ p∈before,sp p.block=true)->DataW.TrodVars enc P W' sp s.vars (s.fn H (ds++gs)).vars pv)
  (hps:before=pa++pv) (hb:Below W.heap.size W W')
  (hok:∀ (j:Nat) (t:TypeId) (r:Value),f.resultTypes[j]?=some t->(v.resultList f.resultTypes.size)[j]?=some r->Value.okWide P W' .any 0 t r) :
  s.post enc P f apart fresh handsOn again W args v W':=by
 have hlt:∀ p∈before,p.block<W.heap.size:=fun p hp=>hW.lt p hp
 have hold:∀ p∈before,(fun b=>decide (b<W.heap.size)) p.block=true:=fun p hp=>by simpa using hlt p hp
 refine ⟨ds,gs,before,[],pa,pv,hW,hres _ _ _,hargs _ hold,hvars _ hold,World.keptBut_mono (fun p hp=>⟨hp,?_⟩) (hb.frame (·∈before)),fun _=>?_⟩
 .rw [hps,List.mem_append] at hp
  exact Or.inr hp
 .obtain ⟨_,_,_,_,_,hz,hn⟩:=hW
  refine ⟨hok,_,_,([]++pa)++pv,⟨[]++pa,pv,trodAll_append (hargs _ (fun _ _=>rfl)) (hres _ _ _),hvars _ (fun _ _=>rfl),rfl,?_,?_⟩,?_⟩
  .intro b off hp
   have hin:MemPlace.cell b off∈before:=by rw [hps]; simpa using hp
   rw [hb.frozen (hlt _ hin)]
   exact hz b off hin
  .intro ha
   have:=hn ha
   rw [hps] at this
   simpa using this
  .intro p hp _
   rw [hps]
   simpa using hp
end
end Go.Abs


namespace Go.Abs
variable [DrawK]
open Go.RowKit Go.WideShapes Go.ChangeShapes Go.Deep
section
variable {H:Type} {enc:TypeId × Value->H} {P:Program} {w:World} {sp:Nat->Bool} {held:Bool} {base:Nat}
theorem zk8 {F:Nat->Prop} {c:Array Value} {e0:TypeId} {fr:Nat × Nat} {b off s:Nat} (hb:w.heap[b]?=some (.cells c e0 fr)) {α:Type} {f:α->List AV} (hf:∀ a,(f a).length=s) :
  ∀ (asx:List α) (i0:Nat),(∀ (i:Nat) a,asx[i]?=some a->∃ vs,vs.length=s/\(∀ j,j<s->c[off+(i0+i)*s+j]?=vs[j]?)/\RepL P w F (f a) vs [])->RepL P w F (asx.flatMap f) (c.toList.drop (off+i0*s)) []
 | [],i0,_=>.nil _
 | a::asx,i0,h=>by
  obtain ⟨vs,h1,h2,h3⟩:=h 0 a rfl
  have ih:=zk8 hb hf asx (i0+1) (fun i a hi=>by
   have:=h (i+1) a (by simpa using hi)
   rw [show i0+(i+1)=i0+1+i by omega] at this
   exact this)
  rw [List.flatMap_cons]
  refine RepL.of_get (fun j cc hj=>?_)
  by_cases hjs:j<s
  .rw [List.getElem?_append_left (by rw [hf]; exact hjs)] at hj
   obtain ⟨v,hv,hr⟩:=h3.get0 hj
   refine ⟨v,?_,hr⟩
   rw [List.getElem?_drop,Array.getElem?_toList,<- hv,<- h2 j hjs]
   simp
  .rw [List.getElem?_append_right (by rw [hf]; omega),hf] at hj
   obtain ⟨v,hv,hr⟩:=ih.get0 hj
   refine ⟨v,?_,hr⟩
   rw [List.getElem?_drop] at hv |-
   rw [<- hv]
   congr 1
   rw [Nat.add_mul]; omega
theorem ztN {t e:TypeId} (ht:P.underlying t=some (.slice e)) {s:Nat} (hs:P.cellsOf e=s) (hpos:0<s) {α:Type} {f:α->List AV} (hf:∀ a,(f a).length=s) {Good:α->Prop}
  (hel:∀ n cs y,DataW.trod enc P w base sp held n e cs=some y->∃ a,Good a/\RepL P w (fun b=>b<w.heap.size) (f a) cs [])
  {n:Nat} {cs:List Value} {x:DataW H × List MemPlace} (h:DataW.trod enc P w base sp held n t cs=some x) :
  ∃ asx:List α,(∀ a∈asx,Good a)/\asx.length<=9223372036854775807/\RepL P w (fun b=>b<w.heap.size) [.sl asx.length (asx.flatMap f)] cs []/\cs.length=1:=by
 rcases DataW.trod_slice ht h with ⟨rfl,_⟩ | ⟨a,len,cap,elems,rest,m,_,rfl,_,hb,hl,hm,hlen,hel2,_,_⟩
 .exact ⟨[],by simp,by simp,.cons _ _ [] _ _ [] (.sl0 none 0) (.nil _),rfl⟩
 .have hmax:maxLen<=9223372036854775807:=by decide
  have each:∀ i,i<len->∃ (vs:List Value) (q:α),w.cells? base (a.add (i*s)) s=some vs/\Good q/\RepL P w (fun b=>b<w.heap.size) (f q) vs []:=by
   intro i hi
   have h1:=hel2 i hi
   rw [hs] at h1
   have h2:elems[i]?=some (elems[i]'(by omega)):=List.getElem?_eq_getElem _
   rw [h2,Option.bind_eq_some_iff] at h1
   obtain ⟨vs,h3,h4⟩:=h1
   obtain ⟨q,h5,h6⟩:=hel _ _ _ h4
   exact ⟨vs,q,h3,h5,h6⟩
  have mk:∀ k,k<=len->∃ asx:List α,asx.length=k/\(∀ a∈asx,Good a)/\∀ i q,asx[i]?=some q->∃ vs,w.cells? base (a.add (i*s)) s=some vs/\RepL P w (fun b=>b<w.heap.size) (f q) vs []:=by
   intro k
   induction k with
   | zero=>intro _; exact ⟨[],rfl,by simp,by simp⟩
   | succ k ih =>
    intro hk
    obtain ⟨asx,k1,k2,k3⟩:=ih (by omega)
    obtain ⟨vs,q,h1,h2,h3⟩:=each k (by omega)
    refine ⟨asx++[q],by simp [k1],?_,?_⟩
    .intro z hz
     rcases List.mem_append.1 hz with hz | hz
     .exact k2 z hz
     .simp at hz; subst hz; exact h2
    .intro i z hz
     by_cases hi:i<asx.length
     .rw [List.getElem?_append_left hi] at hz; exact k3 i z hz
     .rw [List.getElem?_append_right (by omega)] at hz
      have hi0:i-asx.length=0:=by
       have:=(List.getElem?_eq_some_iff.1 hz).1
       simp at this; omega
      rw [hi0] at hz
      simp at hz; subst hz
      have:i=k:=by omega
      subst this
      exact ⟨vs,h1,h3⟩
  obtain ⟨asx,k1,k2,k3⟩:=mk len (Nat.le_refl _)
  refine ⟨asx,k2,by omega,?_,rfl⟩
  rw [k1]
  by_cases h0:len=0
  .subst h0
   have:asx=[]:=List.eq_nil_of_length_eq_zero k1
   subst this
   exact .cons _ _ [] _ _ [] (.sl0 _ _) (.nil _)
  ·
   obtain ⟨vs,q,h1,_,_⟩:=each 0 (by omega)
   obtain ⟨g1,g2,g3⟩:=World.cells?_some h1
   have c0:=g3 0 hpos
   have hv0:∃ v,vs[0]?=some v:=⟨vs[0]'(by omega),List.getElem?_eq_getElem _⟩
   obtain ⟨v0,hv0⟩:=hv0
   rw [hv0] at c0
   have ea:(a.add (0*s)).add 0=a:=by simp [Addr.add]
   rw [ea] at c0
   obtain ⟨b,off,spot⟩:=a
   unfold World.cell? at c0
   simp only at c0
   cases hbk:w.heap[b]? with
   | none=>simp [hbk] at c0
   | some o =>
    cases o with
    | cells c et fr =>
     simp only [hbk] at c0
     cases spot with
     | some z=>simp at c0
     | none =>
      refine .cons _ _ [] _ _ [] (.sl b off len cap c et fr _ ?_ hbk ?_ hl) (.nil _)
      .rcases Nat.lt_or_ge b w.heap.size with hlt | hge
       .exact hlt
       .simp [Array.getElem?_eq_none hge] at hbk
      .have:=zk8 (P:=P) (F:=fun b=>b<w.heap.size) (off:=off) hbk hf asx 0 (fun i q hi=>by
        obtain ⟨vs,m1,m2⟩:=k3 i q hi
        obtain ⟨p1,p2,p3⟩:=World.cells?_some m1
        refine ⟨vs,p2,fun j hj=>?_,m2⟩
        rw [<- p3 j hj]
        rw [Nat.zero_add]
        have e1:((⟨b,off,none⟩:Addr).add (i*s)).add j=⟨b,off+i*s+j,none⟩:=by
         unfold Addr.add; split <;> split <;> simp_all <;> omega
        rw [e1,zbt hbk])
       simpa using this
    | _=>simp [hbk] at c0
theorem zvs {t:TypeId} {k:IntKind} (ht:P.underlying t=some (.int k)) {F:Nat->Prop} {n:Nat} {cs:List Value} {y:DataW H × List MemPlace} (h:DataW.trod enc P w base sp held n t cs=some y) :
  ∃ z:Int,(Lit.int k z).wf=true/\RepL P w F [.val (.int k z)] cs []/\cs.length=1:=by
 obtain ⟨z,rfl,_,hw⟩:=DataW.trod_int ht h
 exact ⟨z,hw,.cons _ _ [] _ _ [] (.val _ rfl) (.nil _),rfl⟩
theorem RepL.one {F:Nat->Prop} {a:AV} {v:Value} (h:RepL P w F [a] [v] []):RepC P w F a v []:=by
 obtain ⟨v',h1,h2⟩:=h.get0 (i:=0) rfl
 simp at h1; subst h1; exact h2
theorem zd5 {w':World}:∀ {ts:List TypeId} {vs:List Value} {ds:List (DataW H)} {ps:List MemPlace},DataW.TrodAll enc P w base sp held ts vs ds ps->(∀ p∈ps,w.sameAt w' p)->DataW.TrodAll enc P w' base sp held ts vs ds ps
 | [],[],[],_,h,_=>h
 | _::_,_::_,_::_,_,⟨p,q,⟨n,h1⟩,h2,e⟩,hs=>⟨p,q,⟨n,DataW.trod_carry n _ _ _ h1 (fun x hx=>hs x (by rw [e]; exact List.mem_append_left _ hx))⟩,zd5 h2 (fun x hx=>hs x (by rw [e]; exact List.mem_append_right _ hx)),e⟩
theorem zlR {W W':World} {ts:List TypeId} (K:Kids P (·<P.types.size)) (hz:∀ t e,t<P.types.size->P.underlying t=some (.slice e)->0<P.cellsOf e) (hts:ts.all (fun t=>decide (t<P.types.size))=true) (hb:Below W.heap.size W W')
  {vs:List Value} {ds:List (DataW H)} {ps:List MemPlace} (h:DataW.TrodAll enc P W 0 (fun _=>true) true ts vs ds ps) (hlt:∀ p∈ps,p.block<W.heap.size) {s:Nat->Bool} (hs:∀ p∈ps,s p.block=true) :
  DataW.TrodAll enc P W' 0 s true ts vs ds ps :=
 (zd5 h (fun p hp=>hb.same (hlt p hp))).respare K hz (fun t ht=>of_decide_eq_true (List.all_eq_true.1 hts t ht)) hs
end
end Go.Abs


namespace Go.Abs
variable [DrawK]
open Go.RowKit (Below)
open Go.Proofs Go.Sort Go.Shelf Go.RowKit Go.Lib
section
variable {P:Program} {w w':World} {F F':Nat->Prop}
theorem RepL.els {β:Type} (A:β->List AV) (k:Nat):∀ {xs:List β} {vs:List Value} {os:List Nat},(∀ x∈xs,(A x).length=k)->RepL P w F (xs.flatMap A) vs os->os.Nodup ->
  ∃ f:Nat->List Nat,(∀ (i:Nat) (hi:i<xs.length),RepL P w F (A xs[i]) ((vs.drop (i*k)).take k) (f i))/\(∀ i b,b∈f i->b∈os)/\(∀ i,(f i).Nodup)/\∀ i j b,b∈f i->b∈f j->i=j:=by
 intro xs
 induction xs with
 | nil=>intro vs os _ _ _; exact ⟨fun _=>[],by simp,by simp,by simp,by simp⟩
 | cons x xs ih =>
  intro vs os hk h hn
  obtain ⟨o1,o2,rfl,h1,h2⟩:=h.part k
  have hx:=hk x (by simp)
  rw [List.flatMap_cons,List.take_left' hx] at h1
  rw [List.flatMap_cons,List.drop_left' hx] at h2
  have n:=List.nodup_append.1 hn
  obtain ⟨f,f1,f2,f3,f4⟩:=ih (fun y hy=>hk y (by simp [hy])) h2 n.2.1
  refine ⟨fun i=>match i with | 0=>o1 | i+1=>f i,fun i hi=>?_,fun i b hb=>?_,fun i=>?_,fun i j b hi hj=>?_⟩
  .cases i with
   | zero=>simpa using h1
   | succ i =>
    have:=f1 i (by simpa using hi)
    rw [List.drop_drop] at this
    have e:(i+1)*k=k+i*k:=by rw [Nat.add_mul,Nat.one_mul,Nat.add_comm]
    rw [e]
    exact this
  .cases i with
   | zero=>simp at hb; simp [hb]
   | succ i=>simp at hb; simp [f2 i b hb]
  .cases i with
   | zero=>exact n.1
   | succ i=>exact f3 i
  .cases i with
   | zero=>cases j with
    | zero=>rfl
    | succ j=>exact (n.2.2 b hi b (f2 j b hj) rfl).elim
   | succ i=>cases j with
    | zero=>exact (n.2.2 b hj b (f2 i b hi) rfl).elim
    | succ j=>rw [f4 i j b hi hj]
theorem RepL.join {β:Type} (A:β->List AV) (k:Nat) {xs:List β} {vs:List Value} {f:Nat->List Nat} (hk:∀ x∈xs,(A x).length=k) (hl:xs.length*k<=vs.length)
  (h:∀ (i:Nat) (hi:i<xs.length),RepL P w F (A xs[i]) ((vs.drop (i*k)).take k) (f i)) (hn:∀ i,(f i).Nodup) (hd:∀ i j b,b∈f i->b∈f j->i=j) :
  ∀ s:List (Fin xs.length),s.Nodup->RepL P w F ((s.map fun i=>xs[i]).flatMap A) (s.flatMap fun i=>(vs.drop (i.1*k)).take k) (s.flatMap fun i=>f i.1)/\(s.flatMap fun i=>f i.1).Nodup
 | [],_=>⟨.nil _,List.nodup_nil⟩
 | i::s,hs=>by
  have n:=List.nodup_cons.1 hs
  obtain ⟨h1,h2⟩:=RepL.join A k hk hl h hn hd s n.2
  have hi:=i.2
  refine ⟨?_,?_⟩
  .rw [List.map_cons,List.flatMap_cons,List.flatMap_cons,List.flatMap_cons]
   refine RepL.append (h i.1 hi) ?_ h1
   have e:i.1*k+k<=xs.length*k:=by
    have:=Nat.mul_le_mul_right k (show i.1+1<=xs.length from hi)
    rw [Nat.add_mul,Nat.one_mul] at this
    exact this
   refine (hk _ (List.getElem_mem hi)).trans ?_
   rw [List.length_take,List.length_drop]
   omega
  .rw [List.flatMap_cons]
   refine List.nodup_append.2 ⟨hn _,h2,fun x hx y hy e=>?_⟩
   subst e
   obtain ⟨j,hj,hy⟩:=List.mem_flatMap.1 hy
   have:=hd _ _ x hx hy
   exact n.1 (by rw [Fin.ext this]; exact hj)
theorem RepC.own_inv {e:TypeId} {n:Nat} {cs:List AV} {v:Value} {os:List Nat} (h:RepC P w F (.own e n cs) v os) :
  (n=0/\cs=[]/\v=.slice none 0 0/\os=[])\/∃ (b cap:Nat) (c:Array Value) (os':List Nat),os=b::os'/\v=.slice (some ⟨b,0,none⟩) n cap/\w.heap[b]?=some (.cells c e (0,0))/\n<=cap/\cap*P.cellsOf e<=c.size/\RepL P w F cs c.toList os':=by
 cases h with
 | own0 _=>exact .inl ⟨rfl,rfl,rfl,rfl⟩
 | own b _ _ cap c _ os hb hn hc hl=>exact .inr ⟨b,cap,c,os,rfl,rfl,hb,hn,hc,hl⟩
theorem Ext.grown (hD1:dK=1) (h:Ext (fun b=>b<w.heap.size) w w'):∃ q os',w'=grow (w.drewN q) os':=by
 refine ⟨w'.drawn-w.drawn,w'.heap.extract w.heap.size w'.heap.size,?_⟩
 have h1:=h.os; have h2:=h.tape; have h3:=h.output; have h4:=h.size; have h5:=h.block; have h6:=h.drawn
 rw [hD1,Nat.mul_one,Nat.mul_one] at h6
 obtain ⟨hp,t,d,o,u⟩:=w
 obtain ⟨hp',t',d',o',u'⟩:=w'
 simp only at *
 subst h1 h2 h3
 have e1:hp'=hp++hp'.extract hp.size hp'.size:=by
  apply Array.ext_getElem?
  intro i
  rw [Array.getElem?_append]
  split
  .rename_i hi; exact h5 i hi
  .rename_i hi
   rw [Array.getElem?_extract]
   have e:hp.size+(i-hp.size)=i:=by omega
   rw [e]
   split
   .rfl
   .rename_i hn
    rw [Array.getElem?_eq_none]
    omega
 have e2:d'=d+(d'-d):=by omega
 unfold grow World.drewN
 simp only
 rw [<- e1,<- e2]
end
theorem zc8:∀ {cs:List AV},zav cs=true ↔ ∀ c∈cs,zax c=true
 | []=>by simp [zav]
 | c::cs=>by simp [zav,zc8 (cs:=cs)]
theorem zfm {β:Type} (f:β->List Value) (k:Nat) (hk:∀ x,(f x).length=k):∀ xs:List β,(xs.flatMap f).length=xs.length*k
 | []=>by simp
 | x::xs=>by rw [List.flatMap_cons,List.length_append,zfm f k hk xs,hk,List.length_cons,Nat.add_mul,Nat.one_mul,Nat.add_comm]
theorem zfY {β:Type} [Inhabited β] (f:β->List Value) (k:Nat) (hk:∀ x,(f x).length=k):∀ (xs:List β) (j:Nat),j<xs.length*k->(xs.flatMap f)[j]?=some ((f xs[j / k]!)[j%k]!)
 | [],j,h=>by simp at h
 | x::xs,j,h=>by
  have k0:0<k:=by rcases Nat.eq_zero_or_pos k with e | e; · subst e; simp at h
                  .exact e
  rw [List.flatMap_cons]
  by_cases hj:j<k
  .rw [List.getElem?_append_left (by rw [hk]; exact hj),Nat.div_eq_of_lt hj,Nat.mod_eq_of_lt hj]
   have hj':j<(f x).length:=by rw [hk]; exact hj
   simp [hj']
  .rw [List.getElem?_append_right (by rw [hk]; omega),hk]
   have e1:j=(j-k)+k:=by omega
   have hl:j-k<xs.length*k:=by
    rw [List.length_cons,Nat.add_mul,Nat.one_mul] at h; omega
   rw [zfY f k hk xs (j-k) hl]
   have e2:j / k=(j-k) / k+1:=by rw [<- Nat.add_div_right _ k0,<- e1]
   have e3:j%k=(j-k)%k:=by conv=>lhs; rw [e1]; rw [Nat.add_mod_right]
   rw [e2,e3]
   simp
section
variable {P:Program} {ρ:Ren}
theorem zec {α:Type} [Inhabited α] (enc:α->List Value) (k:Nat) (w:World) (b off m:Nat) (dk:Array α) (os:Array Obj) {z:Nat} (hz:z<w.heap.size) (hne:z≠b) :
  (sortWorldK enc k w b off m dk os).heap[z]?=w.heap[z]?:=by
 unfold sortWorldK
 rw [heap_grow_old _ _ (by rw [size_putRowK]; exact hz)]
 simp [putRowK,putRow,mapBlock,Sort.ahead,Array.getElem?_modify,Ne.symm hne]
theorem zmX {α:Type} [Inhabited α] (enc:α->List Value) (k:Nat) (w:World) (b off m:Nat) (dk:Array α) (os:Array Obj) {c:Array Value} {e:TypeId} {fr:Nat × Nat} (hb:w.heap[b]?=some (.cells c e fr)) :
  (sortWorldK enc k w b off m dk os).heap[b]?=some (.cells (putCells id off (flatK enc k dk) c) e fr):=by
 have hz:b<w.heap.size:=(Array.getElem?_eq_some_iff.1 hb).1
 unfold sortWorldK
 rw [heap_grow_old _ _ (by rw [size_putRowK]; exact hz)]
 simp [putRowK,putRow,mapBlock,Sort.ahead,Array.getElem?_modify,hb,onCells]
theorem Ext.sorted {α:Type} [Inhabited α] (enc:α->List Value) (k:Nat) (w:World) (b m:Nat) (dk:Array α) (os:Array Obj) {G:Nat->Prop} (hG:∀ z,G z->z<w.heap.size/\z≠b):Ext G w (sortWorldK enc k w b 0 m dk os) where
 os:=rfl
 tape:=rfl
 output:=rfl
 size:=by unfold sortWorldK; rw [size_grow,size_putRowK]; exact Nat.le_add_right _ _
 block:=fun z hz=>zec enc k w b 0 m dk os (hG z hz).1 (hG z hz).2
 drawn:=Nat.mul_le_mul_right _ (Nat.le_add_right _ _)
theorem ziI {n:Nat} (hn:0<n) (k:Nat) (w:World) (b:Nat) {c:Array Value} {e:TypeId} (hb:w.heap[b]?=some (.cells c e (0,0))) (hs:n*k<=c.size) (d:Array (Fin n)) [Inhabited (Fin n)] (hd:d.size=n) (hv:∀ i:Nat,i<n->(d[i]!).1=i) :
  HoldsK (fun i:Fin n=>(c.toList.drop (i.1*k)).take k) k w b 0 d:=by
 intro j hj
 rw [size_flatK,hd] at hj
 have k0:0<k:=by rcases Nat.eq_zero_or_pos k with e | e; · subst e; simp at hj
                 .exact e
 have hq:j / k<n:=Nat.div_lt_of_lt_mul (by rw [Nat.mul_comm]; exact hj)
 have hm:=Nat.mod_lt j k0
 have he:j / k*k+j%k=j:=by rw [Nat.mul_comm]; exact Nat.div_add_mod j k
 have hjc:j<c.size:=by omega
 refine ⟨?_,by simp [World.frozen?,hb]⟩
 rw [get_flatK _ _ _ _ (by rw [hd]; exact hj)]
 simp only [World.cell?,hb,Nat.zero_add,hv _ hq,id]
 simp [hm,he,hjc]
theorem RepTL.plain {w:World} {F:Nat->Prop} {tm:Nat->Value} {oss:Nat->List Nat}:∀ {gs vs:List Value} {os:List Nat},RepTL P w F tm oss (gs.map .val) vs os->gs.length=vs.length->vs=gs/\os=[]
 | [],[],_,h,_=>by cases h; exact ⟨rfl,rfl⟩
 | g::gs,v::vs,_,h,hl=>by
  cases h with
  | cons _ _ o1 _ _ o2 h1 h2 =>
   obtain ⟨rfl,rfl⟩:=RepTL.plain h2 (by simpa using hl)
   have e1:o1=[]:=h1.noOwn (by simp [zbC])
   subst e1
   rw [h1.val_eq]
   exact ⟨rfl,rfl⟩
theorem RepTL.anys {w:World} {F:Nat->Prop} {tm:Nat->Value} {oss:Nat->List Nat}:∀ gs:List Value,RepTL P w F tm oss (gs.map fun _=>.any) gs []
 | []=>.nil _
 | g::gs=>.cons _ _ [] _ _ [] (.any g) (RepTL.anys gs)
theorem zfQ {n:Nat} [Inhabited (Fin n)] {lt:Fin n->Fin n->Bool} {d d':Array (Fin n)} (h:PermIn 0 d.size d d'/\SortedIn lt 0 d.size d'):d'.size=d.size/\d'.toList.Perm d.toList/\d'.toList.Pairwise (fun i j=>lt j i=false):=by
 obtain ⟨⟨e1,_,hp⟩,hs⟩:=h
 refine ⟨e1,?_,List.pairwise_iff_getElem.2 fun i j hi hj hij=>?_⟩
 .have e2:d'.extract 0 d.size=d':=by rw [<- e1]; exact Array.extract_size
  have e3:d.extract 0 d.size=d:=Array.extract_size
  rw [e2,e3] at hp
  exact hp
 .have:=hs i j (Nat.zero_le _) hij (by rw [<- e1]; simpa using hj)
  rw [getElem!_pos d' j (by simpa using hj),getElem!_pos d' i (by simpa using hi)] at this
  simpa using this
theorem zfj {f:FuncId} (hen:zcE P f) {β:Type} (A:β->List AV) (k:Nat) (cf:β->β->Int) (e:TypeId) (hce:P.cellsOf e=k) (xs:List β) (hk:∀ x∈xs,(A x).length=k) (gs:List Value)
  (law0:xs=[]->∀ p cap w,Calls P f (.slice p 0 cap::gs).toArray w fun e w'=>e=.returned (.tuple #[])/\w'=w)
  (law:∀ [Inhabited (Fin xs.length)] (d:Array (Fin xs.length)),d.size=xs.length->∃ d':Array (Fin xs.length),(d'.size=d.size/\d'.toList.Perm d.toList/\d'.toList.Pairwise (fun i j=>ltOf (fun i j:Fin xs.length=>cf xs[i] xs[j]) j i=false)) /\
   ∀ (w:World) (b cap:Nat) (enc:Fin xs.length->List Value),(∀ x,(enc x).length=k)->(∀ x,∀ v∈enc x,v.oneCell'=true)->b<w.heap.size->HoldsK enc k w b 0 d ->
    (∀ m os (dk:Array (Fin xs.length)) (i:Fin xs.length),RepL P (sortWorldK enc k w b 0 m dk os) (fun z=>z<(sortWorldK enc k w b 0 m dk os).heap.size) (frzL (A xs[i])) (enc i) []) ->
    Calls P f (.slice (some ⟨b,0,none⟩) d.size cap::gs).toArray w fun e w'=>e=.returned (.tuple #[])/\∃ m os,w'=sortWorldK enc k w b 0 m d' os) :
  ∃ ys:List β,ys.Perm xs/\ys.Pairwise (fun x y=>¬ cf y x<0)/\GCon P f (.own e xs.length (xs.flatMap A)::gs.map .val) (.tup []) (.own e xs.length (ys.flatMap A)::gs.map fun _=>.any):=by
 have inv:∀ {w:World} {vs:List Value} {os:List Nat} {F:Nat->Prop},(AV.own e xs.length (xs.flatMap A)::gs.map .val).length=vs.length ->
   (∀ tm oss,RepTL P w F tm oss (AV.own e xs.length (xs.flatMap A)::gs.map .val) vs os)->∃ v,vs=v::gs/\RepC P w F (.own e xs.length (xs.flatMap A)) v os:=by
  intro w vs os F hl hrep
  cases hrep (fun _=>undef) (fun _=>[]) with
  | cons _ v1 o1 _ _ o2 h1 h2 =>
   obtain ⟨rfl,rfl⟩:=h2.plain (by simpa using hl)
   exact ⟨v1,rfl,by simpa using h1.ofKids (by simp [kids])⟩
 have outs:∀ {w:World} {F:Nat->Prop} {tm:Nat->Value} {oss:Nat->List Nat} {c:AV} {v:Value} {os:List Nat},RepC P w F c v os->RepTL P w F tm oss (c::gs.map fun _=>.any) (v::gs) os:=fun h=>by
  simpa using RepTL.cons _ _ _ _ _ _ (RepT.cell _ _ _ h) (RepTL.anys gs)
 by_cases hx0:xs=[]
 .have l0:=law0 hx0
  subst hx0
  refine ⟨[],List.Perm.refl _,List.Pairwise.nil,hen,?_⟩
  intro w vs os F0 hl hos hosl0 hF hrep
  obtain ⟨v,rfl,hv⟩:=inv hl hrep
  have key:∃ p cap,v=.slice p 0 cap:=by
   rcases hv.own_inv with ⟨_,_,h,_⟩ | ⟨b,cap,c,os',_,h,_⟩
   .exact ⟨none,0,h⟩
   .exact ⟨_,cap,h⟩
  obtain ⟨p,cap,rfl⟩:=key
  refine (l0 p cap w).mono ?_
  rintro e' w' ⟨rfl,rfl⟩
  refine ⟨_,[],os,F0,rfl,Ext.refl _ _,fun _ h=>h,fun _ h=>.inl h,fun tm oss=>.tup [] [] [] rfl (.nil _),fun tm oss=>outs hv,by simp,by simpa using hos,fun b hb=>?_⟩
  simp at hb
  exact ⟨.inl hb,(hosl0 b hb).1,(hosl0 b hb).2⟩
 .have hn0:0<xs.length:=List.length_pos_iff.2 hx0
  let inst:Inhabited (Fin xs.length):=⟨⟨0,hn0⟩⟩
  let d:Array (Fin xs.length):=Array.ofFn id
  have hd:d.size=xs.length:=by simp [d]
  have hdv:∀ i:Nat,i<xs.length->(d[i]!).1=i:=fun i hi=>by
   rw [getElem!_pos d i (by rw [hd]; exact hi)]; simp [d]
  have hnd:d.toList.Nodup:=by
   refine List.pairwise_iff_getElem.2 fun i j hi hj hij=>?_
   simp [d,Fin.ext_iff]
   omega
  obtain ⟨d',⟨hs',hp,hso⟩,law⟩:=law d hd
  have hd':d'.size=xs.length:=hs'.trans hd
  refine ⟨d'.toList.map fun i=>xs[i],?_,?_,hen,?_⟩
  .have e1:d.toList.map (fun i=>xs[i])=xs:=by
    simp only [d,Array.toList_ofFn]
    apply List.ext_getElem <;> simp
   have:=hp.map (fun i:Fin xs.length=>xs[i])
   rw [e1] at this
   exact this
  .rw [List.pairwise_map]
   exact hso.imp fun h=>by simpa [ltOf] using h
  .intro w vs os F0 hl hos hosl0 hF hrep
   have hosl:=fun b hb=>(hosl0 b hb).1
   obtain ⟨v,rfl,hv⟩:=inv hl hrep
   rcases hv.own_inv with ⟨h0,_⟩ | ⟨b,cap,c,os',rfl,rfl,hb,hnc,hcs,hL⟩
   .omega
   rw [hce] at hcs
   have hle:xs.length*k<=c.size:=Nat.le_trans (Nat.mul_le_mul_right k hnc) hcs
   have hnod:=List.nodup_cons.1 hos
   obtain ⟨f,f1,f2,f3,f4⟩:=RepL.els A k hk hL hnod.2
   have hbz:b<w.heap.size:=hosl b (by simp)
   let enc:Fin xs.length->List Value:=fun i=>(c.toList.drop (i.1*k)).take k
   have hek:∀ x,(enc x).length=k:=fun i=>by
    have e1:i.1*k+k<=xs.length*k:=by
     have:=Nat.mul_le_mul_right k (show i.1+1<=xs.length from i.2)
     rw [Nat.add_mul,Nat.one_mul] at this
     exact this
    simp only [enc,List.length_take,List.length_drop,Array.length_toList]
    omega
   have he1:∀ x,∀ v∈enc x,v.oneCell'=true:=fun i v hv=>by
    have h1:=(f1 i.1 i.2).oneCell v
    rw [hk _ (List.getElem_mem i.2)] at h1
    refine h1 ?_
    rw [List.take_take,Nat.min_self]
    exact hv
   have hx:∀ m os2 (dk:Array (Fin xs.length)) (i:Fin xs.length),RepL P (sortWorldK enc k w b 0 m dk os2) (fun z=>z<(sortWorldK enc k w b 0 m dk os2).heap.size) (frzL (A xs[i])) (enc i) []:=fun m os2 dk i=>by
    have h1:=(f1 i.1 i.2).frz (F':=fun z=>z<w.heap.size/\z≠b) (fun z hz=>⟨hF z hz,fun e=>(hosl0 b (by simp)).2 (e ▸ hz)⟩)
     (fun z hz=>⟨hosl z (by simp [f2 _ z hz]),fun e=>hnod.1 (e ▸ f2 _ z hz)⟩)
    exact h1.mono (fun z hz=>Nat.lt_of_lt_of_le hz.1 (Ext.sorted enc k w b m dk os2 (G:=fun z=>z<w.heap.size/\z≠b) (fun _ h=>h)).size) (fun z hz=>by
     rcases hz with hz | hz
     .exact zec enc k w b 0 m dk os2 hz.1 hz.2
     .simp at hz)
   have key:=law w b cap enc hek he1 hbz (ziI hn0 k w b hb hle d hd hdv) hx
   rw [hd] at key
   refine key.mono ?_
   rintro e' w' ⟨rfl,m,os2,rfl⟩
   have hnd':d'.toList.Nodup:=hp.nodup_iff.2 hnd
   obtain ⟨j1,j2⟩:=RepL.join (P:=P) (w:=w) A k hk (by simpa using hle) f1 f3 f4 d'.toList hnd'
   have hEx:=Ext.sorted enc k w b m d' os2 (G:=fun z=>z<w.heap.size/\z ∉ b::os') (fun z hz=>⟨hz.1,fun e=>hz.2 (by simp [e])⟩)
   have hsub:∀ z,z∈d'.toList.flatMap (fun i=>f i.1)->z∈os':=fun z hz=>by
    obtain ⟨i,_,h⟩:=List.mem_flatMap.1 hz
    exact f2 _ z h
   refine ⟨_,[],b::d'.toList.flatMap (fun i=>f i.1),F0,rfl,hEx,fun _ h=>h,fun _ h=>.inl h,fun tm oss=>.tup [] [] [] rfl (.nil _),fun tm oss=>?_,by simp,?_,fun z hz=>?_⟩
   .have hcells:(putCells id 0 (flatK enc k d') c).toList.take (xs.length*k)=d'.toList.flatMap enc:=by
     apply List.ext_getElem?
     intro j
     by_cases hj:j<xs.length*k
     .rw [zfY enc k hek _ _ (by simpa [hd'] using hj)]
      have hjc:j<c.size:=by omega
      rw [List.getElem?_take_of_lt hj]
      have g1:=get_flatK enc k d' j (by rw [hd']; exact hj)
      rw [getElem!_pos _ j (by rw [size_flatK,hd']; exact hj)] at g1
      have k0:0<k:=by rcases Nat.eq_zero_or_pos k with h | h; · subst h; simp at hj
                      .exact h
      have hq:j / k<d'.size:=by rw [hd']; exact Nat.div_lt_of_lt_mul (by rw [Nat.mul_comm]; exact hj)
      rw [getElem!_pos d' (j / k) hq] at g1
      simp [putCells,hjc,hd',hj,hq]
      simpa [Array.getElem?_eq_getElem hq] using g1
     .rw [List.getElem?_eq_none (by simp; omega),List.getElem?_eq_none]
      rw [zfm enc k hek,Array.length_toList,hd']
      omega
    have hL2:RepL P (sortWorldK enc k w b 0 m d' os2) F0 ((d'.toList.map fun i=>xs[i]).flatMap A) (putCells id 0 (flatK enc k d') c).toList (d'.toList.flatMap fun i=>f i.1):=by
     refine RepL.of_take (k:=xs.length*k) ?_
     rw [hcells]
     refine RepL.mono (F:=F0) (fun _ h=>h) j1 (fun z hz=>?_)
     rcases hz with hz | hz
     .exact hEx.block z ⟨hF z hz,fun hm=>(hosl0 z hm).2 hz⟩
     .exact zec enc k w b 0 m d' os2 (hosl z (by simp [hsub z hz])) (fun e=>hnod.1 (e ▸ hsub z hz))
    have hown:RepC P (sortWorldK enc k w b 0 m d' os2) F0 (.own e xs.length ((d'.toList.map fun i=>xs[i]).flatMap A)) (.slice (some ⟨b,0,none⟩) xs.length cap) (b::d'.toList.flatMap fun i=>f i.1) :=
     .own b e xs.length cap _ _ _ (zmX enc k w b 0 m d' os2 hb) hnc (by rw [hce]; simpa [putCells] using hcs) hL2
    exact outs hown
   .simp only [List.nil_append]
    exact List.nodup_cons.2 ⟨fun h=>hnod.1 (hsub _ h),j2⟩
   .simp only [List.not_mem_nil,false_or,List.mem_cons] at hz
    refine ⟨.inl ?_,?_,?_⟩
    .rcases hz with rfl | hz
     .simp
     .simp [hsub z hz]
    rotate_left
    .rcases hz with rfl | hz
     .exact (hosl0 _ (by simp)).2
     .exact (hosl0 z (by simp [hsub z hz])).2
    .refine Nat.lt_of_lt_of_le ?_ hEx.size
     rcases hz with rfl | hz
     .exact hbz
     .exact hosl z (by simp [hsub z hz])
theorem GCon.sorted {f:FuncId} {e:TypeId} {n:Nat} {β:Type} {A:β->List AV} {xs ys:List β} {gs:List AV} {hs:List Value} (h:GCon P f (.own e n (xs.flatMap A)::gs) (.tup []) (.own e n (ys.flatMap A)::hs.map fun _=>.any)) (hp:ys.Perm xs) (hf:zav (xs.flatMap A)=true) :
  MCon P f (.own e n (xs.flatMap A)::gs) (.tup []) (.own e n (ys.flatMap A)::hs.map fun _=>.any):=by
 refine h.m (by simp [zax,zav]) (zc8.2 fun c hc=>?_)
 rcases List.mem_cons.1 hc with rfl | hc
 .simp only [zax]
  refine zc8.2 fun c hc=>zc8.1 hf c ?_
  obtain ⟨x,hx,h⟩:=List.mem_flatMap.1 hc
  exact List.mem_flatMap.2 ⟨x,hp.subset hx,h⟩
 .obtain ⟨_,_,rfl⟩:=List.mem_map.1 hc
  rfl
theorem zh2 (L:SlLaysF0.n6 P ρ) (k:Nat) (aE:∀ w,(isAgg (ρ.t 24)).run P w=.ok true w) (zE:∀ w,(Go.sizeOf (ρ.t 24)).run P w=.ok k w) (hen:zcE P (ρ.f 6)) {β:Type} (A:β->List AV) (cf:β->β->Int)
  (hO:SWO (ltOf cf)) (g:FuncId) (e:TypeId) (hce:P.cellsOf e=k) (xs:List β) (hk:∀ x∈xs,(A x).length=k)
  (hc:∀ x∈xs,∀ y∈xs,@Con ⟨1⟩ P g [.agg (frzL (A x)),.agg (frzL (A y))] (.int (cf x y))) (hsz:xs.length<4611686018427387904) :
  ∃ ys:List β,ys.Perm xs/\ys.Pairwise (fun x y=>¬ cf y x<0)/\GCon P (ρ.f 6) [.own e xs.length (xs.flatMap A),.val (.func (.func g) #[] #[])] (.tup []) [.own e xs.length (ys.flatMap A),.any]:=by
 refine zfj hen A k cf e hce xs hk [.func (.func g) #[] #[]] (fun _ p cap w=>AnyF.slices_SortFunc_none L p cap (.func (.func g) #[] #[]) w) fun d hd=>?_
 have hO':SWO (ltOf fun i j:Fin xs.length=>cf xs[i] xs[j]):=⟨fun x=>hO.irrefl _,fun x y z=>hO.trans _ _ _,fun x y z=>hO.ntrans _ _ _⟩
 refine ⟨_,zfQ (pdq_sorts _ hO' d 0 d.size (Lib.bitLen d.size) true true (Nat.zero_le _) (Nat.le_refl _) (Or.inl rfl)),fun w b cap enc hek he1 hbz hH hx=>?_⟩
 have hcmp:CmpLays P g #[] enc k (fun i j:Fin xs.length=>cf xs[i] xs[j]) b 0 d.size w:=by
  intro m os2 dk hdk x y
  have hfl:∀ i:Fin xs.length,(frzL (A xs[i])).length=(enc i).length:=fun i=>by
   rw [zbW,List.length_map,hek]; exact hk _ (List.getElem_mem i.2)
  have hcc:=(hc xs[x] (List.getElem_mem x.2) xs[y] (List.getElem_mem y.2)).2 (sortWorldK enc k w b 0 m dk os2) [.agg (enc x).toArray,.agg (enc y).toArray] rfl
   (fun tm oss=>.cons _ _ [] _ _ [] (.agg _ _ [] (hfl x) (hx m os2 dk x).toT) (.cons _ _ [] _ _ [] (.agg _ _ [] (hfl y) (hx m os2 dk y).toT) (.nil _)))
  refine hcc.mono ?_
  rintro e' w' ⟨v,o,rfl,h1,h2,_⟩
  refine ⟨?_,@Ext.grown ⟨1⟩ _ _ rfl h1⟩
  rw [(h2 (fun _=>undef) (fun _=>[])).val_eq]
 have x0:0<xs.length:=Nat.lt_of_le_of_lt (Nat.zero_le _) (default:Fin xs.length).2
 exact AnyQ.slices_SortFunc_eq L k aE zE enc hek he1 _ hO' g #[] b 0 cap d w (fun args w=>za0 (hc _ (List.getElem_mem x0) _ (List.getElem_mem x0)).1 args) hcmp hH hbz (by rw [hd]; exact hsz)
theorem znM (L:SlLaysF0.n6 P ρ) (k:Nat) (aE:∀ w,(isAgg (ρ.t 24)).run P w=.ok true w) (zE:∀ w,(Go.sizeOf (ρ.t 24)).run P w=.ok k w) (hen:zcE P (ρ.f 6)) {β:Type} (A:β->List AV) (cf:β->β->Int)
  (hO:SWO (ltOf cf)) (g:FuncId) (e:TypeId) (hce:P.cellsOf e=k) (xs:List β) (hk:∀ x∈xs,(A x).length=k) (hfr:zav (xs.flatMap A)=true)
  (hc:∀ x∈xs,∀ y∈xs,@Con ⟨1⟩ P g [.agg (frzL (A x)),.agg (frzL (A y))] (.int (cf x y))) (hsz:xs.length<4611686018427387904) :
  ∃ ys:List β,ys.Perm xs/\ys.Pairwise (fun x y=>¬ cf y x<0)/\MCon P (ρ.f 6) [.own e xs.length (xs.flatMap A),.val (.func (.func g) #[] #[])] (.tup []) [.own e xs.length (ys.flatMap A),.any]:=by
 obtain ⟨ys,h1,h2,h3⟩:=zh2 L k aE zE hen A cf hO g e hce xs hk hc hsz
 exact ⟨ys,h1,h2,GCon.sorted (hs:=[undef]) h3 h1 hfr⟩
end
end Go.Abs


namespace Go.Abs
variable [DrawK]
open Go.RowKit (Below)
open Go.Proofs Go.Sort Go.Shelf Go.RowKit Go.Lib
theorem zwg {α:Type} [Inhabited α] (enc:α->Value) (w:World) (blk off m:Nat) (dk:Array α) (os:Array Obj):sortWorld enc w blk off m dk os=sortWorldK (fun x=>[enc x]) 1 w blk off m dk os:=by
 unfold sortWorld sortWorldK putRowK
 congr 1
 unfold putRow
 congr 1
 funext c
 unfold putCells
 refine Array.ext (by simp) fun i h1 h2=>?_
 simp only [Array.getElem_mapIdx,size_flatK,Nat.mul_one,id]
 split
 .rename_i h
  rw [get_flatK _ _ _ _ (by omega),Nat.div_one,Nat.mod_one]; rfl
 .rfl
section
variable {P:Program} {ρ:Ren}
theorem zg5 {β:Type} (B:β->AV) (cf:β->β->Int) (g:FuncId) (xs:List β) [Inhabited (Fin xs.length)] (hc:∀ x∈xs,∀ y∈xs,@Con ⟨1⟩ P g [frz (B x),frz (B y)] (.int (cf x y))) (d:Array (Fin xs.length)) (w:World) (b:Nat) (enc:Fin xs.length->List Value)
  (hek:∀ x,(enc x).length=1) (he1:∀ x,∀ v∈enc x,v.oneCell'=true) (hH:HoldsK enc 1 w b 0 d)
  (hx:∀ m os (dk:Array (Fin xs.length)) (i:Fin xs.length),RepL P (sortWorldK enc 1 w b 0 m dk os) (fun z=>z<(sortWorldK enc 1 w b 0 m dk os).heap.size) (frzL [B xs[i]]) (enc i) []) :
  ∃ en:Fin xs.length->Value,OneCell en/\(∀ m (dk:Array (Fin xs.length)) os2,sortWorld en w b 0 m dk os2=sortWorldK enc 1 w b 0 m dk os2)/\CmpLays1 P g #[] en (fun i j:Fin xs.length=>cf xs[i] xs[j]) b 0 d.size w/\Holds en w b 0 d:=by
 have hen:∀ i,enc i=[(enc i)[0]?.getD undef]:=fun i=>by
  match enc i,hek i with
  | [v],_=>rfl
 have hsw:∀ m (dk:Array (Fin xs.length)) os2,sortWorld (fun i=>(enc i)[0]?.getD undef) w b 0 m dk os2=sortWorldK enc 1 w b 0 m dk os2:=fun m dk os2=>by
  have e1:enc=fun i=>[(enc i)[0]?.getD undef]:=funext hen
  conv=>rhs; rw [e1]
  exact zwg _ w b 0 m dk os2
 refine ⟨_,fun i=>he1 i _ (by rw [hen i]; simp),hsw,?_,fun j hj=>?_⟩
 .intro m os2 dk hdk x y
  rw [hsw]
  have h1:∀ i:Fin xs.length,RepC P (sortWorldK enc 1 w b 0 m dk os2) (fun z=>z<(sortWorldK enc 1 w b 0 m dk os2).heap.size) (frz (B xs[i])) ((enc i)[0]?.getD undef) []:=fun i=>by
   have h2:=hx m os2 dk i
   rw [hen i] at h2
   exact h2.one
  refine ((hc xs[x] (List.getElem_mem x.2) xs[y] (List.getElem_mem y.2)).2 (sortWorldK enc 1 w b 0 m dk os2) [_,_] rfl (fun tm oss=>.cons _ _ [] _ _ [] (.cell _ _ _ (h1 x)) (.cons _ _ [] _ _ [] (.cell _ _ _ (h1 y)) (.nil _)))).mono ?_
  rintro e' w' ⟨v,o,rfl,h1,h2,_⟩
  refine ⟨?_,@Ext.grown ⟨1⟩ _ _ rfl h1⟩
  rw [(h2 (fun _=>undef) (fun _=>[])).val_eq]
 .have h:=hH j (by rw [size_flatK]; omega)
  have e1:(flatK enc 1 d)[j]! = (enc d[j]!)[0]?.getD undef:=by
   rw [get_flatK enc 1 d j (by omega),hen]
   show [(enc d[j / 1]!)[0]?.getD undef][j%1]! = _
   rw [Nat.div_one,Nat.mod_one]; rfl
  rw [e1] at h
  exact h
theorem zlO (L:SlLaysF.n6 P ρ) (hen:zcE P (ρ.f 6)) {β:Type} (B:β->AV) (cf:β->β->Int)
  (hO:SWO (ltOf cf)) (g:FuncId) (e:TypeId) (hce:P.cellsOf e=1) (xs:List β) (hfr:zav (xs.flatMap fun x=>[B x])=true)
  (hc:∀ x∈xs,∀ y∈xs,@Con ⟨1⟩ P g [frz (B x),frz (B y)] (.int (cf x y))) (hsz:xs.length<4611686018427387904) :
  ∃ ys:List β,ys.Perm xs/\ys.Pairwise (fun x y=>¬ cf y x<0)/\MCon P (ρ.f 6) [.own e xs.length (xs.flatMap fun x=>[B x]),.val (.func (.func g) #[] #[])] (.tup []) [.own e xs.length (ys.flatMap fun x=>[B x]),.any]:=by
 obtain ⟨ys,h1,h2,h3⟩:=zfj hen (fun x=>[B x]) 1 cf e hce xs (fun _ _=>rfl) [.func (.func g) #[] #[]] (fun _ p cap w=>AnyF.slices_SortFunc_none (P:=P) (ρ:=ρ) { L with } p cap (.func (.func g) #[] #[]) w) fun d hd=>by
  have hO':SWO (ltOf fun i j:Fin xs.length=>cf xs[i] xs[j]):=⟨fun x=>hO.irrefl _,fun x y z=>hO.trans _ _ _,fun x y z=>hO.ntrans _ _ _⟩
  refine ⟨_,zfQ (pdq_sorts _ hO' d 0 d.size (Lib.bitLen d.size) true true (Nat.zero_le _) (Nat.le_refl _) (Or.inl rfl)),fun w b cap enc hek he1 hbz hH hx=>?_⟩
  obtain ⟨en,k1,k2,k3,k4⟩:=zg5 B cf g xs hc d w b enc hek he1 hH hx
  have x0:0<xs.length:=Nat.lt_of_le_of_lt (Nat.zero_le _) (default:Fin xs.length).2
  refine (Any.slices_SortFunc_eq L en k1 _ hO' g #[] b 0 cap d w (fun args w=>za0 (hc _ (List.getElem_mem x0) _ (List.getElem_mem x0)).1 args) k3 k4 hbz (by rw [hd]; exact hsz)).mono ?_
  rintro e' w' ⟨h1,m,os2,h2⟩
  exact ⟨h1,m,os2,by rw [h2,k2]⟩
 exact ⟨ys,h1,h2,GCon.sorted (hs:=[undef]) h3 h1 hfr⟩
end
end Go.Abs


namespace Go.Abs
variable [DrawK]
open Go.RowKit (Below)
theorem zko {W V:List Nat} {T:List (Nat × AV)} {S0 S:St} (h1:Off W S0 S) (h2:Trk S T) (h3:Nb V T) (hV:∀ i,i∈W->i ∉ V->(T.lookup i).isSome=true) (hVW:∀ i∈V,i∈W):Weak S (reset W T S0):=by
 intro P N G w0 a w h
 obtain ⟨F,oss,h⟩:=h
 let oss':Nat->List Nat:=fun i=>if (T.lookup i).isNone && W.contains i then [] else oss i
 have hsub:∀ i b,b∈oss' i->b∈oss i:=fun i b hb=>by
  simp only [oss'] at hb; split at hb
  .simp at hb
  .exact hb
 have hkV:∀ s p u,¬ s∈V->zah w (oss s) (tmo a s) p u->zah w (oss' s) (tmo a s) p u:=by
  intro s p u hs k
  have:oss' s=oss s:=by
   simp only [oss']
   refine if_neg ?_
   by_cases hw:s∈W
   .have:=hV s hw hs
    cases hl:T.lookup s with
    | none=>rw [hl] at this; simp at this
    | some v=>simp
   .simp [hw]
  rw [this]; exact k
 have hk:∀ s p u,¬ s∈W->zah w (oss s) (tmo a s) p u->zah w (oss' s) (tmo a s) p u:=fun s p u hs=>hkV s p u fun h=>hs (hVW s h)
 refine ⟨F,oss',{ sz:=h.sz,kp:=h.kp,df:=h.df,ext:=h.ext,fB:=h.fB,fN:=h.fN,gw:=h.gw,oG:=fun i b hb=>h.oG i b (hsub i b hb),xG:=by simp,fw:=h.fw,rep:=fun i=>?_,own:=fun i b hb=>h.own i b (hsub i b hb),nd:=fun i=>?_,dj:=fun i j b hi hj=>h.dj i j b (hsub i b hi) (hsub j b hj),xo:=by simp,xn:=List.nodup_nil,xd:=by simp }⟩
 .show RepT P w F (tmo a) oss' (match T.lookup i with | some v=>v | none=>if W.contains i then .any else kl W (S0 i)) (tmo a i) (oss' i)
  split
  .rename_i v hl
   have e:oss' i=oss i:=by simp only [oss']; rw [if_neg (by simp [hl])]
   rw [e]
   have:=h.rep i
   rw [h2.lookup hl] at this
   have k:=RepT.kl V (fun _ h=>h) hkV this (fun _ _=>rfl)
   rwa [h3.lookup hl] at k
  .rename_i hl
   split
   .rename_i hc
    have e:oss' i=[]:=by simp only [oss']; rw [if_pos (by simp [hl]; simpa using hc)]
    rw [e]; exact .any _
   .rename_i hc
    have e:oss' i=oss i:=by simp only [oss']; rw [if_neg (by simp; intro _; simpa using hc)]
    rw [e,<- h1 i (by simpa using hc)]
    exact RepT.kl W (fun _ h=>h) hk (h.rep i) (fun _ _=>rfl)
 .simp only [oss']; split
  .exact List.nodup_nil
  .exact h.nd i
def zli {α:Type} (W V:List Nat) (T:α->List (Nat × AV)) (inv:α->Prop) (μ:α->Nat) (x:α) (S0:St) (Q:Exit->St->Prop):Exit->St->Prop
 | .normal,S=>∃ y,inv y/\μ y<μ x/\Off W S0 S/\Trk S (T y)/\Nb V (T y)
 | e,S=>Q e S
@[go_sem] theorem zrE {α:Type} (W V:List Nat) (T:α->List (Nat × AV)) (inv:α->Prop) (μ:α->Nat) (x:α) (S0:St) (Q:Exit->St->Prop) (S:St) :
  zli W V T inv μ x S0 Q .normal S=∃ y,inv y/\μ y<μ x/\Off W S0 S/\Trk S (T y)/\Nb V (T y):=rfl
@[go_sem] theorem zuY {α:Type} (W V:List Nat) (T:α->List (Nat × AV)) (inv:α->Prop) (μ:α->Nat) (x:α) (S0:St) (Q:Exit->St->Prop) (S:St) :
  zli W V T inv μ x S0 Q .ret S=Q .ret S:=rfl
@[go_sem] theorem zs5 {α:Type} (W V:List Nat) (T:α->List (Nat × AV)) (inv:α->Prop) (μ:α->Nat) (x:α) (S0:St) (Q:Exit->St->Prop) (S:St) (id:Nat) :
  zli W V T inv μ x S0 Q (.exit id) S=Q (.exit id) S:=rfl
section
variable {P:Program} {N:Nat × List Nat}
theorem zdR {cf:Cfg} {b:Code} {Q:Exit->St->Prop} {S0:St} {α:Type} (W V:List Nat) (T:α->List (Nat × AV)) (inv:α->Prop) (μ:α->Nat) (x0:α)
  (hV:∀ x i,i∈W->i ∉ V->((T x).lookup i).isSome=true) (hVW:∀ i∈V,i∈W)
  (h0:inv x0) (h1:Trk S0 (T x0)) (h2:Nb V (T x0)) (h:∀ x,inv x->vc P cf N b (zli W V T inv μ x S0 Q) (reset W (T x) S0)):zkZ (vc P cf N b) Q S0:=by
 refine ⟨fun n S=>∃ x,inv x/\n=μ x/\S=reset W (T x) S0,⟨μ x0,_,zko (Off.refl W S0) h1 h2 (hV x0) hVW,x0,h0,rfl,rfl⟩,?_⟩
 rintro n S ⟨x,hx,rfl,rfl⟩
 refine zn4 (fun e S hq=>?_) (h x hx)
 cases e with
 | normal =>
  obtain ⟨y,y1,y2,y3,y4,y5⟩:=hq
  exact ⟨μ y,y2,_,zko y3 y4 y5 (hV y) hVW,y,y1,rfl,rfl⟩
 | _=>exact hq
end
end Go.Abs


namespace Go.Abs
variable [DrawK]
open Go.RowKit (Below)
open Go.Proofs Go.Sort Go.Shelf Go.RowKit Go.Lib
section
variable {P:Program} {ρ:Ren}
theorem zhr (L:SlLaysF.n20 P ρ) (hen:zcE P (ρ.f 20)) {β:Type} (B:β->AV) (cf:β->β->Int)
  (hO:SWO (ltOf cf)) (g:FuncId) (e:TypeId) (hce:P.cellsOf e=1) (xs:List β) (hfr:zav (xs.flatMap fun x=>[B x])=true)
  (hc:∀ x∈xs,∀ y∈xs,@Con ⟨1⟩ P g [frz (B x),frz (B y)] (.int (cf x y))) (hsz:xs.length<4611686018427387904) :
  ∃ ys:List β,ys.Perm xs/\ys.Pairwise (fun x y=>¬ cf y x<0)/\MCon P (ρ.f 20) [.own e xs.length (xs.flatMap fun x=>[B x]),.val (.int .i64 0),.val (.int .i64 xs.length),.val (.func (.func g) #[] #[])] (.tup []) [.own e xs.length (ys.flatMap fun x=>[B x]),.any,.any,.any]:=by
 obtain ⟨ys,h1,h2,h3⟩:=zfj hen (fun x=>[B x]) 1 cf e hce xs (fun _ _=>rfl) [.int .i64 0,.int .i64 xs.length,.func (.func g) #[] #[]] (fun h p cap w=>by subst h; exact AnyF.insertionSortCmpFunc_none (P:=P) (ρ:=ρ) { L with } p cap (.func (.func g) #[] #[]) w) fun d hd=>by
  have hO':SWO (ltOf fun i j:Fin xs.length=>cf xs[i] xs[j]):=⟨fun x=>hO.irrefl _,fun x y z=>hO.trans _ _ _,fun x y z=>hO.ntrans _ _ _⟩
  refine ⟨_,zfQ (insertionSort_holds hO' d 0 d.size (Nat.zero_le _) (Nat.le_refl _)),fun w b cap enc hek he1 hbz hH hx=>?_⟩
  obtain ⟨en,k1,k2,k3,k4⟩:=zg5 B cf g xs hc d w b enc hek he1 hH hx
  have x0:0<xs.length:=Nat.lt_of_le_of_lt (Nat.zero_le _) (default:Fin xs.length).2
  have key:=Any.insertionSortCmpFunc_s L en _ g #[] b 0 cap 0 d.size d d w w (fun args w=>za0 (hc _ (List.getElem_mem x0) _ (List.getElem_mem x0)).1 args) k3 ⟨k1,k4,hbz⟩ rfl (SW.start k4) (Nat.zero_le _) (Nat.le_refl _) (by rw [hd]; exact hsz)
  rw [hd] at key |-
  refine key.mono ?_
  rintro e' w' ⟨h1,m,os2,h2⟩
  exact ⟨h1,m,os2,by rw [h2,k2]⟩
 exact ⟨ys,h1,h2,GCon.sorted (hs:=[undef,undef,undef]) h3 h1 hfr⟩
end
end Go.Abs


namespace Go.Abs
variable [DrawK]
open Go.RowKit (Below)
section
variable {P:Program} {N:Nat × List Nat} {G:Nat->Prop} {w0:W0} {w w':World} {S:St} {a:Act} {F:Nat->Prop} {oss:Nat->List Nat} {X:List Nat}
end
end Go.Abs

