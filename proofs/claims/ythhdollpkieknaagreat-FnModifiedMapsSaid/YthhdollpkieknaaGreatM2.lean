/- Texts of the own layer and contracts, part 2: AbsT2 AbsT3 AbsT4 AbsK AbsD2 AbsD3 AbsD4 AbsD5 AbsV. -/
import Derived.Lib.MinMax
import Derived.Lib.SliceRun
import Derived.Test.YthhdollpkieknaaGreatM1
set_option linter.unusedSectionVars false
set_option linter.unusedVariables false
set_option linter.unusedSimpArgs false
set_option maxHeartbeats 4000000
set_option maxRecDepth 100000
namespace Go.Abs
variable [DrawK]
open Go.RowKit (Below)
section
variable {P:Program} {N:Nat × List Nat} {G:Nat->Prop} {w0:W0} {w w':World} {S:St} {a:Act} {F:Nat->Prop} {oss:Nat->List Nat} {X:List Nat}
def plc (S:St) (x:Operand):Option (Nat × List Nat × Nat × Nat) :=
 match x,aop S x with
 | .tmp t,.own _ n _=>some (t,[],0,n)
 | .tmp _,.slp s p o n=>some (s,p,o,n)
 | .tmp _,.bor s p=>match ctn S s p with
  | some (.own _ n _,_)=>some (s,p,0,n)
  | _=>none
 | _,_=>none
theorem zm5 (h:Core P N G w0 S a w F oss X) {x:Operand} {s:Nat} {p:List Nat} {o n:Nat} (hx:plc S x=some (s,p,o,n)) {cc:AV} {cs:List AV} (hc:ctn S s p=some (cc,cs)) (hne:cs≠[])
  {u:Value} (hu:zah w (oss s) (tmo a s) p u):∃ b cap,zaP u=some b/\a.eval x=.slice (some ⟨b,o,none⟩) n cap:=by
 obtain ⟨hk,hg,hkc⟩:=zaC hc
 obtain ⟨u',o1,ou,o2,k1,k2,k3,k4,k5,k6⟩:=h.inplace hk hg
 have:=zaq hu k1; subst this
 unfold plc at hx
 split at hx
 .rename_i t e m ds hS
  simp only [Option.some.injEq,Prod.mk.injEq] at hx; obtain ⟨rfl,rfl,rfl,rfl⟩:=hx
  simp only [aop] at hS
  simp [getP,hS] at hg; subst hg
  simp [kids] at hkc; subst hkc
  have hev:a.eval (.tmp t)=tmo a t:=rfl
  have hu:u=tmo a t:=hu
  rw [hev,<- hu]
  cases k2 with
  | own0=>exact (hne rfl).elim
  | own b e n cap c cs os hb hn hc hl=>exact ⟨b,cap,rfl,rfl⟩
 .rename_i t s' p' o' n' hS
  simp only [Option.some.injEq,Prod.mk.injEq] at hx; obtain ⟨rfl,rfl,rfl,rfl⟩:=hx
  simp only [aop] at hS
  have hr:=h.get t
  rw [hS] at hr
  generalize a.eval (.tmp t)=v at hr |-
  generalize oss t=ot at hr
  cases hr with
  | cell _ _ _ hc=>cases hc
  | slp _ _ _ _ cap u2 b hw hb hn =>
   have:=zaq hu hw; subst this
   exact ⟨b,cap,hb,rfl⟩
 .rename_i t s' p' hS
  split at hx
  .rename_i e m ds ds' hct
   simp only [Option.some.injEq,Prod.mk.injEq] at hx; obtain ⟨rfl,rfl,rfl,rfl⟩:=hx
   rw [hct] at hc
   simp only [Option.some.injEq,Prod.mk.injEq] at hc; obtain ⟨rfl,rfl⟩:=hc
   simp [kids] at hkc; subst hkc
   simp only [aop] at hS
   have hr:=h.get t
   rw [hS] at hr
   generalize a.eval (.tmp t)=v at hr |-
   generalize oss t=ot at hr
   cases hr with
   | cell _ _ _ hc=>cases hc
   | bor _ _ _ hw =>
    have:=zaq hu hw; subst this
    cases k2 with
    | own0=>exact (hne rfl).elim
    | own b e n cap c cs os hb hn hc hl=>exact ⟨b,cap,rfl,rfl⟩
  .simp at hx
 .simp at hx
def srcC (S:St) (y:Operand):Option (Nat × List AV) :=
 match y,aop S y with
 | _,.val (.slice none 0 0)=>some (0,[])
 | _,.sl m ds=>some (m,ds)
 | .tmp _,.own _ m ds=>if zaO ds then none else some (m,ds)
 | .tmp _,.bor s p=>match ctn S s p with
  | some (.own _ m _,ds)=>if zaO ds then none else some (m,ds)
  | _=>none
 | .tmp _,.slp s p o m=>match ctn S s p with
  | some (_,ds)=>if zaO ds || ds.isEmpty then none else some (m,ds.drop o)
  | _=>none
 | _,_=>none
theorem zlB (h:Core P N G w0 S a w F oss X) {y:Operand} {m:Nat} {ds:List AV} (hy:srcC S y=some (m,ds)) :
  ∃ base cap vs,a.eval y=.slice base m cap/\RepL P w F ds vs []/\((base=none/\m=0)\/(m=0/\ds=[])\/∃ b off,base=some ⟨b,off,none⟩/\∀ j u,vs[j]?=some u->w.cell? ⟨b,off+j,none⟩=some u):=by
 have row:∀ {s:Nat} {p:List Nat} {c:AV} {ds:List AV},ctn S s p=some (c,ds)->ds≠[]->zaO ds=false->∀ {u:Value},zah w (oss s) (tmo a s) p u ->
   ∃ b e cc,zaP u=some b/\w.heap[b]?=some (.cells cc e (0,0))/\RepL P w F ds cc.toList []:=by
  intro s p c ds hct hne ho u hu
  obtain ⟨hk,hg,hkc⟩:=zaC hct
  obtain ⟨u',o1,ou,o2,k1,k2,k3,k4,k5,k6⟩:=h.inplace hk hg
  have:=zaq hu k1; subst this
  obtain ⟨b,e,cc,ol,r1,r2,r3,r4,r5⟩:=zjv k2 hkc hne
  have:=r4.noOwn ho
  subst this
  exact ⟨b,e,cc,r1,r3,r4⟩
 obtain ⟨os,hop,_⟩:=h.op y
 unfold srcC at hy
 split at hy
 .rename_i hv
  simp only [Option.some.injEq,Prod.mk.injEq] at hy; obtain ⟨rfl,rfl⟩:=hy
  exact ⟨none,0,[],h.int hv,.nil _,.inl ⟨rfl,rfl⟩⟩
 .rename_i hv
  simp only [Option.some.injEq,Prod.mk.injEq] at hy; obtain ⟨rfl,rfl⟩:=hy
  rw [hv] at hop
  generalize a.eval _=u at hop |-
  cases hop with
  | cell _ _ _ hc=>cases hc with
   | sl0 base cap=>exact ⟨base,cap,[],rfl,.nil _,.inr (.inl ⟨rfl,rfl⟩)⟩
   | sl b off n cap c e fr cs hF hb hl hn =>
    exact ⟨_,cap,_,rfl,hl,.inr (.inr ⟨b,off,rfl,fun j u hj=>by rw [zbt hb]; simpa [List.getElem?_drop] using hj⟩)⟩
 .rename_i t e m' ds' hv
  split at hy
  .simp at hy
  .rename_i ho
   simp only [Option.some.injEq,Prod.mk.injEq] at hy; obtain ⟨rfl,rfl⟩:=hy
   rw [hv] at hop
   generalize a.eval (.tmp t)=u at hop |-
   cases hop with
   | cell _ _ _ hc=>cases hc with
    | own0=>exact ⟨none,0,[],rfl,.nil _,.inl ⟨rfl,rfl⟩⟩
    | own b e n cap c cs ol hb hn hc hl =>
     have:=hl.noOwn (by simpa using ho)
     subst this
     exact ⟨_,cap,_,rfl,hl,.inr (.inr ⟨b,0,rfl,fun j u hj=>by rw [zbt hb]; simpa using hj⟩)⟩
 .rename_i t s p hv
  split at hy
  .rename_i e m' ds1 ds' hct
   split at hy
   .simp at hy
   .rename_i ho
    simp only [Option.some.injEq,Prod.mk.injEq] at hy; obtain ⟨rfl,rfl⟩:=hy
    rw [hv] at hop
    generalize a.eval (.tmp t)=u at hop |-
    cases hop with
    | cell _ _ _ hc=>cases hc
    | bor _ _ _ hw =>
     obtain ⟨hk,hg,hkc⟩:=zaC hct
     obtain ⟨u',o1,ou,o2,k1,k2,k3,k4,k5,k6⟩:=h.inplace hk hg
     have:=zaq hw k1; subst this
     simp [kids] at hkc; subst hkc
     cases k2 with
     | own0=>exact ⟨none,0,[],rfl,.nil _,.inl ⟨rfl,rfl⟩⟩
     | own b e n cap c cs ol hb hn hc hl =>
      have:=hl.noOwn (by simpa using ho)
      subst this
      exact ⟨_,cap,_,rfl,hl,.inr (.inr ⟨b,0,rfl,fun j u hj=>by rw [zbt hb]; simpa using hj⟩)⟩
  .simp at hy
 .rename_i t s p o m' hv
  split at hy
  .rename_i c ds' hct
   split at hy
   .simp at hy
   .rename_i ho
    simp only [Option.some.injEq,Prod.mk.injEq] at hy; obtain ⟨rfl,rfl⟩:=hy
    simp at ho
    rw [hv] at hop
    generalize a.eval (.tmp t)=u at hop |-
    cases hop with
    | cell _ _ _ hc=>cases hc
    | slp _ _ _ _ cap u2 b hw hb hn =>
     obtain ⟨b',e,cc,q1,q2,q3⟩:=row hct (by intro e; subst e; simp at ho) ho.1 hw
     rw [hb] at q1; injection q1 with q1; subst q1
     exact ⟨_,cap,_,rfl,q3.drop o,.inr (.inr ⟨b,o,rfl,fun j u hj=>by rw [zbt q2]; simpa [List.getElem?_drop] using hj⟩)⟩
  .simp at hy
 .simp at hy
def cpS (P:Program) (S:St) (d:Nat) (T:TypeId) (x y:Operand):R :=
 match zaE P T with
 | some e=>match zar P e with
  | some (es,_,_)=>match plc S x,srcC S y with
   | some (s,p,o,n),some (m,ds)=>match ctn S s p with
    | some (cc,cs)=>some (cs≠[]/\o+min m n*es<=cs.length/\min m n*es<=ds.length,zad x++zad y++[s],
      [.n s (putP (S s) p (zbr cc (setMany cs o (ds.take (min m n*es))))),.w d (.val (.int .i64 (min m n:Nat)))])
    | none=>none
   | _,_=>none
  | none=>none
 | none=>none
theorem zrl (h:Core P N G w0 S a w F oss []) {T T' ty:TypeId} {d:Nat} (hd:OkD N d) {x y:Operand} {p:Prop} {rd:List Nat} {U:List Upd} (hm:cpS P S d T x y=some (p,rd,U)) (hp:p) :
  ∃ v w',(Builtin.copy_ #[T,T'] ty #[a.eval x,a.eval y]).run P w=.ok v w'/\StRel P N G w0 (app U S) (a.put (some d) v) w':=by
 unfold cpS at hm
 split at hm
 .rename_i e hT
  split at hm
  .rename_i es by_ zs hI
   split at hm
   .rename_i s q o n m ds hx hy
    split at hm
    .rename_i cc cs hct
     simp only [Option.some.injEq,Prod.mk.injEq] at hm; obtain ⟨rfl,rfl,rfl⟩:=hm
     obtain ⟨hne,hlen,hds⟩:=hp
     obtain ⟨hk,hg,hkc⟩:=zaC hct
     obtain ⟨u,o1,ou,o2,k1,k2,k3,k4,k5,k6⟩:=h.inplace hk hg
     obtain ⟨b,cap,hb,hxe⟩:=zm5 h hx hct hne k1
     obtain ⟨b',e',cur,ol,r1,r2,r3,r4,r5⟩:=zjv k2 hkc hne
     rw [hb] at r1; injection r1 with r1; subst r1
     obtain ⟨base,cap',vs,hye,hl,hsrc⟩:=zlB h hy
     obtain ⟨i,z,hi,_,hs,_,_,_,hcs⟩:=zaR hI
     have hz:∀ w,(sizeOf e).run P w=.ok es w:=fun w=>by rw [zaQ hi,hcs]
     have hu:=zaX hT
     generalize hkk:min m n=k at hlen hds
     have hll:=hl.length_le
     have hnl:(vs.take (k*es)).length=k*es:=by rw [List.length_take]; omega
     have hnr:RepL P w F (ds.take (k*es)) (vs.take (k*es)) []:=by
      have:=(hl.pref (k*es)).take
      rw [List.length_take,Nat.min_eq_left hds] at this
      exact this
     have hone:∀ v∈vs.take (k*es),v.oneCell'=true:=by
      have:=hnr.oneCell
      rw [List.length_take,Nat.min_eq_left hds,List.take_take,Nat.min_self] at this
      exact this
     have hload:(Builtin.firstCells es k (.slice base m cap')).run P w=.ok (vs.take (k*es)).toArray w:=by
      rcases hsrc with ⟨rfl,rfl⟩ | ⟨rfl,rfl⟩ | ⟨b2,off,rfl,hr⟩
      .have:k=0:=by omega
       subst this; simp [Builtin.firstCells]
      .have:k=0:=by omega
       subst this
       cases base <;> simp [Builtin.firstCells,loadCells,loadCellsFrom]
      .have:=run_loadCells_list (P:=P) w ⟨b2,off,none⟩ (vs.take (k*es)) (fun j v hj=>by
        rw [zaY]; refine hr j v ?_
        rw [List.getElem?_take] at hj; split at hj
        .exact hj
        .simp at hj)
       rw [hnl] at this
       simpa [Builtin.firstCells] using this
     have hcl:=r4.length_le
     have hst:=run_storeCells_at P b o e' (vs.take (k*es)) 0 cur w r3 (by rw [hnl,<- Array.length_toList]; omega) hone
     have hrow:(cur.toList.take (o+0)++vs.take (k*es)++cur.toList.drop (o+0+(vs.take (k*es)).length))=Abs.setMany cur.toList o (vs.take (k*es)):=by
      rw [Nat.add_zero,zcn _ cur.toList o (by rw [hnl]; omega)]
     rw [hrow] at hst
     have hsm:(Abs.setMany cur.toList o (vs.take (k*es))).length=cur.size:=by
      rw [zcn _ cur.toList o (by rw [hnl]; omega)]; simp; rw [<- Array.length_toList]; omega
     let W':=w.setRow b (Abs.setMany cur.toList o (vs.take (k*es))).toArray
     refine ⟨.int .i64 k,W',?_,?_⟩
     .rw [hxe,hye]
      have e1:Nat.min m n=k:=hkk
      simp only [Builtin.copy_,List.getElem?_toArray,List.getElem?_cons_zero,List.getElem?_cons_succ,Sem.run_bind,run_underlying hu,Result.andThen_ok,Builtin.lenOf,Sem.run_pure,e1,hz,hload,hst]
      simp [goInt,W',hst]
     .have hbou:b∈ou:=by rw [r2]; simp
      have hw':∀ z,z≠b->W'.heap[z]?=w.heap[z]?:=fun z hz=>setRow_other w b z _ hz
      have hFb:∀ z,F z->z≠b:=fun z hz ez=>(k4 b hbou).1 (ez ▸ hz)
      have hbol:∀ z,z∈ol->z≠b:=by
       intro z hz ez
       rw [r2] at k5
       exact (List.nodup_cons.1 k5).1 (ez ▸ hz)
      have r4':RepL P W' F cs cur.toList ol:=r4.mono (fun _ h=>h) (fun z hz=>hw' z (by rcases hz with hz | hz; exact hFb z hz; exact hbol z hz))
      have hL':RepL P W' F (ds.take (k*es)) (vs.take (k*es)) []:=hnr.mono (fun _ h=>h) (fun z hz=>hw' z (by rcases hz with hz | hz; exact hFb z hz; simp at hz))
      obtain ⟨os',g1,g2,g3⟩:=RepL.setMany hL' (by rw [hnl,List.length_take]; omega) o r4' (by rw [List.length_take]; omega)
      have hnew:=r5 W' F _ os' (Abs.setMany cur.toList o (vs.take (k*es))).toArray (setRow_heap w b cur _ e' _ r3) (by simpa using hsm) (by simpa using g1)
      have hsz':W'.heap.size=w.heap.size:=by simp [W']
      have g2':∀ z,z∈os'->z∈ol:=fun z hz=>(g2 z hz).elim id (by simp)
      have fin:=k6 W' F _ _ [] rfl rfl ⟨rfl,Nat.le_refl _⟩ (by rw [hsz']; exact Nat.le_refl _) (fun z _ _ hz=>hw' z (fun ez=>hz (ez ▸ hbou))) (fun _ h=>h) (fun _ h=>.inl h) hnew
       (by
        intro z hz
        rw [hsz']
        have hin:z∈ou:=by
         rw [r2]
         rcases List.mem_cons.1 hz with hz | hz
         .simp [hz]
         .simp [g2' z hz]
        exact ⟨.inr (.inl hin),(k4 z hin).2.1,(k4 z hin).1⟩)
       (by
        rw [r2] at k5
        have k5:=List.nodup_cons.1 k5
        exact List.nodup_cons.2 ⟨fun hz=>k5.1 (g2' b hz),g3 (by simpa using k5.2)⟩) (by simp) List.nodup_nil
      exact fin.put0 hd (.cell _ _ _ (.val _ rfl))
    .simp at hm
   .simp at hm
  .simp at hm
 .simp at hm
def plT (P:Program) (T:TypeId) (i:Nat):Option Nat :=
 match P.underlying T with
 | some (.struct fs)=>match fs[i]? with
  | some f=>if zaj P f.type=some none/\P.cellsOf f.type=1 then some f.offset else none
  | none=>none
 | some (.array _ e)=>if zaj P e=some none/\P.cellsOf e=1 then some i else none
 | _=>none
def plOk (P:Program) (T:TypeId):Bool :=
 match P.underlying T with
 | some (.struct fs)=>fs.toList.all fun f=>(P.info? f.type).isSome
 | some (.array _ e)=>(P.info? e).isSome
 | _=>false
def plTs (P:Program) (T:TypeId):List Nat->Option (List Nat)
 | []=>some []
 | i::is=>match plT P T i,plTs P T is with
  | some o,some os=>some (o::os)
  | _,_=>none
def putAll {α:Type}:List α->List Nat->List α->List α
 | l,o::os,c::cs=>putAll (l.set o c) os cs
 | l,_,_=>l
def bdS (P:Program) (cf:Cfg) (S:St) (d:Nat) (T:TypeId) (parts:List (Nat × Operand)):R :=
 match zar P T with
 | some (_,_,zs)=>match tks cf S (parts.map (·.2)),plTs P T (parts.map (·.1)) with
  | some (cs,U),some os=>if zjy zs && plOk P T then some (∀ o∈os,o<zs.length,parts.flatMap (fun x=>zad x.2),U++[.w d (.agg (putAll zs os cs))]) else none
  | _,_=>none
 | none=>none
theorem zeo {α:Type}:∀ (os:List Nat) (l cs:List α),(putAll l os cs).length=l.length
 | [],l,cs=>by cases cs <;> rfl
 | o::os,l,[]=>rfl
 | o::os,l,c::cs=>by rw [putAll,zeo os]; simp
theorem RepL.putAll:∀ {cs:List AV} {us:List Value} {oc:List Nat},RepL P w F cs us oc->cs.length=us.length->∀ {os:List Nat} {l:List AV} {vs:List Value} {ol:List Nat},RepL P w F l vs ol->(∀ o∈os,o<l.length)->os.length=cs.length ->
  ∃ o',RepL P w F (Abs.putAll l os cs) (Abs.putAll vs os us) o'/\(∀ b,b∈o'->b∈ol\/b∈oc)/\((ol++oc).Nodup->o'.Nodup)
 | [],us,oc,h,hl,os,l,vs,ol,k,ho,hn=>by
  cases h
  have:os=[]:=List.eq_nil_of_length_eq_zero (by simpa using hn)
  subst this
  have:us=[]:=by simpa using hl.symm
  subst this
  exact ⟨ol,k,fun b hb=>.inl hb,fun h=>by simpa using h⟩
 | c::cs,us,oc,h,hl,[],l,vs,ol,k,ho,hn=>by simp at hn
 | c::cs,us,oc,h,hl,o::os,l,vs,ol,k,ho,hn=>by
  cases h with
  | cons _ v p1 _ us p2 hc ht =>
   obtain ⟨v0,o1,ou,o2,q1,q2,q3,q4⟩:=RepL.get k (i:=o) (List.getElem?_eq_getElem (ho o (by simp)))
   have k':=q4 w F c p1 v (fun _ h=>h) (fun _ _=>rfl) hc
   obtain ⟨o',m1,m2,m3⟩:=RepL.putAll ht (by simpa using hl) (os:=os) k' (fun o' ho'=>by rw [List.length_set]; exact ho o' (by simp [ho'])) (by simpa using hn)
   refine ⟨o',m1,fun b hb=>?_,fun hn=>m3 ?_⟩
   .rcases m2 b hb with hb | hb
    .simp only [List.mem_append] at hb |-
     rw [q3]
     rcases hb with hb | hb | hb <;> simp [hb]
    .exact .inr (by simp [hb])
   .rw [q3] at hn
    simp only [List.nodup_append,List.mem_append] at hn |-
    obtain ⟨⟨n1,⟨n2,n3,n4⟩,n5⟩,⟨n6,n7,n8⟩,n9⟩:=hn
    refine ⟨⟨n1,⟨n6,n3,fun x hx y hy e=>n9 y (.inr (.inr hy)) x (.inl hx) e.symm⟩,fun x hx y hy=>?_⟩,n7,fun x hx y hy=>?_⟩
    .rcases hy with hy | hy
     .exact n9 x (.inl hx) y (.inl hy)
     .exact n5 x hx y (.inr hy)
    .rcases hx with hx | hx | hx
     .exact n9 x (.inl hx) y (.inr hy)
     .exact n8 x hx y hy
     .exact n9 x (.inr (.inr hx)) y (.inr hy)
theorem zfD {place:Nat->Option (Nat × Nat)}:∀ {is os:List Nat} {us:List Value} {cells:Array Value},(∀ (j i o:Nat),is[j]?=some i->os[j]?=some o->place i=some (o,1))->is.length=os.length->us.length=os.length ->
  (∀ v∈us,v.oneCell'=true)->(∀ o∈os,o<cells.size)->Instr.fill place cells (is.zip us)=some (Abs.putAll cells.toList os us).toArray
 | [],os,us,cells,h,h1,h2,h3,h4=>by
  have:os=[]:=List.eq_nil_of_length_eq_zero (by simpa using h1.symm)
  subst this
  have:us=[]:=List.eq_nil_of_length_eq_zero (by simpa using h2)
  subst this
  simp [Instr.fill,Abs.putAll]
 | i::is,[],us,cells,h,h1,h2,h3,h4=>by simp at h1
 | i::is,o::os,[],cells,h,h1,h2,h3,h4=>by simp at h2
 | i::is,o::os,v::us,cells,h,h1,h2,h3,h4=>by
  have hv:v.cells=#[v]:=zd0 (h3 v (by simp))
  have hp:=h 0 i o rfl rfl
  have ho:=h4 o (by simp)
  have:=zfD (cells:=cells.setIfInBounds o v) (fun j i o hi ho=>h (j+1) i o (by simpa using hi) (by simpa using ho)) (by simpa using h1) (by simpa using h2) (fun v hv=>h3 v (by simp [hv])) (fun o' ho'=>by simpa using h4 o' (by simp [ho']))
  rw [List.zip_cons_cons,Instr.fill,hp]
  simp only [hv,List.size_toArray,List.length_cons,List.length_nil,Nat.zero_add]
  rw [if_neg (by simp; omega)]
  have hs:(#[v]:Array Value).zipIdx.foldl (fun cs (x:Value × Nat)=>cs.setIfInBounds (o+x.2) x.1) cells=cells.setIfInBounds o v:=by simp [Array.zipIdx]
  erw [hs,this]
  rw [Array.toList_setIfInBounds]
  rfl
theorem zlh {T:TypeId}:∀ {is os:List Nat},plTs P T is=some os->is.length=os.length/\∀ (j i o:Nat),is[j]?=some i->os[j]?=some o->plT P T i=some o
 | [],os,h=>by simp [plTs] at h; subst h; simp
 | i::is,os,h=>by
  rw [plTs] at h
  split at h
  .rename_i o os' h1 h2
   injection h with h; subst h
   obtain ⟨k1,k2⟩:=zlh h2
   refine ⟨by simp [k1],fun j i' o' hi ho=>?_⟩
   cases j with
   | zero=>simp at hi ho; subst hi; subst ho; exact h1
   | succ j=>exact k2 j i' o' (by simpa using hi) (by simpa using ho)
  .simp at h
theorem zjo (fs:List Field) (h:fs.all (fun f=>(P.info? f.type).isSome)=true):fs.mapM (fun f=>(P.info? f.type).map fun i=>(f.offset,i.size))=some (fs.map fun f=>(f.offset,P.cellsOf f.type)):=by
 induction fs with
 | nil=>rfl
 | cons f fs ih =>
  simp only [List.all_cons,Bool.and_eq_true] at h
  obtain ⟨i,hi⟩:=Option.isSome_iff_exists.1 h.1
  simp [List.mapM_cons,hi,ih h.2,Program.cellsOf]
theorem zqB (h:Core P N G w0 S a w F oss []) {cf:Cfg} {T:TypeId} {parts:Array (Nat × Operand)} {d:Nat} (hd:OkD N d) {p:Prop} {rd:List Nat} {U:List Upd}
  (hm:bdS P cf S d T parts.toList=some (p,rd,U)) (hp:p) :
  ∃ v,(Instr.build T (parts.map fun (i,x)=>(i,a.eval x))).run P w=.ok v w/\StRel P N G w0 (app U S) (a.put (some d) v) w:=by
 unfold bdS at hm
 split at hm
 .rename_i s by_ zs hI
  split at hm
  .rename_i cs U1 os htk hpl
   split at hm
   .rename_i hz
    simp only [Option.some.injEq,Prod.mk.injEq] at hm; obtain ⟨rfl,rfl,rfl⟩:=hm
    rw [Bool.and_eq_true] at hz
    obtain ⟨i,z,i1,i2,i3,i4,i5,i6,i7⟩:=zaR hI
    subst i6
    obtain ⟨F',oss',oc,k1,k2,k3,k4⟩:=h.tks htk
    simp only [List.append_nil] at k1
    obtain ⟨g1,g2⟩:=zlh hpl
    have hzr:RepL P w F' (z.cells.toList.map cv) z.cells.toList []:=zjK _ hz.1
    have hul:((parts.toList.map (·.2)).map a.eval).length=os.length:=by rw [<- g1]; simp
    have hone:∀ v∈(parts.toList.map (·.2)).map a.eval,v.oneCell'=true:=by
     have:=k2.oneCell
     rw [k3,<- List.length_map (f:=a.eval),List.take_length] at this
     exact this
    obtain ⟨o',m1,m2,m3⟩:=RepL.putAll k2 (by rw [k3]; simp) hzr hp (by rw [k3,<- g1]; simp)
    have hfill:∀ place:Nat->Option (Nat × Nat),(∀ i o,plT P T i=some o->place i=some (o,1))->Instr.fill place z.cells (parts.map fun (i,x)=>(i,a.eval x)).toList=some (Abs.putAll z.cells.toList os ((parts.toList.map (·.2)).map a.eval)).toArray:=by
     intro place hpp
     have e1:(parts.map fun (i,x)=>(i,a.eval x)).toList=(parts.toList.map (·.1)).zip ((parts.toList.map (·.2)).map a.eval):=by
      rw [Array.toList_map]
      generalize parts.toList=l
      induction l with
      | nil=>rfl
      | cons q l ih=>simp [ih]
     rw [e1]
     exact zfD (fun j i o hi ho=>hpp i o (g2 j i o hi ho)) g1 hul hone (fun o ho=>by have:=hp o ho; simpa using this)
    refine ⟨.agg (Abs.putAll z.cells.toList os ((parts.toList.map (·.2)).map a.eval)).toArray,run_build w T _ _ ?_,?_⟩
    .have hok:=hz.2
     unfold plOk at hok
     unfold Program.built
     split at hok
     .rename_i fs hu
      simp only [i1,hu,i2]
      rw [zjo fs.toList (by simpa using hok)]
      refine hfill _ (fun i o hi=>?_)
      unfold plT at hi
      rw [hu] at hi
      simp only at hi
      split at hi
      .rename_i f hf
       split at hi
       .rename_i hk
        injection hi with hi; subst hi
        simp [hf,hk.2]
       .simp at hi
      .simp at hi
     .rename_i n e hu
      obtain ⟨ie,hie⟩:=Option.isSome_iff_exists.1 hok
      simp only [i1,hu,i2,hie]
      refine hfill _ (fun i o hi=>?_)
      unfold plT at hi
      rw [hu] at hi
      simp only at hi
      split at hi
      .rename_i hk
       injection hi with hi; subst hi
       have:ie.size=1:=by have:=hk.2; simpa [Program.cellsOf,hie] using this
       simp [this]
      .simp at hi
     .simp at hok
    .rw [zaH]
     have hsub:=k1.sub (X':=o') (fun b hb=>(m2 b hb).elim (by simp) id) (m3 (by simpa using k1.xn))
     refine hsub.putX hd (.agg _ _ _ ?_ m1.toT)
     rw [zeo,zeo]; simp
   .simp at hm
  .simp at hm
 .simp at hm
def b1S (P:Program) (S:St) (d:Nat) (T:TypeId) (len:Nat) (parts:List (Nat × Operand)):R :=
 match zaE P T,len,parts with
 | some e,1,[(0,.tmp t)]=>match zar P e with
  | some (es,_,_)=>match takeA S t with
   | some (cs,U)=>some (zgc cs=true/\cs.length=es/\0<es/\es<=16777216,[t],U++[.w d (.own e 1 cs)])
   | none=>none
  | none=>none
 | _,_,_=>none
theorem zqN (h:Core P N G w0 S a w F oss []) {T:TypeId} {len:Nat} {parts:Array (Nat × Operand)} {d:Nat} (hd:OkD N d) {p:Prop} {rd:List Nat} {U:List Upd}
  (hm:b1S P S d T len parts.toList=some (p,rd,U)) (hp:p) :
  ∃ v w',(Instr.buildSlice T len (parts.map fun (i,x)=>(i,a.eval x))).run P w=.ok v w'/\StRel P N G w0 (app U S) (a.put (some d) v) w':=by
 unfold b1S at hm
 split at hm
 .rename_i e t hT hparts
  split at hm
  .rename_i es by_ zs hI
   obtain ⟨i,z,i1,i2,i3,i4,i5,i6,i7⟩:=zaR hI
   split at hm
   .rename_i cs U1 htk
    simp only [Option.some.injEq,Prod.mk.injEq] at hm; obtain ⟨rfl,rfl,rfl⟩:=hm
    obtain ⟨hcb,hcl,hpos,hsm⟩:=hp
    obtain ⟨oss1,oc,vs,hv,h1,hes,hlen⟩:=h.takeA htk
    simp only [List.append_nil] at h1
    have hL:=(hes (tmo a) oss1).toL hcb
    have hev:a.eval (.tmp t)=.agg vs.toArray:=hv
    have hpl:(parts.map fun (i,x)=>(i,a.eval x)).toList=[(0,.agg vs.toArray)]:=by
     rw [Array.toList_map,hparts]; simp [hev]
    have hvl:vs.length=es:=by omega
    have hfill:Instr.fill (fun i_1=>some (i_1*i.size,i.size)) ((Array.range (1*i.size)).map (z.cells[·%z.cells.size]!)) (parts.map fun (i,x)=>(i,a.eval x)).toList=some vs.toArray:=by
     rw [hpl]
     have hzc:((Array.range (1*i.size)).map (z.cells[·%z.cells.size]!)).size=es:=by simp [i3]
     generalize (Array.range (1*i.size)).map (z.cells[·%z.cells.size]!)=zc at hzc
     simp only [Instr.fill,Value.cells,Nat.zero_mul,Nat.one_mul,List.size_toArray,hvl,i3]
     rw [if_neg (by simp; omega)]
     simp only [Option.some.injEq]
     apply Array.ext'
     have key:∀ (us:List Value) (k:Nat) (c:Array Value),k+us.length<=c.size->((us.zipIdx k).foldl (fun cs (x:Value × Nat)=>cs.setIfInBounds (0+x.2) x.1) c).toList=c.toList.take k++us++c.toList.drop (k+us.length):=by
      intro us
      induction us with
      | nil=>intro k c _; simp
      | cons u us ih =>
       intro k c hk
       simp only [List.length_cons] at hk
       simp only [List.zipIdx_cons,List.foldl_cons,Nat.zero_add]
       have:=ih (k+1) (c.setIfInBounds k u) (by simp; omega)
       simp only [Nat.zero_add] at this
       rw [this,Array.toList_setIfInBounds]
       rw [List.take_add_one,List.take_set_of_le (Nat.le_refl k),List.drop_set_of_lt (by omega)]
       have hk2:k<c.size:=by omega
       simp [hk2,Nat.add_assoc,Nat.add_comm 1]
     have:=key vs 0 zc (by omega)
     simp only [List.take_zero,List.nil_append,Nat.zero_add] at this
     rw [<- Array.foldl_toList]
     have e2:vs.toArray.zipIdx.toList=vs.zipIdx 0:=by simp
     rw [e2]
     simp only [Nat.zero_add]
     rw [this,List.drop_of_length_le (by simp; omega)]
     simp
    have hu:=zaX hT
    refine ⟨_,_,Go.run_buildSlice w T e 1 _ vs.toArray i z hu i1 i2 (by rw [i3]; omega) (by rw [i3]; omega) hfill,?_⟩
    rw [zaH]
    exact h1.newOwn (w':=w.alloc (.cells vs.toArray e)) (c:=vs.toArray) (e:=e) (cs:=cs) (n:=1) (cap:=1) rfl rfl ⟨rfl,by first | exact Nat.le_refl _ | exact zbk _⟩ (by simp) (heap_alloc_new w _) (fun b hb=>Below.heap_alloc w _ b hb) (Nat.le_refl _) (by rw [i7]; simp; omega) (by simpa using hL) hd
   .simp at hm
  .simp at hm
 .simp at hm
def b0S (P:Program) (d:Nat) (T:TypeId) (parts:List (Nat × Operand)):R :=
 match zaE P T,parts with
 | some e,[]=>match zar P e with
  | some _=>some (True,[],[.w d (.own e 0 [])])
  | none=>none
 | _,_=>none
theorem zpK (h:Core P N G w0 S a w F oss []) {T:TypeId} {parts:Array (Nat × Operand)} {d:Nat} (hd:OkD N d) {p:Prop} {rd:List Nat} {U:List Upd}
  (hm:b0S P d T parts.toList=some (p,rd,U)) :
  ∃ v w',(Instr.buildSlice T 0 (parts.map fun (i,x)=>(i,a.eval x))).run P w=.ok v w'/\StRel P N G w0 (app U S) (a.put (some d) v) w':=by
 unfold b0S at hm
 split at hm
 .rename_i e hT hnil
  have hu:=zaX hT
  split at hm
  .rename_i q hI
   obtain ⟨es,by_,zs⟩:=q
   obtain ⟨i,z,i1,i2,i3,i4,i5,i6,i7⟩:=zaR hI
   simp only [Option.some.injEq,Prod.mk.injEq] at hm; obtain ⟨rfl,rfl,rfl⟩:=hm
   refine ⟨_,_,?_,h.newOwn (w':=w.alloc (.cells #[] e)) (c:=#[]) (e:=e) (cs:=[]) (n:=0) (cap:=0) rfl rfl ⟨rfl,by first | exact Nat.le_refl _ | exact zbk _⟩ (by simp) (heap_alloc_new w _) (fun b hb=>Below.heap_alloc w _ b hb) (Nat.le_refl _) (by simp) (by simpa using RepL.nil _) hd⟩
   simp [Instr.buildSlice,run_underlying hu,zaQ i1,newRow,hnil,Instr.fill]
   have:parts=#[]:=by apply Array.ext'; simpa using hnil
   subst this; simp [Array.range_zero']
  .simp at hm
 .simp at hm
def blS (P:Program) (cf:Cfg) (S:St) (d:Nat) (T:TypeId) (len:Nat) (parts:List (Nat × Operand)):R :=
 match zaE P T with
 | some e=>match zaj P e with
  | some (some _)=>if len=0 then b0S P d T parts else b1S P S d T len parts
  | _=>bsS P cf S d T len parts
 | none=>none
theorem zqD (h:Core P N G w0 S a w F oss []) {cf:Cfg} {T:TypeId} {len:Nat} {parts:Array (Nat × Operand)} {d:Nat} (hd:OkD N d) {p:Prop} {rd:List Nat} {U:List Upd}
  (hm:blS P cf S d T len parts.toList=some (p,rd,U)) (hp:p) :
  ∃ v w',(Instr.buildSlice T len (parts.map fun (i,x)=>(i,a.eval x))).run P w=.ok v w'/\StRel P N G w0 (app U S) (a.put (some d) v) w':=by
 unfold blS at hm
 split at hm
 .split at hm
  .split at hm
   .rename_i h0; subst h0; exact zpK h hd hm
   .exact zqN h hd hm hp
  .exact zq6 h hd hm hp
 .simp at hm
end
end Go.Abs


namespace Go.Abs
variable [DrawK]
open Go.RowKit (Below)
section
variable {P:Program} {N:Nat × List Nat} {G:Nat->Prop} {w0:W0} {w w':World} {S:St} {a:Act} {F:Nat->Prop} {oss:Nat->List Nat} {X:List Nat}
def mapT (P:Program) (T:TypeId):Bool :=
 match P.underlying T with
 | some (.map K E)=>match P.underlying K with
  | some (.array 3 I)=>(match P.underlying I with | some (.int .i64)=>true | _=>false) && (match P.info? I with | some i=>i.size == 1 | none=>false) &&
    (match P.info? E with | some i=>(match i.zero with | some (.int .i64 0)=>true | _=>false) | none=>false)
  | _=>false
 | _=>false
structure IsMap (P:Program) (T K E I:TypeId):Prop where
 map:P.underlying T=some (.map K E)
 key:P.underlying K=some (.array 3 I)
 int:P.underlying I=some (.int .i64)
 size:∃ i,P.info? I=some i/\i.size=1
 zero:∃ i,P.info? E=some i/\i.zero=some (.int .i64 0)
theorem zh5 {T:TypeId} (h:mapT P T=true):∃ K E I,IsMap P T K E I:=by
 unfold mapT at h
 split at h
 .rename_i K E hT
  split at h
  .rename_i I hK
   simp only [Bool.and_eq_true] at h
   obtain ⟨⟨h1,h2⟩,h3⟩:=h
   split at h1
   .rename_i hI
    split at h2
    .rename_i i hi
     split at h3
     .rename_i j hj
      split at h3
      .rename_i hz
       exact ⟨K,E,I,hT,hK,hI,⟨i,hi,by simpa using h2⟩,⟨j,hj,hz⟩⟩
      .simp at h3
     .simp at h3
    .simp at h2
   .simp at h1
  .simp at h
 .simp at h
theorem zcT {I:TypeId} (h:∃ i,P.info? I=some i/\i.size=1) (w:World):(sizeOf I).run P w=.ok 1 w:=by
 obtain ⟨i,hi,hs⟩:=h
 simp [sizeOf,typeInfo,hi,hs]
theorem zlK {I:TypeId} (h:P.underlying I=some (.int .i64)) (w:World):(isAgg I).run P w=.ok false w:=zd4 h w
theorem zf1 {I:TypeId} (h:P.underlying I=some (.int .i64)) (k:Key) (w:World) :
  (part I #[.int .i64 k.1,.int .i64 k.2.1,.int .i64 k.2.2] 0).run P w=.ok (.int .i64 k.1) w /\
  (part I #[.int .i64 k.1,.int .i64 k.2.1,.int .i64 k.2.2] 1).run P w=.ok (.int .i64 k.2.1) w /\
  (part I #[.int .i64 k.1,.int .i64 k.2.1,.int .i64 k.2.2] 2).run P w=.ok (.int .i64 k.2.2) w:=by
 refine ⟨?_,?_,?_⟩ <;> simp [part,zlK h]
theorem r3:List.range' 0 3=[0,1,2]:=rfl
theorem zdY {T K E I:TypeId} (h:IsMap P T K E I) (em:Bool) (n:Nat) (k:Key) (w:World):(Instr.checkKey em (n+2) K (keyV k)).run P w=.ok () w:=by
 obtain ⟨p0,p1,p2⟩:=zf1 (P:=P) h.int k w
 have c:∀ v,(Instr.checkKey em (n+1) I (.int .i64 v)).run P w=.ok () w:=fun v=>by rw [Instr.checkKey]; simp [run_underlying h.int]
 rw [Instr.checkKey]
 simp [keyV,run_underlying h.key,r3,zcT h.size,p0,p1,p2,c]
theorem zlE {T K E I:TypeId} (h:IsMap P T K E I) (n:Nat) (k q:Key) (w:World):(Op.equalIn (n+2) K (keyV k) (keyV q)).run P w=.ok (decide (k=q)) w:=by
 obtain ⟨p0,p1,p2⟩:=zf1 (P:=P) h.int k w
 obtain ⟨q0,q1,q2⟩:=zf1 (P:=P) h.int q w
 have c:∀ x y,(Op.equalIn (n+1) I (.int .i64 x) (.int .i64 y)).run P w=.ok (x == y) w:=fun x y=>by rw [Op.equalIn]; simp [run_underlying h.int]
 obtain ⟨k0,k1,k2⟩:=k
 obtain ⟨s0,s1,s2⟩:=q
 simp only at p0 p1 p2 q0 q1 q2
 rw [Op.equalIn]
 by_cases h0:k0=s0
 .by_cases h1:k1=s1
  .by_cases h2:k2=s2
   .subst h0; subst h1; subst h2
    simp [keyV,run_underlying h.key,r3,zcT h.size,p0,p1,p2,c]
   .subst h0; subst h1
    simp [keyV,run_underlying h.key,r3,zcT h.size,p0,p1,p2,q0,q1,q2,c,h2]
  .subst h0
   simp [keyV,run_underlying h.key,r3,zcT h.size,p0,p1,p2,q0,q1,q2,c,h1]
 .simp [keyV,run_underlying h.key,r3,zcT h.size,p0,p1,p2,q0,q1,q2,c,h0]
theorem zcJ {T K E I:TypeId} (h:IsMap P T K E I) (k:Key) (w:World):∀ (es:List MapEntry) (j:Nat),(∀ e∈es,∃ q,e.key=keyV q) ->
  ((Instr.findAsking K (keyV k) es j).run P w=.ok none w/\∀ e∈es,e.key≠keyV k) \/
  ∃ l1 e l2,es=l1++e::l2/\e.key=keyV k/\(∀ e∈l1,e.key≠keyV k)/\(Instr.findAsking K (keyV k) es j).run P w=.ok (some (j+l1.length,e.val)) w
 | [],j,hk=>.inl ⟨by simp [Instr.findAsking],by simp⟩
 | e::es,j,hk=>by
  obtain ⟨q,hq⟩:=hk e (by simp)
  have he:(Op.equal K (keyV k) e.key).run P w=.ok (decide (k=q)) w:=by
   rw [hq]; exact zlE h 9998 k q w
  by_cases hkq:k=q
  .subst hkq
   refine .inr ⟨[],e,es,rfl,hq,by simp,?_⟩
   simp [Instr.findAsking,he]
  .have hne:e.key≠keyV k:=fun e1=>hkq (zfb (by rw [<- e1,hq]))
   rcases zcJ h k w es (j+1) (fun e he=>hk e (by simp [he])) with ⟨h1,h2⟩ | ⟨l1,e1,l2,h1,h2,h3,h4⟩
   .refine .inl ⟨?_,?_⟩
    .simp [Instr.findAsking,he,hkq,h1]
    .intro x hx
     rcases List.mem_cons.1 hx with rfl | hx
     .exact hne
     .exact h2 x hx
   .refine .inr ⟨e::l1,e1,l2,by simp [h1],h2,?_,?_⟩
    .intro x hx
     rcases List.mem_cons.1 hx with rfl | hx
     .exact hne
     .exact h3 x hx
    .simp [Instr.findAsking,he,hkq,h4,Nat.add_assoc,Nat.add_comm 1]
theorem zeP {T K E I:TypeId} (h:IsMap P T K E I) (k:Key) (w:World) (es:List MapEntry) (hk:∀ e∈es,∃ q,e.key=keyV q) :
  ((Instr.findKey K (keyV k) es).run P w=.ok none w/\∀ e∈es,e.key≠keyV k) \/
  ∃ l1 e l2,es=l1++e::l2/\e.key=keyV k/\(∀ e∈l1,e.key≠keyV k)/\(Instr.findKey K (keyV k) es).run P w=.ok (some (l1.length,e.val)) w:=by
 have key:(Instr.findKey K (keyV k) es).run P w=(Instr.findAsking K (keyV k) es 0).run P w:=by
  cases es with
  | nil=>simp [Instr.findKey,run_underlying h.key,Instr.findNow,Instr.findAsking]
  | cons e es=>simp [Instr.findKey,run_underlying h.key,Instr.findNow,Instr.sameNow]
 rw [key]
 have:=zcJ h k w es 0 hk
 simpa using this
def zwa:Key->Option Int:=fun _=>none
def mset (c:Key->Option Int) (k:Key) (v:Int):Key->Option Int:=fun q=>if q=k then some v else c q
def mmS (d:Nat):Option Operand->R
 | none=>some (True,[],[.w d (.mp zwa)])
 | _=>none
theorem znE:MapOk zwa [] 0:=⟨by simp,fun _ _=>rfl,.nil,by simp,by simp⟩
theorem zpV (h:Core P N G w0 S a w F oss []) {T:TypeId} {d:Nat} (hd:OkD N d) {r:Option Operand} {p:Prop} {rd:List Nat} {U:List Upd} (hm:mmS d r=some (p,rd,U)) :
  ∃ v w',(Instr.makeMap T (r.map a.eval)).run P w=.ok v w'/\StRel P N G w0 (app U S) (a.put (some d) v) w':=by
 unfold mmS at hm
 split at hm
 .simp only [Option.some.injEq,Prod.mk.injEq] at hm; obtain ⟨rfl,rfl,rfl⟩:=hm
  refine ⟨.map (some w.heap.size),w.alloc (.map #[] 0),by simp [Instr.makeMap,newObj,Sem.run],?_⟩
  have hh:=heap_alloc_new w (.map #[] 0)
  have k:Core P N G w0 S a (w.alloc (.map #[] 0)) F oss [w.heap.size] :=
   h.world rfl rfl ⟨rfl,Nat.le_refl _⟩ (by simp) (fun b hb _=>Below.heap_alloc w _ b hb) (fun _ h=>h) (fun _ h=>.inl h)
    (fun b hb=>by
     simp only [List.mem_singleton] at hb; subst hb
     exact ⟨.inr (Nat.le_refl _),by simp,fun hf=>by have:=h.fw _ hf; omega⟩) (by simp)
  exact k.putX hd (.cell _ _ _ (.mp _ #[] 0 _ hh znE))
 .simp at hm
def keyA:AV->Option Key
 | .agg [.val (.int .i64 x),.val (.int .i64 y),.val (.int .i64 z)]=>some (x,y,z)
 | _=>none
def mapA (S:St) (x:Operand):Option (Key->Option Int) :=
 match x,aop S x with
 | _,.fmp c=>some c
 | .tmp _,.mp c=>some c
 | .tmp _,.bor s p=>match kids (S s),getP (S s) p with
  | some _,some (.mp c)=>some c
  | _,_=>none
 | _,_=>none
def lkS (P:Program) (S:St) (d:Nat) (T:TypeId) (x i:Operand):Bool->R
 | false=>if mapT P T then match mapA S x,keyA (aop S i) with
  | some c,some k=>some (True,zad x++zad i,[.w d (.val (.int .i64 ((c k).getD 0)))])
  | _,_=>none
  else none
 | true=>none
theorem RepT.valv {tm:Nat->Value} {u v:Value} {os:List Nat} (h:RepT P w F tm oss (.val u) v os):v=u:=by
 generalize hc:AV.val u=c at h
 cases h with
 | cell c v os h=>subst hc; cases h; rfl
 | _=>simp at hc
theorem zgO (h:Core P N G w0 S a w F oss X) {i:Operand} {k:Key} (hk:keyA (aop S i)=some k):a.eval i=keyV k:=by
 obtain ⟨os,ho,_⟩:=h.op i
 unfold keyA at hk
 split at hk
 .rename_i x y z hv
  injection hk with hk; subst hk
  rw [hv] at ho
  generalize a.eval i=u at ho |-
  cases ho with
  | cell _ _ _ hc=>cases hc
  | agg _ vs os hl hL =>
   match vs,hl with
   | [v1,v2,v3],_ =>
    cases hL with
    | cons _ _ _ _ _ _ c1 t1=>cases t1 with
     | cons _ _ _ _ _ _ c2 t2=>cases t2 with
      | cons _ _ _ _ _ _ c3 t3 =>
       rw [c1.valv,c2.valv,c3.valv]
       rfl
 .simp at hk
theorem zmi (h:Core P N G w0 S a w F oss X) {x:Operand} {c:Key->Option Int} (hc:mapA S x=some c):∃ b es clock,a.eval x=.map (some b)/\w.heap[b]?=some (.map es clock)/\MapOk c es.toList clock:=by
 obtain ⟨os,ho,_⟩:=h.op x
 unfold mapA at hc
 split at hc
 .rename_i hv
  injection hc with hc; subst hc
  rw [hv] at ho
  generalize a.eval _=u at ho |-
  cases ho with
  | cell _ _ _ hc=>cases hc with
   | fmp b es clock _ hF hb hm=>exact ⟨b,es,clock,rfl,hb,hm⟩
 .rename_i t c' hv
  injection hc with hc; subst hc
  rw [hv] at ho
  generalize a.eval _=u at ho |-
  cases ho with
  | cell _ _ _ hc=>cases hc with
   | mp b es clock _ hb hm=>exact ⟨b,es,clock,rfl,hb,hm⟩
 .rename_i t s p hv
  split at hc
  .rename_i xx c' hk hg
   injection hc with hc; subst hc
   rw [hv] at ho
   generalize a.eval _=u at ho |-
   cases ho with
   | cell _ _ _ hc=>cases hc
   | bor _ _ _ hw =>
    obtain ⟨u',o1,ou,o2,k1,k2,k3,k4,k5,k6⟩:=h.inplace (by simp [hk]) hg
    have:=zaq hw k1; subst this
    cases k2 with
    | mp b es clock _ hb hm=>exact ⟨b,es,clock,rfl,hb,hm⟩
  .simp at hc
 .simp at hc
theorem MapOk.keys {c:Key->Option Int} {es:List MapEntry} {clock:Nat} (h:MapOk c es clock):∀ e∈es,∃ q,e.key=keyV q:=fun e he=>by
 obtain ⟨k,v,hk,_⟩:=h.ent e he
 exact ⟨k,hk⟩
theorem zqW (h:Core P N G w0 S a w F oss []) {T:TypeId} {d:Nat} (hd:OkD N d) {x i:Operand} {ok:Bool} {p:Prop} {rd:List Nat} {U:List Upd} (hm:lkS P S d T x i ok=some (p,rd,U)) :
  ∃ v,(Instr.lookup T (a.eval x) (a.eval i) ok).run P w=.ok v w/\StRel P N G w0 (app U S) (a.put (some d) v) w:=by
 unfold lkS at hm
 split at hm
 .split at hm
  .rename_i hT
   obtain ⟨K,E,I,hM⟩:=zh5 hT
   split at hm
   .rename_i c k hc hk
    simp only [Option.some.injEq,Prod.mk.injEq] at hm; obtain ⟨rfl,rfl,rfl⟩:=hm
    obtain ⟨b,es,clock,hx,hb,hmo⟩:=zmi h hc
    have hi:=zgO h hk
    refine ⟨.int .i64 ((c k).getD 0),?_,h.put0 hd (.cell _ _ _ (.val _ rfl))⟩
    rw [hx,hi]
    have hget:(getObj b).run P w=.ok (.map es clock) w:=by simp [getObj,Sem.run,hb]
    have hck:=zdY hM es.isEmpty 9998 k w
    have hz:(zeroValue E).run P w=.ok (.int .i64 0) w:=by
     obtain ⟨j,hj,hz⟩:=hM.zero
     simp [zeroValue,typeInfo,hj,hz]
    rcases zeP hM k w es.toList hmo.keys with ⟨h1,h2⟩ | ⟨l1,e,l2,h1,h2,h3,h4⟩
    .rw [hmo.out k h2]
     simp [Instr.lookup,run_underlying hM.map,hget,hck,h1,hz]
    .obtain ⟨q,v,hq,hv,hcv⟩:=hmo.ent e (by rw [h1]; simp)
     have:q=k:=zfb (by rw [<- hq,h2])
     subst this
     rw [hcv]
     simp [Instr.lookup,run_underlying hM.map,hget,hck,h4,hv]
   .simp at hm
  .simp at hm
 .simp at hm
end
end Go.Abs


namespace Go.Abs
variable [DrawK]
open Go.RowKit (Below)
open Go.ChangeMaps (setBlock)
section
variable {P:Program} {N:Nat × List Nat} {G:Nat->Prop} {w0:W0} {w w':World} {S:St} {a:Act} {F:Nat->Prop} {oss:Nat->List Nat} {X:List Nat}
theorem MapOk.put {c:Key->Option Int} {l1 l2:List MapEntry} {e:MapEntry} {clock:Nat} (h:MapOk c (l1++e::l2) clock) {k:Key} (he:e.key=keyV k) (v:Int) :
  MapOk (mset c k v) (l1++{ e with key:=keyV k,val:=.int .i64 v }::l2) clock:=by
 have hnd:=h.nd
 have n1:=List.pairwise_append.1 hnd
 have n2:=List.pairwise_cons.1 n1.2.1
 have other:∀ x,x∈l1\/x∈l2->∃ q v',x.key=keyV q/\x.val=.int .i64 v'/\mset c k v q=some v':=by
  intro x hx
  obtain ⟨q,v',h1,h2,h3⟩:=h.ent x (by rcases hx with hx | hx <;> simp [hx])
  refine ⟨q,v',h1,h2,?_⟩
  have hne:q≠k:=by
   rintro rfl
   rcases hx with hx | hx
   .exact n1.2.2 x hx e (by simp) (by rw [h1,he])
   .exact n2.1 x hx (by rw [h1,he])
  simp [mset,hne,h3]
 refine ⟨fun x hx=>?_,fun q hq=>?_,?_,?_,fun x hx=>?_⟩
 .simp only [List.mem_append,List.mem_cons] at hx
  rcases hx with hx | rfl | hx
  .exact other x (.inl hx)
  .exact ⟨k,v,rfl,rfl,by simp [mset]⟩
  .exact other x (.inr hx)
 .have hne:q≠k:=by
   rintro rfl
   exact hq { e with key:=keyV q,val:=.int .i64 v } (by simp) rfl
  simp only [mset,hne,if_false]
  refine h.out q (fun x hx=>?_)
  simp only [List.mem_append,List.mem_cons] at hx
  rcases hx with hx | rfl | hx
  .exact hq x (by simp [hx])
  .rw [he]; exact fun e1=>hne (zfb e1).symm
  .exact hq x (by simp [hx])
 .refine List.pairwise_append.2 ⟨n1.1,List.pairwise_cons.2 ⟨fun x hx=>?_,n2.2⟩,fun x hx y hy=>?_⟩
  .have:=n2.1 x hx; rw [he] at this; exact this
  .rcases List.mem_cons.1 hy with rfl | hy
   .have:=n1.2.2 x hx e (by simp); rw [he] at this; exact this
   .exact n1.2.2 x hx y (by simp [hy])
 .have:=h.born
  simpa using this
 .simp only [List.mem_append,List.mem_cons] at hx
  rcases hx with hx | rfl | hx
  .exact h.lt x (by simp [hx])
  .exact h.lt e (by simp)
  .exact h.lt x (by simp [hx])
theorem MapOk.push {c:Key->Option Int} {l:List MapEntry} {clock:Nat} (h:MapOk c l clock) {k:Key} (hk:∀ e∈l,e.key≠keyV k) (v:Int) :
  MapOk (mset c k v) (l++[{ key:=keyV k,val:=.int .i64 v,born:=clock }]) (clock+1):=by
 refine ⟨fun x hx=>?_,fun q hq=>?_,?_,?_,fun x hx=>?_⟩
 .simp only [List.mem_append,List.mem_singleton] at hx
  rcases hx with hx | rfl
  .obtain ⟨q,v',h1,h2,h3⟩:=h.ent x hx
   refine ⟨q,v',h1,h2,?_⟩
   have hne:q≠k:=by rintro rfl; exact hk x hx h1
   simp [mset,hne,h3]
  .exact ⟨k,v,rfl,rfl,by simp [mset]⟩
 .have hne:q≠k:=by rintro rfl; exact hq { key:=keyV q,val:=.int .i64 v,born:=clock } (by simp) rfl
  simp only [mset,hne,if_false]
  exact h.out q (fun x hx=>hq x (by simp [hx]))
 .refine List.pairwise_append.2 ⟨h.nd,List.pairwise_singleton _ _,fun x hx y hy=>?_⟩
  simp only [List.mem_singleton] at hy; subst hy
  exact hk x hx
 .rw [List.map_append,List.nodup_append]
  refine ⟨h.born,by simp,fun x hx y hy=>?_⟩
  simp at hy; subst hy
  obtain ⟨e,he,rfl⟩:=List.mem_map.1 hx
  have:=h.lt e he
  omega
 .simp only [List.mem_append,List.mem_singleton] at hx
  rcases hx with hx | rfl
  .have:=h.lt x hx; omega
  .simp
theorem znC {α:Type} (f:α->α) (e:α) (l2:List α):∀ l1:List α,(l1++e::l2).modify l1.length f=l1++f e::l2
 | []=>by simp
 | x::l1=>by simp [znC f e l2 l1]
def mplc (S:St) (x:Operand):Option (Nat × List Nat × (Key->Option Int)) :=
 match x with
 | .tmp t=>match S t with
  | .mp c=>some (t,[],c)
  | .bor s p=>match kids (S s),getP (S s) p with
   | some _,some (.mp c)=>some (s,p,c)
   | _,_=>none
  | _=>none
 | _=>none
def muS (P:Program) (S:St) (T:TypeId) (x i y:Operand):R :=
 if mapT P T then match mplc S x,keyA (aop S i),aop S y with
  | some (s,p,c),some k,.val (.int .i64 v)=>some (True,zad x++zad i++zad y++[s],[.n s (putP (S s) p (.mp (mset c k v)))])
  | _,_,_=>none
 else none
theorem zex (k:Key) (w:World):(Instr.keyThatStays (keyV k) (keyV k)).run P w=.ok (keyV k) w:=by
 have:∀ n,Instr.sameBits (n+2) (keyV k) (keyV k)=true:=fun n=>by simp [Instr.sameBits,keyV]
 have h:Instr.sameBits 10000 (keyV k) (keyV k)=true:=this 9998
 simp [Instr.keyThatStays,h]
theorem zmW (h:Core P N G w0 S a w F oss X) {x:Operand} {s:Nat} {p:List Nat} {c:Key->Option Int} (hx:mplc S x=some (s,p,c)):kids (S s)≠none/\getP (S s) p=some (.mp c)/\zah w (oss s) (tmo a s) p (a.eval x):=by
 unfold mplc at hx
 split at hx
 .rename_i t
  split at hx
  .rename_i c' hS
   simp only [Option.some.injEq,Prod.mk.injEq] at hx; obtain ⟨rfl,rfl,rfl⟩:=hx
   exact ⟨by simp [hS,kids],by simp [getP,hS],rfl⟩
  .rename_i s' p' hS
   split at hx
   .rename_i xx c' hk hg
    simp only [Option.some.injEq,Prod.mk.injEq] at hx; obtain ⟨rfl,rfl,rfl⟩:=hx
    have hr:=h.get t
    rw [hS] at hr
    generalize a.eval (.tmp t)=v at hr |-
    generalize oss t=ot at hr
    cases hr with
    | cell _ _ _ hc=>cases hc
    | bor _ _ _ hw=>exact ⟨by simp [hk],hg,hw⟩
   .simp at hx
  .simp at hx
 .simp at hx
theorem zkl (h:Core P N G w0 S a w F oss []) {T:TypeId} {x i y:Operand} {p:Prop} {rd:List Nat} {U:List Upd} (hm:muS P S T x i y=some (p,rd,U)) :
  ∃ w',(Instr.mapUpdate T (a.eval x) (a.eval i) (a.eval y)).run P w=.ok () w'/\StRel P N G w0 (app U S) a w':=by
 unfold muS at hm
 split at hm
 .rename_i hT
  obtain ⟨K,E,I,hM⟩:=zh5 hT
  split at hm
  .rename_i s q c k v hx hk hv
   simp only [Option.some.injEq,Prod.mk.injEq] at hm; obtain ⟨rfl,rfl,rfl⟩:=hm
   obtain ⟨hks,hg,hw⟩:=zmW h hx
   have hi:=zgO h hk
   rw [h.int hv,hi]
   obtain ⟨u,o1,ou,o2,k1,k2,k3,k4,k5,k6⟩:=h.inplace hks hg
   have:=zaq hw k1
   generalize a.eval x=ux at this hw |-
   subst this
   cases k2 with
   | mp b es clock _ hb hmo =>
    have hget:(getObj b).run P w=.ok (.map es clock) w:=by simp [getObj,Sem.run,hb]
    have hck:=zdY hM false 9998 k w
    have hset:∀ o,(setObj b o).run P w=.ok () (setBlock w b o):=fun o=>by simp [setObj,Sem.run,hb,setBlock]
    have hlt:b<w.heap.size:=(k4 b (by simp)).2.1
    have fin:∀ (es':Array MapEntry) (clock':Nat),MapOk (mset c k v) es'.toList clock'->StRel P N G w0 (app [.n s (putP (S s) q (.mp (mset c k v)))] S) a (setBlock w b (.map es' clock')):=by
     intro es' clock' hmo'
     have hh:(setBlock w b (.map es' clock')).heap[b]?=some (.map es' clock'):=by simp [setBlock,hlt]
     have hw':∀ z,z≠b->(setBlock w b (.map es' clock')).heap[z]?=w.heap[z]?:=fun z hz=>by simp [setBlock,Array.getElem?_setIfInBounds_ne (Ne.symm hz)]
     refine (k6 (setBlock w b (.map es' clock')) F (.mp (mset c k v)) [b] [] rfl rfl ⟨rfl,Nat.le_refl _⟩ (by simp [setBlock]) (fun z _ _ hz=>hw' z (by simpa using hz)) (fun _ h=>h) (fun _ h=>.inl h) (.mp b es' clock' _ hh hmo') ?_ (by simp) (by simp) List.nodup_nil).st
     intro z hz
     simp only [List.mem_singleton] at hz; subst hz
     exact ⟨.inr (.inl (by simp)),by simpa [setBlock] using hlt,(k4 z (by simp)).1⟩
    rcases zeP hM k w es.toList hmo.keys with ⟨h1,h2⟩ | ⟨l1,e,l2,h1,h2,h3,h4⟩
    .refine ⟨_,?_,fin (es.push { key:=keyV k,val:=.int .i64 v,born:=clock }) (clock+1) (by rw [Array.toList_push]; exact hmo.push h2 v)⟩
     simp [Instr.mapUpdate,run_underlying hM.map,hget,hck,h1,hset]
    .have hes:es=(l1++e::l2).toArray:=by apply Array.ext'; simpa using h1
     have hei:es[l1.length]?=some e:=by rw [hes]; simp
     refine ⟨_,?_,fin (es.modify l1.length fun e=>{ e with key:=keyV k,val:=.int .i64 v }) clock ?_⟩
     .have hst:=zex (P:=P) k w
      simp [Instr.mapUpdate,run_underlying hM.map,hget,hck,h4,hei,h2,hst,hset]
     .rw [h1] at hmo
      have:=hmo.put h2 v
      have e1:(es.modify l1.length fun e=>{ e with key:=keyV k,val:=.int .i64 v }).toList=l1++{ e with key:=keyV k,val:=.int .i64 v }::l2:=by
       rw [hes]; simp [znC]
      rw [e1]; exact this
  .simp at hm
 .simp at hm
structure Enum (c:Key->Option Int) (es:List (Key × Int)):Prop where
 nd:es.Pairwise (fun a b=>a.1≠b.1)
 val:∀ p∈es,c p.1=some p.2
 out:∀ k,(∀ p∈es,p.1≠k)->c k=none
theorem MapOk.enum {c:Key->Option Int} {clock:Nat}:∀ {es:List MapEntry},(∀ e∈es,∃ k v,e.key=keyV k/\e.val=.int .i64 v/\c k=some v)->es.Pairwise (fun a b=>a.key≠b.key) ->
  ∃ l:List (Key × Int),(es.map fun e=>(e.key,e.val))=l.map entV/\l.Pairwise (fun a b=>a.1≠b.1)/\(∀ p∈l,c p.1=some p.2)/\∀ p∈l,∃ e∈es,e.key=keyV p.1
 | [],_,_=>⟨[],rfl,.nil,by simp,by simp⟩
 | e::es,h,hn=>by
  obtain ⟨h1,h2⟩:=List.pairwise_cons.1 hn
  obtain ⟨l,k1,k2,k3,k4⟩:=MapOk.enum (clock:=clock) (fun e he=>h e (by simp [he])) h2
  obtain ⟨k,v,e1,e2,e3⟩:=h e (by simp)
  refine ⟨(k,v)::l,by simp [k1,e1,e2,entV],List.pairwise_cons.2 ⟨fun p hp=>?_,k2⟩,?_,?_⟩
  .obtain ⟨x,hx,hxk⟩:=k4 p hp
   intro hk
   simp only at hk
   subst hk
   exact h1 x hx (by rw [e1,hxk])
  .intro p hp
   rcases List.mem_cons.1 hp with rfl | hp
   .exact e3
   .exact k3 p hp
  .intro p hp
   rcases List.mem_cons.1 hp with rfl | hp
   .exact ⟨e,by simp,e1⟩
   .obtain ⟨x,hx,hxk⟩:=k4 p hp
    exact ⟨x,by simp [hx],hxk⟩
theorem MapOk.enum' {c:Key->Option Int} {clock:Nat} {es:List MapEntry} (h:MapOk c es clock):∃ l:List (Key × Int),(es.map fun e=>(e.key,e.val))=l.map entV/\Enum c l:=by
 obtain ⟨l,h1,h2,h3,h4⟩:=MapOk.enum (clock:=clock) h.ent h.nd
 refine ⟨l,h1,h2,h3,fun k hk=>h.out k (fun e he hek=>?_)⟩
 have:(e.key,e.val)∈l.map entV:=by rw [<- h1]; exact List.mem_map.2 ⟨e,he,rfl⟩
 obtain ⟨p,hp,hpe⟩:=List.mem_map.1 this
 have h5:keyV p.1=e.key:=by simpa [entV] using congrArg Prod.fst hpe
 exact hk p hp (zfb (by rw [h5,hek]))
def zhN (N:Nat × List Nat) (c:Key->Option Int) (d:Nat) (K:St->Prop) (S:St):Prop:=OkD N d/\∀ es:List (Key × Int),Enum c es->K (upd d (.it none es) S)
def zkP (P:Program) (T:TypeId):Bool:=match P.underlying T with
 | some (.map _ _)=>true
 | _=>false
def zfk (P:Program) (S:St):Op->Option (Key->Option Int)
 | .range T x=>if zkP P T then match aop S x with
  | .fmp c=>some c
  | _=>none
  else none
 | _=>none
def zew (k:Key):AV:=.agg [.val (.int .i64 k.1),.val (.int .i64 k.2.1),.val (.int .i64 k.2.2)]
def zll (N:Nat × List Nat) (t:Nat) (rem:List (Key × Int)) (d:Nat) (K:St->Prop) (S:St):Prop :=
 OkD N d/\(rem=[]->K (upd d (.tup [.val (.bool false)]) S)) /\
  ∀ l1 k x l2,rem=l1++(k,x)::l2->K (upd d (.tup [.val (.bool true),zew k,.val (.int .i64 x)]) (updn t (.it (some (k,x)) (l1++l2)) S))
def ziP (S:St):Op->Option (Nat × List (Key × Int))
 | .next (.tmp t) false=>match S t with
  | .it _ rem=>some (t,rem)
  | _=>none
 | _=>none
def enS (S:St) (d:Nat) (x:Operand):R :=
 match x with
 | .tmp t=>match S t with
  | .it (some (k,v)) _=>some (True,[t],[.w d (.tup [zew k,.val (.int .i64 v)])])
  | _=>none
 | _=>none
theorem zml (es:Array MapEntry):leftOf es #[]=es:=by simp [leftOf]
theorem zjl (h:Core P N G w0 S a w F oss []) {o:Oper} {c:Key->Option Int} {d:Nat} (hm:zfk P S o.op=some c) (hd:o.dst=some d) {K:St->Prop} (hK:zhN N c d K S)
  {K':Act->World->Prop} {Q:Exit->Act->World->Prop} (hk:∀ S' a' w',K S'->StRel P N G w0 S' a' w'->K' a' w'):o.wp P a w K' Q:=by
 obtain ⟨dst,op,ty,pos,after,guard⟩:=o
 simp only at hm hd
 subst hd
 unfold zfk at hm
 split at hm
 .rename_i T x
  split at hm
  .rename_i hT
   split at hm
   .rename_i c' hx
    injection hm with hm; subst hm
    obtain ⟨os,ho,_⟩:=h.op x
    rw [hx] at ho
    generalize hu:a.eval x=u at ho
    cases ho with
    | cell _ _ _ hc=>cases hc with
     | fmp b es clock _ hF hb hmo =>
      obtain ⟨l,h1,h2⟩:=hmo.enum'
      have hget:(getObj b).run P w=.ok (.map es clock) w:=by simp [getObj,Sem.run,hb]
      obtain ⟨K1,E1,hTu⟩:∃ K1 E1,P.underlying T=some (.map K1 E1):=by
       unfold zkP at hT
       split at hT
       .rename_i K1 E1 hTu; exact ⟨K1,E1,hTu⟩
       .simp at hT
      have hrun:(Instr.range T (a.eval x)).run P w=.ok (.pointer (some ⟨w.heap.size,0,none⟩)) (w.alloc (.mapIter (some b) clock #[] clock)):=by
       rw [hu]
       simp [Instr.range,run_underlying hTu,hget,newObj,Sem.run]
      refine zam (v:=.pointer (some ⟨w.heap.size,0,none⟩)) (w':=w.alloc (.mapIter (some b) clock #[] clock)) (by simp only [execOp,Sem.run_bind,hrun]; rfl) (hk _ _ _ (hK.2 l h2) ?_)
      have hh:=heap_alloc_new w (.mapIter (some b) clock #[] clock)
      have hblt:=h.fw b hF
      have k:Core P N G w0 S a (w.alloc (.mapIter (some b) clock #[] clock)) F oss [w.heap.size] :=
       h.world rfl rfl ⟨rfl,Nat.le_refl _⟩ (by simp) (fun b hb _=>Below.heap_alloc w _ b hb) (fun _ h=>h) (fun _ h=>.inl h)
        (fun b hb=>by
         simp only [List.mem_singleton] at hb; subst hb
         exact ⟨.inr (Nat.le_refl _),by simp,fun hf=>by have:=h.fw _ hf; omega⟩) (by simp)
      refine k.putX hK.1 (.cell _ _ _ (.it _ b #[] es clock c' none l hh hF ((Below.heap_alloc w _ b hblt).trans hb) hmo (by simp) ?_))
      rw [zml,h1]
   .simp at hm
  .simp at hm
 .simp at hm
theorem zjU {es:Array MapEntry} {seen:Array Nat} {e:MapEntry} (hn:(es.toList.map (·.born)).Nodup) (he:e∈(leftOf es seen).toList) :
  (leftOf es seen).toList.Perm (e::(leftOf es (seen.push e.born)).toList):=by
 have e1:(leftOf es seen).toList=es.toList.filter fun e=>!seen.contains e.born:=by simp [leftOf]
 have e2:(leftOf es (seen.push e.born)).toList=es.toList.filter fun x=>!(seen.push e.born).contains x.born:=by simp [leftOf]
 rw [e1] at he |-
 rw [e2]
 generalize es.toList=l at hn he
 obtain ⟨hel,hes⟩:=List.mem_filter.1 he
 obtain ⟨l1,l2,rfl⟩:=List.append_of_mem hel
 rw [List.map_append,List.map_cons,List.nodup_append] at hn
 obtain ⟨n1,n2,n3⟩:=hn
 have n2:=List.nodup_cons.1 n2
 have same:∀ l:List MapEntry,(∀ x∈l,x.born≠e.born)->l.filter (fun x=>!(seen.push e.born).contains x.born)=l.filter (fun x=>!seen.contains x.born):=by
  intro l hl
  apply List.filter_congr
  intro x hx
  have:=hl x hx
  simp [Array.contains_push,this]
 have k1:=same l1 (fun x hx hb=>n3 x.born (List.mem_map.2 ⟨x,hx,rfl⟩) e.born (by simp) hb)
 have k2:=same l2 (fun x hx hb=>n2.1 (List.mem_map.2 ⟨x,hx,hb⟩))
 rw [List.filter_append,List.filter_append,List.filter_cons,List.filter_cons,k1,k2]
 rw [if_pos hes,if_neg (by simp [Array.contains_push])]
 exact List.perm_middle
theorem zja {tm:Nat->Value} (k:Key):RepT P w F tm oss (zew k) (keyV k) []:=by
 have:RepTL P w F tm oss [.val (.int .i64 k.1),.val (.int .i64 k.2.1),.val (.int .i64 k.2.2)] [.int .i64 k.1,.int .i64 k.2.1,.int .i64 k.2.2] [] :=
  .cons _ _ [] _ _ [] (.cell _ _ _ (.val _ rfl)) (.cons _ _ [] _ _ [] (.cell _ _ _ (.val _ rfl)) (.cons _ _ [] _ _ [] (.cell _ _ _ (.val _ rfl)) (.nil _)))
 exact RepT.agg _ _ _ rfl this
theorem zmf (h:Core P N G w0 S a w F oss []) {o:Oper} {t d:Nat} {rem:List (Key × Int)} (hm:ziP S o.op=some (t,rem)) (hd:o.dst=some d) {K:St->Prop} (hK:zll N t rem d K S)
  {K':Act->World->Prop} {Q:Exit->Act->World->Prop} (hk:∀ S' a' w',K S'->StRel P N G w0 S' a' w'->K' a' w'):o.wp P a w K' Q:=by
 obtain ⟨dst,op,ty,pos,after,guard⟩:=o
 simp only at hm hd
 subst hd
 unfold ziP at hm
 split at hm
 .rename_i t'
  split at hm
  .rename_i l0 rem' hS
   simp only [Option.some.injEq,Prod.mk.injEq] at hm; obtain ⟨rfl,rfl⟩:=hm
   obtain ⟨u,o1,ou,o2,k1,k2,k3,k4,k5,k6⟩:=h.inplace (s:=t') (p:=[]) (by simp [hS,kids]) (show getP (S t') []=some (.it l0 rem') by simp [getP,hS])
   have hu:u=tmo a t':=k1
   have hev:a.eval (.tmp t')=tmo a t':=rfl
   rw [<- hu] at hev
   clear hu
   cases k2 with
   | it r b seen es clock c _ _ hr hF hb hmo hl hrem =>
    rcases run_next_at (P:=P) w ty r b clock clock seen es clock hr hb (fun x hx=>hmo.lt x hx) (Nat.le_refl _) with ⟨hz,hrun⟩ | ⟨e,he,w1,hw1,hrun⟩
    .have hnil:rem'=[]:=by
      have:(leftOf es seen).toList=[]:=by
       apply List.eq_nil_of_length_eq_zero; simpa using hz
      rw [this] at hrem
      simpa using hrem
     refine zam (v:=.tuple #[.bool false]) (w':=w) (by simp only [execOp,Sem.run_bind,hev,hrun]; rfl) (hk _ _ _ (hK.2.1 hnil) ?_)
     refine h.put0 hK.1 (.tup _ [.bool false] [] rfl (.cons _ _ [] _ _ [] (.cell _ _ _ (.val _ rfl)) (.nil _)))
    .have hin:(e.key,e.val)∈rem'.map entV:=hrem.mem_iff.1 (List.mem_map.2 ⟨e,he,rfl⟩)
     obtain ⟨p,hp,hpe⟩:=List.mem_map.1 hin
     obtain ⟨l1,l2,rfl⟩:=List.append_of_mem hp
     obtain ⟨k,x⟩:=p
     have hke:e.key=keyV k:=by simpa [entV] using (congrArg Prod.fst hpe).symm
     have hve:e.val=.int .i64 x:=by simpa [entV] using (congrArg Prod.snd hpe).symm
     refine zam (v:=.tuple #[.bool true,e.key,e.val]) (w':=setBlock w1 r (.mapIter (some b) clock (seen.push e.born) clock)) (by simp only [execOp,Sem.run_bind,hev,hrun]; rfl) (hk _ _ _ (hK.2.2 l1 k x l2 rfl) ?_)
     have hw1h:w1.heap=w.heap:=by rcases hw1 with rfl | rfl <;> rfl
     have hw1o:w1.os=w.os/\w1.tape=w.tape/\w1.output=w.output:=by rcases hw1 with rfl | rfl <;> exact ⟨rfl,rfl,rfl⟩
     have hw1o':w.drawn*dK<=w1.drawn*dK:=by rcases hw1 with rfl | rfl <;> first | exact Nat.le_refl _ | exact zbk _
     have hrlt:r<w.heap.size:=(k4 r (by simp)).2.1
     have hh:(setBlock w1 r (.mapIter (some b) clock (seen.push e.born) clock)).heap[r]?=some (.mapIter (some b) clock (seen.push e.born) clock):=by simp [setBlock,hw1h,hrlt]
     have hoth:∀ z,z≠r->(setBlock w1 r (.mapIter (some b) clock (seen.push e.born) clock)).heap[z]?=w.heap[z]?:=fun z hz=>by simp [setBlock,hw1h,Array.getElem?_setIfInBounds_ne (Ne.symm hz)]
     have hbr:b≠r:=fun eb=>(k4 r (by simp)).1 (eb ▸ hF)
     have hperm:=zjU hmo.born he
     have hrem2:((leftOf es (seen.push e.born)).toList.map fun e=>(e.key,e.val)).Perm ((l1++l2).map entV):=by
      have q1:((e.key,e.val)::(leftOf es (seen.push e.born)).toList.map fun e=>(e.key,e.val)).Perm ((l1++(k,x)::l2).map entV) :=
       ((hperm.map (fun (e:MapEntry)=>(e.key,e.val))).symm).trans hrem
      have q2:((l1++(k,x)::l2).map entV).Perm (entV (k,x)::(l1++l2).map entV):=by
       have:=(List.perm_middle (a:=(k,x)) (l₁:=l1) (l₂:=l2)).map entV
       simp at this |-
      have q3:=q1.trans q2
      rw [<- hpe] at q3
      exact q3.cons_inv
     have hees:e∈es.toList:=(mem_left he).1
     have fin:=k6 (setBlock w1 r (.mapIter (some b) clock (seen.push e.born) clock)) F (.it (some (k,x)) (l1++l2)) [r] [] hw1o.1 hw1o.2.1 ⟨hw1o.2.2,hw1o'⟩ (by simp [setBlock,hw1h]) (fun z _ _ hz=>hoth z (by simpa using hz)) (fun _ h=>h) (fun _ h=>.inl h)
      (.it r b (seen.push e.born) es clock c _ _ hh hF ((hoth b hbr).trans hb) hmo (fun p hp=>by injection hp with hp; subst hp; exact ⟨e,hees,⟨seen,rfl⟩,hpe.symm⟩) hrem2)
      (by
       intro z hz
       simp only [List.mem_singleton] at hz; subst hz
       exact ⟨.inr (.inl (by simp)),by simpa [setBlock,hw1h] using hrlt,(k4 z (by simp)).1⟩) (by simp) (by simp) List.nodup_nil
     have e0:putP (S t') [] (.it (some (k,x)) (l1++l2))=.it (some (k,x)) (l1++l2):=rfl
     rw [e0] at fin
     rw [hke,hve]
     exact fin.put0 hK.1 (.tup _ [.bool true,keyV k,.int .i64 x] [] rfl (.cons _ _ [] _ _ [] (.cell _ _ _ (.val _ rfl)) (.cons _ _ [] _ _ [] (zja k) (.cons _ _ [] _ _ [] (.cell _ _ _ (.val _ rfl)) (.nil _)))))
  .simp at hm
 .simp at hm
theorem zrs (h:Core P N G w0 S a w F oss []) {d:Nat} (hd:OkD N d) {x:Operand} {p:Prop} {rd:List Nat} {U:List Upd} (hm:enS S d x=some (p,rd,U)) :
  ∃ v,(Instr.entry (a.eval x)).run P w=.ok v w/\StRel P N G w0 (app U S) (a.put (some d) v) w:=by
 unfold enS at hm
 split at hm
 .rename_i t
  split at hm
  .rename_i k v rem hS
   simp only [Option.some.injEq,Prod.mk.injEq] at hm; obtain ⟨rfl,rfl,rfl⟩:=hm
   have hr:=h.get t
   rw [hS] at hr
   generalize a.eval (.tmp t)=u at hr |-
   generalize oss t=ot at hr
   cases hr with
   | cell _ _ _ hc=>cases hc with
    | it r b seen es clock c _ _ hr hF hb hmo hl hrem =>
     obtain ⟨e,he,⟨s1,rfl⟩,hpe⟩:=hl _ rfl
     have hke:e.key=keyV k:=by simpa [entV] using congrArg Prod.fst hpe
     have hve:e.val=.int .i64 v:=by simpa [entV] using congrArg Prod.snd hpe
     have hrun:=run_entry_at (P:=P) w r b clock s1 es clock e hr hb he hmo.born
     refine ⟨_,hrun,?_⟩
     rw [hke,hve]
     exact h.put0 hd (.tup _ [keyV k,.int .i64 v] [] rfl (.cons _ _ [] _ _ [] (zja k) (.cons _ _ [] _ _ [] (.cell _ _ _ (.val _ rfl)) (.nil _))))
  .simp at hm
 .simp at hm
end
end Go.Abs


namespace Go.Abs
variable [DrawK]
open Go.RowKit (Below)
def za2 (N:Nat × List Nat) (d:Nat):R->R
 | some (p,rd,U)=>some (OkD N d/\p,rd,U)
 | none=>none
def mvR (cf:Cfg) (S:St) (d:Nat) (x:Operand):R :=
 match mvS cf S d x with
 | some (rd,U)=>some (True,rd,U)
 | none=>none
def valR (d:Nat) (rd:List Nat):Option (Prop × Value)->R
 | some (p,v)=>some (p,rd,[.w d (.val v)])
 | none=>none
def ldR (P:Program) (S:St) (d:Nat) (T:TypeId) (x:Operand):R :=
 match zaj P T with
 | some none=>match ld1S S d x with
  | some (rd,U)=>some (True,rd,U)
  | none=>none
 | some (some m)=>ldAS S d m x
 | none=>none
def stR (P:Program) (cf:Cfg) (S:St) (T:TypeId) (x y:Operand):R :=
 match zaj P T with
 | some none=>st1S P cf S T x y
 | some (some _)=>stAS P S T x y
 | none=>none
def cap1 (S:St) (x:Operand):Option AV :=
 match x,aop S x with
 | _,.any=>none
 | .tmp t,.box _ _=>some (.bor t [])
 | _,c=>if zbC c then none else some c
def caps (S:St):List Operand->Option (List AV)
 | []=>some []
 | x::xs=>match cap1 S x,caps S xs with
  | some c,some cs=>some (c::cs)
  | _,_=>none
def mfS (S:St) (d:Nat) (f:FuncId) (xs:List Operand):R :=
 match caps S xs with
 | some cs=>some (True,xs.flatMap zad,[.w d (.fn f cs)])
 | none=>none
def mxS (S:St) (d:Nat) (x y:Operand) (g:Bool):R:=match aop S x,aop S y with
 | .val (.int k m),.val (.int _ n)=>valR d (zad x++zad y) (some (True,.int k (if g then max m n else min m n)))
 | _,_=>none
def ncS (S:St) (d:Nat) (x:Operand):R:=match x with
 | .tmp t=>match S t with
  | .bor s []=>match S s with
   | .box _ _=>some (True,[t,s],[.w d (.bor s [])])
   | _=>none
  | _=>none
 | _=>none
def zdG (P:Program) (cf:Cfg) (N:Nat × List Nat) (S:St) (op:Op) (dst:Option Nat):R :=
 match op,dst with
 | .move x,some d=>za2 N d (mvR cf S d x)
 | .assign x,some d=>za2 N d (mvR cf S d x)
 | .pick c x y,some d=>match aop S c with
  | .val (.bool true)=>za2 N d (mvR cf S d x)
  | .val (.bool false)=>za2 N d (mvR cf S d y)
  | _=>none
 | .binOp o T x y _,some d=>match aop S x,aop S y with
  | .val (.int k m),.val (.int k' n)=>if k=k' then za2 N d (valR d (zad x++zad y) (if cf.tko.contains 999999 then binW o k m n else binI o k m n)) else za2 N d (valR d (zad x++zad y) (shB o k m n))
  | .val (.bool m),.val (.bool n)=>if zl0 P T then za2 N d (valR d (zad x++zad y) (binB o m n)) else none
  | .val (.string m),.val (.string n)=>za2 N d (valR d (zad x++zad y) (binS o m n))
  | _,_=>none
 | .unOp o _ x,some d=>match aop S x with
  | .val v=>za2 N d (valR d (zad x) (unI o v))
  | _=>none
 | .convert s t x,some d=>match zaj P s,aop S x with
  | some none,.val v=>za2 N d (valR d (zad x) (cnI P t v))
  | _,_=>none
 | .nilCheck x,some d=>za2 N d (ncS S d x)
 | .load T x,some d=>za2 N d (ldR P S d T x)
 | .store T x y,none=>stR P cf S T x y
 | .makeFunc (.func f) ⟨[]⟩ xs,some d=>za2 N d (mfS S d f xs.toList)
 | .alloc T,some d=>za2 N d (alS P d T)
 | .box T x,some d=>za2 N d (bxS cf N S d T x)
 | .fieldAddr T x i,some d=>za2 N d (faS P S d T x i)
 | .indexAddr T x i,some d=>za2 N d (ixR P S d T x i)
 | .index T x i,some d=>za2 N d (ivS P S N d T x i)
 | .field T x i,some d=>za2 N d (fdS P S N d T x i)
 | .slice T x lo hi none,some d=>za2 N d (slS P cf S d T x lo hi)
 | .build T parts,some d=>za2 N d (bdS P cf S d T parts.toList)
 | .makeMap _ r,some d=>za2 N d (mmS d r)
 | .lookup T x i ok,some d=>za2 N d (lkS P S d T x i ok)
 | .mapUpdate T x i y,none=>muS P S T x i y
 | .insert T x i y,none=>muS P S T x i y
 | .entry x,some d=>za2 N d (enS S d x)
 | .extract t i,some d=>za2 N d (exS S N d t i)
 | .buildSlice T len parts,some d=>za2 N d (blS P cf S d T len parts.toList)
 | .makeSlice T l c,some d=>za2 N d (mkS P S d T l c)
 | .call { callee:=.builtin .append,args:=⟨[x,y]⟩,argTypes:=⟨[T,T']⟩ },some d=>if T=T' then za2 N d (apS P S d T x y) else none
 | .call { callee:=.builtin .len,args:=⟨[x]⟩,argTypes:=⟨[T]⟩ },some d=>za2 N d (lnS P S d T x)
 | .call { callee:=.builtin .copy,args:=⟨[x,y]⟩,argTypes:=⟨[T,_]⟩ },some d=>za2 N d (cpS P S d T x y)
 | .call { callee:=.builtin .max,args:=⟨[x,y]⟩,argTypes:=_ },some d=>za2 N d (mxS S d x y true)
 | .call { callee:=.builtin .min,args:=⟨[x,y]⟩,argTypes:=_ },some d=>za2 N d (mxS S d x y false)
 | _,_=>none
def zcE (P : Program) (f : FuncId) : Prop := ∃ fn, P.funcs[f]? = some fn /\ (fn.name == "runtime.NumGoroutine") = false /\ fn.body.isNone = false
def Con (P:Program) (f:FuncId) (args:List AV) (r:AV):Prop:=zcE P f/\zkr P f args r
def CallVC (P:Program) (cf:Cfg) (N:Nat × List Nat) (f:FuncId) (args:List AV) (dst:Option Nat) (K:St->Prop) (S:St):Prop :=
 ∃ r,Con P f args r/\match dst with
  | some d=>OkD N d/\K (upd d (if cf.fz.contains d then frz r else r) S)
  | none=>K S
theorem CallVC.of {P:Program} {cf:Cfg} {N:Nat × List Nat} {f:FuncId} {args:List AV} {d:Nat} {K:St->Prop} {S:St} {r:AV} (hc:Con P f args r)
  (h:K (upd d (if cf.fz.contains d then frz r else r) S)) (hd:OkD N d:=by decide):CallVC P cf N f args (some d) K S:=⟨r,hc,hd,h⟩
def MCon (P:Program) (f:FuncId) (args:List AV) (r:AV) (outs:List AV):Prop:=zcE P f/\zvK P f args r outs
def zj1 (S:St) (l:Loc):Bool:=match l.2 with
 | []=>true
 | [_]=>(kids (S l.1)).isSome
 | _=>false
def MKVC (P:Program) (N:Nat × List Nat) (f:FuncId) (args:List AV) (S:St) (xs:List Operand) (S1:St) (dst:Option Nat) (K:St->Prop):Prop :=
 ∃ r outs,MCon P f args r outs/\match zaG S xs outs with
  | some lf=>match ptLs S1 (zao S xs) lf with
   | some S2=>match dst with
    | some d=>OkD N d/\K (upd d r S2)
    | none=>K S2
   | none=>False
  | none=>False
theorem MKVC.of {P:Program} {N:Nat × List Nat} {f:FuncId} {args:List AV} {S:St} {xs:List Operand} {S1:St} {d:Nat} {K:St->Prop} {r:AV} {outs lf:List AV} {S2:St} (hc:MCon P f args r outs)
  (h1:zaG S xs outs=some lf) (h2:ptLs S1 (zao S xs) lf=some S2) (hd:OkD N d) (h:K (upd d r S2)):MKVC P N f args S xs S1 (some d) K :=
 ⟨r,outs,hc,by rw [h1]; simp only; rw [h2]; exact ⟨hd,h⟩⟩
def MVC (P:Program) (N:Nat × List Nat) (f:FuncId) (xs:List Operand) (dst:Option Nat) (K:St->Prop) (S:St):Prop :=
 match tkLm S (zao S xs) with
 | some (lf,S1)=>match fillArgs S xs lf with
  | some asx=>((zao S xs).all (zj1 S1)=true/\((zao S xs).all fun l=>decide (l.1<N.1))=true)/\MKVC P N f asx S xs S1 dst K
  | none=>False
 | none=>False
def zvX (P:Program) (f:FuncId) (args:List AV) (r:AV) (outs:List AV):Prop :=
 ∀ (w:World) (vs:List Value) (os:List Nat) (F0:Nat->Prop),args.length=vs.length->os.Nodup->(∀ b∈os,b<w.heap.size/\¬ F0 b)->(∀ b,F0 b->b<w.heap.size) ->
  (∀ tm oss,RepTL P w F0 tm oss args vs os) ->
  Calls P f vs.toArray w fun e w'=>∃ (v:Value) (orr oo:List Nat) (F':Nat->Prop),e=.returned v/\Ext (fun b=>b<w.heap.size/\b ∉ os) w w'/\(∀ b,F0 b->F' b) /\
   (∀ b,F' b->F0 b\/((b∈os\/w.heap.size<=b)/\b<w'.heap.size)) /\
   (∀ tm oss,RepT P w' F' tm oss r v orr)/\(∀ tm oss,RepTL P w' F' tm oss outs vs oo)/\outs.length=vs.length/\(orr++oo).Nodup /\
   ∀ b,b∈orr\/b∈oo->(b∈os\/w.heap.size<=b)/\b<w'.heap.size/\¬ F' b
def GCon (P:Program) (f:FuncId) (args:List AV) (r:AV) (outs:List AV):Prop:=zcE P f/\zvX P f args r outs
theorem MCon.g {P:Program} {f:FuncId} {args:List AV} {r:AV} {outs:List AV} (h:MCon P f args r outs):GCon P f args r outs:=by
 refine ⟨h.1,fun w vs os F0 hl hn ho hF hr=>?_⟩
 refine (h.2 w vs os hl hn (fun b hb=>(ho b hb).1) (fun tm oss=>by
  have:=RepTL.kl (w':=w) (F':=fun b=>b<w.heap.size/\b ∉ os) (tm':=tm) (oss':=oss) [] (fun b hb=>⟨hF b hb,fun hx=>(ho b hx).2 hb⟩) (fun _ _ _ _ h=>h) (hr tm oss) (fun _ _=>rfl)
  rwa [zcV] at this)).mono ?_
 rintro e w' ⟨v,orr,oo,he,hx,h1,h2,h3,h4,h5⟩
 refine ⟨v,orr,oo,F0,he,hx,fun _ h=>h,fun _ h=>.inl h,fun tm oss=>h1 F0 tm oss,fun tm oss=>h2 F0 tm oss,h3,h4,fun b hb=>⟨(h5 b hb).1,(h5 b hb).2,fun hf=>?_⟩⟩
 rcases (h5 b hb).1 with hb2 | hb2
 .exact (ho b hb2).2 hf
 .have:=hF b hf; omega
def GKVC (P:Program) (cf:Cfg) (N:Nat × List Nat) (f:FuncId) (args:List AV) (S:St) (xs:List Operand) (S1:St) (dst:Option Nat) (K:St->Prop):Prop :=
 ∃ r outs,GCon P f args r outs/\match zaG S xs outs with
  | some lf=>match ptLs S1 (zao S xs) lf with
   | some S2=>match dst with
    | some d=>OkD N d/\K (upd d r S2)
    | none=>K S2
   | none=>False
  | none=>False
def GVC (P:Program) (cf:Cfg) (N:Nat × List Nat) (f:FuncId) (xs:List Operand) (dst:Option Nat) (K:St->Prop) (S:St):Prop :=
 match tkLm S (zao S xs) with
 | some (lf,S1)=>match fillArgs S xs lf with
  | some asx=>((zao S xs).all (zj1 S1)=true/\((zao S xs).all fun l=>decide (l.1<N.1))=true)/\GKVC P cf N f asx S xs S1 dst K
  | none=>False
 | none=>False
def zv2 (P:Program) (f:FuncId) (args:List AV) (R:AV->List AV->Prop):Prop :=
 ∀ (w:World) (vs:List Value) (os:List Nat) (F0:Nat->Prop),args.length=vs.length->os.Nodup->(∀ b∈os,b<w.heap.size/\¬ F0 b)->(∀ b,F0 b->b<w.heap.size) ->
  (∀ tm oss,RepTL P w F0 tm oss args vs os) ->
  Calls P f vs.toArray w fun e w'=>∃ (r:AV) (outs:List AV),R r outs/\∃ (v:Value) (orr oo:List Nat) (F':Nat->Prop),e=.returned v/\Ext (fun b=>b<w.heap.size/\b ∉ os) w w'/\(∀ b,F0 b->F' b) /\
   (∀ b,F' b->F0 b\/((b∈os\/w.heap.size<=b)/\b<w'.heap.size)) /\
   (∀ tm oss,RepT P w' F' tm oss r v orr)/\(∀ tm oss,RepTL P w' F' tm oss outs vs oo)/\outs.length=vs.length/\(orr++oo).Nodup /\
   ∀ b,b∈orr\/b∈oo->(b∈os\/w.heap.size<=b)/\b<w'.heap.size/\¬ F' b
def RCon (P:Program) (f:FuncId) (args:List AV) (R:AV->List AV->Prop):Prop:=zcE P f/\zv2 P f args R
theorem GCon.r {P:Program} {f:FuncId} {args:List AV} {r:AV} {outs:List AV} (h:GCon P f args r outs) {R:AV->List AV->Prop} (hR:R r outs):RCon P f args R :=
 ⟨h.1,fun w vs os F0 hl hn ho hF hr=>(h.2 w vs os F0 hl hn ho hF hr).mono fun e w' k=>⟨r,outs,hR,k⟩⟩
theorem RCon.mono {P:Program} {f:FuncId} {args:List AV} {R R':AV->List AV->Prop} (h:RCon P f args R) (hR:∀ r o,R r o->R' r o):RCon P f args R' :=
 ⟨h.1,fun w vs os F0 hl hn ho hF hr=>(h.2 w vs os F0 hl hn ho hF hr).mono fun e w' ⟨r,o,k,k2⟩=>⟨r,o,hR r o k,k2⟩⟩
def RKVC (P:Program) (cf:Cfg) (N:Nat × List Nat) (f:FuncId) (args:List AV) (S:St) (xs:List Operand) (S1:St) (dst:Option Nat) (K:St->Prop):Prop :=
 ∃ R,RCon P f args R/\∀ r outs,R r outs->match zaG S xs outs with
  | some lf=>match ptLs S1 (zao S xs) lf with
   | some S2=>match dst with
    | some d=>OkD N d/\K (upd d r S2)
    | none=>K S2
   | none=>False
  | none=>False
def RVC (P:Program) (cf:Cfg) (N:Nat × List Nat) (f:FuncId) (xs:List Operand) (dst:Option Nat) (K:St->Prop) (S:St):Prop :=
 match tkLm S (zao S xs) with
 | some (lf,S1)=>match fillArgs S xs lf with
  | some asx=>((zao S xs).all (zj1 S1)=true/\((zao S xs).all fun l=>decide (l.1<N.1))=true)/\RKVC P cf N f asx S xs S1 dst K
  | none=>False
 | none=>False
def zdM (c:Bool) (A B:St->Prop) (S1 S2:St):Prop:=(c=true->A S1)/\(c=false->B S2)
theorem zj0 {A B:St->Prop} {S1 S2:St}:zdM true A B S1 S2=A S1:=by simp [zdM]
theorem zi1 {A B:St->Prop} {S1 S2:St}:zdM false A B S1 S2=B S2:=by simp [zdM]
def za7:Op->Option (FuncId × List Operand)
 | .call { callee:=.value (.func f),args,.. }=>some (f,args.toList)
 | _=>none
def zjr (S:St):Op->Option (FuncId × List Operand × List AV)
 | .call { callee:=.value (.tmp t),args:=args,argTypes:=_ }=>match S t with
  | .val (.func (.func f) ⟨[]⟩ ⟨[]⟩)=>some (f,args.toList,[])
  | .fn f cs=>some (f,args.toList,cs)
  | _=>none
 | _=>none
def zoi (P:Program) (S:St):Op->Option Nat
 | .binOp .eql t x (.const (.slice none 0 0)) _=>if (zaE P t).isSome then match aop S x with
  | .sl n _=>some n
  | _=>none
  else none
 | _=>none
def zqe (N:Nat × List Nat) (n d:Nat) (K:St->Prop) (S:St):Prop:=OkD N d/\∀ b:Bool,(b=true->n=0)->K (upd d (.val (.bool b)) S)
def vcOp (P:Program) (cf:Cfg) (N:Nat × List Nat) (o:Oper) (K:St->Prop) (S:St):Prop :=
 match za7 o.op with
 | some (f,xs)=>if cf.mu.contains f then MVC P N f xs o.dst K S else if cf.mu.contains (1000000+f) then GVC P cf N f xs o.dst K S else if cf.mu.contains (2000000+f) then RVC P cf N f xs o.dst K S else match zaS S xs with
  | some asx=>CallVC P cf N f asx o.dst K S
  | none=>False
 | none=>match zjr S o.op with
  | some (f,xs,cs)=>match zaS S xs,rsvL S cs with
   | some asx,some bs=>CallVC P cf N f (asx++bs) o.dst K S
   | _,_=>False
  | none=>match zfk P S o.op,o.dst with
   | some c,some d=>zhN N c d K S
   | _,_=>match ziP S o.op,o.dst with
    | some (t,rem),some d=>zll N t rem d K S
    | _,_=>match zoi P S o.op,o.dst with
     | some n,some d=>zqe N n d K S
     | _,_=>match zdG P cf N S o.op o.dst with
      | some (p,_,U)=>p/\K (app U S)
      | none=>False
def zfT (ops:Array Oper) (j:Nat):Option Nat:=(ops[j]?).bind (·.dst)
def zfE (o:Oper):List Upd:=match o.dst with
 | some d=>[.w d (.tup [])]
 | none=>[]
def zrv (o:Oper) (K:St->Prop) (S:St):Prop:=K (app (zfE o) S)
def zcQ (P:Program) (cf:Cfg) (N:Nat × List Nat) (ops:Array Oper):List Oper->(St->Prop)->St->Prop
 | [],K,S=>K S
 | o::l,K,S=>match o.guard with
  | none=>vcOp P cf N o (zcQ P cf N ops l K) S
  | some (j,b)=>match zfT ops j with
   | some g=>match S g with
    | .val (.bool c)=>g<N.1/\zdM (c == b) (vcOp P cf N o (zcQ P cf N ops l K)) (zrv o (zcQ P cf N ops l K)) (upd g (.val (.bool b)) S) (upd g (.val (.bool !b)) S)
    | .tup []=>zrv o (zcQ P cf N ops l K) S
    | _=>False
   | none=>False
section
variable {P:Program} {N:Nat × List Nat} {G:Nat->Prop} {w0:W0} {w w':World} {S:St} {a:Act} {F:Nat->Prop} {oss:Nat->List Nat} {X:List Nat}
theorem zag {d:Nat} {r:R} {p:Prop} {rd:List Nat} {U:List Upd} (h:za2 N d r=some (p,rd,U)):∃ q,r=some (q,rd,U)/\p=(OkD N d/\q):=by
 unfold za2 at h
 split at h
 .simp only [Option.some.injEq,Prod.mk.injEq] at h; obtain ⟨rfl,rfl,rfl⟩:=h; exact ⟨_,rfl,rfl⟩
 .simp at h
theorem ze1 {cf:Cfg} {d:Nat} {x:Operand} {p:Prop} {rd:List Nat} {U:List Upd} (h:mvR cf S d x=some (p,rd,U)):mvS cf S d x=some (rd,U):=by
 unfold mvR at h
 split at h
 .simp only [Option.some.injEq,Prod.mk.injEq] at h; obtain ⟨_,rfl,rfl⟩:=h; assumption
 .simp at h
theorem zbO {d:Nat} {rd rd':List Nat} {r:Option (Prop × Value)} {p:Prop} {U:List Upd} (h:valR d rd r=some (p,rd',U)):∃ v,r=some (p,v)/\U=[.w d (.val v)]:=by
 unfold valR at h
 split at h
 .simp only [Option.some.injEq,Prod.mk.injEq] at h; obtain ⟨rfl,rfl,rfl⟩:=h; exact ⟨_,rfl,rfl⟩
 .simp at h
theorem zdj (h:Core P N G w0 S a w F oss []) {d:Nat} (hd:OkD N d) {v:Value} (hv:v.oneCell'=true):StRel P N G w0 (app [.w d (.val v)] S) (a.put (some d) v) w :=
 h.put0 hd (.cell _ _ _ (.val v hv))
theorem zkq {op:BinOp} {k:IntKind} {x y:Int} {p:Prop} {v:Value} (h:binI op k x y=some (p,v)):v.oneCell'=true:=by
 cases op <;> simp only [binI] at h <;> (try split at h) <;> simp only [Option.some.injEq,Prod.mk.injEq,reduceCtorEq] at h <;> (obtain ⟨_,rfl⟩:=h; rfl)
theorem zrg {op:BinOp} {k:IntKind} {x y:Int} {p:Prop} {v:Value} (h:binW op k x y=some (p,v)):v.oneCell'=true:=by
 unfold binW at h
 split at h
 .injection h with h; obtain ⟨rfl,rfl⟩:=Prod.mk.injEq .. ▸ h; rfl
 .injection h with h; obtain ⟨rfl,rfl⟩:=Prod.mk.injEq .. ▸ h; rfl
 .injection h with h; obtain ⟨rfl,rfl⟩:=Prod.mk.injEq .. ▸ h; rfl
 .exact zkq h
theorem zrx {op:BinOp} {m n:Bool} {p:Prop} {v:Value} (h:binB op m n=some (p,v)):v.oneCell'=true:=by
 cases op <;> simp [binB] at h <;> (obtain ⟨_,rfl⟩:=h; rfl)
theorem zpA {op:BinOp} {m n:ByteArray} {p:Prop} {v:Value} (h:binS op m n=some (p,v)):v.oneCell'=true:=by
 cases op <;> simp [binS] at h <;> (obtain ⟨_,rfl⟩:=h; rfl)
theorem zk1 (h:Core P N G w0 S a w F oss []) {d:Nat} (hd:OkD N d) {x y:Operand} {g:Bool} {p:Prop} {rd:List Nat} {U:List Upd} (hm:mxS S d x y g=some (p,rd,U)) (ts:Array TypeId) (t:TypeId) :
  ∃ v,(if g then Builtin.max_ ts t #[a.eval x,a.eval y] else Builtin.min_ ts t #[a.eval x,a.eval y]).run P w=.ok v w/\StRel P N G w0 (app U S) (a.put (some d) v) w:=by
 unfold mxS at hm
 split at hm
 .rename_i k m k' n hx hy
  obtain ⟨v,h2,rfl⟩:=zbO hm
  injection h2 with h2; obtain ⟨rfl,rfl⟩:=Prod.mk.injEq .. ▸ h2
  rw [h.int hx,h.int hy]
  cases g with
  | true=>exact ⟨_,Go.Lib.run_max_ints w ts t k k' m n,zdj h hd rfl⟩
  | false=>exact ⟨_,Go.Lib.run_min_ints w ts t k k' m n,zdj h hd rfl⟩
 .simp at hm
theorem zuS {op:UnOp} {u v:Value} {p:Prop} (h:unI op u=some (p,v)):v.oneCell'=true:=by
 unfold unI at h
 split at h <;> (try split at h) <;> simp only [Option.some.injEq,Prod.mk.injEq,reduceCtorEq] at h <;> (obtain ⟨_,rfl⟩:=h; rfl)
theorem zuc {t:TypeId} {u v:Value} {p:Prop} (h:cnI P t u=some (p,v)):v.oneCell'=true:=by
 unfold cnI at h
 split at h <;> (try split at h) <;> simp only [Option.some.injEq,Prod.mk.injEq,reduceCtorEq] at h <;> (obtain ⟨_,rfl⟩:=h; rfl)
theorem zqo (h:Core P N G w0 S a w F oss X) {x:Operand} {c:AV} (hc:cap1 S x=some c):RepT P w F (tmo a) oss c (a.eval x) []:=by
 have plain:∀ (c:AV),aop S x=c->zbC c=false->RepT P w F (tmo a) oss c (a.eval x) []:=by
  intro c e hn
  obtain ⟨os,ho,_⟩:=h.op x
  rw [e] at ho
  have:=RepT.noOwn ho hn
  subst this; exact ho
 unfold cap1 at hc
 split at hc
 .simp at hc
 .injection hc with hc; subst hc
  exact .bor _ [] _ rfl
 .split at hc
  .simp at hc
  .rename_i hn
   injection hc with hc; subst hc
   exact plain _ rfl (by simpa using hn)
theorem zkz (h:Core P N G w0 S a w F oss X):∀ {xs:List Operand} {cs:List AV},caps S xs=some cs->RepTL P w F (tmo a) oss cs (xs.map a.eval) []/\cs.length=xs.length
 | [],cs,hc=>by simp [caps] at hc; subst hc; exact ⟨.nil _,rfl⟩
 | x::xs,cs,hc=>by
  rw [caps] at hc
  split at hc
  .rename_i c ds h1 h2
   injection hc with hc; subst hc
   obtain ⟨k1,k2⟩:=zkz h h2
   exact ⟨.cons _ _ [] _ _ [] (zqo h h1) k1,by simp [k2]⟩
  .simp at hc
theorem zqm (h:Core P N G w0 S a w F oss []) {d:Nat} {f:FuncId} {xs:Array Operand} (hd:OkD N d) {p:Prop} {rd:List Nat} {U:List Upd} (hm:mfS S d f xs.toList=some (p,rd,U)) :
  StRel P N G w0 (app U S) (a.put (some d) (.func (.func f) #[] (xs.map a.eval))) w:=by
 unfold mfS at hm
 split at hm
 .rename_i cs hc
  simp only [Option.some.injEq,Prod.mk.injEq] at hm; obtain ⟨rfl,rfl,rfl⟩:=hm
  obtain ⟨k1,k2⟩:=zkz h hc
  have:=RepT.fn (P:=P) f cs (xs.toList.map a.eval) [] (by simp [k2]) k1
  have e:(xs.toList.map a.eval).toArray=xs.map a.eval:=by apply Array.ext'; simp
  rw [e] at this
  exact h.put0 hd this
 .simp at hm
theorem RepT.borV {tm:Nat->Value} {s:Nat} {v:Value} {os:List Nat} (h:RepT P w F tm oss (.bor s []) v os):v=tm s:=by
 cases h with
 | cell _ _ _ hc=>cases hc
 | bor _ _ _ hw=>exact hw
theorem RepT.boxV {tm:Nat->Value} {e:TypeId} {cs:List AV} {v:Value} {os:List Nat} (h:RepT P w F tm oss (.box e cs) v os):∃ u,v=.pointer (some u):=by
 cases h with
 | cell _ _ _ hc=>cases hc; exact ⟨_,rfl⟩
theorem zfO (h:Core P N G w0 S a w F oss []) {cf:Cfg} {o:Oper} {p:Prop} {rd:List Nat} {U:List Upd} {K:Act->World->Prop} {Q:Exit->Act->World->Prop}
  (hm:zdG P cf N S o.op o.dst=some (p,rd,U)) (hp:p) (hk:∀ a' w',StRel P N G w0 (app U S) a' w'->K a' w'):o.wp P a w K Q:=by
 obtain ⟨dst,op,ty,pos,after,guard⟩:=o
 simp only at hm
 unfold zdG at hm
 split at hm
 .obtain ⟨q,h1,rfl⟩:=zag hm
  exact zam (v:=a.eval _) rfl (hk _ _ (zdT h hp.1 (ze1 h1)))
 .obtain ⟨q,h1,rfl⟩:=zag hm
  exact zam (v:=a.eval _) rfl (hk _ _ (zdT h hp.1 (ze1 h1)))
 .rename_i c x y d
  split at hm
  .rename_i hc
   obtain ⟨q,h1,rfl⟩:=zag hm
   refine zam (v:=a.eval x) ?_ (hk _ _ (zdT h hp.1 (ze1 h1)))
   simp [execOp,h.int hc,asBool]
  .rename_i hc
   obtain ⟨q,h1,rfl⟩:=zag hm
   refine zam (v:=a.eval y) ?_ (hk _ _ (zdT h hp.1 (ze1 h1)))
   simp [execOp,h.int hc,asBool]
  .simp at hm
 .rename_i bo t x y t' d
  split at hm
  .rename_i k m k' n hx hy
   split at hm
   .rename_i hkk
    subst hkk
    obtain ⟨q,h1,rfl⟩:=zag hm
    obtain ⟨v,h2,rfl⟩:=zbO h1
    split at h2
    .refine zam (v:=v) ?_ (hk _ _ (zdj h hp.1 (zrg h2)))
     have:=zl5 (P:=P) (w:=w) h2 hp.2 t x y
     simp only [execOp,h.int hx,h.int hy,Sem.run_bind] at this |-
     rw [this]; rfl
    .refine zam (v:=v) ?_ (hk _ _ (zdj h hp.1 (zkq h2)))
     have:=zgJ (P:=P) (w:=w) h2 hp.2 t x y
     simp only [execOp,h.int hx,h.int hy,Sem.run_bind] at this |-
     rw [this]; rfl
   .obtain ⟨q,h1,rfl⟩:=zag hm
    obtain ⟨v,h2,rfl⟩:=zbO h1
    have:=zmN (P:=P) (w:=w) (k':=k') h2 hp.2 t x y
    refine zam (v:=v) ?_ (hk _ _ (zdj h hp.1 this.1))
    replace this:=this.2
    simp only [execOp,h.int hx,h.int hy,Sem.run_bind] at this |-
    rw [this]; rfl
  .rename_i m n hx hy
   split at hm
   .rename_i ht
    obtain ⟨q,h1,rfl⟩:=zag hm
    obtain ⟨v,h2,rfl⟩:=zbO h1
    refine zam (v:=v) ?_ (hk _ _ (zdj h hp.1 (zrx h2)))
    have:=zlL (P:=P) (w:=w) h2 ht x y
    simp only [execOp,h.int hx,h.int hy,Sem.run_bind] at this |-
    rw [this]; rfl
   .simp at hm
  .rename_i m n hx hy
   obtain ⟨q,h1,rfl⟩:=zag hm
   obtain ⟨v,h2,rfl⟩:=zbO h1
   refine zam (v:=v) ?_ (hk _ _ (zdj h hp.1 (zpA h2)))
   have:=zlD (P:=P) (w:=w) h2 t x y
   simp only [execOp,h.int hx,h.int hy,Sem.run_bind] at this |-
   rw [this]; rfl
  .simp at hm
 .rename_i uo t x d
  split at hm
  .rename_i v hx
   obtain ⟨q,h1,rfl⟩:=zag hm
   obtain ⟨u,h2,rfl⟩:=zbO h1
   refine zam (v:=u) ?_ (hk _ _ (zdj h hp.1 (zuS h2)))
   simp only [execOp,h.int hx,Sem.run_bind,zoU h2 hp.2]; rfl
  .simp at hm
 .rename_i s t x d
  split at hm
  .rename_i v hT hx
   obtain ⟨q,h1,rfl⟩:=zag hm
   obtain ⟨u,h2,rfl⟩:=zbO h1
   refine zam (v:=u) ?_ (hk _ _ (zdj h hp.1 (zuc h2)))
   have hs:∃ d,P.underlying s=some d:=by obtain ⟨d,hd,_⟩:=zdW hT; exact ⟨d,hd⟩
   simp only [execOp,h.int hx,Sem.run_bind,zop hs h2 hp.2]; rfl
  .simp at hm
 .rename_i x d
  obtain ⟨q,h1,rfl⟩:=zag hm
  unfold ncS at h1
  split at h1
  .rename_i t
   split at h1
   .rename_i s ht
    split at h1
    .rename_i e cs hs
     simp only [Option.some.injEq,Prod.mk.injEq] at h1; obtain ⟨rfl,rfl,rfl⟩:=h1
     have k1:=h.get t
     rw [ht] at k1
     have k2:=h.get s
     rw [hs] at k2
     have hv:a.eval (.tmp t)=tmo a s:=k1.borV
     have hb:=k2.boxV
     obtain ⟨u,hu⟩:=hb
     refine zam (v:=a.eval (.tmp t)) ?_ (hk _ _ (h.put0 hp.1 (.bor s [] _ hv)))
     have hu2:tmo a s=.pointer (some u):=hu
     simp only [execOp]
     rw [hv,hu2]
     rfl
    .simp at h1
   .simp at h1
  .simp at h1
 .rename_i T x d
  obtain ⟨q,h1,rfl⟩:=zag hm
  unfold ldR at h1
  split at h1
  .rename_i hT
   split at h1
   .rename_i rd' U' h2
    simp only [Option.some.injEq,Prod.mk.injEq] at h1; obtain ⟨rfl,rfl,rfl⟩:=h1
    obtain ⟨v,r1,r2⟩:=zo2 h hT hp.1 h2
    refine zam (v:=v) ?_ (hk _ _ r2)
    simp only [execOp,Sem.run_bind,r1]; rfl
   .simp at h1
  .rename_i m hT
   obtain ⟨v,r1,r2⟩:=zo0 h hT hp.1 h1 hp.2
   refine zam (v:=v) ?_ (hk _ _ r2)
   simp only [execOp,Sem.run_bind,r1]; rfl
  .simp at h1
 .rename_i T x y
  unfold stR at hm
  split at hm
  .rename_i hT
   obtain ⟨w',r1,r2⟩:=zpq h hT hm hp
   refine zdb ?_ (hk _ _ r2)
   simp only [execOp,Sem.run_bind,r1]; rfl
  .rename_i m hT
   obtain ⟨w',r1,r2⟩:=zom h hT hm hp
   refine zdb ?_ (hk _ _ r2)
   simp only [execOp,Sem.run_bind,r1]; rfl
  .simp at hm
 .rename_i f xs d
  obtain ⟨q,h1,rfl⟩:=zag hm
  refine zam (v:=.func (.func f) #[] (xs.map a.eval)) ?_ (hk _ _ (zqm h hp.1 h1))
  simp [execOp,Instr.makeFunc]
 .rename_i T d
  obtain ⟨q,h1,rfl⟩:=zag hm
  obtain ⟨v,w',r1,r2⟩:=zrG h hp.1 h1
  refine zam (v:=v) ?_ (hk _ _ r2)
  simp only [execOp,Sem.run_bind,r1]; rfl
 .rename_i T x d
  obtain ⟨q,h1,rfl⟩:=zag hm
  obtain ⟨v,w',r1,r2⟩:=zrf h hp.1 h1 hp.2
  refine zam (v:=v) ?_ (hk _ _ r2)
  simp only [execOp,Sem.run_bind,r1]; rfl
 .rename_i T x i d
  obtain ⟨q,h1,rfl⟩:=zag hm
  obtain ⟨v,r1,r2⟩:=zpH h hp.1 h1 hp.2
  refine zam (v:=v) ?_ (hk _ _ r2)
  simp only [execOp,Sem.run_bind,r1]; rfl
 .rename_i T x i d
  obtain ⟨q,h1,rfl⟩:=zag hm
  obtain ⟨v,r1,r2⟩:=zmx h hp.1 h1 hp.2
  refine zam (v:=v) ?_ (hk _ _ r2)
  simp only [execOp,Sem.run_bind,r1]; rfl
 .rename_i T x i d
  obtain ⟨q,h1,rfl⟩:=zag hm
  obtain ⟨v,r1,r2⟩:=zq3 h hp.1 h1 hp.2
  refine zam (v:=v) ?_ (hk _ _ r2)
  simp only [execOp,Sem.run_bind,r1]; rfl
 .rename_i T x i d
  obtain ⟨q,h1,rfl⟩:=zag hm
  obtain ⟨v,r1,r2⟩:=zqp h hp.1 h1 hp.2
  refine zam (v:=v) ?_ (hk _ _ r2)
  simp only [execOp,Sem.run_bind,r1]; rfl
 .rename_i T x lo hi d
  obtain ⟨q,h1,rfl⟩:=zag hm
  obtain ⟨v,r1,r2⟩:=zq8 h hp.1 h1 hp.2
  refine zam (v:=v) ?_ (hk _ _ r2)
  simp only [execOp,Sem.run_bind,Option.map_none,r1]; rfl
 .rename_i T parts d
  obtain ⟨q,h1,rfl⟩:=zag hm
  obtain ⟨v,r1,r2⟩:=zqB h hp.1 h1 hp.2
  refine zam (v:=v) ?_ (hk _ _ r2)
  simp only [execOp,Sem.run_bind,r1]; rfl
 .rename_i T r d
  obtain ⟨q,h1,rfl⟩:=zag hm
  obtain ⟨v,w',r1,r2⟩:=zpV h (T:=T) hp.1 h1
  refine zam (v:=v) ?_ (hk _ _ r2)
  simp only [execOp,Sem.run_bind,r1]; rfl
 .rename_i T x i ok d
  obtain ⟨q,h1,rfl⟩:=zag hm
  obtain ⟨v,r1,r2⟩:=zqW h hp.1 h1
  refine zam (v:=v) ?_ (hk _ _ r2)
  simp only [execOp,Sem.run_bind,r1]; rfl
 .rename_i T x i y
  obtain ⟨w',r1,r2⟩:=zkl h hm
  refine zdb ?_ (hk _ _ r2)
  simp only [execOp,Sem.run_bind,r1]; rfl
 .rename_i T x i y
  obtain ⟨w',r1,r2⟩:=zkl h hm
  refine zdb ?_ (hk _ _ r2)
  simp only [execOp,Sem.run_bind,r1]; rfl
 .rename_i x d
  obtain ⟨q,h1,rfl⟩:=zag hm
  obtain ⟨v,r1,r2⟩:=zrs h hp.1 h1
  refine zam (v:=v) ?_ (hk _ _ r2)
  simp only [execOp,Sem.run_bind,r1]; rfl
 .rename_i t i d
  obtain ⟨q,h1,rfl⟩:=zag hm
  obtain ⟨v,r1,r2⟩:=zqk h hp.1 h1 hp.2
  refine zam (v:=v) ?_ (hk _ _ r2)
  simp only [execOp,Sem.run_bind,r1]; rfl
 .rename_i T len parts d
  obtain ⟨q,h1,rfl⟩:=zag hm
  obtain ⟨v,w',r1,r2⟩:=zqD h hp.1 h1 hp.2
  refine zam (v:=v) ?_ (hk _ _ r2)
  simp only [execOp,Sem.run_bind,r1]; rfl
 .rename_i T l c d
  obtain ⟨q,h1,rfl⟩:=zag hm
  obtain ⟨v,w',r1,r2⟩:=zqS h hp.1 h1 hp.2
  refine zam (v:=v) ?_ (hk _ _ r2)
  simp only [execOp,Sem.run_bind,r1]; rfl
 .rename_i x y T T' d
  split at hm
  .rename_i e
   subst e
   obtain ⟨q,h1,rfl⟩:=zag hm
   obtain ⟨v,w',r1,r2⟩:=zpL h (ty:=ty) hp.1 h1 hp.2
   refine zam (v:=v) ?_ (hk _ _ r2)
   simp only [execOp,resolve,invoke,builtin,Sem.run_bind,Sem.run_pure,Result.andThen_ok,List.map_toArray,List.map_cons,List.map_nil,r1]
  .simp at hm
 .rename_i x T d
  obtain ⟨q,h1,rfl⟩:=zag hm
  obtain ⟨v,r1,r2⟩:=zpF h (ty:=ty) hp.1 h1
  refine zam (v:=v) ?_ (hk _ _ r2)
  simp only [execOp,resolve,invoke,builtin,Sem.run_bind,Sem.run_pure,Result.andThen_ok,List.map_toArray,List.map_cons,List.map_nil,r1]
 .rename_i x y T T' d
  obtain ⟨q,h1,rfl⟩:=zag hm
  obtain ⟨v,w',r1,r2⟩:=zrl h (T':=T') (ty:=ty) hp.1 h1 hp.2
  refine zam (v:=v) ?_ (hk _ _ r2)
  simp only [execOp,resolve,invoke,builtin,Sem.run_bind,Sem.run_pure,Result.andThen_ok,List.map_toArray,List.map_cons,List.map_nil,r1]
 .rename_i x y ts d
  obtain ⟨q,h1,rfl⟩:=zag hm
  obtain ⟨v,r1,r2⟩:=zk1 h hp.1 h1 ts ty
  simp only [if_true] at r1
  refine zam (v:=v) ?_ (hk _ _ r2)
  simp only [execOp,resolve,invoke,builtin,Sem.run_bind,Sem.run_pure,Result.andThen_ok,List.map_toArray,List.map_cons,List.map_nil,r1]
 .rename_i x y ts d
  obtain ⟨q,h1,rfl⟩:=zag hm
  obtain ⟨v,r1,r2⟩:=zk1 h hp.1 h1 ts ty
  simp only [Bool.false_eq_true,if_false] at r1
  refine zam (v:=v) ?_ (hk _ _ r2)
  simp only [execOp,resolve,invoke,builtin,Sem.run_bind,Sem.run_pure,Result.andThen_ok,List.map_toArray,List.map_cons,List.map_nil,r1]
 .simp at hm
theorem zdy {op:Op} {f:FuncId} {xs:List Operand} (h:za7 op=some (f,xs)):∃ args tys,op=.call { callee:=.value (.func f),args:=args,argTypes:=tys }/\args.toList=xs:=by
 unfold za7 at h
 split at h
 .simp only [Option.some.injEq,Prod.mk.injEq] at h; obtain ⟨rfl,rfl⟩:=h; exact ⟨_,_,rfl,rfl⟩
 .simp at h
theorem za0 {f:FuncId} (h:zcE P f) (args:Array Value):(callFunc f args).run P w=.ok (.enter f args) w:=by
 obtain ⟨fn,h1,h2,h3⟩:=h
 have h2' : fn.name ≠ "runtime.NumGoroutine" := by simpa using h2
 have h3':fn.body≠none:=by cases hb:fn.body <;> simp_all
 simp [callFunc,program,Sem.run,h1,h2',h3']
mutual
theorem RepT.frz {F':Nat->Prop} {tm:Nat->Value} (hF:∀ b,F b->F' b) {c:AV} {v:Value} {os:List Nat} (h:RepT P w F tm oss c v os) (ho:∀ b∈os,F' b):RepT P w F' tm oss (Abs.frz c) v []:=by
 cases h with
 | any v=>exact .any v
 | cell c v os h=>exact .cell _ _ _ (h.frz hF ho)
 | agg cs vs os hl h=>exact .agg _ vs [] (by rw [zbW]; simpa using hl) (RepTL.frz hF h ho)
 | tup cs vs os hl h=>exact .tup _ vs [] (by rw [zbW]; simpa using hl) (RepTL.frz hF h ho)
 | fn f cs vs os hl h=>exact .fn f _ vs [] (by rw [zbW]; simpa using hl) (RepTL.frz hF h ho)
 | bor s p v h=>exact .bor s p v h
 | ptr s p off u b h hb=>exact .ptr s p off u b h hb
 | slp s p off n cap u b h hb hn=>exact .slp s p off n cap u b h hb hn
theorem RepTL.frz {F':Nat->Prop} {tm:Nat->Value} (hF:∀ b,F b->F' b) {cs:List AV} {vs:List Value} {os:List Nat} (h:RepTL P w F tm oss cs vs os) (ho:∀ b∈os,F' b):RepTL P w F' tm oss (frzL cs) vs []:=by
 cases h with
 | nil vs=>exact .nil vs
 | cons c v os cs vs os' h t=>exact .cons _ v [] _ vs [] (RepT.frz hF h (fun x hx=>ho x (by simp [hx]))) (RepTL.frz hF t (fun x hx=>ho x (by simp [hx])))
end
theorem zu6 (h:Core P N G w0 S a w F oss []) {r:AV} {v:Value} {os:List Nat} (hb:Ext (fun b=>b<w.heap.size) w w') (hn:os.Nodup) (ho:∀ b∈os,w.heap.size<=b/\b<w'.heap.size) :
  Core P N G w0 S a w' (fun b=>F b\/(w.heap.size<=b/\b<w'.heap.size/\b ∉ os)) oss os :=
 h.world hb.os hb.tape ⟨hb.output,hb.drawn⟩ hb.size (fun b hlt _=>hb.block b hlt) (fun _ h=>.inl h) (fun b hb=>hb.imp id (fun h=>⟨.inr h.1,h.2.1⟩))
  (fun b hb'=>⟨.inr (ho b hb').1,(ho b hb').2,fun hf=>by
   rcases hf with hf | hf
   .have:=h.fw b hf; have:=(ho b hb').1; omega
   .exact hf.2.2 hb'⟩) hn
theorem zhX (h:Core P N G w0 S a w F oss []) {cf:Cfg} {o:Oper} {f:FuncId} {asx:List AV} {vs:List Value} (hl:asx.length=vs.length)
  (hrep:∀ tm oss',RepTL P w (fun b=>b<w.heap.size) tm oss' asx vs []) (hrun:(execOp a.eval o).run P w=.ok (.enter f vs.toArray) w)
  {r:AV} (hr:zkr P f asx r) {K:Act->World->Prop} {Q:Exit->Act->World->Prop}
  (hk:∀ a' w',(∀ d,o.dst=some d->OkD N d)->(match o.dst with
   | some d=>StRel P N G w0 (upd d (if cf.fz.contains d then frz r else r) S) a' w'
   | none=>StRel P N G w0 S a' w')->K a' w') (hd:∀ d,o.dst=some d->OkD N d):o.wp P a w K Q:=by
 simp only [Oper.wp,hrun,Oper.upon]
 refine (hr w _ hl hrep).mono ?_
 rintro e w' ⟨v,os,rfl,hb,hv,hn,ho⟩
 have hcore:=zu6 (r:=r) (v:=v) h hb hn ho
 refine hk _ _ hd ?_
 obtain ⟨dst,op,ty,pos,after,guard⟩:=o
 cases dst with
 | none=>exact hcore.st
 | some d =>
  have hrr:RepT P w' (fun b=>F b\/(w.heap.size<=b/\b<w'.heap.size/\b ∉ os)) (tmo a) oss r v os :=
   RepT.mono (F:=fun b=>w.heap.size<=b/\b<w'.heap.size/\b ∉ os) (tm:=tmo a) (oss:=oss) (fun _ h=>.inr h) (fun _ _ _ h=>h) (hv (tmo a) oss) (fun _ _=>rfl)
  show StRel P N G w0 (upd d (if cf.fz.contains d then frz r else r) S) (a.put (some d) v) w'
  split
  .have hc2:Core P N G w0 S a w' (fun b=>F b\/(w.heap.size<=b/\b<w'.heap.size)) oss [] :=
    h.world hb.os hb.tape ⟨hb.output,hb.drawn⟩ hb.size (fun b hlt _=>hb.block b hlt) (fun _ h=>.inl h) (fun b hb=>hb.imp id (fun h=>⟨.inr h.1,h.2⟩)) (by simp) List.nodup_nil
   refine hc2.put0 (hd d rfl) (hrr.frz (fun b hb=>hb.imp id (fun h=>⟨h.1,h.2.1⟩)) (fun b hb=>.inr (ho b hb)))
  .exact hcore.putX (hd d rfl) hrr
theorem zek (h:Core P N G w0 S a w F oss []) {cf:Cfg} {o:Oper} {f:FuncId} {xs:List Operand} (hc:za7 o.op=some (f,xs)) {asx:List AV} (ha:zaS S xs=some asx)
  {r:AV} (he:zcE P f) (hr:zkr P f asx r) {K:Act->World->Prop} {Q:Exit->Act->World->Prop}
  (hk:∀ a' w',(∀ d,o.dst=some d->OkD N d)->(match o.dst with
   | some d=>StRel P N G w0 (upd d (if cf.fz.contains d then frz r else r) S) a' w'
   | none=>StRel P N G w0 S a' w')->K a' w') (hd:∀ d,o.dst=some d->OkD N d):o.wp P a w K Q:=by
 obtain ⟨args,tys,hop,rfl⟩:=zdy hc
 obtain ⟨hl,hrep⟩:=h.args ha
 have hrun:(execOp a.eval o).run P w=.ok (.enter f (args.toList.map a.eval).toArray) w:=by
  obtain ⟨dst,op,ty,pos,after,guard⟩:=o
  simp only at hop
  subst hop
  rw [execOp_call_go,za0 he]
  congr 2
  apply Array.ext'
  simp
 exact zhX h (cf:=cf) (by rw [hl]; simp) hrep hrun hr hk hd
theorem RepTL.app {F':Nat->Prop} {tm:Nat->Value} {oss':Nat->List Nat}:∀ {cs ds:List AV} {vs us:List Value},RepTL P w F' tm oss' cs vs []->cs.length=vs.length->RepTL P w F' tm oss' ds us []->RepTL P w F' tm oss' (cs++ds) (vs++us) []
 | [],ds,vs,us,h,hl,k=>by
  have:vs=[]:=by simpa using hl.symm
  subst this; simpa using k
 | c::cs,ds,vs,us,h,hl,k=>by
  generalize ho:([]:List Nat)=o0 at h
  cases h with
  | cons _ v o1 _ vs o2 h t =>
   have e:o1=[]/\o2=[]:=by simpa using ho.symm
   obtain ⟨rfl,rfl⟩:=e
   exact .cons _ _ [] _ _ [] h (RepTL.app t (by simpa using hl) k)
theorem zdo (h:Core P N G w0 S a w F oss []) {cf:Cfg} {o:Oper} {f:FuncId} {xs:List Operand} {cs:List AV} (hc:zjr S o.op=some (f,xs,cs)) {asx bs:List AV} (ha:zaS S xs=some asx) (hb:rsvL S cs=some bs)
  {r:AV} (he:zcE P f) (hr:zkr P f (asx++bs) r) {K:Act->World->Prop} {Q:Exit->Act->World->Prop}
  (hk:∀ a' w',(∀ d,o.dst=some d->OkD N d)->(match o.dst with
   | some d=>StRel P N G w0 (upd d (if cf.fz.contains d then frz r else r) S) a' w'
   | none=>StRel P N G w0 S a' w')->K a' w') (hd:∀ d,o.dst=some d->OkD N d):o.wp P a w K Q:=by
 obtain ⟨dst,op,ty,pos,after,guard⟩:=o
 simp only at hc
 unfold zjr at hc
 split at hc
 .rename_i t args tys
  obtain ⟨hl,hrep⟩:=h.args ha
  split at hc
  .rename_i g hS
   simp only [Option.some.injEq,Prod.mk.injEq] at hc; obtain ⟨rfl,rfl,rfl⟩:=hc
   simp [rsvL] at hb; subst hb
   have hv:a.eval (.tmp t)=.func (.func g) #[] #[]:=h.int (x:=.tmp t) hS
   rw [List.append_nil] at hr
   refine zhX h (cf:=cf) (vs:=args.toList.map a.eval) (by rw [hl]; simp) hrep ?_ hr hk hd
   have:(execOp a.eval ⟨dst,.call { callee:=.value (.tmp t),args:=args,argTypes:=tys },ty,pos,after,guard⟩)=callFunc g (#[]++args.map a.eval++#[]):=by
    simp [execOp,resolve,hv,Deferred.ofValue,invoke]
   rw [this,za0 he]
   congr 2
   apply Array.ext'
   simp
  .rename_i g cs' hS
   simp only [Option.some.injEq,Prod.mk.injEq] at hc; obtain ⟨rfl,rfl,rfl⟩:=hc
   have hg:=h.get t
   rw [hS] at hg
   have hob:∀ b∈oss t,b<w.heap.size:=fun b hb=>(h.own t b hb).2
   generalize hv:a.eval (.tmp t)=v at hg
   generalize oss t=ot at hg hob
   cases hg with
   | cell _ _ _ hc=>cases hc
   | fn _ _ us os hl2 hL =>
    have hbs:=h.rsvL hL hob hb
    have hbl:bs.length=cs'.length:=RepTL.length_eq' (tm:=tmo a) hb
    refine zhX h (cf:=cf) (vs:=args.toList.map a.eval++us) (by simp [hl,hbl,hl2]) (fun tm oss'=>RepTL.app (hrep tm oss') (by rw [hl]; simp) (hbs tm oss')) ?_ hr hk hd
    have:(execOp a.eval ⟨dst,.call { callee:=.value (.tmp t),args:=args,argTypes:=tys },ty,pos,after,guard⟩)=callFunc g (#[]++args.map a.eval++us.toArray):=by
     simp [execOp,resolve,hv,Deferred.ofValue,invoke]
    rw [this,za0 he]
    congr 2
    apply Array.ext'
    simp
  .simp at hc
 .simp at hc
theorem zfq (h:Core P N G w0 S a w F oss []) {o:Oper} {f:FuncId} {xs:List Operand} (hc:za7 o.op=some (f,xs)) {K:St->Prop} {cf:Cfg} (hv:RVC P cf N f xs o.dst K S)
  {K':Act->World->Prop} {Q:Exit->Act->World->Prop} (hk:∀ S' a' w',K S'->StRel P N G w0 S' a' w'->K' a' w'):o.wp P a w K' Q:=by
 unfold RVC at hv
 split at hv
 .rename_i lf S1 h1
  split at hv
  .rename_i asx h2
   obtain ⟨⟨hloc,hlt⟩,R,⟨he,hm⟩,hK⟩:=hv
   obtain ⟨us,oc,oss1,k1,k2⟩:=h.tkLm h1
   simp only [List.append_nil] at k1
   obtain ⟨m1,m2⟩:=h.margs (fun _ h=>h) k2 h2
   obtain ⟨args,tys,hop,rfl⟩:=zdy hc
   have hrun:(execOp a.eval o).run P w=.ok (.enter f (args.toList.map a.eval).toArray) w:=by
    obtain ⟨dst,op,ty,pos,after,guard⟩:=o
    simp only at hop
    subst hop
    rw [execOp_call_go,za0 he]
    congr 2
    apply Array.ext'
    simp
   simp only [Oper.wp,hrun,Oper.upon]
   refine (hm w _ oc F (by rw [m2]; simp) k1.xn (fun b hb=>⟨(k1.xo b hb).2,(k1.xo b hb).1⟩) k1.fw m1).mono ?_
   rintro e w' ⟨r,outs,hR,v,orr,oo,F',rfl,hx,hF1,hF2,hr,ho,hol,hn,hb⟩
   replace hK:=hK r outs hR
   split at hK
   .rename_i lf' h3
    split at hK
    .rename_i S2 h4
     have hw':Core P N G w0 S1 a w' F' oss1 (oo++orr) :=
      k1.world hx.os hx.tape ⟨hx.output,hx.drawn⟩ hx.size (fun b hlt hnx=>hx.block b ⟨hlt,hnx⟩) hF1 hF2
       (fun b hb'=>hb b (by rcases List.mem_append.1 hb' with h | h; exact .inr h; exact .inl h))
       (by
        have:=List.nodup_append.1 hn
        exact List.nodup_append.2 ⟨this.2.1,this.1,fun x hx y hy e=>this.2.2 y hy x hx e.symm⟩)
     have hT:∀ l∈zao S args.toList,∀ v,zah w (oss l.1) (tmo a l.1) l.2 v->∃ Y,zah w' Y (tmo a l.1) l.2 v:=by
      intro l hl v hv
      have hok:=(List.all_eq_true.1 hloc) l hl
      obtain ⟨s,p⟩:=l
      unfold zj1 at hok
      simp only at hok hv |-
      split at hok
      .exact ⟨[],hv⟩
      .rename_i i
       have hk:kids (S1 s)≠none:=by intro e; simp [e] at hok
       have hrs:=(k1.rep s).ofKids hk
       obtain ⟨b,cc,ee,fr,v',b1,b2,b3,b4,b5⟩:=hv
       have hbin:b∈oss1 s:=by
        exact ziG hrs hk b1
       have hsame:w'.heap[b]?=w.heap[b]?:=hx.block b ⟨(k1.own s b hbin).2,fun hx=>k1.xd s b hx hbin⟩
       exact ⟨[b],b,cc,ee,fr,v',b1,by simp,hsame.trans b3,b4,b5⟩
      .simp at hok
     obtain ⟨o',q1,q2,q3⟩:=h.mouts (w':=w') (F':=F') (tm':=tmo a) (oss':=oss) (ho (tmo a) oss) hT h3
     have hn2:=List.nodup_append.1 hn
     have hw2:Core P N G w0 S1 a w' F' oss1 (o'++orr):=hw'.sub (fun b hb=>by
      rcases List.mem_append.1 hb with hb | hb
      .simp [q2 b hb]
      .simp [hb]) (List.nodup_append.2 ⟨q3 hn2.2.1,hn2.1,fun x hx y hy e=>hn2.2.2 y hy x (q2 x hx) e.symm⟩)
     obtain ⟨oss2,hw3⟩:=hw2.ptLs q1 (fun l hl=>by simpa using (List.all_eq_true.1 hlt) l hl) h4
     obtain ⟨dst,op,ty,pos,after,guard⟩:=o
     cases dst with
     | none=>exact hk S2 a w' hK hw3.drop.st
     | some d=>exact hk _ _ _ hK.2 (hw3.putX hK.1 (hr (tmo a) oss2))
    .exact hK.elim
   .exact hK.elim
  .exact hv.elim
 .exact hv.elim
theorem GVC.r {f:FuncId} {xs:List Operand} {dst:Option Nat} {K:St->Prop} {cf:Cfg} (hv:GVC P cf N f xs dst K S):RVC P cf N f xs dst K S:=by
 unfold GVC at hv
 unfold RVC
 split at hv
 .split at hv
  .obtain ⟨hl,r,outs,hc,hK⟩:=hv
   exact ⟨hl,fun r' o'=>r'=r/\o'=outs,hc.r ⟨rfl,rfl⟩,fun r' o' h=>by rw [h.1,h.2]; exact hK⟩
  .exact hv
 .exact hv
theorem zbV (h:Core P N G w0 S a w F oss []) {o:Oper} {f:FuncId} {xs:List Operand} (hc:za7 o.op=some (f,xs)) {K:St->Prop} {cf:Cfg} (hv:GVC P cf N f xs o.dst K S)
  {K':Act->World->Prop} {Q:Exit->Act->World->Prop} (hk:∀ S' a' w',K S'->StRel P N G w0 S' a' w'->K' a' w'):o.wp P a w K' Q:=zfq h hc hv.r hk
theorem zjO (h:Core P N G w0 S a w F oss []) {o:Oper} {f:FuncId} {xs:List Operand} (hc:za7 o.op=some (f,xs)) {K:St->Prop} (hv:MVC P N f xs o.dst K S)
  {K':Act->World->Prop} {Q:Exit->Act->World->Prop} (hk:∀ S' a' w',K S'->StRel P N G w0 S' a' w'->K' a' w'):o.wp P a w K' Q:=by
 refine zbV h hc (cf:=⟨0,[],[],[]⟩) ?_ hk
 unfold MVC at hv
 unfold GVC
 split at hv
 .split at hv
  .exact ⟨hv.1,hv.2.imp fun r h=>h.imp fun o h=>⟨h.1.g,h.2⟩⟩
  .exact hv
 .exact hv
theorem zoH (h:Core P N G w0 S a w F oss []) {o:Oper} {n d:Nat} (hm:zoi P S o.op=some n) (hd:o.dst=some d) {K:St->Prop} (hK:zqe N n d K S)
  {K':Act->World->Prop} {Q:Exit->Act->World->Prop} (hk:∀ S' a' w',K S'->StRel P N G w0 S' a' w'->K' a' w'):o.wp P a w K' Q:=by
 obtain ⟨dst,op,ty,pos,after,guard⟩:=o
 simp only at hm hd
 subst hd
 unfold zoi at hm
 split at hm
 .rename_i t x t'
  split at hm
  .rename_i hT
   obtain ⟨e,hT⟩:=Option.isSome_iff_exists.1 hT
   have hu:=zaX hT
   split at hm
   .rename_i m cs hx
    injection hm with hm; subst hm
    obtain ⟨os,ho,_⟩:=h.op x
    rw [hx] at ho
    generalize hv:a.eval x=u at ho
    have fin:∀ (base:Option Addr) (cap:Nat),u=.slice base m cap->(base.isNone=true->m=0)->(⟨some d,.binOp .eql t x (.const (.slice none 0 0)) t',ty,pos,after,guard⟩:Oper).wp P a w K' Q:=by
     intro base cap hb h0
     refine zam (v:=.bool base.isNone) ?_ (hk _ _ _ (hK.2 base.isNone h0) (zdj h hK.1 rfl))
     have hg:(eqGuard .eql t x (.const (.slice none 0 0)) (.slice base m cap) (.slice none 0 0)).run P w=.ok () w:=by simp [eqGuard]
     have hr:=Go.Lib.run_eql_slice_nil (P:=P) w t e base m cap 0 0 hu
     have hcn:a.eval (.const (.slice none 0 0))=.slice none 0 0:=rfl
     simp only [execOp,Sem.run_bind,hv,hb,hcn,hg,Result.andThen_ok,hr]
     rfl
    cases ho with
    | cell _ _ _ hc=>cases hc with
     | sl0 base cap=>exact fin base cap rfl (fun _=>rfl)
     | sl b off n cap c e fr cs hF hb hl hn=>exact fin _ cap rfl (fun hh=>by simp at hh)
   .simp at hm
  .simp at hm
 .simp at hm
theorem zgN (h:StRel P N G w0 S a w) {cf:Cfg} {o:Oper} {K:St->Prop} {K':Act->World->Prop} {Q:Exit->Act->World->Prop}
  (hv:vcOp P cf N o K S) (hk:∀ S' a' w',K S'->StRel P N G w0 S' a' w'->K' a' w'):o.wp P a w K' Q:=by
 obtain ⟨F,oss,h⟩:=h
 unfold vcOp at hv
 split at hv
 .rename_i f xs hc
  split at hv
  .exact zjO h hc hv hk
  split at hv
  .exact zbV h hc hv hk
  split at hv
  .exact zfq h hc hv hk
  split at hv
  .rename_i asx ha
   obtain ⟨r,⟨he,hr⟩,hK⟩:=hv
   split at hK
   .rename_i d hd
    obtain ⟨hN,hK⟩:=hK
    refine zek h hc ha he hr (cf:=cf) (fun a' w' hd' hs=>hk _ a' w' hK ?_) (fun d' hd'=>by rw [hd] at hd'; injection hd' with hd'; exact hd' ▸ hN)
    rw [hd] at hs
    exact hs
   .rename_i hd
    refine zek h hc ha he hr (cf:=cf) (fun a' w' hd' hs=>hk _ a' w' hK ?_) (fun d' hd'=>by rw [hd] at hd'; simp at hd')
    rw [hd] at hs
    exact hs
  .exact hv.elim
 .split at hv
  .rename_i f xs cs hc
   split at hv
   .rename_i asx bs ha hb
    obtain ⟨r,⟨he,hr⟩,hK⟩:=hv
    split at hK
    .rename_i d hd
     obtain ⟨hN,hK⟩:=hK
     refine zdo h hc ha hb he hr (cf:=cf) (fun a' w' hd' hs=>hk _ a' w' hK ?_) (fun d' hd'=>by rw [hd] at hd'; injection hd' with hd'; exact hd' ▸ hN)
     rw [hd] at hs
     exact hs
    .rename_i hd
     refine zdo h hc ha hb he hr (cf:=cf) (fun a' w' hd' hs=>hk _ a' w' hK ?_) (fun d' hd'=>by rw [hd] at hd'; simp at hd')
     rw [hd] at hs
     exact hs
   .exact hv.elim
  .split at hv
   .rename_i c d hr hd
    exact zjl h hr hd hv hk
   .split at hv
    .rename_i t rem d hn hd
     exact zmf h hn hd hv hk
    .split at hv
     .rename_i n d hn hd
      exact zoH h hn hd hv hk
     .split at hv
      .rename_i p rd U hs
       exact zfO h hs hv.1 (fun a' w' hs=>hk _ a' w' hv.2 hs)
      .exact hv.elim
theorem zeM {ops:Array Oper} {j g:Nat} {c:Bool} (hg:zfT ops j=some g) (h:StRel P N G w0 S a w) (hN:g<N.1) (hS:S g=.val (.bool c)):yielded ops a.tmps j=some c:=by
 obtain ⟨F,oss,h⟩:=h
 have hv:a.eval (.tmp g)=.bool c:=h.int (x:=.tmp g) hS
 have hlt:g<a.tmps.size:=by rw [h.sz]; exact hN
 have:a.tmps[g]?=some (.bool c):=by
  simp only [Act.eval,Array.getD,hlt,dif_pos] at hv
  rw [Array.getElem?_eq_getElem hlt]
  exact congrArg some hv
 unfold zfT at hg
 simp [yielded,hg,this]
theorem zeL {ops:Array Oper} {j g:Nat} (hg:zfT ops j=some g) (h:StRel P N G w0 S a w) (hS:S g=.tup []):yielded ops a.tmps j=none:=by
 obtain ⟨F,oss,h⟩:=h
 have hr:=h.get g
 rw [hS] at hr
 unfold zfT at hg
 unfold yielded
 rw [hg]
 simp only [Option.bind_some]
 cases ht:a.tmps[g]? with
 | none=>rfl
 | some v =>
  have hv:a.eval (.tmp g)=v:=by
   obtain ⟨hlt,e⟩:=Array.getElem?_eq_some_iff.1 ht
   simp only [Act.eval,Array.getD,hlt,dif_pos]; exact e
  rw [hv] at hr
  generalize oss g=os at hr
  generalize hc:AV.tup []=c at hr
  cases hr with
  | tup cs vs os hl h=>rfl
  | cell c v os h=>subst hc; cases h
  | _=>simp at hc
theorem zev (h:StRel P N G w0 S a w) (o:Oper) (hd:∀ d,o.dst=some d->OkD N d):StRel P N G w0 (app (zfE o) S) (a.put o.dst undef) w:=by
 obtain ⟨F,oss,h⟩:=h
 unfold zfE
 cases hd':o.dst with
 | none=>exact h.st
 | some d=>exact h.put0 (hd d hd') (.tup [] [] [] rfl (.nil _))
theorem zbU {cf:Cfg} {ops:Array Oper} {Q:Exit->Act->World->Prop} (hops:∀ o∈ops.toList,∀ d,o.dst=some d->OkD N d):∀ {l:List Oper} {S:St} {a:Act} {w:World} {K:St->Prop},(∀ o∈l,o∈ops.toList) ->
  StRel P N G w0 S a w->zcQ P cf N ops l K S->(∀ S a w,K S->StRel P N G w0 S a w->Q .normal a w)->wpList P ops Q l a w
 | [],S,a,w,K,_,h,hv,hk=>hk S a w hv h
 | o::l,S,a,w,K,hin,h,hv,hk=>by
  have hl:∀ o∈l,o∈ops.toList:=fun x hx=>hin x (by simp [hx])
  unfold zcQ at hv
  split at hv
  .rename_i hg
   unfold wpList
   rw [if_pos (by simp [Region.wanted,hg])]
   exact .inl (zgN h hv (fun S' a' w' hK hs=>zbU hops hl hs hK hk))
  .rename_i j b hg
   split at hv
   .rename_i g hgs
    split at hv
    .rename_i c hS
     obtain ⟨hN,hv⟩:=hv
     have hy:=zeM hgs h hN hS
     unfold wpList
     by_cases hcb:c=b
     .have hv:=hv.1 (by simp [hcb])
      rw [if_pos (by simp [Region.wanted,hg,hy,hcb])]
      exact .inl (zgN (h.lit hN hS hcb) hv (fun S' a' w' hK hs=>zbU hops hl hs hK hk))
     .have hv:=hv.2 (by simpa using hcb)
      rw [if_neg (by simp [Region.wanted,hg,hy,hcb])]
      have hlit:=h.lit hN hS (b:=!b) (by cases c <;> cases b <;> simp_all)
      exact zbU hops hl (zev hlit o (hops o (hin o (by simp)))) hv hk
    .rename_i hS
     have hy:=zeL hgs h hS
     unfold wpList
     rw [if_neg (by simp [Region.wanted,hg,hy])]
     exact zbU hops hl (zev h o (hops o (hin o (by simp)))) hv hk
    .exact hv.elim
   .exact hv.elim
end
end Go.Abs


namespace Go.Abs
variable [DrawK]
open Go.RowKit (Below)
def rdO (S:St) (x:Operand):List Nat:=zad x++roots (aop S x)
def Agree (D:List Nat) (S S':St):Prop:=∀ t,t∈D->S' t=S t
section
variable {P:Program} {D:List Nat} {S S':St}
theorem Agree.aop (h:Agree D S S') {x:Operand} (hx:∀ t∈zad x,t∈D):aop S' x=aop S x:=by
 cases x with
 | tmp t=>exact h t (hx t (by simp [zad]))
 | _=>rfl
theorem Agree.ctn (h:Agree D S S') {s:Nat} (hs:s∈D) (p:List Nat):ctn S' s p=ctn S s p:=by
 unfold Abs.ctn; rw [h s hs]
theorem Agree.upd (h:Agree D S S') (d:Nat) (v:AV):Agree D (upd d v S) (upd d v S'):=fun t ht=>by
 simp only [Abs.upd]; rw [h t ht]
theorem Agree.updn (h:Agree D S S') (d:Nat) (v:AV):Agree D (updn d v S) (updn d v S'):=fun t ht=>by
 simp only [Abs.updn]; rw [h t ht]
theorem Agree.updn1 (h:Agree D S S') (d:Nat) (v:AV) (q:List (List Nat)):Agree D (updn1 d v q S) (updn1 d v q S'):=fun t ht=>by
 simp only [Abs.updn1]; rw [h t ht]
theorem Agree.app' (h:Agree D S S') (U:List Upd):Agree D (Abs.app U S) (Abs.app U S'):=by
 induction U generalizing S S' with
 | nil=>exact h
 | cons u U ih=>cases u with
  | w d v=>exact ih (h.upd d v)
  | n d v=>exact ih (h.updn d v)
  | m d v q=>exact ih (h.updn1 d v q)
def Cov (D:List Nat) (S:St) (x:Operand):Prop:=∀ t∈rdO S x,t∈D
theorem Cov.slots {x:Operand} (h:Cov D S x):∀ t∈zad x,t∈D:=fun t ht=>h t (by simp [rdO,ht])
theorem Cov.root {x:Operand} (h:Cov D S x) {s:Nat} (hs:s∈roots (aop S x)):s∈D:=h s (by simp [rdO,hs])
mutual
theorem zb5 {W:List Nat}:∀ c:AV,∀ s∈roots (kl W c),s∈roots c
 | .bor s p,t,ht=>by rw [kl] at ht; split at ht <;> simp_all [roots]
 | .ptr s p o,t,ht=>by rw [kl] at ht; split at ht <;> simp_all [roots]
 | .slp s p o n,t,ht=>by rw [kl] at ht; split at ht <;> simp_all [roots]
 | .agg cs,t,ht=>by rw [kl,roots] at ht; exact zdH cs t ht
 | .tup cs,t,ht=>by rw [kl,roots] at ht; exact zdH cs t ht
 | .fn f cs,t,ht=>by rw [kl,roots] at ht; exact zdH cs t ht
 | .any,t,ht=>ht
 | .val v,t,ht=>ht
 | .sl n cs,t,ht=>ht
 | .own e n cs,t,ht=>ht
 | .ofs k e n cs,t,ht=>ht
 | .box e cs,t,ht=>ht
 | .fptr cs,t,ht=>ht
 | .mp c,t,ht=>ht
 | .fmp c,t,ht=>ht
 | .it l es,t,ht=>ht
theorem zdH {W:List Nat}:∀ cs:List AV,∀ s∈zaB (klL W cs),s∈zaB cs
 | [],t,ht=>ht
 | c::cs,t,ht=>by
  rw [klL,zaB,List.mem_append] at ht
  rw [zaB,List.mem_append]
  exact ht.imp (zb5 c t) (zdH cs t)
end
mutual
theorem zkX {d:Nat}:∀ c:AV,∀ s∈roots (kn d c),s∈roots c
 | .bor s p,t,ht=>by rw [kn] at ht; split at ht <;> simp_all [roots]
 | .ptr s p o,t,ht=>by rw [kn] at ht; split at ht <;> simp_all [roots]
 | .slp s p o n,t,ht=>by rw [kn] at ht; split at ht <;> simp_all [roots]
 | .agg cs,t,ht=>by rw [kn,roots] at ht; exact zdO cs t ht
 | .tup cs,t,ht=>by rw [kn,roots] at ht; exact zdO cs t ht
 | .fn f cs,t,ht=>by rw [kn,roots] at ht; exact zdO cs t ht
 | .any,t,ht=>ht
 | .val v,t,ht=>ht
 | .sl n cs,t,ht=>ht
 | .own e n cs,t,ht=>ht
 | .ofs k e n cs,t,ht=>ht
 | .box e cs,t,ht=>ht
 | .fptr cs,t,ht=>ht
 | .mp c,t,ht=>ht
 | .fmp c,t,ht=>ht
 | .it l es,t,ht=>ht
theorem zdO {d:Nat}:∀ cs:List AV,∀ s∈zaB (knL d cs),s∈zaB cs
 | [],t,ht=>ht
 | c::cs,t,ht=>by
  rw [knL,zaB,List.mem_append] at ht
  rw [zaB,List.mem_append]
  exact ht.imp (zkX c t) (zdO cs t)
end
mutual
theorem ziv {d:Nat} {q:List (List Nat)}:∀ c:AV,∀ s∈roots (kn1 d q c),s∈roots c
 | .bor s p,t,ht=>by rw [kn1] at ht; split at ht <;> simp_all [roots]
 | .ptr s p o,t,ht=>by rw [kn1] at ht; split at ht <;> simp_all [roots]
 | .slp s p o n,t,ht=>by rw [kn1] at ht; split at ht <;> simp_all [roots]
 | .agg cs,t,ht=>by rw [kn1,roots] at ht; exact zdh cs t ht
 | .tup cs,t,ht=>by rw [kn1,roots] at ht; exact zdh cs t ht
 | .fn f cs,t,ht=>by rw [kn1,roots] at ht; exact zdh cs t ht
 | .any,t,ht=>ht
 | .val v,t,ht=>ht
 | .sl n cs,t,ht=>ht
 | .own e n cs,t,ht=>ht
 | .ofs k e n cs,t,ht=>ht
 | .box e cs,t,ht=>ht
 | .fptr cs,t,ht=>ht
 | .mp c,t,ht=>ht
 | .fmp c,t,ht=>ht
 | .it l es,t,ht=>ht
theorem zdh {d:Nat} {q:List (List Nat)}:∀ cs:List AV,∀ s∈zaB (kn1L d q cs),s∈zaB cs
 | [],t,ht=>ht
 | c::cs,t,ht=>by
  rw [kn1L,zaB,List.mem_append] at ht
  rw [zaB,List.mem_append]
  exact ht.imp (ziv c t) (zdh cs t)
end
def UIn (D:List Nat):List Upd->Prop
 | []=>True
 | .w _ v::U=>(∀ s∈roots v,s∈D)/\UIn D U
 | .n _ v::U=>(∀ s∈roots v,s∈D)/\UIn D U
 | .m _ v _::U=>(∀ s∈roots v,s∈D)/\UIn D U
theorem Cov.app {x:Operand} (h:Cov D S x):∀ {U:List Upd},UIn D U->Cov D (app U S) x:=by
 intro U
 induction U generalizing S with
 | nil=>intro _; exact h
 | cons u U ih =>
  have key:∀ (d:Nat) (v:AV) (S2:St),(∀ s∈roots v,s∈D)->(∀ t,S2 t=(if t=d then v else S t)\/(∃ W,S2 t=kl W (if t=d then v else S t))\/(∃ e,S2 t=if t=d then v else kn e (S t))\/(∃ e q,S2 t=if t=d then v else kn1 e q (S t)))->Cov D S2 x:=by
   intro d v S2 hv h2 t ht
   unfold rdO at ht
   rcases List.mem_append.1 ht with ht | ht
   .exact h.slots t ht
   .cases x with
    | tmp i =>
     simp only [aop] at ht
     have hr:∀ s∈roots (if i=d then v else S i),s∈D:=by
      intro s hs
      split at hs
      .exact hv s hs
      .exact h.root (x:=.tmp i) hs
     rcases h2 i with e | ⟨W,e⟩ | ⟨e0,e⟩ | ⟨e0,q0,e⟩
     .rw [e] at ht; exact hr t ht
     .rw [e] at ht; exact hr t (zb5 _ t ht)
     .rw [e] at ht
      split at ht
      .exact hv t ht
      .rename_i hne
       have:=zkX _ t ht
       exact h.root (x:=.tmp i) this
     .rw [e] at ht
      split at ht
      .exact hv t ht
      .rename_i hne
       have:=ziv _ t ht
       exact h.root (x:=.tmp i) this
    | _=>exact h.root ht
  cases u with
  | w d v =>
   intro hU
   exact ih (key d v _ hU.1 (fun t=>.inr (.inl ⟨[d],rfl⟩))) hU.2
  | n d v =>
   intro hU
   exact ih (key d v _ hU.1 (fun t=>.inr (.inr (.inl ⟨d,rfl⟩)))) hU.2
  | m d v q =>
   intro hU
   exact ih (key d v _ hU.1 (fun t=>.inr (.inr (.inr ⟨d,q,rfl⟩)))) hU.2
theorem zez (h:Agree D S S') {cf:Cfg} {d:Nat} {x:Operand} (hx:Cov D S x):mvS cf S' d x=mvS cf S d x:=by
 have e:=h.aop hx.slots
 cases x with
 | tmp t=>simp only [mvS]; simp only [aop] at e; rw [e]
 | _=>simp only [mvS]; rw [e]
theorem zdB (h:Agree D S S') {x:Operand} (hx:Cov D S x):adr S' x=adr S x:=by
 have e:=h.aop hx.slots
 cases x with
 | tmp t =>
  simp only [adr]; simp only [aop] at e; rw [e]
  cases hS:S t with
  | bor s p=>simp only; rw [h.ctn (hx.root (by simp [aop,hS,roots]))]
  | _=>rfl
 | _=>rfl
theorem zp7 {x:Operand} {s:Nat} {p:List Nat} {off:Nat} (h:adr S x=some (s,p,off)):s∈zad x\/s∈roots (aop S x):=by
 cases x with
 | tmp t =>
  simp only [adr] at h
  cases hS:S t with
  | bor s' p' =>
   rw [hS] at h
   simp only at h
   split at h
   .simp at h; obtain ⟨rfl,rfl,rfl⟩:=h; exact .inr (by simp [aop,hS,roots])
   .simp at h
  | ptr s' p' o'=>rw [hS] at h; simp at h; obtain ⟨rfl,rfl,rfl⟩:=h; exact .inr (by simp [aop,hS,roots])
  | box e cs=>rw [hS] at h; simp at h; obtain ⟨rfl,rfl,rfl⟩:=h; exact .inl (by simp [zad])
  | _=>rw [hS] at h; simp at h
 | _=>simp [adr] at h
theorem Cov.adr {x:Operand} (hx:Cov D S x) {s:Nat} {p:List Nat} {off:Nat} (h:Abs.adr S x=some (s,p,off)):s∈D:=by
 rcases zp7 h with h | h
 .exact hx.slots s h
 .exact hx.root h
theorem zqv (h:Agree D S S') {d:Nat} {x:Operand} (hx:Cov D S x):ld1S S' d x=ld1S S d x:=by
 unfold ld1S
 rw [zdB h hx,h.aop hx.slots]
 cases ha:adr S x with
 | none=>rfl
 | some q=>obtain ⟨s,p,off⟩:=q; simp only [ld1A]; rw [h.ctn (hx.adr ha)]
theorem zsU (h:Agree D S S') {d:Nat} {T:TypeId} {x i:Operand} (hx:Cov D S x) (hi:Cov D S i):ixS P S' d T x i=ixS P S d T x i:=by
 unfold ixS
 rw [h.aop hi.slots,h.aop hx.slots]
 have hb:∀ s p,aop S x=.bor s p->ctn S' s p=ctn S s p:=fun s p e=>h.ctn (hx.root (by rw [e]; simp [roots])) p
 generalize hX:aop S x=c at hb |-
 cases x with
 | tmp t =>
  cases c with
  | bor s p=>simp only [hb s p rfl]
  | _=>rfl
 | _=>rfl
theorem zt6 (h:Agree D S S') {d:Nat} {T:TypeId} {x i:Operand} (hx:Cov D S x) (hi:Cov D S i):ixA P S' d T x i=ixA P S d T x i:=by
 unfold ixA
 rw [h.aop hi.slots,h.aop hx.slots,zdB h hx]
 cases ha:adr S x with
 | none=>rfl
 | some q =>
  obtain ⟨s,p,off⟩:=q
  simp only
  rw [h.ctn (hx.adr ha)]
theorem zuQ (h:Agree D S S') {d:Nat} {T:TypeId} {x i:Operand} (hx:Cov D S x) (hi:Cov D S i):ixR P S' d T x i=ixR P S d T x i:=by
 unfold ixR
 rw [zsU h hx hi,zt6 h hx hi]
theorem zo7 (h:Agree D S S') {N:Nat × List Nat} {d t i:Nat} (hx:Cov D S (.tmp t)):ptS S' N d t i=ptS S N d t i:=by
 unfold ptS
 rw [h t (hx.slots t (by simp [zad]))]
theorem zsL (h:Agree D S S') {N:Nat × List Nat} {d:Nat} {T:TypeId} {x i:Operand} (hx:Cov D S x) (hi:Cov D S i):ivS P S' N d T x i=ivS P S N d T x i:=by
 unfold ivS
 rw [h.aop hi.slots]
 cases x with
 | tmp t =>
  have e:∀ n,ptS S' N d t n=ptS S N d t n:=fun n=>zo7 h hx
  simp only [e]
 | _=>rfl
theorem zub (h:Agree D S S') {N:Nat × List Nat} {d i:Nat} {T:TypeId} {x:Operand} (hx:Cov D S x):fdS P S' N d T x i=fdS P S N d T x i:=by
 unfold fdS
 cases x with
 | tmp t =>
  have e:∀ n,ptS S' N d t n=ptS S N d t n:=fun n=>zo7 h hx
  simp only [e]
 | _=>rfl
theorem zcP (h:Agree D S S') {x:Option Operand} (hx:∀ y∈x,Cov D S y) (z:Int):bnd S' x z=bnd S x z:=by
 cases x with
 | none=>rfl
 | some y=>simp only [bnd]; rw [h.aop (hx y (by simp)).slots]
theorem ztu (h:Agree D S S') {d es:Nat} {rd:List Nat} {s:Nat} {p:List Nat} {o m:Nat} {lo hi:Option Operand} (hl:∀ y∈lo,Cov D S y) (hh:∀ y∈hi,Cov D S y):prS S' d es rd s p o m lo hi=prS S d es rd s p o m lo hi:=by
 unfold prS
 rw [zcP h hl,zcP h hh]
theorem zcI (h:Agree D S S') {fz:Bool} {s:Nat} (hs:s∈D) (p:List Nat):tkP fz s p S'=tkP fz s p S:=by
 unfold tkP; rw [h s hs]
theorem zpi (h:Agree D S S') {d es:Nat} {rd:List Nat} {s:Nat} (hs:s∈D) {p:List Nat} {lo hi:Option Operand} (hl:∀ y∈lo,Cov D S y) (hh:∀ y∈hi,Cov D S y):poS S' d es rd s p lo hi=poS S d es rd s p lo hi:=by
 unfold poS
 rw [zcI h hs]
 have e:∀ z,bnd S' lo z=bnd S lo z:=fun z=>zcP h hl z
 have e2:∀ z,bnd S' hi z=bnd S hi z:=fun z=>zcP h hh z
 simp only [e,e2]
theorem zsX (h:Agree D S S') {d es:Nat} {rd:List Nat} {s:Nat} (hs:s∈D) {p:List Nat} {lo hi:Option Operand} (hl:∀ y∈lo,Cov D S y) (hh:∀ y∈hi,Cov D S y):foS S' d es rd s p lo hi=foS S d es rd s p lo hi:=by
 unfold foS
 rw [zcI h hs]
 have e:∀ z,bnd S' lo z=bnd S lo z:=fun z=>zcP h hl z
 have e2:∀ z,bnd S' hi z=bnd S hi z:=fun z=>zcP h hh z
 simp only [e,e2]
theorem zui (h:Agree D S S') {cf:Cfg} {d:Nat} {T:TypeId} {x:Operand} {lo hi:Option Operand} (hx:Cov D S x) (hl:∀ y∈lo,Cov D S y) (hh:∀ y∈hi,Cov D S y):slS P cf S' d T x lo hi=slS P cf S d T x lo hi:=by
 unfold slS
 rw [zdB h hx]
 have e:∀ z,bnd S' lo z=bnd S lo z:=fun z=>zcP h hl z
 have e2:∀ z,bnd S' hi z=bnd S hi z:=fun z=>zcP h hh z
 have e3:∀ es rd s p o m,prS S' d es rd s p o m lo hi=prS S d es rd s p o m lo hi:=fun es rd s p o m=>ztu h hl hh
 cases hT:zaE P T with
 | some e0 =>
  simp only
  cases zar P e0 with
  | none=>rfl
  | some q =>
   obtain ⟨es,by_,zs⟩:=q
   cases x with
   | tmp t =>
    have ht:t∈D:=hx.slots t (by simp [zad])
    have e4:∀ es rd,poS S' d es rd t [] lo hi=poS S d es rd t [] lo hi:=fun es rd=>zpi h ht hl hh
    simp only [h t ht]
    cases hS:S t with
    | bor s p =>
     have hs:s∈D:=hx.root (x:=.tmp t) (by simp only [aop]; rw [hS]; simp [roots])
     have e5:∀ es rd,poS S' d es rd s p lo hi=poS S d es rd s p lo hi:=fun es rd=>zpi h hs hl hh
     have e6:∀ es rd,foS S' d es rd s p lo hi=foS S d es rd s p lo hi:=fun es rd=>zsX h hs hl hh
     simp only [e3,e5,e6,h.ctn hs]
    | own e1 m cs=>simp only [e3,e4]
    | sl m cs=>simp only [e,e2]
    | slp s p o m=>simp only [e3]
    | _=>rfl
   | _=>rfl
 | none =>
  simp only
  cases ha:adr S x with
  | none=>rfl
  | some q =>
   obtain ⟨s,p,off⟩:=q
   simp only
   rw [h.ctn (hx.adr ha)]
   simp only [e3]
theorem zkv (h:Agree D S S') {cf:Cfg} {x:Operand} (hx:Cov D S x):tk cf S' x=tk cf S x:=by
 have e:=h.aop hx.slots
 cases x with
 | tmp t =>
  unfold tk
  rw [e]
  have ht:t∈D:=hx.slots t (by simp [zad])
  cases hX:aop S (.tmp t) with
  | own=>simp only; rw [zcI h ht]
  | ofs=>simp only; rw [zcI h ht]
  | box=>simp only; rw [zcI h ht]
  | mp=>simp only; rw [zcI h ht]
  | it=>simp only; rw [zcI h ht]
  | bor s p=>simp only; rw [zcI h (hx.root (by rw [hX]; simp [roots]))]
  | _=>rfl
 | _=>unfold tk; rw [e]; generalize aop S _=c; cases c <;> rfl
theorem zhV (c:AV) (cs:List AV) (h:isOB c=true\/kids c≠none):roots (zbr c cs)=[]:=by cases c <;> simp_all [isOB,zbr,roots,kids]
theorem zeg {c:AV} {p:List Nat} {d:AV} (hk:kids c≠none):∀ s∈roots (putP c p d),s∈roots d:=by
 intro s hs
 cases p with
 | nil=>exact hs
 | cons i p =>
  simp only [putP] at hs
  split at hs
  .split at hs
   .rw [zhV _ _ (.inr hk)] at hs; simp at hs
   .cases c <;> simp_all [kids,roots]
  .cases c <;> simp_all [kids,roots]
theorem zgI {fz:Bool} {s:Nat} {p:List Nat} {c:AV} {U:List Upd} (h:tkP fz s p S=some (c,U)):UIn D U/\roots c=[]:=by
 unfold tkP at h
 split at h
 .rename_i x c' hk hg
  split at h
  .rename_i hob
   have hr:roots (frz c')=[]:=by cases c' <;> simp [isOB] at hob <;> simp [frz,roots]
   have hr':roots c'=[]:=by cases c' <;> simp [isOB] at hob <;> simp [roots]
   split at h
   .simp only [Option.some.injEq,Prod.mk.injEq] at h; obtain ⟨rfl,rfl⟩:=h
    exact ⟨⟨fun t ht=>by have:=zeg (by simp [hk]) t ht; rw [hr] at this; simp at this,trivial⟩,hr⟩
   .split at h
    .simp only [Option.some.injEq,Prod.mk.injEq] at h; obtain ⟨rfl,rfl⟩:=h
     exact ⟨⟨by simp [roots],trivial⟩,hr'⟩
    .simp only [Option.some.injEq,Prod.mk.injEq] at h; obtain ⟨rfl,rfl⟩:=h
     exact ⟨⟨fun t ht=>by have:=zeg (by simp [hk]) t ht; simp [roots] at this,trivial⟩,hr'⟩
  .simp at h
 .simp at h
theorem zud {cf:Cfg} {x:Operand} {c:AV} {U:List Upd} (h:tk cf S x=some (c,U)):UIn D U/\roots c=[]:=by
 unfold tk at h
 split at h
 .simp only [Option.some.injEq,Prod.mk.injEq] at h; obtain ⟨rfl,rfl⟩:=h; exact ⟨trivial,rfl⟩
 .simp only [Option.some.injEq,Prod.mk.injEq] at h; obtain ⟨rfl,rfl⟩:=h; exact ⟨trivial,rfl⟩
 .simp only [Option.some.injEq,Prod.mk.injEq] at h; obtain ⟨rfl,rfl⟩:=h; exact ⟨trivial,rfl⟩
 .simp only [Option.some.injEq,Prod.mk.injEq] at h; obtain ⟨rfl,rfl⟩:=h; exact ⟨trivial,rfl⟩
 .exact zgI h
 .exact zgI h
 .exact zgI h
 .exact zgI h
 .exact zgI h
 .exact zgI h
 .simp at h
theorem zjx {cf:Cfg}:∀ {xs:List Operand} {S S':St},Agree D S S'->(∀ x∈xs,Cov D S x)->tks cf S' xs=tks cf S xs
 | [],S,S',h,hx=>rfl
 | x::xs,S,S',h,hx=>by
  simp only [tks]
  rw [zkv h (hx x (by simp))]
  cases ht:tk cf S x with
  | none=>rfl
  | some q =>
   obtain ⟨c,U⟩:=q
   simp only
   rw [zjx (h.app' U) (fun y hy=>(hx y (by simp [hy])).app (zud ht).1)]
theorem ztf (h:Agree D S S') {cf:Cfg} {d:Nat} {T:TypeId} {len:Nat} {parts:List (Nat × Operand)} (hx:∀ x∈parts.map (·.2),Cov D S x):bsS P cf S' d T len parts=bsS P cf S d T len parts:=by
 unfold bsS; rw [zjx h hx]
theorem zuE (h:Agree D S S') {d:Nat} {T:TypeId} {x i:Operand} (hx:Cov D S x) (hi:Cov D S i):mkS P S' d T x i=mkS P S d T x i:=by
 unfold mkS; rw [h.aop hi.slots,h.aop hx.slots]
theorem zqx (h:Agree D S S') {cf:Cfg} {T:TypeId} {x y:Operand} (hx:Cov D S x) (hy:Cov D S y):st1S P cf S' T x y=st1S P cf S T x y:=by
 unfold st1S
 rw [zkv h hy]
 cases ht:tk cf S y with
 | none=>rfl
 | some q =>
  obtain ⟨c,U⟩:=q
  simp only
  have h2:=h.app' U
  have hx2:=hx.app (zud ht).1
  rw [zdB h2 hx2]
  cases ha:adr (app U S) x with
  | none=>rfl
  | some q =>
   obtain ⟨s,p,off⟩:=q
   simp only
   have hs:=hx2.adr ha
   rw [h2.ctn hs,h2 s hs]
theorem zs3 (h:Agree D S S') {y:Operand} (hy:Cov D S y):els S' y=els S y:=by
 unfold els
 rw [h.aop hy.slots]
 cases hX:aop S y with
 | val v =>
  cases v with
  | slice b n c=>cases b <;> cases n <;> cases c <;> cases y <;> rfl
  | _=>cases y <;> rfl
 | bor s p =>
  cases y with
  | tmp t=>simp only; rw [h.ctn (hy.root (by rw [hX]; simp [roots]))]
  | _=>rfl
 | _=>cases y <;> rfl
theorem ztV (h:Agree D S S') {d:Nat} {T:TypeId} {x y:Operand} (hx:Cov D S x) (hy:Cov D S y):apS P S' d T x y=apS P S d T x y:=by
 unfold apS
 rw [zkv h hx]
 cases ht:tk { nv:=0 } S x with
 | none=>rfl
 | some q =>
  obtain ⟨c,U⟩:=q
  have h2:=h.app' U
  have hy2:=hy.app (zud ht).1
  have hU:∀ e e' n cs U1,zfl e (some (c,U))=some (e',n,cs,U1)->U1=U:=by
   intro e e' n cs U1 hh
   rcases zf5 hh with h | ⟨h,_,_⟩ <;> (injection h with h; injection h with _ h; exact h.symm)
  split
  .rename_i e he
   split
   .split
    .rename_i e' n cs U1 hi
     have:=hU _ _ _ _ _ hi
     subst this
     rw [zs3 h2 hy2]
    .rfl
   .rfl
  .rfl
theorem ztM (h:Agree D S S') {d:Nat} {T:TypeId} {x:Operand} (hx:Cov D S x):lnS P S' d T x=lnS P S d T x:=by
 unfold lnS
 rw [h.aop hx.slots]
 have hb:∀ s p,aop S x=.bor s p->ctn S' s p=ctn S s p:=fun s p e=>h.ctn (hx.root (by rw [e]; simp [roots])) p
 generalize hX:aop S x=c at hb |-
 cases x with
 | tmp t =>
  cases c with
  | bor s p=>simp only [hb s p rfl]
  | val v =>
   cases v with
   | slice b n c=>cases b <;> cases n <;> cases c <;> rfl
   | _=>rfl
  | _=>rfl
 | _ =>
  cases c with
  | val v =>
   cases v with
   | slice b n c=>cases b <;> cases n <;> cases c <;> rfl
   | _=>rfl
  | _=>rfl
theorem zuB (h:Agree D S S') {N:Nat × List Nat} {d:Nat} {x:Operand} {i:Nat} (hx:Cov D S x):exS S' N d x i=exS S N d x i:=by
 have e:=h.aop hx.slots
 cases x with
 | tmp t=>simp only [exS]; simp only [aop] at e; rw [e]
 | _=>rfl
theorem zps (c:AV):∀ l∈locB c,l.1∈roots c:=by
 intro l hl
 cases c <;> simp [locB] at hl
 subst hl; simp [roots]
theorem zg4:∀ (cs:List AV),∀ l∈cs.flatMap locB,l.1∈zaB cs
 | [],l,hl=>by simp at hl
 | c::cs,l,hl=>by
  simp only [List.flatMap_cons,List.mem_append,zaB] at hl |-
  exact hl.imp (zps c l) (zg4 cs l)
theorem zoI:∀ {ls:List Loc} {S S':St},Agree D S S'->(∀ l∈ls,l.1∈D)->tkU S' ls=tkU S ls
 | [],S,S',h,hl=>rfl
 | (s,p)::ls,S,S',h,hl=>by
  have hs:s∈D:=hl (s,p) (by simp)
  simp only [tkU]
  rw [h.ctn hs,h s hs,zoI (h.updn s (putP (S s) p .any)) (fun l hl'=>hl l (by simp [hl']))]
theorem zrP:∀ {ls:List Loc} {S:St} {cs:List AV} {U:List Upd},tkU S ls=some (cs,U)->UIn D U
 | [],S,cs,U,h=>by simp [tkU] at h; obtain ⟨rfl,rfl⟩:=h; trivial
 | (s,p)::ls,S,cs,U,h=>by
  rw [tkU] at h
  split at h
  .rename_i c cc hc
   split at h
   .rename_i cs' U' h'
    injection h with h; obtain ⟨rfl,rfl⟩:=Prod.mk.injEq .. ▸ h
    exact ⟨fun t ht=>by have:=zeg (zaC hc).1 t ht; simp [roots] at this,zrP h'⟩
   .simp at h
  .simp at h
theorem zoA (h:Agree D S S') {t:Nat} (ht:t∈D) (hr:∀ s∈roots (S t),s∈D):takeA S' t=takeA S t:=by
 unfold takeA
 rw [h t ht]
 cases hS:S t with
 | agg cs=>simp only; rw [zoI h (fun l hl=>hr l.1 (by rw [hS]; simpa [roots] using zg4 cs l hl))]
 | _=>rfl
theorem zpI {t:Nat} {es:List AV} {U:List Upd} (h:takeA S t=some (es,U)):UIn D U:=by
 unfold takeA at h
 split at h
 .split at h
  .split at h
   .injection h with h; obtain ⟨rfl,rfl⟩:=Prod.mk.injEq .. ▸ h
    exact ⟨by simp [roots],trivial⟩
   .simp at h
  .split at h
   .rename_i lf U1 h1
    split at h
    .injection h with h; obtain ⟨rfl,rfl⟩:=Prod.mk.injEq .. ▸ h
     exact zrP h1
    .simp at h
   .simp at h
 .simp at h
theorem Cov.takeA (h:Agree D S S') {t:Nat} (hx:Cov D S (.tmp t)):takeA S' t=takeA S t :=
 zoA h (hx.slots t (by simp [zad])) (fun s hs=>hx.root hs)
theorem zuK (h:Agree D S S') {cf:Cfg} {N:Nat × List Nat} {d:Nat} {T:TypeId} {x:Operand} (hx:Cov D S x):bxS cf N S' d T x=bxS cf N S d T x:=by
 unfold bxS
 rw [h.aop hx.slots,zkv h hx]
 cases x with
 | tmp t =>
  have e:=Cov.takeA h hx
  generalize aop S (.tmp t)=v
  cases v with
  | agg cs=>simp only [e]
  | _=>rfl
 | _=>rfl
theorem zs9 (h:Agree D S S') {d i:Nat} {T:TypeId} {x:Operand} (hx:Cov D S x):faS P S' d T x i=faS P S d T x i:=by
 unfold faS
 rw [zdB h hx,h.aop hx.slots]
 cases ha:adr S x with
 | none=>rfl
 | some q =>
  obtain ⟨s,p,off⟩:=q
  simp only
  rw [h.ctn (hx.adr ha)]
theorem zqC (h:Agree D S S') {d m:Nat} {x:Operand} (hx:Cov D S x):ldAS S' d m x=ldAS S d m x:=by
 unfold ldAS
 rw [zdB h hx,h.aop hx.slots]
 cases ha:adr S x with
 | none=>rfl
 | some q =>
  obtain ⟨s,p,off⟩:=q
  simp only
  rw [h.ctn (hx.adr ha)]
theorem zrn (h:Agree D S S') {T:TypeId} {x y:Operand} (hx:Cov D S x) (hy:Cov D S y):stAS P S' T x y=stAS P S T x y:=by
 unfold stAS
 cases y with
 | tmp t =>
  simp only
  rw [Cov.takeA h hy]
  cases ht:takeA S t with
  | none=>rfl
  | some q =>
   obtain ⟨es,U⟩:=q
   simp only
   have h2:=h.app' U
   have hx2:=hx.app (zpI ht)
   rw [zdB h2 hx2]
   cases ha:adr (app U S) x with
   | none=>rfl
   | some q =>
    obtain ⟨s,p,off⟩:=q
    simp only
    have hs:=hx2.adr ha
    rw [h2.ctn hs,h2 s hs]
 | _=>rfl
theorem zkp (h:Agree D S S'):∀ {xs:List Operand},(∀ x∈xs,Cov D S x)->caps S' xs=caps S xs
 | [],hx=>rfl
 | x::xs,hx=>by
  simp only [caps]
  rw [zkp h (fun y hy=>hx y (by simp [hy]))]
  have e:cap1 S' x=cap1 S x:=by unfold cap1; rw [h.aop (hx x (by simp)).slots]
  rw [e]
theorem ztH (h:Agree D S S') {cf:Cfg} {d:Nat} {T:TypeId} {parts:List (Nat × Operand)} (hx:∀ x∈parts.map (·.2),Cov D S x):bdS P cf S' d T parts=bdS P cf S d T parts:=by
 unfold bdS; rw [zjx h hx]
theorem zue (h:Agree D S S') {d:Nat} {T:TypeId} {len:Nat} {parts:List (Nat × Operand)} (hx:∀ x∈parts.map (·.2),Cov D S x):b1S P S' d T len parts=b1S P S d T len parts:=by
 unfold b1S
 split
 .rename_i e t hT
  have:=Cov.takeA h (hx (.tmp t) (by simp))
  simp only [this]
 .rfl
theorem zsY (h:Agree D S S') {cf:Cfg} {d:Nat} {T:TypeId} {len:Nat} {parts:List (Nat × Operand)} (hx:∀ x∈parts.map (·.2),Cov D S x):blS P cf S' d T len parts=blS P cf S d T len parts:=by
 unfold blS
 rw [ztf h hx,zue h hx]
theorem ztZ (h:Agree D S S') {x:Operand} (hx:Cov D S x):plc S' x=plc S x:=by
 unfold plc
 rw [h.aop hx.slots]
 cases x with
 | tmp t =>
  cases hS:aop S (.tmp t) with
  | bor s p =>
   have hs:s∈D:=hx.root (by rw [hS]; simp [roots])
   simp only [h.ctn hs]
  | _=>rfl
 | _=>rfl
theorem zqA {x:Operand} {s:Nat} {p:List Nat} {o n:Nat} (h:plc S x=some (s,p,o,n)):s∈zad x\/s∈roots (aop S x):=by
 unfold plc at h
 split at h
 .simp only [Option.some.injEq,Prod.mk.injEq] at h; obtain ⟨rfl,rfl,rfl,rfl⟩:=h; exact .inl (by simp [zad])
 .rename_i t s' p' o' n' hS
  simp only [Option.some.injEq,Prod.mk.injEq] at h; obtain ⟨rfl,rfl,rfl,rfl⟩:=h
  exact .inr (by rw [hS]; simp [roots])
 .rename_i t s' p' hS
  split at h
  .simp only [Option.some.injEq,Prod.mk.injEq] at h; obtain ⟨rfl,rfl,rfl,rfl⟩:=h
   exact .inr (by rw [hS]; simp [roots])
  .simp at h
 .simp at h
theorem zrc (h:Agree D S S') {y:Operand} (hy:Cov D S y):srcC S' y=srcC S y:=by
 unfold srcC
 rw [h.aop hy.slots]
 cases y with
 | tmp t =>
  cases hS:aop S (.tmp t) with
  | bor s p =>
   have hs:s∈D:=hy.root (by rw [hS]; simp [roots])
   simp only [h.ctn hs]
  | slp s p o n =>
   have hs:s∈D:=hy.root (by rw [hS]; simp [roots])
   simp only [h.ctn hs]
  | val v=>cases v with
   | slice b n c=>cases b <;> cases n <;> cases c <;> rfl
   | _=>rfl
  | _=>rfl
 | _ =>
  generalize aop S _=v
  cases v with
  | val v=>cases v with
   | slice b n c=>cases b <;> cases n <;> cases c <;> rfl
   | _=>rfl
  | _=>rfl
theorem zuo (h:Agree D S S') {d:Nat} {T:TypeId} {x y:Operand} (hx:Cov D S x) (hy:Cov D S y):cpS P S' d T x y=cpS P S d T x y:=by
 unfold cpS
 rw [ztZ h hx,zrc h hy]
 cases hp:plc S x with
 | none=>rfl
 | some q =>
  obtain ⟨s,p,o,n⟩:=q
  have hs:s∈D:=by
   rcases zqA hp with h1 | h1
   .exact hx.slots s h1
   .exact hx.root h1
  cases srcC S y with
  | none=>rfl
  | some q2 =>
   obtain ⟨m,ds⟩:=q2
   simp only [h.ctn hs,h s hs]
theorem zrj (h:Agree D S S') {x:Operand} (hx:Cov D S x):mapA S' x=mapA S x:=by
 unfold mapA
 rw [h.aop hx.slots]
 cases x with
 | tmp t =>
  cases hS:aop S (.tmp t) with
  | bor s p =>
   have hs:s∈D:=hx.root (by rw [hS]; simp [roots])
   simp only [h s hs]
  | _=>rfl
 | _ =>
  generalize aop S _=v
  cases v <;> rfl
theorem zt2 (h:Agree D S S') {d:Nat} {T:TypeId} {x i:Operand} {ok:Bool} (hx:Cov D S x) (hi:Cov D S i):lkS P S' d T x i ok=lkS P S d T x i ok:=by
 unfold lkS
 rw [zrj h hx,h.aop hi.slots]
theorem zrz (h:Agree D S S') {x:Operand} (hx:Cov D S x):mplc S' x=mplc S x:=by
 unfold mplc
 cases x with
 | tmp t =>
  simp only [h t (hx.slots t (by simp [zad]))]
  cases hS:S t with
  | bor s p =>
   have hs:s∈D:=hx.root (x:=.tmp t) (by simp only [aop]; rw [hS]; simp [roots])
   simp only [h s hs]
  | _=>rfl
 | _=>rfl
theorem znz {x:Operand} {s:Nat} {p:List Nat} {c:Key->Option Int} (h:mplc S x=some (s,p,c)):s∈zad x\/s∈roots (aop S x):=by
 unfold mplc at h
 split at h
 .split at h
  .simp only [Option.some.injEq,Prod.mk.injEq] at h; obtain ⟨rfl,rfl,rfl⟩:=h; exact .inl (by simp [zad])
  .rename_i s' p' hS
   split at h
   .simp only [Option.some.injEq,Prod.mk.injEq] at h; obtain ⟨rfl,rfl,rfl⟩:=h
    exact .inr (by simp only [aop]; rw [hS]; simp [roots])
   .simp at h
  .simp at h
 .simp at h
theorem znI (h:Agree D S S') {T:TypeId} {x i y:Operand} (hx:Cov D S x) (hi:Cov D S i) (hy:Cov D S y):muS P S' T x i y=muS P S T x i y:=by
 unfold muS
 rw [zrz h hx,h.aop hi.slots,h.aop hy.slots]
 cases hp:mplc S x with
 | none=>rfl
 | some q =>
  obtain ⟨s,p,c⟩:=q
  have hs:s∈D:=by
   rcases znz hp with h1 | h1
   .exact hx.slots s h1
   .exact hx.root h1
  cases keyA (aop S i) with
  | none=>rfl
  | some k =>
   generalize aop S y=v
   cases v with
   | val v=>cases v with
    | int k' n=>cases k' <;> first | rfl | simp only [h s hs]
    | _=>rfl
   | _=>rfl
theorem zut (h:Agree D S S') {d:Nat} {x:Operand} (hx:Cov D S x):enS S' d x=enS S d x:=by
 unfold enS
 cases x with
 | tmp t=>simp only [h t (hx.slots t (by simp [zad]))]
 | _=>rfl
theorem zuD (h:Agree D S S') {d:Nat} {x:Operand} (hx:Cov D S x):ncS S' d x=ncS S d x:=by
 unfold ncS
 cases x with
 | tmp t =>
  simp only [h t (hx.slots t (by simp [zad]))]
  split
  .rename_i s hs
   have hr:s∈D:=hx.root (x:=.tmp t) (by simp [aop,hs,roots])
   rw [h s hr]
  .rfl
 | _=>rfl
theorem zol (h:Agree D S S') {cf:Cfg} {N:Nat × List Nat} {op:Op} {dst:Option Nat} (hx:∀ x∈op.operands.toList,Cov D S x):zdG P cf N S' op dst=zdG P cf N S op dst:=by
 unfold zdG
 split
 .rename_i x d; simp only [mvR]; rw [zez h (hx x (by simp [Op.operands]))]
 .rename_i x d; simp only [mvR]; rw [zez h (hx x (by simp [Op.operands]))]
 .rename_i c x y d
  rw [h.aop (hx c (by simp [Op.operands])).slots]
  simp only [mvR]
  rw [zez h (hx x (by simp [Op.operands])),zez h (hx y (by simp [Op.operands]))]
 .rename_i bo t x y t' d
  rw [h.aop (hx x (by simp [Op.operands])).slots,h.aop (hx y (by simp [Op.operands])).slots]
 .rename_i uo t x d; rw [h.aop (hx x (by simp [Op.operands])).slots]
 .rename_i s t x d; rw [h.aop (hx x (by simp [Op.operands])).slots]
 .rename_i x d; rw [zuD h (hx x (by simp [Op.operands]))]
 .rename_i T x d; simp only [ldR]; rw [zqv h (hx x (by simp [Op.operands]))]; split <;> first | rfl | (rw [zqC h (hx x (by simp [Op.operands]))])
 .rename_i T x y; simp only [stR]; rw [zqx h (hx x (by simp [Op.operands])) (hx y (by simp [Op.operands]))]; split <;> first | rfl | (rw [zrn h (hx x (by simp [Op.operands])) (hx y (by simp [Op.operands]))])
 .rename_i f xs d; simp only [mfS]; rw [zkp h (fun x hx'=>hx x (by simpa [Op.operands] using hx'))]
 .rfl
 .rename_i T x d; rw [zuK h (hx x (by simp [Op.operands]))]
 .rename_i T x i d; rw [zs9 h (hx x (by simp [Op.operands]))]
 .rename_i T x i d; rw [zuQ h (hx x (by simp [Op.operands])) (hx i (by simp [Op.operands]))]
 .rename_i T x i d; rw [zsL h (hx x (by simp [Op.operands])) (hx i (by simp [Op.operands]))]
 .rename_i T x i d; rw [zub h (hx x (by simp [Op.operands]))]
 .rename_i T x lo hi d; rw [zui h (hx x (by simp [Op.operands])) (fun y hy=>hx y (by cases hy; simp [Op.operands])) (fun y hy=>hx y (by cases hy; simp [Op.operands]))]
 .rename_i T parts d; rw [ztH h (fun x hx'=>hx x (by simpa [Op.operands] using hx'))]
 .rfl
 .rename_i T x i ok d; rw [zt2 h (hx x (by simp [Op.operands])) (hx i (by simp [Op.operands]))]
 .rename_i T x i y; rw [znI h (hx x (by simp [Op.operands])) (hx i (by simp [Op.operands])) (hx y (by simp [Op.operands]))]
 .rename_i T x i y; rw [znI h (hx x (by simp [Op.operands])) (hx i (by simp [Op.operands])) (hx y (by simp [Op.operands]))]
 .rename_i x d; rw [zut h (hx x (by simp [Op.operands]))]
 .rename_i t i d; rw [zuB h (hx t (by simp [Op.operands]))]
 .rename_i T len parts d; rw [zsY h (fun x hx'=>hx x (by simpa [Op.operands] using hx'))]
 .rename_i T l c d; rw [zuE h (hx l (by simp [Op.operands])) (hx c (by simp [Op.operands]))]
 .rename_i x y T T' d; rw [ztV h (hx x (by simp [Op.operands,Call.operands])) (hx y (by simp [Op.operands,Call.operands]))]
 .rename_i x T d; rw [ztM h (hx x (by simp [Op.operands,Call.operands]))]
 .rename_i x y T T' d; rw [zuo h (hx x (by simp [Op.operands,Call.operands])) (hx y (by simp [Op.operands,Call.operands]))]
 .rename_i x y ts d; simp only [mxS]; rw [h.aop (hx x (by simp [Op.operands,Call.operands])).slots,h.aop (hx y (by simp [Op.operands,Call.operands])).slots]
 .rename_i x y ts d; simp only [mxS]; rw [h.aop (hx x (by simp [Op.operands,Call.operands])).slots,h.aop (hx y (by simp [Op.operands,Call.operands])).slots]
 .rfl
mutual
theorem zoX (h:Agree D S S'):∀ c:AV,(∀ s∈roots c,s∈D)->rsv S' c=rsv S c
 | .bor s p,hr=>by simp only [rsv]; rw [h s (hr s (by simp [roots]))]
 | .val v,hr=>by
  rw [rsv.eq_def,rsv.eq_def]
  cases v with
  | slice b n c=>cases b <;> cases n <;> cases c <;> rfl
  | _=>rfl
 | .sl n cs,hr=>by simp only [rsv]
 | .own e n cs,hr=>by simp only [rsv]
 | .ofs k e n cs,hr=>by simp only [rsv]
 | .box e cs,hr=>by simp only [rsv]
 | .fptr cs,hr=>by simp only [rsv]
 | .mp c,hr=>by simp only [rsv]
 | .fmp c,hr=>by simp only [rsv]
 | .it l es,hr=>by simp only [rsv]
 | .agg cs,hr=>by simp only [rsv]; rw [zht h cs (by simpa [roots] using hr)]
 | .any,hr=>by simp only [rsv]
 | .tup cs,hr=>by simp only [rsv]
 | .fn f cs,hr=>by simp only [rsv]; rw [zht h cs (by simpa [roots] using hr)]
 | .ptr s p o,hr=>by simp only [rsv]
 | .slp s p o n,hr=>by simp only [rsv]; rw [h s (hr s (by simp [roots]))]
theorem zht (h:Agree D S S'):∀ cs:List AV,(∀ s∈zaB cs,s∈D)->rsvL S' cs=rsvL S cs
 | [],hr=>by simp only [rsvL]
 | c::cs,hr=>by
  simp only [rsvL]
  rw [zoX h c (fun s hs=>hr s (by simp [zaB,hs])),zht h cs (fun s hs=>hr s (by simp [zaB,hs]))]
end
theorem zdt (h:Agree D S S'):∀ {xs:List Operand},(∀ x∈xs,Cov D S x)->zaS S' xs=zaS S xs
 | [],hx=>rfl
 | x::xs,hx=>by
  simp only [zaS]
  rw [h.aop (hx x (by simp)).slots,zoX h _ (fun s hs=>(hx x (by simp)).root hs),zdt h (fun y hy=>hx y (by simp [hy]))]
end
end Go.Abs


namespace Go.Abs
variable [DrawK]
open Go.RowKit (Below)
mutual
def af:AV->Bool
 | .any=>false
 | .agg cs=>afL cs
 | .tup cs=>afL cs
 | .fn f cs=>afL cs
 | _=>true
def afL:List AV->Bool
 | []=>true
 | c::cs=>af c && afL cs
end
mutual
theorem zva {W:List Nat}:∀ c:AV,af (kl W c)=true->kl W c=c
 | .bor s p,h=>by rw [kl] at h |-; split at h <;> simp_all [af]
 | .ptr s p o,h=>by rw [kl] at h |-; split at h <;> simp_all [af]
 | .slp s p o n,h=>by rw [kl] at h |-; split at h <;> simp_all [af]
 | .agg cs,h=>by rw [kl,af] at h; rw [kl,zkh cs h]
 | .tup cs,h=>by rw [kl,af] at h; rw [kl,zkh cs h]
 | .fn f cs,h=>by rw [kl,af] at h; rw [kl,zkh cs h]
 | .any,h=>rfl
 | .val v,h=>rfl
 | .sl n cs,h=>rfl
 | .own e n cs,h=>rfl
 | .ofs k e n cs,h=>rfl
 | .box e cs,h=>rfl
 | .fptr cs,h=>rfl
 | .mp c,h=>rfl
 | .fmp c,h=>rfl
 | .it l es,h=>rfl
theorem zkh {W:List Nat}:∀ cs:List AV,afL (klL W cs)=true->klL W cs=cs
 | [],h=>rfl
 | c::cs,h=>by
  rw [klL,afL,Bool.and_eq_true] at h
  rw [klL,zva c h.1,zkh cs h.2]
end
mutual
theorem zvD {d:Nat}:∀ c:AV,af (kn d c)=true->kn d c=c
 | .bor s p,h=>by rw [kn] at h |-; split at h <;> simp_all [af]
 | .ptr s p o,h=>by rw [kn] at h |-; split at h <;> simp_all [af]
 | .slp s p o n,h=>by rw [kn] at h |-; split at h <;> simp_all [af]
 | .agg cs,h=>by rw [kn,af] at h; rw [kn,zlk cs h]
 | .tup cs,h=>by rw [kn,af] at h; rw [kn,zlk cs h]
 | .fn f cs,h=>by rw [kn,af] at h; rw [kn,zlk cs h]
 | .any,h=>rfl
 | .val v,h=>rfl
 | .sl n cs,h=>rfl
 | .own e n cs,h=>rfl
 | .ofs k e n cs,h=>rfl
 | .box e cs,h=>rfl
 | .fptr cs,h=>rfl
 | .mp c,h=>rfl
 | .fmp c,h=>rfl
 | .it l es,h=>rfl
theorem zlk {d:Nat}:∀ cs:List AV,afL (knL d cs)=true->knL d cs=cs
 | [],h=>rfl
 | c::cs,h=>by
  rw [knL,afL,Bool.and_eq_true] at h
  rw [knL,zvD c h.1,zlk cs h.2]
end
mutual
theorem zr0 {d:Nat} {q:List (List Nat)}:∀ c:AV,af (kn1 d q c)=true->kn1 d q c=c
 | .bor s p,h=>by rw [kn1] at h |-; split at h <;> simp_all [af]
 | .ptr s p o,h=>by rw [kn1] at h |-; split at h <;> simp_all [af]
 | .slp s p o n,h=>by rw [kn1] at h |-; split at h <;> simp_all [af]
 | .agg cs,h=>by rw [kn1,af] at h; rw [kn1,zhC cs h]
 | .tup cs,h=>by rw [kn1,af] at h; rw [kn1,zhC cs h]
 | .fn f cs,h=>by rw [kn1,af] at h; rw [kn1,zhC cs h]
 | .any,h=>rfl
 | .val v,h=>rfl
 | .sl n cs,h=>rfl
 | .own e n cs,h=>rfl
 | .ofs k e n cs,h=>rfl
 | .box e cs,h=>rfl
 | .fptr cs,h=>rfl
 | .mp c,h=>rfl
 | .fmp c,h=>rfl
 | .it l es,h=>rfl
theorem zhC {d:Nat} {q:List (List Nat)}:∀ cs:List AV,afL (kn1L d q cs)=true->kn1L d q cs=cs
 | [],h=>rfl
 | c::cs,h=>by
  rw [kn1L,afL,Bool.and_eq_true] at h
  rw [kn1L,zr0 c h.1,zhC cs h.2]
end
mutual
theorem zbl {W:List Nat}:∀ c:AV,(∀ s∈roots c,s ∉ W)->kl W c=c
 | .bor s p,h=>by rw [kl,if_neg (by simpa using h s (by simp [roots]))]
 | .ptr s p o,h=>by rw [kl,if_neg (by simpa using h s (by simp [roots]))]
 | .slp s p o n,h=>by rw [kl,if_neg (by simpa using h s (by simp [roots]))]
 | .agg cs,h=>by rw [kl,zcZ cs (by simpa [roots] using h)]
 | .tup cs,h=>by rw [kl,zcZ cs (by simpa [roots] using h)]
 | .fn f cs,h=>by rw [kl,zcZ cs (by simpa [roots] using h)]
 | .any,h=>rfl
 | .val v,h=>rfl
 | .sl n cs,h=>rfl
 | .own e n cs,h=>rfl
 | .ofs k e n cs,h=>rfl
 | .box e cs,h=>rfl
 | .fptr cs,h=>rfl
 | .mp c,h=>rfl
 | .fmp c,h=>rfl
 | .it l es,h=>rfl
theorem zcZ {W:List Nat}:∀ cs:List AV,(∀ s∈zaB cs,s ∉ W)->klL W cs=cs
 | [],h=>rfl
 | c::cs,h=>by rw [klL,zbl c (fun s hs=>h s (by simp [zaB,hs])),zcZ cs (fun s hs=>h s (by simp [zaB,hs]))]
end
mutual
theorem zbm {d:Nat}:∀ c:AV,(∀ s∈roots c,s≠d)->kn d c=c
 | .bor s p,h=>by have:=h s (by simp [roots]); simp [kn,this]
 | .ptr s p o,h=>by have:=h s (by simp [roots]); simp [kn,this]
 | .slp s p o n,h=>by have:=h s (by simp [roots]); simp [kn,this]
 | .agg cs,h=>by rw [kn,zc3 cs (by simpa [roots] using h)]
 | .tup cs,h=>by rw [kn,zc3 cs (by simpa [roots] using h)]
 | .fn f cs,h=>by rw [kn,zc3 cs (by simpa [roots] using h)]
 | .any,h=>rfl
 | .val v,h=>rfl
 | .sl n cs,h=>rfl
 | .own e n cs,h=>rfl
 | .ofs k e n cs,h=>rfl
 | .box e cs,h=>rfl
 | .fptr cs,h=>rfl
 | .mp c,h=>rfl
 | .fmp c,h=>rfl
 | .it l es,h=>rfl
theorem zc3 {d:Nat}:∀ cs:List AV,(∀ s∈zaB cs,s≠d)->knL d cs=cs
 | [],h=>rfl
 | c::cs,h=>by rw [knL,zbm c (fun s hs=>h s (by simp [zaB,hs])),zc3 cs (fun s hs=>h s (by simp [zaB,hs]))]
end
mutual
theorem zbj {d:Nat} {q:List (List Nat)}:∀ c:AV,(∀ s∈roots c,s≠d)->kn1 d q c=c
 | .bor s p,h=>by have:=h s (by simp [roots]); simp [kn1,this]
 | .ptr s p o,h=>by have:=h s (by simp [roots]); simp [kn1,this]
 | .slp s p o n,h=>by have:=h s (by simp [roots]); simp [kn1,this]
 | .agg cs,h=>by rw [kn1,zcu cs (by simpa [roots] using h)]
 | .tup cs,h=>by rw [kn1,zcu cs (by simpa [roots] using h)]
 | .fn f cs,h=>by rw [kn1,zcu cs (by simpa [roots] using h)]
 | .any,h=>rfl
 | .val v,h=>rfl
 | .sl n cs,h=>rfl
 | .own e n cs,h=>rfl
 | .ofs k e n cs,h=>rfl
 | .box e cs,h=>rfl
 | .fptr cs,h=>rfl
 | .mp c,h=>rfl
 | .fmp c,h=>rfl
 | .it l es,h=>rfl
theorem zcu {d:Nat} {q:List (List Nat)}:∀ cs:List AV,(∀ s∈zaB cs,s≠d)->kn1L d q cs=cs
 | [],h=>rfl
 | c::cs,h=>by rw [kn1L,zbj c (fun s hs=>h s (by simp [zaB,hs])),zcu cs (fun s hs=>h s (by simp [zaB,hs]))]
end
mutual
theorem zgV {W V:List Nat}:∀ c:AV,kl W (kl V c)=kl V (kl W c)
 | .bor s p=>by by_cases h:s∈W <;> by_cases k:s∈V <;> simp [kl,h,k]
 | .ptr s p o=>by by_cases h:s∈W <;> by_cases k:s∈V <;> simp [kl,h,k]
 | .slp s p o n=>by by_cases h:s∈W <;> by_cases k:s∈V <;> simp [kl,h,k]
 | .agg cs=>by simp [kl,zb6 cs]
 | .tup cs=>by simp [kl,zb6 cs]
 | .fn f cs=>by simp [kl,zb6 cs]
 | .any=>rfl
 | .val v=>rfl
 | .sl n cs=>rfl
 | .own e n cs=>rfl
 | .ofs k e n cs=>rfl
 | .box e cs=>rfl
 | .fptr cs=>rfl
 | .mp c=>rfl
 | .fmp c=>rfl
 | .it l es=>rfl
theorem zb6 {W V:List Nat}:∀ cs:List AV,klL W (klL V cs)=klL V (klL W cs)
 | []=>rfl
 | c::cs=>by simp [klL,zgV c,zb6 cs]
end
mutual
theorem zeC {W:List Nat} {d:Nat}:∀ c:AV,kl W (kn d c)=kn d (kl W c)
 | .bor s p=>by cases p <;> by_cases h:s∈W <;> (by_cases k:s=d) <;> first | (subst k; simp [kl,kn,h]; done) | simp [kl,kn,h,k]
 | .ptr s p o=>by cases p <;> by_cases h:s∈W <;> (by_cases k:s=d) <;> first | (subst k; simp [kl,kn,h]; done) | simp [kl,kn,h,k]
 | .slp s p o n=>by cases p <;> by_cases h:s∈W <;> (by_cases k:s=d) <;> first | (subst k; simp [kl,kn,h]; done) | simp [kl,kn,h,k]
 | .agg cs=>by simp [kl,kn,zb0 cs]
 | .tup cs=>by simp [kl,kn,zb0 cs]
 | .fn f cs=>by simp [kl,kn,zb0 cs]
 | .any=>rfl
 | .val v=>rfl
 | .sl n cs=>rfl
 | .own e n cs=>rfl
 | .ofs k e n cs=>rfl
 | .box e cs=>rfl
 | .fptr cs=>rfl
 | .mp c=>rfl
 | .fmp c=>rfl
 | .it l es=>rfl
theorem zb0 {W:List Nat} {d:Nat}:∀ cs:List AV,klL W (knL d cs)=knL d (klL W cs)
 | []=>rfl
 | c::cs=>by simp [klL,knL,zeC c,zb0 cs]
end
mutual
theorem zdA {W:List Nat} {d:Nat} {q:List (List Nat)}:∀ c:AV,kl W (kn1 d q c)=kn1 d q (kl W c)
 | .bor s p=>by by_cases hq:kpB q p=true <;> (by_cases h:s∈W) <;> (by_cases k:s=d) <;> first | (subst k; simp [kl,kn1,h,hq]; done) | (simp [kl,kn1,h,k,hq]; done)
 | .ptr s p o=>by by_cases hq:kpB q p=true <;> (by_cases h:s∈W) <;> (by_cases k:s=d) <;> first | (subst k; simp [kl,kn1,h,hq]; done) | (simp [kl,kn1,h,k,hq]; done)
 | .slp s p o n=>by by_cases hq:kpB q p=true <;> (by_cases h:s∈W) <;> (by_cases k:s=d) <;> first | (subst k; simp [kl,kn1,h,hq]; done) | (simp [kl,kn1,h,k,hq]; done)
 | .agg cs=>by simp [kl,kn1,zbG cs]
 | .tup cs=>by simp [kl,kn1,zbG cs]
 | .fn f cs=>by simp [kl,kn1,zbG cs]
 | .any=>rfl
 | .val v=>rfl
 | .sl n cs=>rfl
 | .own e n cs=>rfl
 | .ofs k e n cs=>rfl
 | .box e cs=>rfl
 | .fptr cs=>rfl
 | .mp c=>rfl
 | .fmp c=>rfl
 | .it l es=>rfl
theorem zbG {W:List Nat} {d:Nat} {q:List (List Nat)}:∀ cs:List AV,klL W (kn1L d q cs)=kn1L d q (klL W cs)
 | []=>rfl
 | c::cs=>by simp [klL,kn1L,zdA c,zbG cs]
end
mutual
theorem zgG {d e:Nat}:∀ c:AV,kn d (kn e c)=kn e (kn d c)
 | .bor s p=>by cases p <;> (by_cases h:s=d) <;> (by_cases k:s=e) <;> first | (subst h; subst k; simp [kn]; done) | (subst h; simp [kn,k]; done) | (subst k; simp [kn,h]; done) | simp [kn,h,k]
 | .ptr s p o=>by cases p <;> (by_cases h:s=d) <;> (by_cases k:s=e) <;> first | (subst h; subst k; simp [kn]; done) | (subst h; simp [kn,k]; done) | (subst k; simp [kn,h]; done) | simp [kn,h,k]
 | .slp s p o n=>by cases p <;> (by_cases h:s=d) <;> (by_cases k:s=e) <;> first | (subst h; subst k; simp [kn]; done) | (subst h; simp [kn,k]; done) | (subst k; simp [kn,h]; done) | simp [kn,h,k]
 | .agg cs=>by simp [kn,zcc cs]
 | .tup cs=>by simp [kn,zcc cs]
 | .fn f cs=>by simp [kn,zcc cs]
 | .any=>rfl
 | .val v=>rfl
 | .sl n cs=>rfl
 | .own e n cs=>rfl
 | .ofs k e n cs=>rfl
 | .box e cs=>rfl
 | .fptr cs=>rfl
 | .mp c=>rfl
 | .fmp c=>rfl
 | .it l es=>rfl
theorem zcc {d e:Nat}:∀ cs:List AV,knL d (knL e cs)=knL e (knL d cs)
 | []=>rfl
 | c::cs=>by simp [knL,zgG c,zcc cs]
end
mutual
theorem zeN {d e:Nat} {q r:List (List Nat)}:∀ c:AV,kn1 d q (kn1 e r c)=kn1 e r (kn1 d q c)
 | .bor s p=>by by_cases hq:kpB q p=true <;> by_cases hr:kpB r p=true <;> (by_cases h:s=d) <;> (by_cases k:s=e) <;> first | (subst h; subst k; simp [kn1,hq,hr]; done) | (subst h; simp [kn1,k,hq,hr]; done) | (subst k; simp [kn1,h,hq,hr]; done) | simp [kn1,h,k,hq,hr]
 | .ptr s p o=>by by_cases hq:kpB q p=true <;> by_cases hr:kpB r p=true <;> (by_cases h:s=d) <;> (by_cases k:s=e) <;> first | (subst h; subst k; simp [kn1,hq,hr]; done) | (subst h; simp [kn1,k,hq,hr]; done) | (subst k; simp [kn1,h,hq,hr]; done) | simp [kn1,h,k,hq,hr]
 | .slp s p o n=>by by_cases hq:kpB q p=true <;> by_cases hr:kpB r p=true <;> (by_cases h:s=d) <;> (by_cases k:s=e) <;> first | (subst h; subst k; simp [kn1,hq,hr]; done) | (subst h; simp [kn1,k,hq,hr]; done) | (subst k; simp [kn1,h,hq,hr]; done) | simp [kn1,h,k,hq,hr]
 | .agg cs=>by simp [kn1,zby cs]
 | .tup cs=>by simp [kn1,zby cs]
 | .fn f cs=>by simp [kn1,zby cs]
 | .any=>rfl
 | .val v=>rfl
 | .sl n cs=>rfl
 | .own e n cs=>rfl
 | .ofs k e n cs=>rfl
 | .box e cs=>rfl
 | .fptr cs=>rfl
 | .mp c=>rfl
 | .fmp c=>rfl
 | .it l es=>rfl
theorem zby {d e:Nat} {q r:List (List Nat)}:∀ cs:List AV,kn1L d q (kn1L e r cs)=kn1L e r (kn1L d q cs)
 | []=>rfl
 | c::cs=>by simp [kn1L,zeN c,zby cs]
end
mutual
theorem zdx {d e:Nat} {r:List (List Nat)}:∀ c:AV,kn d (kn1 e r c)=kn1 e r (kn d c)
 | .bor s p=>by by_cases hr:kpB r p=true <;> cases p <;> (by_cases h:s=d) <;> (by_cases k:s=e) <;> first | (subst h; subst k; simp [kn,kn1,hr]; done) | (subst h; simp [kn,kn1,k,hr]; done) | (subst k; simp [kn,kn1,h,hr]; done) | (simp [kn,kn1,h,k,hr]; done) | simp_all [kn,kn1]
 | .ptr s p o=>by by_cases hr:kpB r p=true <;> cases p <;> (by_cases h:s=d) <;> (by_cases k:s=e) <;> first | (subst h; subst k; simp [kn,kn1,hr]; done) | (subst h; simp [kn,kn1,k,hr]; done) | (subst k; simp [kn,kn1,h,hr]; done) | (simp [kn,kn1,h,k,hr]; done) | simp_all [kn,kn1]
 | .slp s p o n=>by by_cases hr:kpB r p=true <;> cases p <;> (by_cases h:s=d) <;> (by_cases k:s=e) <;> first | (subst h; subst k; simp [kn,kn1,hr]; done) | (subst h; simp [kn,kn1,k,hr]; done) | (subst k; simp [kn,kn1,h,hr]; done) | (simp [kn,kn1,h,k,hr]; done) | simp_all [kn,kn1]
 | .agg cs=>by simp [kn,kn1,zbF cs]
 | .tup cs=>by simp [kn,kn1,zbF cs]
 | .fn f cs=>by simp [kn,kn1,zbF cs]
 | .any=>rfl
 | .val v=>rfl
 | .sl n cs=>rfl
 | .own e n cs=>rfl
 | .ofs k e n cs=>rfl
 | .box e cs=>rfl
 | .fptr cs=>rfl
 | .mp c=>rfl
 | .fmp c=>rfl
 | .it l es=>rfl
theorem zbF {d e:Nat} {r:List (List Nat)}:∀ cs:List AV,knL d (kn1L e r cs)=kn1L e r (knL d cs)
 | []=>rfl
 | c::cs=>by simp [knL,kn1L,zdx c,zbF cs]
end
def wrs:List Upd->List Nat
 | []=>[]
 | .w d _::U=>d::wrs U
 | .n d _::U=>d::wrs U
 | .m d _ _::U=>d::wrs U
def rts:List Upd->List Nat
 | []=>[]
 | .w _ v::U=>roots v++rts U
 | .n _ v::U=>roots v++rts U
 | .m _ v _::U=>roots v++rts U
def appU:Upd->St->St
 | .w d v,S=>upd d v S
 | .n d v,S=>updn d v S
 | .m d v q,S=>updn1 d v q S
def dU:Upd->Nat
 | .w d _=>d
 | .n d _=>d
 | .m d _ _=>d
def vU:Upd->AV
 | .w _ v=>v
 | .n _ v=>v
 | .m _ v _=>v
theorem znS {u u':Upd} (h:dU u≠dU u') (h1:dU u ∉ roots (vU u')) (h2:dU u' ∉ roots (vU u)) (S:St):appU u (appU u' S)=appU u' (appU u S):=by
 funext i
 cases u with
 | w d v =>
  cases u' with
  | w e x =>
   simp only [dU,vU] at h h1 h2
   simp only [appU,upd]
   by_cases hd:i=d
   .subst hd
    rw [if_pos rfl,if_neg h,if_pos rfl,zbl (W:=[e]) (kl [i] v) (fun s hs e1=>by have:=zb5 _ s hs; simp at e1; subst e1; exact h2 this)]
   .rw [if_neg hd,if_neg hd]
    by_cases he:i=e
    .subst he
     rw [if_pos rfl,if_pos rfl,zbl (W:=[d]) (kl [i] x) (fun s hs e1=>by have:=zb5 _ s hs; simp at e1; subst e1; exact h1 this)]
    .rw [if_neg he,if_neg he,zgV]
  | n e x =>
   simp only [dU,vU] at h h1 h2
   simp only [appU,upd,updn]
   by_cases hd:i=d
   .subst hd
    rw [if_pos rfl,if_neg h,if_pos rfl,zbm (kl [i] v) (fun s hs e1=>by have:=zb5 _ s hs; subst e1; exact h2 this)]
   .rw [if_neg hd,if_neg hd]
    by_cases he:i=e
    .subst he
     rw [if_pos rfl,if_pos rfl,zbl (W:=[d]) x (fun s hs e1=>by simp at e1; subst e1; exact h1 hs)]
    .rw [if_neg he,if_neg he,zeC]
  | m e x r =>
   simp only [dU,vU] at h h1 h2
   simp only [appU,upd,updn1]
   by_cases hd:i=d
   .subst hd
    rw [if_pos rfl,if_neg h,if_pos rfl,zbj (kl [i] v) (fun s hs e1=>by have:=zb5 _ s hs; subst e1; exact h2 this)]
   .rw [if_neg hd,if_neg hd]
    by_cases he:i=e
    .subst he
     rw [if_pos rfl,if_pos rfl,zbl (W:=[d]) x (fun s hs e1=>by simp at e1; subst e1; exact h1 hs)]
    .rw [if_neg he,if_neg he,zdA]
 | n d v =>
  cases u' with
  | w e x =>
   simp only [dU,vU] at h h1 h2
   simp only [appU,updn,upd]
   by_cases hd:i=d
   .subst hd
    rw [if_pos rfl,if_neg h,if_pos rfl,zbl (W:=[e]) v (fun s hs e1=>by simp at e1; subst e1; exact h2 hs)]
   .rw [if_neg hd,if_neg hd]
    by_cases he:i=e
    .subst he
     rw [if_pos rfl,if_pos rfl,zbm (kl [i] x) (fun s hs e1=>by have:=zb5 _ s hs; subst e1; exact h1 this)]
    .rw [if_neg he,if_neg he,zeC]
  | n e x =>
   simp only [dU,vU] at h h1 h2
   simp only [appU,updn]
   by_cases hd:i=d
   .subst hd
    rw [if_pos rfl,if_neg h,if_pos rfl,zbm v (fun s hs e1=>by subst e1; exact h2 hs)]
   .rw [if_neg hd,if_neg hd]
    by_cases he:i=e
    .subst he
     rw [if_pos rfl,if_pos rfl,zbm x (fun s hs e1=>by subst e1; exact h1 hs)]
    .rw [if_neg he,if_neg he,zgG]
  | m e x r =>
   simp only [dU,vU] at h h1 h2
   simp only [appU,updn,updn1]
   by_cases hd:i=d
   .subst hd
    rw [if_pos rfl,if_neg h,if_pos rfl,zbj v (fun s hs e1=>by subst e1; exact h2 hs)]
   .rw [if_neg hd,if_neg hd]
    by_cases he:i=e
    .subst he
     rw [if_pos rfl,if_pos rfl,zbm x (fun s hs e1=>by subst e1; exact h1 hs)]
    .rw [if_neg he,if_neg he,zdx]
 | m d v q =>
  cases u' with
  | w e x =>
   simp only [dU,vU] at h h1 h2
   simp only [appU,updn1,upd]
   by_cases hd:i=d
   .subst hd
    rw [if_pos rfl,if_neg h,if_pos rfl,zbl (W:=[e]) v (fun s hs e1=>by simp at e1; subst e1; exact h2 hs)]
   .rw [if_neg hd,if_neg hd]
    by_cases he:i=e
    .subst he
     rw [if_pos rfl,if_pos rfl,zbj (kl [i] x) (fun s hs e1=>by have:=zb5 _ s hs; subst e1; exact h1 this)]
    .rw [if_neg he,if_neg he,zdA]
  | n e x =>
   simp only [dU,vU] at h h1 h2
   simp only [appU,updn1,updn]
   by_cases hd:i=d
   .subst hd
    rw [if_pos rfl,if_neg h,if_pos rfl,zbm v (fun s hs e1=>by subst e1; exact h2 hs)]
   .rw [if_neg hd,if_neg hd]
    by_cases he:i=e
    .subst he
     rw [if_pos rfl,if_pos rfl,zbj x (fun s hs e1=>by subst e1; exact h1 hs)]
    .rw [if_neg he,if_neg he,zdx]
  | m e x r =>
   simp only [dU,vU] at h h1 h2
   simp only [appU,updn1]
   by_cases hd:i=d
   .subst hd
    rw [if_pos rfl,if_neg h,if_pos rfl,zbj v (fun s hs e1=>by subst e1; exact h2 hs)]
   .rw [if_neg hd,if_neg hd]
    by_cases he:i=e
    .subst he
     rw [if_pos rfl,if_pos rfl,zbj x (fun s hs e1=>by subst e1; exact h1 hs)]
    .rw [if_neg he,if_neg he,zeN]
theorem zdd (u:Upd) (U:List Upd) (S:St):app (u::U) S=app U (appU u S):=by cases u <;> rfl
def Disj (a b:List Nat):Prop:=∀ x,x∈a->x ∉ b
theorem zeE {u:Upd}:∀ {U:List Upd},dU u ∉ wrs U->dU u ∉ rts U->Disj (wrs U) (roots (vU u))->∀ S,app U (appU u S)=appU u (app U S)
 | [],_,_,_,S=>rfl
 | u'::U,h1,h2,h3,S=>by
  rw [zdd,zdd]
  have e1:dU u≠dU u':=by cases u' <;> simp [wrs,dU] at h1 |- <;> exact h1.1
  have e2:dU u ∉ roots (vU u'):=by cases u' <;> simp [rts,vU] at h2 |- <;> exact h2.1
  have e3:dU u' ∉ roots (vU u):=by cases u' <;> exact h3 _ (by simp [wrs,dU])
  rw [<- znS e1 e2 e3]
  exact zeE (by cases u' <;> simp [wrs] at h1 |- <;> exact h1.2) (by cases u' <;> simp [rts] at h2 |- <;> exact h2.2) (fun x hx=>h3 x (by cases u' <;> simp [wrs,hx])) _
theorem zlq:∀ {U V:List Upd},Disj (wrs U) (wrs V)->Disj (wrs U) (rts V)->Disj (wrs V) (rts U)->∀ S,app U (app V S)=app V (app U S)
 | [],V,_,_,_,S=>rfl
 | u::U,V,h1,h2,h3,S=>by
  rw [zdd,zdd]
  have d1:dU u∈wrs (u::U):=by cases u <;> simp [wrs,dU]
  rw [<- zeE (h1 _ d1) (h2 _ d1) (fun x hx hx'=>h3 x hx (by cases u <;> simp [rts,vU] at hx' |- <;> exact .inl hx'))]
  exact zlq (fun x hx=>h1 x (by cases u <;> simp [wrs,hx])) (fun x hx=>h2 x (by cases u <;> simp [wrs,hx])) (fun x hx hx'=>h3 x hx (by cases u <;> simp [rts,hx'])) _
theorem zrN:∀ {U:List Upd} {S:St} {t:Nat},t ∉ wrs U->af (app U S t)=true->app U S t=S t
 | [],S,t,_,_=>rfl
 | u::U,S,t,h,ha=>by
  rw [zdd] at ha |-
  have e1:t≠dU u:=by cases u <;> simp [wrs,dU] at h |- <;> exact h.1
  have h2:t ∉ wrs U:=by cases u <;> simp [wrs] at h |- <;> exact h.2
  have:=zrN h2 ha
  rw [this] at ha |-
  cases u with
  | w d v =>
   simp only [appU,upd,dU] at ha e1 |-
   rw [if_neg e1] at ha |-
   exact zva _ ha
  | n d v =>
   simp only [appU,updn,dU] at ha e1 |-
   rw [if_neg e1] at ha |-
   exact zvD _ ha
  | m d v q =>
   simp only [appU,updn1,dU] at ha e1 |-
   rw [if_neg e1] at ha |-
   exact zr0 _ ha
theorem zgQ:∀ {U:List Upd} {S:St} {t:Nat},t ∉ wrs U->(∀ s∈roots (S t),s ∉ wrs U)->app U S t=S t
 | [],S,t,_,_=>rfl
 | u::U,S,t,h,hr=>by
  rw [zdd]
  have e1:t≠dU u:=by cases u <;> simp [wrs,dU] at h |- <;> exact h.1
  have h2:t ∉ wrs U:=by cases u <;> simp [wrs] at h |- <;> exact h.2
  have e2:appU u S t=S t:=by
   cases u with
   | w d v =>
    simp only [appU,upd,dU] at e1 |-
    rw [if_neg e1]
    exact zbl _ (fun s hs e=>hr s hs (by simp at e; subst e; simp [wrs]))
   | n d v =>
    simp only [appU,updn,dU] at e1 |-
    rw [if_neg e1]
    exact zbm _ (fun s hs e=>hr s hs (by subst e; simp [wrs]))
   | m d v q =>
    simp only [appU,updn1,dU] at e1 |-
    rw [if_neg e1]
    exact zbj _ (fun s hs e=>hr s hs (by subst e; simp [wrs]))
  rw [zgQ h2 (by rw [e2]; intro s hs hx; exact hr s hs (by cases u <;> simp [wrs,hx])),e2]
end Go.Abs


namespace Go.Abs
variable [DrawK]
open Go.RowKit (Below)
structure Ent where
 i:Nat
 D:List Nat
 W:List Nat
def indB (e f:Ent):Bool:=e.W.all (fun x=>!(f.D.contains x) && !(f.W.contains x)) && f.W.all (fun x=>!(e.D.contains x))
def zhF (ops:Array Oper):Nat->List Nat
 | 0=>[]
 | n+1=>zhF ops n++[match ops[n]? with
  | some o=>o.after.toList.foldl (fun s e=>if Region.binds .any e then s ||| (2 ^ e.on ||| (zhF ops n).getD e.on 0) else s) 0
  | none=>0]
def dirB (ops:Array Oper) (i j:Nat):Bool:=((zhF ops ops.size).getD j 0).testBit i
theorem zcs (ops:Array Oper):∀ n,(zhF ops n).length=n
 | 0=>rfl
 | n+1=>by simp [zhF,zcs ops n]
theorem zfB (ops:Array Oper) (j:Nat):∀ n,j<n->(zhF ops n).getD j 0=match ops[j]? with
  | some o=>o.after.toList.foldl (fun s e=>if Region.binds .any e then s ||| (2 ^ e.on ||| (zhF ops j).getD e.on 0) else s) 0
  | none=>0
 | 0,h=>by omega
 | n+1,h=>by
  rw [zhF,List.getD_eq_getElem?_getD]
  by_cases e:j=n
  .subst e
   rw [List.getElem?_append_right (by rw [zcs]; omega),zcs]
   simp
  .rw [List.getElem?_append_left (by rw [zcs]; omega),<- List.getD_eq_getElem?_getD]
   exact zfB ops j n (by omega)
theorem zlw (m:List Nat) (i:Nat):∀ (l:List Edge) (s:Nat),(l.foldl (fun s e=>if Region.binds .any e then s ||| (2 ^ e.on ||| m.getD e.on 0) else s) s).testBit i=true ->
  s.testBit i=true\/∃ e∈l,Region.binds .any e=true/\(e.on=i\/(m.getD e.on 0).testBit i=true)
 | [],s,h=>.inl h
 | e::l,s,h=>by
  rw [List.foldl_cons] at h
  rcases zlw m i l _ h with h1 | ⟨e',h1,h2,h3⟩
  .split at h1
   .rename_i hb
    rw [Nat.testBit_or,Nat.testBit_or,Nat.testBit_two_pow] at h1
    simp only [Bool.or_eq_true,decide_eq_true_eq] at h1
    rcases h1 with h1 | h1 | h1
    .exact .inl h1
    .exact .inr ⟨e,by simp,hb,.inl h1⟩
    .exact .inr ⟨e,by simp,hb,.inr h1⟩
   .exact .inl h1
  .exact .inr ⟨e',by simp [h1],h2,h3⟩
theorem zgx {ops:Array Oper} {L:Nat->Prop} (hcl:∀ j o,L j->ops[j]?=some o->∀ e∈o.after.toList,Region.binds .any e=true->L e.on) :
  ∀ (j:Nat) (o:Oper),ops[j]?=some o->(∀ e∈o.after.toList,Region.binds .any e=true->L e.on)->∀ n,j<n->∀ i,((zhF ops n).getD j 0).testBit i=true->L i:=by
 intro j
 induction j using Nat.strongRecOn with
 | ind j ih =>
  intro o ho hp n hn i hb
  rw [zfB ops j n hn,ho] at hb
  rcases zlw _ i _ _ hb with h1 | ⟨e,h1,h2,h3⟩
  .simp at h1
  .rcases h3 with h3 | h3
   .subst h3; exact hp e h1 h2
   .rcases Nat.lt_or_ge e.on j with hlt | hge
    .have hL:=hp e h1 h2
     cases ho':ops[e.on]? with
     | none=>rw [zfB ops e.on j hlt,ho'] at h3; simp at h3
     | some o'=>exact ih e.on hlt o' ho' (fun e' he' hb'=>hcl e.on o' hL ho' e' he' hb') j hlt i h3
    .rw [List.getD_eq_getElem?_getD,List.getElem?_eq_none (by rw [zcs]; exact hge)] at h3
     simp at h3
def okR (ops:Array Oper):List Ent->Bool
 | []=>true
 | e::l=>l.all (fun e'=>dirB ops e'.i e.i || indB e' e) && okR ops l
def zcg (ops:Array Oper):Bool:=(List.range ops.size).all fun i=>match ops[i]? with
 | some o=>o.after.all fun e=>!(Region.binds .any e) || decide (e.on<i)
 | none=>true
def zbx (D:List Nat) (S:St):Bool:=D.all fun t=>af (S t) && (roots (S t)).all fun s=>D.contains s
def inB (a D:List Nat):Bool:=a.all fun s=>D.contains s
def opsD (S:St) (op:Op):List Operand:=match op with
 | .pick c x y=>match aop S c with
  | .val (.bool true)=>[c,x]
  | .val (.bool false)=>[c,y]
  | _=>[c,x,y]
 | op=>op.operands.toList
theorem znR (S:St) (op:Op):opsD S op=op.operands.toList\/∃ c x y,op=.pick c x y:=by
 unfold opsD; split
 .exact .inr ⟨_,_,_,rfl⟩
 .exact .inl rfl
def CallD (P:Program) (cf:Cfg) (N:Nat × List Nat) (f:FuncId) (args:List AV) (dst:Option Nat) (i:Nat) (D:List Nat) (C:List Ent->St->Prop) (tr:List Ent) (S:St):Prop :=
 ∃ r,Con P f args r/\roots (if (dst.any cf.fz.contains) then frz r else r)=[]/\match dst with
  | some d=>OkD N d/\C (⟨i,D,[d]⟩::tr) (upd d (if (dst.any cf.fz.contains) then frz r else r) S)
  | none=>C (⟨i,D,[]⟩::tr) S
theorem CallD.of {P:Program} {cf:Cfg} {N:Nat × List Nat} {f:FuncId} {args:List AV} {d i:Nat} {D:List Nat} {C:List Ent->St->Prop} {tr:List Ent} {S:St} {r:AV} (hc:Con P f args r)
  (h:C (⟨i,D,[d]⟩::tr) (upd d (if cf.fz.contains d then frz r else r) S)) (hr:roots (if cf.fz.contains d then frz r else r)=[]:=by first | (simp [roots,zaB,frz,frzL]; done) | simp [go_sem,roots,zaB,frz,frzL]) (hd:OkD N d:=by decide):CallD P cf N f args (some d) i D C tr S :=
 ⟨r,hc,by simpa using hr,hd,by simpa using h⟩
def ziM (P:Program) (N:Nat × List Nat) (f:FuncId) (xs:List Operand) (dst:Option Nat) (i:Nat) (D:List Nat) (C:List Ent->St->Prop) (tr:List Ent) (S:St):Prop :=
 match zao S xs with
 | [(s,[])]=>match ctn S s [] with
  | some (c,_)=>match fillArgs S xs [c] with
   | some asx=>(s<N.1/\zbx D S=true)/\∃ r outs,GCon P f asx r outs/\match zaG S xs outs with
    | some [c']=>(roots c'=[]/\roots r=[])/\match dst with
     | some d=>OkD N d/\C (⟨i,D,[s,s,d]⟩::tr) (upd d r (updn s c' (updn s .any S)))
     | none=>C (⟨i,D,[s,s]⟩::tr) (updn s c' (updn s .any S))
    | _=>False
   | none=>False
  | none=>False
 | [(s,[]),(t,[])]=>match ctn S s [] with
  | some (c,_)=>match ctn (updn s .any S) t [] with
   | some (c2,_)=>match fillArgs S xs [c,c2] with
    | some asx=>((s<N.1/\t<N.1)/\zbx D S=true)/\∃ r outs,GCon P f asx r outs/\match zaG S xs outs with
     | some [c',c2']=>(roots c'=[]/\roots c2'=[]/\roots r=[])/\match dst with
      | some d=>OkD N d/\C (⟨i,D,[s,t,s,t,d]⟩::tr) (upd d r (updn t c2' (updn s c' (updn t .any (updn s .any S)))))
      | none=>False
     | _=>False
    | none=>False
   | none=>False
  | none=>False
 | []=>match fillArgs S xs [] with
  | some asx=>zbx D S=true/\∃ r outs,GCon P f asx r outs/\match zaG S xs outs with
   | some []=>roots r=[]/\match dst with
    | some d=>OkD N d/\C (⟨i,D,[d]⟩::tr) (upd d r S)
    | none=>False
   | _=>False
  | none=>False
 | _=>False
def runD (P:Program) (cf:Cfg) (N:Nat × List Nat) (i:Nat) (o:Oper) (G:List Nat) (C:List Ent->St->Prop) (tr:List Ent) (S:St):Prop :=
 match za7 o.op with
 | some (f,xs)=>if (cf.mu.contains f || cf.mu.contains (1000000+f))=true then ziM P N f xs o.dst i (G++(opsD S o.op).flatMap (rdO S)) C tr S else match zaS S xs with
  | some asx=>zbx (G++(opsD S o.op).flatMap (rdO S)) S=true/\CallD P cf N f asx o.dst i (G++(opsD S o.op).flatMap (rdO S)) C tr S
  | none=>False
 | none=>match zdG P cf N S o.op o.dst with
  | some (p,_,U)=>(zbx (G++(opsD S o.op).flatMap (rdO S)) S && inB (rts U) (G++(opsD S o.op).flatMap (rdO S)))=true/\p/\C (⟨i,G++(opsD S o.op).flatMap (rdO S),wrs U⟩::tr) (app U S)
  | none=>False
def zfW (S:St):Op->Option (FuncId × List Operand)
 | .call { callee:=.value (.tmp t),args:=args,argTypes:=_ }=>match S t with
  | .val (.func (.func f) ⟨[]⟩ ⟨[]⟩)=>some (f,args.toList)
  | _=>none
 | _=>none
def isFV:Op->Bool
 | .call { callee:=.value (.tmp _),.. }=>true
 | _=>false
def noV (ops:Array Oper):Bool:=ops.all fun o=>!isFV o.op
theorem zc7 {S:St} {op:Op} {f:FuncId} {xs:List Operand} (h:zfW S op=some (f,xs)) :
  ∃ t args tys,op=.call { callee:=.value (.tmp t),args:=args,argTypes:=tys }/\args.toList=xs/\S t=.val (.func (.func f) #[] #[]):=by
 unfold zfW at h
 split at h
 .rename_i t args tys
  split at h
  .rename_i g hS
   simp only [Option.some.injEq,Prod.mk.injEq] at h; obtain ⟨rfl,rfl⟩:=h
   exact ⟨t,args,tys,rfl,rfl,hS⟩
  .simp at h
 .simp at h
theorem zs0 {S:St} {op:Op} {f:FuncId} {xs:List Operand} (h:zfW S op=some (f,xs)):zjr S op=some (f,xs,[]):=by
 obtain ⟨t,args,tys,rfl,rfl,hS⟩:=zc7 h
 unfold zjr
 simp only [hS]
theorem zl4 {S:St} {op:Op} {f:FuncId} {xs:List Operand} (h:zfW S op=some (f,xs)):isFV op=true:=by
 obtain ⟨t,args,tys,rfl,rfl,hS⟩:=zc7 h
 rfl
theorem zky {S:St} {op:Op} {f:FuncId} {xs:List Operand} (h:zfW S op=some (f,xs)):za7 op=none:=by
 obtain ⟨t,args,tys,rfl,rfl,hS⟩:=zc7 h
 rfl
def runV (P:Program) (cf:Cfg) (N:Nat × List Nat) (i:Nat) (o:Oper) (G:List Nat) (C:List Ent->St->Prop) (tr:List Ent) (S:St):Prop :=
 match zfW S o.op with
 | some (f,xs)=>match zaS S xs with
  | some asx=>zbx (G++(opsD S o.op).flatMap (rdO S)) S=true/\CallD P cf N f asx o.dst i (G++(opsD S o.op).flatMap (rdO S)) C tr S
  | none=>False
 | none=>runD P cf N i o G C tr S
def zuR (i:Nat) (o:Oper) (G:List Nat) (C:List Ent->St->Prop) (tr:List Ent) (S:St):Prop :=
 zbx G S=true/\C (⟨i,G,wrs (zfE o)⟩::tr) (app (zfE o) S)
def zl3 (c:Bool) (A B:List Ent->St->Prop) (tr:List Ent) (S:St):Prop:=(c=true->A tr S)/\(c=false->B tr S)
def zia (N:Nat × List Nat) (g:Nat) (b:Bool) (A B:List Ent->St->Prop) (tr:List Ent) (S:St):Prop :=
 match S g with
 | .val (.bool c)=>g<N.1/\zl3 (c == b) A B tr S
 | .tup []=>B tr S
 | _=>False
def zvA (ops:Array Oper) (K:St->Prop) (tr:List Ent) (S:St):Prop:=okR ops tr=true/\K S
def vcD (P:Program) (cf:Cfg) (N:Nat × List Nat) (ops:Array Oper):Nat->List Oper->(St->Prop)->List Ent->St->Prop
 | _,[],K,tr,S=>zvA ops K tr S
 | i,o::l,K,tr,S=>match o.guard with
  | none=>runV P cf N i o [] (vcD P cf N ops (i+1) l K) tr S
  | some (j,b)=>match zfT ops j with
   | some g=>zia N g b (runV P cf N i o [g] (vcD P cf N ops (i+1) l K)) (zuR i o [g] (vcD P cf N ops (i+1) l K)) tr S
   | none=>False
def zkI (P:Program) (cf:Cfg) (N:Nat × List Nat) (ops:Array Oper) (K:St->Prop) (S:St):Prop :=
 zcg ops=true/\vcD P cf N ops 0 ops.toList K [] S
section
variable {P:Program} {N:Nat × List Nat} {G:Nat->Prop} {w0:W0} {w w':World} {S:St} {a:Act} {F:Nat->Prop} {oss:Nat->List Nat} {X:List Nat} {cf:Cfg} {ops:Array Oper}
def MEx1 (P:Program) (N:Nat × List Nat) (f:FuncId) (xs:List Operand) (dst:Option Nat) (S:St) (U:List Upd):Prop :=
 ∃ s c k asx r outs c',zao S xs=[(s,[])]/\s<N.1/\ctn S s []=some (c,k)/\fillArgs S xs [c]=some asx/\GCon P f asx r outs/\zaG S xs outs=some [c']/\match dst with
  | some d=>OkD N d/\U=[.n s .any,.n s c',.w d r]
  | none=>U=[.n s .any,.n s c']
def MEx2 (P:Program) (N:Nat × List Nat) (f:FuncId) (xs:List Operand) (dst:Option Nat) (S:St) (U:List Upd):Prop :=
 ∃ s t c k c2 k2 asx r outs c' c2' d,zao S xs=[(s,[]),(t,[])]/\(s<N.1/\t<N.1)/\ctn S s []=some (c,k)/\ctn (updn s .any S) t []=some (c2,k2)/\fillArgs S xs [c,c2]=some asx/\GCon P f asx r outs /\
  zaG S xs outs=some [c',c2']/\dst=some d/\OkD N d/\U=[.n s .any,.n t .any,.n s c',.n t c2',.w d r]
def MEx0 (P:Program) (N:Nat × List Nat) (f:FuncId) (xs:List Operand) (dst:Option Nat) (S:St) (U:List Upd):Prop :=
 ∃ asx r outs d,zao S xs=[]/\fillArgs S xs []=some asx/\GCon P f asx r outs/\zaG S xs outs=some []/\dst=some d/\OkD N d/\U=[.w d r]
def MEx (P:Program) (N:Nat × List Nat) (f:FuncId) (xs:List Operand) (dst:Option Nat) (S:St) (U:List Upd):Prop:=MEx1 P N f xs dst S U\/MEx2 P N f xs dst S U\/MEx0 P N f xs dst S U
theorem MEx.sound (h:Core P N G w0 S a w F oss []) {o:Oper} {f:FuncId} {xs:List Operand} (hc:za7 o.op=some (f,xs)) {U:List Upd} (hE:MEx P N f xs o.dst S U)
  {K':Act->World->Prop} {Q:Exit->Act->World->Prop} (hk:∀ a' w',StRel P N G w0 (app U S) a' w'->K' a' w'):o.wp P a w K' Q:=by
 rcases hE with ⟨s,c,k,asx,r,outs,c',h1,h2,h3,h4,h5,h6,h7⟩ | hE
 case inr =>
  rcases hE with hE | hE
  case inr =>
   obtain ⟨asx,r,outs,d,h1,h4,h5,h6,hd,g1,rfl⟩:=hE
   refine zbV h hc (cf:=⟨0,[],[],[]⟩) (K:=fun S'=>S'=app [.w d r] S) ?_ (fun S' a' w' e hr=>hk a' w' (e ▸ hr))
   unfold GVC
   rw [h1]
   simp only [tkLm,h4]
   refine ⟨⟨by simp,by simp⟩,r,outs,h5,?_⟩
   rw [h6]
   simp only [h1,ptLs]
   try rw [hd]
   exact ⟨g1,rfl⟩
  obtain ⟨s,t,c,k,c2,k2,asx,r,outs,c',c2',d,h1,h2,h3,h3',h4,h5,h6,hd,g1,rfl⟩:=hE
  refine zbV h hc (cf:=⟨0,[],[],[]⟩) (K:=fun S'=>S'=app [.n s .any,.n t .any,.n s c',.n t c2',.w d r] S) ?_ (fun S' a' w' e hr=>hk a' w' (e ▸ hr))
  unfold GVC
  rw [h1]
  simp only [tkLm,h3,h3',h4]
  refine ⟨⟨by simp [zj1],by simpa using h2⟩,r,outs,h5,?_⟩
  rw [h6]
  simp only [h1,ptLs]
  try rw [hd]
  exact ⟨g1,rfl⟩
 refine zbV h hc (cf:=⟨0,[],[],[]⟩) (K:=fun S'=>S'=app U S) ?_ (fun S' a' w' e hr=>hk a' w' (e ▸ hr))
 unfold GVC
 rw [h1]
 simp only [tkLm,h3,h4]
 refine ⟨⟨by simp [zj1],by simpa using h2⟩,r,outs,h5,?_⟩
 rw [h6]
 simp only [h1,ptLs]
 split at h7
 .rename_i d hd
  try rw [hd]
  obtain ⟨g1,rfl⟩:=h7
  exact ⟨g1,rfl⟩
 .rename_i hd
  try rw [hd]
  subst h7
  rfl
theorem zc6 {D:List Nat} (hC:∀ t,t∈D->af (S t)=true/\∀ s∈roots (S t),s∈D):∀ {xs:List Operand},(∀ x∈xs,∀ t∈zad x,t∈D)->∀ l∈zao S xs,l.1∈D
 | [],_,l,hl=>by simp [zao] at hl
 | x::xs,hx,l,hl=>by
  have ih:=zc6 hC (xs:=xs) (fun y hy=>hx y (by simp [hy]))
  cases x with
  | tmp t =>
   have ht:t∈D:=hx (.tmp t) (by simp) t (by simp [zad])
   rw [zao,List.mem_append] at hl
   rcases hl with hl | hl
   .have hr:=(hC t ht).2
    generalize S t=c at hl hr
    have hb:∀ cs:List AV,∀ l∈cs.flatMap locB,l.1∈zaB cs:=by
     intro cs
     induction cs with
     | nil=>intro l hl; simp at hl
     | cons d cs ihc =>
      intro l hl
      rw [List.flatMap_cons,List.mem_append] at hl
      rw [zaB,List.mem_append]
      rcases hl with hl | hl
      .left
       cases d <;> simp [locB] at hl
       subst hl; simp [roots]
      .exact .inr (ihc l hl)
    cases c with
    | bor s p=>simp [locs] at hl; subst hl; exact hr s (by simp [roots])
    | own e n cs=>simp [locs] at hl; subst hl; exact ht
    | box e cs=>simp [locs] at hl; subst hl; exact ht
    | mp c=>simp [locs] at hl; subst hl; exact ht
    | agg cs=>exact hr l.1 (by rw [roots]; exact hb cs l (by simpa [locs] using hl))
    | _=>simp [locs] at hl
   .exact ih l hl
  | _=>exact ih l (by simpa [zao] using hl)
theorem zcA {D:List Nat} {S S':St} (hA:Agree D S S'):∀ {xs:List Operand},(∀ x∈xs,∀ t∈zad x,t∈D)->zao S' xs=zao S xs
 | [],_=>rfl
 | x::xs,hx=>by
  have ih:=zcA hA (fun y hy=>hx y (by simp [hy])) (xs:=xs)
  cases x with
  | tmp t=>rw [zao,zao,ih,hA t (hx (.tmp t) (by simp) t (by simp [zad]))]
  | _=>simpa [zao] using ih
theorem zb3 {D:List Nat} {S S':St} (hA:Agree D S S'):∀ {xs:List Operand} (l:List AV),(∀ x∈xs,∀ t∈zad x,t∈D)->fillArgs S' xs l=fillArgs S xs l
 | [],[],_=>rfl
 | [],_::_,_=>rfl
 | x::xs,l,hx=>by
  rw [fillArgs,fillArgs,hA.aop (hx x (by simp))]
  split
  .rw [zb3 hA _ (fun y hy=>hx y (by simp [hy]))]
  .rfl
theorem zcd {D:List Nat} {S S':St} (hA:Agree D S S'):∀ {xs:List Operand} (l:List AV),(∀ x∈xs,∀ t∈zad x,t∈D)->zaG S' xs l=zaG S xs l
 | [],_,_=>by simp [zaG]
 | x::xs,[],_=>by simp [zaG]
 | x::xs,d::ds,hx=>by
  rw [zaG,zaG,hA.aop (hx x (by simp)),zcd hA _ (fun y hy=>hx y (by simp [hy]))]
theorem MEx.loc {D:List Nat} {S S':St} (hA:Agree D S S') (hC:∀ t,t∈D->af (S t)=true/\∀ s∈roots (S t),s∈D) {f:FuncId} {xs:List Operand} {dst:Option Nat} (hx:∀ x∈xs,∀ t∈zad x,t∈D) {U:List Upd} (h:MEx P N f xs dst S U):MEx P N f xs dst S' U:=by
 rcases h with ⟨s,c,k,asx,r,outs,c',h1,h2,h3,h4,h5,h6,h7⟩ | h
 case inr =>
  rcases h with h | h
  case inr =>
   obtain ⟨asx,r,outs,d,h1,h4,h5,h6,h7⟩:=h
   exact .inr (.inr ⟨asx,r,outs,d,by rw [zcA hA hx]; exact h1,by rw [zb3 hA _ hx]; exact h4,h5,by rw [zcd hA _ hx]; exact h6,h7⟩)
  obtain ⟨s,t,c,k,c2,k2,asx,r,outs,c',c2',d,h1,h2,h3,h3',h4,h5,h6,h7⟩:=h
  have hs:s∈D:=zc6 hC hx (s,[]) (by rw [h1]; simp)
  have ht:t∈D:=zc6 hC hx (t,[]) (by rw [h1]; simp)
  have hA2:Agree D (updn s .any S) (updn s .any S'):=fun x hx=>by unfold updn; rw [hA x hx]
  exact .inr (.inl ⟨s,t,c,k,c2,k2,asx,r,outs,c',c2',d,by rw [zcA hA hx]; exact h1,h2,by rw [hA.ctn hs]; exact h3,by rw [hA2.ctn ht]; exact h3',by rw [zb3 hA _ hx]; exact h4,h5,by rw [zcd hA _ hx]; exact h6,h7⟩)
 have hs:s∈D:=zc6 hC hx (s,[]) (by rw [h1]; simp)
 exact .inl ⟨s,c,k,asx,r,outs,c',by rw [zcA hA hx]; exact h1,h2,by rw [hA.ctn hs]; exact h3,by rw [zb3 hA _ hx]; exact h4,h5,by rw [zcd hA _ hx]; exact h6,h7⟩
def Ex (P:Program) (cf:Cfg) (N:Nat × List Nat) (o:Oper) (S:St) (U:List Upd):Prop :=
 match za7 o.op with
 | some (f,xs)=>(∃ asx r,zaS S xs=some asx/\Con P f asx r/\match o.dst with
  | some d=>OkD N d/\U=[.w d (if cf.fz.contains d then frz r else r)]
  | none=>U=[])\/MEx P N f xs o.dst S U
 | none=>(∃ p rd,zdG P cf N S o.op o.dst=some (p,rd,U)/\p)\/∃ f xs asx r,zfW S o.op=some (f,xs)/\zaS S xs=some asx/\Con P f asx r/\match o.dst with
  | some d=>OkD N d/\U=[.w d (if cf.fz.contains d then frz r else r)]
  | none=>U=[]
def Closed (D:List Nat) (S:St):Prop:=∀ t,t∈D->af (S t)=true/\∀ s∈roots (S t),s∈D
def GuardOk (ops:Array Oper) (N:Nat × List Nat) (o:Oper) (S:St) (D:List Nat) (b:Bool):Prop :=
 match o.guard with
 | none=>b=true
 | some (j,v)=>(∃ g c,zfT ops j=some g/\g∈D/\g<N.1/\S g=.val (.bool c)/\(c == v)=b)\/(b=false/\∃ g,zfT ops j=some g/\g∈D/\S g=.tup [])
inductive Stp (P:Program) (cf:Cfg) (N:Nat × List Nat) (ops:Array Oper) (i:Nat) (D:List Nat) (U:List Upd) (S:St):Prop
 | run (o:Oper) (ho:ops[i]?=some o) (hD:Closed D S) (hR:∀ s,s∈rts U->s∈D) (hx:∀ x∈opsD S o.op,∀ t∈zad x,t∈D) (hg:GuardOk ops N o S D true) (hE:Ex P cf N o S U)
 | skip (o:Oper) (ho:ops[i]?=some o) (hD:Closed D S) (hg:GuardOk ops N o S D false) (hU:U=zfE o)
theorem Closed.cov {D:List Nat} (h:Closed D S) {x:Operand} (hx:∀ t∈zad x,t∈D):Cov D S x:=by
 intro t ht
 rcases List.mem_append.1 ht with ht | ht
 .exact hx t ht
 .cases x with
  | tmp i=>exact (h i (hx i (by simp [zad]))).2 t ht
  | const v=>simp only [aop] at ht; unfold cv at ht; split at ht <;> simp [roots] at ht
  | global g=>simp [aop,roots] at ht
  | func f=>simp [aop,roots] at ht
theorem zry {D:List Nat} {S S':St} (hA:Agree D S S') {op:Op} (hx:∀ x∈opsD S op,∀ t∈zad x,t∈D):opsD S' op=opsD S op:=by
 rcases znR S op with h | ⟨c,x,y,rfl⟩
 .cases op with
  | pick c x y =>
   have hc:∀ t∈zad c,t∈D:=hx c (by unfold opsD; simp only; split <;> simp)
   unfold opsD; simp only; rw [hA.aop hc]
  | _=>rfl
 .have hc:∀ t∈zad c,t∈D:=hx c (by unfold opsD; simp only; split <;> simp)
  unfold opsD; simp only; rw [hA.aop hc]
theorem zn7 {D:List Nat} {S S':St} (hA:Agree D S S') (hC:Closed D S) {op:Op} {dst:Option Nat} (hx:∀ x∈opsD S op,∀ t∈zad x,t∈D):zdG P cf N S' op dst=zdG P cf N S op dst:=by
 rcases znR S op with h | ⟨c,x,y,rfl⟩
 .rw [h] at hx
  exact zol hA (fun x hx'=>hC.cov (hx x hx'))
 .have hc:∀ t∈zad c,t∈D:=hx c (by unfold opsD; simp only; split <;> simp)
  cases dst with
  | none=>rfl
  | some d =>
   unfold zdG
   simp only
   rw [hA.aop hc]
   unfold opsD at hx
   simp only at hx
   split
   .rename_i e
    rw [e] at hx
    simp only [mvR]; rw [zez hA (hC.cov (hx x (by simp)))]
   .rename_i e
    rw [e] at hx
    simp only [mvR]; rw [zez hA (hC.cov (hx y (by simp)))]
   .rfl
theorem Ex.loc {D:List Nat} {S S':St} (hA:Agree D S S') (hC:Closed D S) {o:Oper} (hx:∀ x∈opsD S o.op,∀ t∈zad x,t∈D) {U:List Upd} (h:Ex P cf N o S U):Ex P cf N o S' U:=by
 unfold Ex at h |-
 split at h
 .rename_i f xs hc
  obtain ⟨args,tys,hop,rfl⟩:=zdy hc
  rcases h with ⟨asx,r,h1,h2,h3⟩ | h
  case inr=>exact .inr (h.loc hA hC (fun x hx'=>hx x (by rw [hop]; simp [opsD,Op.operands,Call.operands]; exact .inr (by simpa using hx'))))
  refine .inl ⟨asx,r,?_,h2,h3⟩
  rw [zdt hA (fun x hx'=>hC.cov (hx x (by rw [hop]; simp [opsD,Op.operands,Call.operands]; exact .inr (by simpa using hx'))))]
  exact h1
 .rcases h with ⟨p,rd,h1,h2⟩ | ⟨f,xs,asx,r,hc,h1,h2,h3⟩
  .exact .inl ⟨p,rd,by rw [zn7 hA hC hx]; exact h1,h2⟩
  .obtain ⟨t,args,tys,hop,rfl,hS⟩:=zc7 hc
   have ht:t∈D:=hx (.tmp t) (by rw [hop]; simp [opsD,Op.operands,Call.operands]) t (by simp [zad])
   refine .inr ⟨f,args.toList,asx,r,?_,?_,h2,h3⟩
   .rw [hop]
    unfold zfW
    simp only [hA t ht,hS]
   .rw [zdt hA (fun x hx'=>hC.cov (hx x (by rw [hop]; simp [opsD,Op.operands,Call.operands]; exact .inr (by simpa using hx'))))]
    exact h1
theorem Closed.loc {D:List Nat} {S S':St} (hA:Agree D S S') (hC:Closed D S):Closed D S':=fun t ht=>by rw [hA t ht]; exact hC t ht
theorem GuardOk.loc {D:List Nat} {S S':St} (hA:Agree D S S') {o:Oper} {b:Bool} (h:GuardOk ops N o S D b):GuardOk ops N o S' D b:=by
 unfold GuardOk at h |-
 split at h
 .exact h
 .rcases h with ⟨g,c,h1,h2,h3,h4,h5⟩ | ⟨h0,g,h1,h2,h3⟩
  .exact .inl ⟨g,c,h1,h2,h3,by rw [hA g h2]; exact h4,h5⟩
  .exact .inr ⟨h0,g,h1,h2,by rw [hA g h2]; exact h3⟩
theorem Stp.loc {D:List Nat} {U:List Upd} {i:Nat} {S S':St} (hA:Agree D S S') (h:Stp P cf N ops i D U S):Stp P cf N ops i D U S':=by
 cases h with
 | run o ho hD hR hx hg hE=>exact .run o ho (hD.loc hA) hR (by rw [zry hA hx]; exact hx) (hg.loc hA) (hE.loc hA hD hx)
 | skip o ho hD hg hU=>exact .skip o ho (hD.loc hA) (hg.loc hA) hU
theorem Stp.closed {D:List Nat} {U:List Upd} {i:Nat} (h:Stp P cf N ops i D U S):Closed D S:=by cases h <;> assumption
theorem Stp.rin {D:List Nat} {U:List Upd} {i:Nat} (h:Stp P cf N ops i D U S):∀ s,s∈rts U->s∈D:=by
 cases h with
 | run o ho hD hR hx hg hE=>exact hR
 | skip o ho hD hg hU=>subst hU; intro s hs; unfold zfE at hs; split at hs <;> simp [rts,roots,zaB] at hs
structure EU where
 i:Nat
 D:List Nat
 U:List Upd
inductive Run (P:Program) (cf:Cfg) (N:Nat × List Nat) (ops:Array Oper):List EU->St->St->Prop
 | nil (S:St):Run P cf N ops [] S S
 | cons (e:EU) (l:List EU) (S S':St) (h:Stp P cf N ops e.i e.D e.U S) (t:Run P cf N ops l (app e.U S) S'):Run P cf N ops (e::l) S S'
def Ind (e f:EU):Prop:=Disj (wrs e.U) f.D/\Disj (wrs e.U) (wrs f.U)/\Disj (wrs f.U) e.D
theorem Run.swap {e f:EU} {l:List EU} {S S':St} (h:Run P cf N ops (e::f::l) S S') (hi:Ind e f):Run P cf N ops (f::e::l) S S':=by
 cases h with
 | cons _ _ _ _ he h =>
  cases h with
  | cons _ _ _ _ hf t =>
   obtain ⟨h1,h2,h3⟩:=hi
   have c1:=he.closed
   have c2:=hf.closed
   have a2:Agree f.D (app e.U S) S:=fun t ht=>(zrN (fun hw=>h1 t hw ht) (c2 t ht).1).symm
   have a1:Agree e.D S (app f.U S):=fun t ht=>zgQ (fun hw=>h3 t hw ht) (fun s hs hw=>h3 s hw ((c1 t ht).2 s hs))
   refine .cons _ _ _ _ (hf.loc a2) (.cons _ _ _ _ (he.loc a1) ?_)
   rw [zlq h2 (fun x hx hr=>h1 x hx (hf.rin x hr)) (fun x hx hr=>h3 x hx (he.rin x hr))]
   exact t
theorem Run.front {e:EU}:∀ {l1:List EU} {l2:List EU} {S S':St},Run P cf N ops (l1++e::l2) S S'->(∀ f∈l1,Ind f e)->Run P cf N ops (e::(l1++l2)) S S'
 | [],l2,S,S',h,_=>h
 | f::l1,l2,S,S',h,hi=>by
  cases h with
  | cons _ _ _ _ hf t =>
   have:=Run.front t (fun g hg=>hi g (by simp [hg]))
   exact Run.swap (.cons _ _ _ _ hf this) (hi f (by simp))
theorem Stp.sound {D:List Nat} {U:List Upd} {i:Nat} (h:Stp P cf N ops i D U S) (hdst:∀ o∈ops.toList,∀ d,o.dst=some d->OkD N d) (hr:StRel P N G w0 S a w) {K:Act->World->Prop} {Q:Exit->Act->World->Prop}
  (hk:∀ a' w',StRel P N G w0 (app U S) a' w'->K a' w'):wpOp P ops Q i K a w:=by
 have gd:∀ {o:Oper} {b:Bool},GuardOk ops N o S D b->Region.wanted o (yielded ops a.tmps)=b:=by
  intro o b hg
  unfold GuardOk at hg
  split at hg
  .rename_i e; rw [hg]; simp [Region.wanted,e]
  .rename_i j v e
   rcases hg with ⟨g,c,h1,h2,h3,h4,h5⟩ | ⟨h0,g,h1,h2,h3⟩
   .have:=zeM h1 hr h3 h4
    simp only [Region.wanted,e,this]
    rw [<- h5]; cases c <;> cases v <;> rfl
   .have:=zeL h1 hr h3
    simp only [Region.wanted,e,this]
    rw [h0]; rfl
 cases h with
 | run o ho hD hR hx hg hE =>
  unfold wpOp
  rw [ho]
  simp only
  rw [if_pos (gd hg)]
  refine .inl ?_
  unfold Ex at hE
  obtain ⟨F,oss,hc⟩:=hr
  split at hE
  .rename_i f xs hcall
   rcases hE with ⟨asx,r,h1,⟨he,h2⟩,h3⟩ | hE
   case inr=>exact hE.sound hc hcall hk
   refine zek hc hcall h1 he h2 (cf:=cf) (fun a' w' hd' hs=>hk a' w' ?_) (fun d hd=>hdst o (by
    have:=Array.mem_of_getElem? ho; simpa using this) d hd)
   split at h3
   .rename_i d hd; rw [hd] at hs; obtain ⟨_,rfl⟩:=h3; exact hs
   .rename_i hd; rw [hd] at hs; subst h3; exact hs
  .rcases hE with ⟨p,rd,h1,h2⟩ | ⟨f,xs,asx,r,hv,h1,⟨he,h2⟩,h3⟩
   .exact zfO hc h1 h2 hk
   .refine zdo hc (zs0 hv) h1 (bs:=[]) rfl he (by simpa using h2) (cf:=cf) (fun a' w' hd' hs=>hk a' w' ?_) (fun d hd=>hdst o (by
     have:=Array.mem_of_getElem? ho; simpa using this) d hd)
    split at h3
    .rename_i d hd; rw [hd] at hs; obtain ⟨_,rfl⟩:=h3; exact hs
    .rename_i hd; rw [hd] at hs; subst h3; exact hs
 | skip o ho hD hg hU =>
  unfold wpOp
  rw [ho]
  simp only
  rw [if_neg (by rw [gd hg]; simp)]
  subst hU
  exact hk _ _ (zev hr o (fun d hd=>hdst o (by have:=Array.mem_of_getElem? ho; simpa using this) d hd))
theorem zga {ops:Array Oper} {listed:Array Bool} {i:Nat}:i∈Region.ready .any ops listed ↔ i<ops.size/\listed.getD i true=false/\∃ o,ops[i]?=some o/\∀ e∈o.after.toList,Region.binds .any e=true->listed.getD e.on false=true:=by
 unfold Region.ready
 rw [List.mem_filter,List.mem_range]
 constructor
 .rintro ⟨h1,h2⟩
  rw [Bool.and_eq_true] at h2
  obtain ⟨h2,h3⟩:=h2
  refine ⟨h1,by simpa using h2,ops[i],by simp [h1],?_⟩
  have:ops[i]?=some ops[i]:=by simp [h1]
  rw [this] at h3
  simp only [Option.map_some,Option.getD_some] at h3
  intro e he hb
  have:=(Array.all_eq_true'.1 h3) e (by simpa using he)
  simpa [hb] using this
 .rintro ⟨h1,h2,o,h3,h4⟩
  refine ⟨h1,?_⟩
  rw [Bool.and_eq_true,h3]
  refine ⟨by simp [h2],?_⟩
  simp only [Option.map_some,Option.getD_some]
  refine Array.all_eq_true'.2 (fun e he=>?_)
  cases hb:Region.binds .any e with
  | false=>rfl
  | true=>simpa using h4 e (by simpa using he) hb
theorem zaU {D:List Nat} (h:zbx D S=true):Closed D S:=by
 intro t ht
 have:=(List.all_eq_true.1 h) t ht
 rw [Bool.and_eq_true] at this
 exact ⟨this.1,fun s hs=>by simpa using (List.all_eq_true.1 this.2) s hs⟩
def zgq (e:EU):Ent:=⟨e.i,e.D,wrs e.U⟩
def fixC (cf:Cfg) (R:Nat->List Upd) (i:Nat) (o:Oper) (S S':St):Prop:=match za7 o.op with
 | none=>True
 | some (f,xs)=>match o.dst with
  | none=>False
  | some d=>if (cf.mu.contains f || cf.mu.contains (1000000+f))=true then match zao S xs with
   | [(s,[])]=>s≠d/\R i=[.n s .any,.n s (S' s),.w d (S' d)]
   | [(s,[]),(t,[])]=>(s≠t/\s≠d/\t≠d)/\R i=[.n s .any,.n t .any,.n s (S' s),.n t (S' t),.w d (S' d)]
   | []=>R i=[.w d (S' d)]
   | _=>False
   else R i=[.w d (S' d)]
theorem zif {C C':List Ent->St->Prop} (hC:∀ tr S,C tr S->C' tr S) {i:Nat} {o:Oper} {G:List Nat} {tr:List Ent} (h:runD P cf N i o G C tr S):runD P cf N i o G C' tr S:=by
 unfold runD at h |-
 split at h
 .split at h
  .rename_i hmu
   rw [if_pos hmu]
   unfold ziM at h |-
   split at h
   .split at h
    .split at h
     .obtain ⟨h1,r,outs,h2,h3⟩:=h
      refine ⟨h1,r,outs,h2,?_⟩
      split at h3
      .refine ⟨h3.1,?_⟩
       replace h3:=h3.2
       split at h3
       .exact ⟨h3.1,hC _ _ h3.2⟩
       .exact hC _ _ h3
      .exact h3
     .exact h
    .exact h
   .split at h
    .split at h
     .split at h
      .obtain ⟨h1,r,outs,h2,h3⟩:=h
       refine ⟨h1,r,outs,h2,?_⟩
       split at h3
       .refine ⟨h3.1,?_⟩
        replace h3:=h3.2
        split at h3
        .exact ⟨h3.1,hC _ _ h3.2⟩
        .exact h3
       .exact h3
      .exact h
     .exact h
    .exact h
   .split at h
    .obtain ⟨h1,r,outs,h2,h3⟩:=h
     refine ⟨h1,r,outs,h2,?_⟩
     split at h3
     .refine ⟨h3.1,?_⟩
      replace h3:=h3.2
      split at h3
      .exact ⟨h3.1,hC _ _ h3.2⟩
      .exact h3
     .exact h3
    .exact h
   .exact h
  .rename_i hmu
   rw [if_neg hmu]
   split at h
   .obtain ⟨h1,r,h2,h3,h4⟩:=h
    refine ⟨h1,r,h2,h3,?_⟩
    split at h4
    .exact ⟨h4.1,hC _ _ h4.2⟩
    .exact hC _ _ h4
   .exact h
 .split at h
  .exact ⟨h.1,h.2.1,hC _ _ h.2.2⟩
  .exact h
theorem ziU {C C':List Ent->St->Prop} (hC:∀ tr S,C tr S->C' tr S) {i:Nat} {o:Oper} {G:List Nat} {tr:List Ent} (h:runV P cf N i o G C tr S):runV P cf N i o G C' tr S:=by
 unfold runV at h |-
 split at h
 .split at h
  .obtain ⟨h1,r,h2,h3,h4⟩:=h
   refine ⟨h1,r,h2,h3,?_⟩
   split at h4
   .exact ⟨h4.1,hC _ _ h4.2⟩
   .exact hC _ _ h4
  .exact h
 .exact zif hC h
theorem zkH {K K':St->Prop} (hK:∀ S,K S->K' S):∀ (l:List Oper) (i:Nat) (tr:List Ent) (S:St),vcD P cf N ops i l K tr S->vcD P cf N ops i l K' tr S
 | [],_,_,_,h=>⟨h.1,hK _ h.2⟩
 | o::l,i,tr,S,h=>by
  have ih:=zkH hK l (i+1)
  unfold vcD at h |-
  split at h
  .exact ziU ih h
  .split at h
   .unfold zia at h |-
    split at h
    .exact ⟨h.1,fun hc=>ziU ih (h.2.1 hc),fun hc=>⟨(h.2.2 hc).1,ih _ _ (h.2.2 hc).2⟩⟩
    .exact ⟨h.1,ih _ _ h.2⟩
    .exact h
   .exact h
theorem zk9 {i:Nat} {o:Oper} {Gs:List Nat} {C:List Ent->St->Prop} {tr:List Ent} (ho:ops[i]?=some o) (hg:Closed (Gs++(opsD S o.op).flatMap (rdO S)) S->GuardOk ops N o S (Gs++(opsD S o.op).flatMap (rdO S)) true) (hr:runD P cf N i o Gs C tr S) :
  ∃ D U,Stp P cf N ops i D U S/\C (⟨i,D,wrs U⟩::tr) (app U S)/\∀ R,fixC cf R i o S (app U S)->∀ f xs,za7 o.op=some (f,xs)->U=R i:=by
 have hx:∀ x∈opsD S o.op,∀ t∈zad x,t∈Gs++(opsD S o.op).flatMap (rdO S):=fun x hx t ht =>
  List.mem_append.2 (.inr (List.mem_flatMap.2 ⟨x,hx,List.mem_append.2 (.inl ht)⟩))
 have kq:∀ {v:AV},roots v=[]->∀ W,kl W v=v:=fun h W=>zbl _ (by rw [h]; simp)
 unfold runD at hr
 split at hr
 .rename_i f xs hc
  split at hr
  .rename_i hmu
   have hfx:∀ {R:Nat->List Upd} {S':St},fixC cf R i o S S'->∃ d,o.dst=some d/\match zao S xs with
     | [(s,[])]=>s≠d/\R i=[.n s .any,.n s (S' s),.w d (S' d)]
     | [(s,[]),(t,[])]=>(s≠t/\s≠d/\t≠d)/\R i=[.n s .any,.n t .any,.n s (S' s),.n t (S' t),.w d (S' d)]
     | []=>R i=[.w d (S' d)]
     | _=>False:=fun h=>by
    unfold fixC at h
    rw [hc] at h
    simp only at h
    split at h
    .exact h.elim
    .rename_i d hd; rw [if_pos hmu] at h; exact ⟨d,hd,h⟩
   unfold ziM at hr
   split at hr
   .rename_i s hl
    split at hr
    .rename_i c k hk
     split at hr
     .rename_i asx ha
      obtain ⟨⟨hs,hcl⟩,r,outs,hcon,hr⟩:=hr
      have hcl:=zaU hcl
      split at hr
      .rename_i c' hlf
       obtain ⟨⟨r1,r2⟩,hr⟩:=hr
       split at hr
       .rename_i d hd
        refine ⟨_,[.n s .any,.n s c',.w d r],.run o ho hcl ?_ hx (hg hcl) ?_,hr.2,fun R hf _ _ _=>?_⟩
        .intro t ht; simp [rts,r1,r2,roots] at ht
        .unfold Ex; rw [hc]; exact .inr (.inl ⟨s,c,k,asx,r,outs,c',hl,hs,hk,ha,hcon,hlf,by rw [hd]; exact ⟨hr.1,rfl⟩⟩)
        .obtain ⟨d',hd',hf⟩:=hfx hf
         rw [hd] at hd'; injection hd' with hd'; subst hd'
         rw [hl] at hf
         rw [hf.2]
         show _=[Upd.n s .any,.n s (upd d r (updn s c' (updn s .any S)) s),.w d (upd d r (updn s c' (updn s .any S)) d)]
         simp [upd,updn,kq r1,kq r2,hf.1]
       .rename_i hd
        refine ⟨_,[.n s .any,.n s c'],.run o ho hcl ?_ hx (hg hcl) ?_,hr,fun R hf _ _ _=>?_⟩
        .intro t ht; simp [rts,r1,roots] at ht
        .unfold Ex; rw [hc]; exact .inr (.inl ⟨s,c,k,asx,r,outs,c',hl,hs,hk,ha,hcon,hlf,by rw [hd]⟩)
        .obtain ⟨d',hd',_⟩:=hfx hf
         rw [hd] at hd'; simp at hd'
      .exact hr.elim
     .exact hr.elim
    .exact hr.elim
   .rename_i s t hl
    split at hr
    .rename_i c k hk
     split at hr
     .rename_i c2 k2 hk2
      split at hr
      .rename_i asx ha
       obtain ⟨⟨hs,hcl⟩,r,outs,hcon,hr⟩:=hr
       have hcl:=zaU hcl
       split at hr
       .rename_i c' c2' hlf
        obtain ⟨⟨r1,r3,r2⟩,hr⟩:=hr
        split at hr
        .rename_i d hd
         refine ⟨_,[.n s .any,.n t .any,.n s c',.n t c2',.w d r],.run o ho hcl ?_ hx (hg hcl) ?_,hr.2,fun R hf _ _ _=>?_⟩
         .intro t ht; simp [rts,r1,r2,r3,roots] at ht
         .unfold Ex; rw [hc]; exact .inr (.inr (.inl ⟨s,t,c,k,c2,k2,asx,r,outs,c',c2',d,hl,hs,hk,hk2,ha,hcon,hlf,hd,hr.1,rfl⟩))
         .obtain ⟨d',hd',hf⟩:=hfx hf
          rw [hd] at hd'; injection hd' with hd'; subst hd'
          rw [hl] at hf
          obtain ⟨⟨g1,g2,g3⟩,g4⟩:=hf
          have q4:∀ e,kn e c'=c':=fun e=>zbm c' (by rw [r1]; simp)
          rw [g4]
          show _=[Upd.n s .any,.n t .any,.n s (upd d r (updn t c2' (updn s c' (updn t .any (updn s .any S)))) s),.n t (upd d r (updn t c2' (updn s c' (updn t .any (updn s .any S)))) t),.w d (upd d r (updn t c2' (updn s c' (updn t .any (updn s .any S)))) d)]
          simp [upd,updn,kq r1,kq r2,kq r3,q4,g1,g2,g3]
        .exact hr.elim
       .exact hr.elim
      .exact hr.elim
     .exact hr.elim
    .exact hr.elim
   .rename_i hl
    split at hr
    .rename_i asx ha
     obtain ⟨hcl,r,outs,hcon,hr⟩:=hr
     have hcl:=zaU hcl
     split at hr
     .rename_i hlf
      obtain ⟨r2,hr⟩:=hr
      split at hr
      .rename_i d hd
       refine ⟨_,[.w d r],.run o ho hcl ?_ hx (hg hcl) ?_,hr.2,fun R hf _ _ _=>?_⟩
       .intro t ht; simp [rts,r2,roots] at ht
       .unfold Ex; rw [hc]; exact .inr (.inr (.inr ⟨asx,r,outs,d,hl,ha,hcon,hlf,hd,hr.1,rfl⟩))
       .obtain ⟨d',hd',hf⟩:=hfx hf
        rw [hd] at hd'; injection hd' with hd'; subst hd'
        rw [hl] at hf
        rw [hf]
        show _=[Upd.w d (upd d r S d)]
        simp [upd,kq r2]
      .exact hr.elim
     .exact hr.elim
    .exact hr.elim
   .exact hr.elim
  rename_i hmu
  split at hr
  .rename_i asx ha
   obtain ⟨hcl,r,hcon,hroots,hC⟩:=hr
   have hcl:=zaU hcl
   split at hC
   .rename_i d hd
    rw [hd] at hroots
    simp only [hd,Option.any_some] at hroots hC
    refine ⟨_,[.w d (if cf.fz.contains d then frz r else r)],.run o ho hcl ?_ hx (hg hcl) ?_,hC.2,fun R hf _ _ _=>?_⟩
    .intro s hs; simp only [rts,List.append_nil] at hs; rw [hroots] at hs; simp at hs
    .unfold Ex; rw [hc]; exact .inl ⟨asx,r,ha,hcon,by rw [hd]; exact ⟨hC.1,rfl⟩⟩
    .unfold fixC at hf
     rw [hc,hd] at hf
     simp only at hf
     rw [if_neg hmu] at hf
     rw [hf]
     show _=[Upd.w d (upd d (if cf.fz.contains d then frz r else r) S d)]
     simp only [upd,if_true,kq hroots]
   .rename_i hd
    refine ⟨_,[],.run o ho hcl (by simp [rts]) hx (hg hcl) ?_,hC,fun R hf _ _ _=>?_⟩
    .unfold Ex; rw [hc]; exact .inl ⟨asx,r,ha,hcon,by rw [hd]⟩
    .unfold fixC at hf
     rw [hc,hd] at hf
     exact hf.elim
  .exact hr.elim
 .rename_i hc
  split at hr
  .rename_i p rd U hs
   obtain ⟨hb,hp,hC⟩:=hr
   rw [Bool.and_eq_true] at hb
   have hcl:=zaU hb.1
   refine ⟨_,U,.run o ho hcl (fun s hs=>by simpa using (List.all_eq_true.1 hb.2) s hs) hx (hg hcl) ?_,hC,fun R _ f xs hc'=>by rw [hc] at hc'; simp at hc'⟩
   unfold Ex; rw [hc]; exact .inl ⟨p,rd,hs,hp⟩
  .exact hr.elim
theorem zmT {K:St->Prop}:∀ (l:List Oper) (i:Nat) (tr:List Ent) (S:St),(∀ j o,l[j]?=some o->ops[i+j]?=some o)->vcD P cf N ops i l K tr S ->
  ∃ es S1,Run P cf N ops es S S1/\K S1/\es.map (·.i)=List.range' i l.length/\okR ops ((es.map zgq).reverse++tr)=true
 | [],i,tr,S,hl,h=>⟨[],S,.nil S,h.2,rfl,by simpa using h.1⟩
 | o::l,i,tr,S,hl,h=>by
  have ho:ops[i]?=some o:=by simpa using hl 0 o rfl
  have hl2:∀ j o',l[j]?=some o'->ops[i+1+j]?=some o':=fun j o' hj=>by
   have:=hl (j+1) o' (by simpa using hj)
   rwa [Nat.add_comm j 1,<- Nat.add_assoc] at this
  have fin:∀ {D:List Nat} {U:List Upd},Stp P cf N ops i D U S->vcD P cf N ops (i+1) l K (⟨i,D,wrs U⟩::tr) (app U S) ->
    ∃ es S1,Run P cf N ops es S S1/\K S1/\es.map (·.i)=List.range' i (o::l).length/\okR ops ((es.map zgq).reverse++tr)=true:=by
   intro D U hst hc
   obtain ⟨es,S1,k1,k2,k3,k4⟩:=zmT l (i+1) _ _ hl2 hc
   refine ⟨⟨i,D,U⟩::es,S1,.cons _ _ _ _ hst k1,k2,?_,?_⟩
   .rw [List.map_cons,k3,List.length_cons,List.range'_succ]
   .simpa [zgq] using k4
  have run1:∀ {Gs:List Nat},(Closed (Gs++(opsD S o.op).flatMap (rdO S)) S->GuardOk ops N o S (Gs++(opsD S o.op).flatMap (rdO S)) true)->runV P cf N i o Gs (vcD P cf N ops (i+1) l K) tr S ->
    ∃ es S1,Run P cf N ops es S S1/\K S1/\es.map (·.i)=List.range' i (o::l).length/\okR ops ((es.map zgq).reverse++tr)=true:=by
   intro Gs hg hr
   have hx:∀ x∈opsD S o.op,∀ t∈zad x,t∈Gs++(opsD S o.op).flatMap (rdO S):=fun x hx t ht =>
    List.mem_append.2 (.inr (List.mem_flatMap.2 ⟨x,hx,List.mem_append.2 (.inl ht)⟩))
   unfold runV at hr
   split at hr
   .rename_i f xs hc
    split at hr
    .rename_i asx ha
     obtain ⟨hcl,r,hcon,hroots,hC⟩:=hr
     have hcl:=zaU hcl
     split at hC
     .rename_i d hd
      rw [hd] at hroots
      simp only [hd,Option.any_some] at hroots hC
      refine fin (U:=[.w d (if cf.fz.contains d then frz r else r)]) (.run o ho hcl ?_ hx (hg hcl) ?_) hC.2
      .intro s hs; simp only [rts,List.append_nil] at hs; rw [hroots] at hs; simp at hs
      .unfold Ex; rw [zky hc]; exact .inr ⟨f,xs,asx,r,hc,ha,hcon,by rw [hd]; exact ⟨hC.1,rfl⟩⟩
     .rename_i hd
      refine fin (U:=[]) (.run o ho hcl (by simp [rts]) hx (hg hcl) ?_) hC
      unfold Ex; rw [zky hc]; exact .inr ⟨f,xs,asx,r,hc,ha,hcon,by rw [hd]⟩
    .exact hr.elim
   .obtain ⟨D,U,h1,h2,_⟩:=zk9 ho hg hr
    exact fin h1 h2
  unfold vcD at h
  split at h
  .rename_i hg
   exact run1 (fun _=>by unfold GuardOk; rw [hg]) h
  .rename_i j b hg
   split at h
   .rename_i g hgs
    unfold zia at h
    split at h
    .rename_i c hS
     obtain ⟨hN,h1,h2⟩:=h
     have gok:∀ D v,g∈D->(c == b)=v->GuardOk ops N o S D v:=fun D v hD hv=>by unfold GuardOk; rw [hg]; exact .inl ⟨g,c,hgs,hD,hN,hS,hv⟩
     cases hcb:(c == b) with
     | true=>exact run1 (fun _=>gok _ _ (by simp) hcb) (h1 hcb)
     | false =>
      obtain ⟨k1,k2⟩:=h2 hcb
      exact fin (.skip o ho (zaU k1) (gok _ _ (by simp) hcb) rfl) k2
    .rename_i hS
     obtain ⟨k1,k2⟩:=h
     exact fin (.skip o ho (zaU k1) (by unfold GuardOk; rw [hg]; exact .inr ⟨rfl,g,hgs,by simp,hS⟩) rfl) k2
    .exact h.elim
   .exact h.elim
theorem zkB:∀ {l:List Ent},okR ops l=true->l.Pairwise (fun f e=>dirB ops e.i f.i=true\/indB e f=true)
 | [],_=>.nil
 | e::l,h=>by
  rw [okR,Bool.and_eq_true] at h
  refine .cons (fun f hf=>?_) (zkB h.2)
  have:=(List.all_eq_true.1 h.1) f hf
  simpa using this
theorem zjd {e f:EU} (h:indB (zgq e) (zgq f)=true):Ind e f:=by
 simp only [indB,zgq,Bool.and_eq_true,List.all_eq_true,Bool.not_eq_eq_eq_not,Bool.not_true,List.contains_eq_mem,decide_eq_false_iff_not] at h
 exact ⟨fun x hx=>(h.1 x hx).1,fun x hx=>(h.1 x hx).2,fun x hx=>h.2 x hx⟩
end
end Go.Abs


namespace Go.Abs
variable [DrawK]
open Go.RowKit (Below)
structure Exc where
 p:Nat
 c:Nat
 d:Nat
def okX (ops:Array Oper) (q:Nat->Nat->Bool):List Ent->Bool
 | []=>true
 | e::l=>l.all (fun e'=>dirB ops e'.i e.i || indB e' e || q e'.i e.i) && okX ops q l
def nrg:Nat->Nat->List Nat
 | _,0=>[]
 | i,n+1=>i::nrg (i+1) n
def rmv (x:Nat):List Nat->List Nat
 | []=>[]
 | a::l=>if a=x then l else a::rmv x l
def insA (x y:Nat):List Nat->List Nat
 | []=>[]
 | a::l=>if a=y then a::x::l else a::insA x y l
def zg1 (ops:Array Oper):Bool:=zcg ops && noV ops
theorem ze2 {ops:Array Oper} (h:zg1 ops=true):zcg ops=true:=by rw [zg1,Bool.and_eq_true] at h; exact h.1
theorem zq4 {ops:Array Oper} (h:zg1 ops=true):noV ops=true:=by rw [zg1,Bool.and_eq_true] at h; exact h.2
def depB (ops:Array Oper) (i j:Nat):Bool:=match ops[i]? with
 | some o=>o.after.any fun e=>Region.binds .any e && e.on == j
 | none=>false
def zpg (ops:Array Oper):List Nat->Bool
 | []=>true
 | i::l=>(l.all fun j=>!(depB ops i j)) && zpg ops l
def zt7 (l r:List Nat):Bool:=decide l.Nodup && decide (l.length=r.length) && r.all (fun x=>l.contains x) && l.all (fun x=>r.contains x)
def alt (cf:Cfg) (id:Nat):Option (Exc × Nat):=(cf.tko.find? fun t=>decide (t / 100000000=10000+id)).map fun t=>(⟨t / 1000000%100,t / 10000%100,t / 100%100⟩,t%100)
def fixK (cf:Cfg) (R:Nat->List Upd) (i:Nat) (o:Oper) (S:St) (C:List Ent->St->Prop) (tr:List Ent) (S':St):Prop:=fixC cf R i o S S'/\C tr S'
def vcY (P:Program) (cf:Cfg) (N:Nat × List Nat) (ops:Array Oper) (q:Nat->Nat->Bool) (R:Nat->List Upd):List Nat->(St->Prop)->List Ent->St->Prop
 | [],K,tr,S=>okX ops q tr=true/\K S
 | i::l,K,tr,S=>match ops[i]? with
  | some o=>match o.guard with
   | none=>runD P cf N i o [] (fixK cf R i o S (vcY P cf N ops q R l K)) tr S
   | some _=>False
  | none=>False
def alt2 (cf:Cfg) (id:Nat):Option (Exc × Nat):=(cf.tko.find? fun t=>decide (t / 100000000=20000+id)).map fun t=>(⟨t / 1000000%100,t / 10000%100,t / 100%100⟩,t%100)
def excL (X:List (Nat × Nat)) (i j:Nat):Bool:=X.any fun p=>(i == p.1 && j == p.2) || (i == p.2 && j == p.1)
def befB (x y:Nat):List Nat->Bool
 | []=>false
 | a::l=>if a=x then l.contains y else befB x y l
def zji:List (Nat × Nat)->List (List (Nat × Nat))
 | []=>[[]]
 | (x,y)::X=>(zji X).map (fun O=>(x,y)::O)++(zji X).map (fun O=>(y,x)::O)
def ztj (ops:Array Oper) (O:List (Nat × Nat)):Bool:=O.any fun p=>dirB ops p.2 p.1 || O.any fun r=>r.1 == p.2 && dirB ops r.2 p.1
def zv8 (ops:Array Oper) (X:List (Nat × Nat)) (Ls:List (List Nat)):Bool:=(zji X).all fun O=>ztj ops O || Ls.any fun l=>O.all fun p=>befB p.1 p.2 l
def zgZ (ops:Array Oper) (X:List (Nat × Nat)) (Ls:List (List Nat)):Bool :=
 zg1 ops && (X.all fun p=>decide (p.1<ops.size) && decide (p.2<ops.size) && !(p.1 == p.2)) && (Ls.all fun l=>zt7 l (List.range ops.size) && zpg ops l) && zv8 ops X Ls
def AllY (P:Program) (cf:Cfg) (N:Nat × List Nat) (ops:Array Oper) (q:Nat->Nat->Bool) (R:Nat->List Upd) (K:St->Prop) (S:St):List (List Nat)->Prop
 | []=>True
 | l::Ls=>vcY P cf N ops q R l K [] S/\AllY P cf N ops q R K S Ls
def DrawVC6 (P:Program) (cf:Cfg) (N:Nat × List Nat) (ops:Array Oper) (K:St->Prop) (S:St):Prop :=
 ∃ X Ls R,zgZ ops X Ls=true/\AllY P cf N ops (excL X) R K S Ls
def alt3 (cf:Cfg) (id:Nat):Bool:=cf.tko.any fun t=>decide (t / 100000000=30000+id)
def zi2 (P:Program) (cf:Cfg) (N:Nat × List Nat) (ops:Array Oper) (X:List (Nat × Nat)) (Ls:List (List Nat)) (K:St->Prop) (S:St):Prop :=
 zgZ ops X Ls=true/\AllY P cf N ops (excL X) (fun _=>[]) K S Ls
def DrawVC4 (P:Program) (cf:Cfg) (N:Nat × List Nat) (ops:Array Oper) (q:Exc) (n:Nat) (K:St->Prop) (S:St):Prop :=
 ∃ R,zgZ ops [(q.p,q.c),(q.p,q.d)] [insA q.d q.c (insA q.c q.p (rmv q.d (rmv q.c (nrg 0 n)))),insA q.d q.p (rmv q.d (nrg 0 n)),nrg 0 n]=true /\
  vcY P cf N ops (excL [(q.p,q.c),(q.p,q.d)]) R (insA q.d q.c (insA q.c q.p (rmv q.d (rmv q.c (nrg 0 n))))) K [] S/\vcY P cf N ops (excL [(q.p,q.c),(q.p,q.d)]) R (insA q.d q.p (rmv q.d (nrg 0 n))) K [] S /\
  vcY P cf N ops (excL [(q.p,q.c),(q.p,q.d)]) R (nrg 0 n) K [] S
def DrawVC5 (P:Program) (cf:Cfg) (N:Nat × List Nat) (ops:Array Oper) (q:Exc) (n:Nat) (K:St->Prop) (S:St):Prop :=
 ∃ R,zgZ ops [(q.p,q.d)] [nrg 0 n,insA q.p q.d (rmv q.p (nrg 0 n))]=true/\vcY P cf N ops (excL [(q.p,q.d)]) R (nrg 0 n) K [] S/\vcY P cf N ops (excL [(q.p,q.d)]) R (insA q.p q.d (rmv q.p (nrg 0 n))) K [] S
def DrawSel (P:Program) (cf:Cfg) (N:Nat × List Nat) (ops:Array Oper) (id:Nat) (K:St->Prop) (S:St):Prop:=match alt cf id with
 | some (q,n)=>if q.c=99 then zi2 P cf N ops [(q.p,q.d)] [insA q.d q.p (rmv q.d (nrg 0 n)),nrg 0 n] K S
  else zi2 P cf N ops [(q.p,q.c),(q.p,q.d)] [insA q.c q.p (rmv q.c (nrg 0 n)),nrg 0 n,insA q.p q.d (rmv q.p (nrg 0 n))] K S
 | none=>match alt2 cf id with
  | some (q,n)=>if q.c=99 then DrawVC5 P cf N ops q n K S else DrawVC4 P cf N ops q n K S
  | none=>if alt3 cf id=true then DrawVC6 P cf N ops K S else zkI P cf N ops K S
section
variable {P:Program} {N:Nat × List Nat} {G:Nat->Prop} {w0:W0} {w w':World} {S:St} {a:Act} {F:Nat->Prop} {oss:Nat->List Nat} {X:List Nat} {cf:Cfg} {ops:Array Oper}
def fixU (ops:Array Oper) (R:Nat->List Upd) (e:EU):Prop:=∀ o f xs,ops[e.i]?=some o->za7 o.op=some (f,xs)->e.U=R e.i
theorem zrM {R:Nat->List Upd} {e f:EU} (h1:fixU ops R e) (h2:fixU ops R f) (hi:f.i=e.i):∀ o g xs,ops[e.i]?=some o->za7 o.op=some (g,xs)->e.U=f.U:=fun o g xs ho hc=>by
 rw [h1 o g xs ho hc,h2 o g xs (by rw [hi]; exact ho) hc,hi]
theorem znh {q:Nat->Nat->Bool} {R:Nat->List Upd} {K:St->Prop}:∀ (l:List Nat) (tr:List Ent) (S:St),vcY P cf N ops q R l K tr S ->
  ∃ es S1,Run P cf N ops es S S1/\K S1/\es.map (·.i)=l/\okX ops q ((es.map zgq).reverse++tr)=true/\∀ e∈es,fixU ops R e
 | [],tr,S,h=>⟨[],S,.nil S,h.2,rfl,by simpa using h.1,by simp⟩
 | i::l,tr,S,h=>by
  unfold vcY at h
  obtain ⟨o,ho⟩:∃ o,ops[i]?=some o:=by
   cases ho:ops[i]? with
   | none=>rw [ho] at h; exact h.elim
   | some o=>exact ⟨o,rfl⟩
  rw [ho] at h
  simp only at h
  have fin:∀ {D:List Nat} {U:List Upd},Stp P cf N ops i D U S->(∀ f xs,za7 o.op=some (f,xs)->U=R i)->vcY P cf N ops q R l K (⟨i,D,wrs U⟩::tr) (app U S) ->
    ∃ es S1,Run P cf N ops es S S1/\K S1/\es.map (·.i)=i::l/\okX ops q ((es.map zgq).reverse++tr)=true/\∀ e∈es,fixU ops R e:=by
   intro D U hst hu hc
   obtain ⟨es,S1,k1,k2,k3,k4,k5⟩:=znh l _ _ hc
   refine ⟨⟨i,D,U⟩::es,S1,.cons _ _ _ _ hst k1,k2,?_,?_,?_⟩
   .rw [List.map_cons,k3]
   .simpa [zgq] using k4
   .intro e he
    rcases List.mem_cons.1 he with rfl | he
    .intro o' f xs ho' hc'
     simp only at ho'
     rw [ho] at ho'; injection ho' with ho'; subst ho'
     exact hu f xs hc'
    .exact k5 e he
  split at h
  .rename_i hg0
   obtain ⟨D,U,h1,h2,h3⟩:=zk9 ho (fun _=>by unfold GuardOk; rw [hg0]) h
   exact fin h1 (h3 R h2.1) h2.2
  .exact h.elim
theorem zcx {q:Nat->Nat->Bool} {R:Nat->List Upd} {K K':St->Prop} (hK:∀ S,K S->K' S):∀ (l:List Nat) (tr:List Ent) (S:St),vcY P cf N ops q R l K tr S->vcY P cf N ops q R l K' tr S
 | [],_,_,h=>⟨h.1,hK _ h.2⟩
 | i::l,tr,S,h=>by
  unfold vcY at h |-
  cases ho:ops[i]? with
  | none=>rw [ho] at h; exact h.elim
  | some o =>
   rw [ho] at h
   simp only at h |-
   split at h
   .exact zif (fun tr S h=>⟨h.1,zcx hK l tr S h.2⟩) h
   .exact h
theorem AllY.mono {q:Nat->Nat->Bool} {R:Nat->List Upd} {K K':St->Prop} (hK:∀ S,K S->K' S) {S:St}:∀ {Ls:List (List Nat)},AllY P cf N ops q R K S Ls->AllY P cf N ops q R K' S Ls
 | [],_=>trivial
 | _::_,h=>⟨zcx hK _ _ _ h.1,AllY.mono hK h.2⟩
theorem DrawVC5.mono {q:Exc} {n:Nat} {K K':St->Prop} {S:St} (h:DrawVC5 P cf N ops q n K S) (hK:∀ S,K S->K' S):DrawVC5 P cf N ops q n K' S:=by
 obtain ⟨R,h0,h1,h2⟩:=h
 exact ⟨R,h0,zcx hK _ _ _ h1,zcx hK _ _ _ h2⟩
theorem DrawVC4.mono {q:Exc} {n:Nat} {K K':St->Prop} {S:St} (h:DrawVC4 P cf N ops q n K S) (hK:∀ S,K S->K' S):DrawVC4 P cf N ops q n K' S:=by
 obtain ⟨R,h0,h1,h2,h3⟩:=h
 exact ⟨R,h0,zcx hK _ _ _ h1,zcx hK _ _ _ h2,zcx hK _ _ _ h3⟩
theorem DrawVC6.mono {K K':St->Prop} {S:St} (h:DrawVC6 P cf N ops K S) (hK:∀ S,K S->K' S):DrawVC6 P cf N ops K' S:=by
 obtain ⟨X,Ls,R,h0,h1⟩:=h
 exact ⟨X,Ls,R,h0,h1.mono hK⟩
theorem DrawSel.mono {id:Nat} {K K':St->Prop} {S:St} (h:DrawSel P cf N ops id K S) (hK:∀ S,K S->K' S):DrawSel P cf N ops id K' S:=by
 unfold DrawSel at h |-
 split at h
 .split at h
  .rename_i h9; simp only [if_pos h9]; exact ⟨h.1,h.2.mono hK⟩
  .rename_i h9; simp only [if_neg h9]; exact ⟨h.1,h.2.mono hK⟩
 .split at h
  .split at h
   .rename_i h9; simp only [if_pos h9]; exact h.mono hK
   .rename_i h9; simp only [if_neg h9]; exact h.mono hK
  .split at h
   .rename_i h9; simp only [if_pos h9]; exact h.mono hK
   .rename_i h9; simp only [if_neg h9]; exact ⟨h.1,zkH hK _ _ _ _ h.2⟩
theorem zkF {q:Nat->Nat->Bool}:∀ {l:List Ent},okX ops q l=true->l.Pairwise (fun f e=>dirB ops e.i f.i=true\/indB e f=true\/q e.i f.i=true)
 | [],_=>.nil
 | e::l,h=>by
  rw [okX,Bool.and_eq_true] at h
  refine .cons (fun f hf=>?_) (zkF h.2)
  have:=(List.all_eq_true.1 h.1) f hf
  simpa [or_assoc] using this
theorem Stp.det {D D':List Nat} {U U':List Upd} {i:Nat} (hv:zg1 ops=true) (h0:∀ o f xs,ops[i]?=some o->za7 o.op=some (f,xs)->U=U') (h:Stp P cf N ops i D U S) (h':Stp P cf N ops i D' U' S):U=U':=by
 have gd:∀ {o:Oper},GuardOk ops N o S D true->GuardOk ops N o S D' false->False:=by
  intro o h1 h2
  unfold GuardOk at h1 h2
  split at h1
  .rename_i e; rw [e] at h2; simp at h2
  .rename_i j v e
   rw [e] at h2
   simp only at h2
   rcases h1 with ⟨g,c,k1,_,_,k4,k5⟩ | ⟨h0,_⟩
   .rcases h2 with ⟨g',c',m1,_,_,m4,m5⟩ | ⟨_,g',m1,_,m3⟩
    .rw [k1] at m1; injection m1 with m1; subst m1
     rw [k4] at m4; injection m4 with m4; injection m4 with m4; subst m4
     rw [k5] at m5; simp at m5
    .rw [k1] at m1; injection m1 with m1; subst m1
     rw [k4] at m3; simp at m3
   .simp at h0
 have gd':∀ {o:Oper},GuardOk ops N o S D false->GuardOk ops N o S D' true->False:=by
  intro o h1 h2
  unfold GuardOk at h1 h2
  split at h2
  .rename_i e; rw [e] at h1; simp at h1
  .rename_i j v e
   rw [e] at h1
   simp only at h1
   rcases h2 with ⟨g,c,k1,_,_,k4,k5⟩ | ⟨h0,_⟩
   .rcases h1 with ⟨g',c',m1,_,_,m4,m5⟩ | ⟨_,g',m1,_,m3⟩
    .rw [k1] at m1; injection m1 with m1; subst m1
     rw [k4] at m4; injection m4 with m4; injection m4 with m4; subst m4
     rw [k5] at m5; simp at m5
    .rw [k1] at m1; injection m1 with m1; subst m1
     rw [k4] at m3; simp at m3
   .simp at h0
 cases h with
 | run o ho hD hR hx hg hE=>cases h' with
  | run o' ho' hD' hR' hx' hg' hE' =>
   rw [ho] at ho'; injection ho' with ho'; subst ho'
   by_cases hc:za7 o.op=none
   case neg =>
    obtain ⟨⟨f,xs⟩,hc⟩:=Option.ne_none_iff_exists'.1 hc
    exact h0 o f xs ho hc
   unfold Ex at hE hE'
   rw [hc] at hE hE'
   have nv:∀ f xs,zfW S o.op≠some (f,xs):=fun f xs hw=>by
    have:=(Array.all_eq_true'.1 (zq4 hv)) o (Array.mem_of_getElem? ho)
    rw [zl4 hw] at this
    simp at this
   rcases hE with ⟨q,rd,h1,_⟩ | ⟨_,_,_,_,hw,_⟩
   case inr=>exact (nv _ _ hw).elim
   rcases hE' with ⟨q',rd',h2,_⟩ | ⟨_,_,_,_,hw,_⟩
   case inr=>exact (nv _ _ hw).elim
   rw [h1] at h2
   simp only [Option.some.injEq,Prod.mk.injEq] at h2
   exact h2.2.2
  | skip o' ho' hD' hg' hU' =>
   rw [ho] at ho'; injection ho' with ho'; subst ho'
   exact (gd hg hg').elim
 | skip o ho hD hg hU=>cases h' with
  | run o' ho' hD' hR' hx' hg' hE' =>
   rw [ho] at ho'; injection ho' with ho'; subst ho'
   exact (gd' hg hg').elim
  | skip o' ho' hD' hg' hU' =>
   rw [ho] at ho'; injection ho' with ho'; subst ho'
   rw [hU,hU']
theorem zjg {listed:Array Bool} {M M':List Nat} {i:Nat} (hsz:listed.size=ops.size) (hi:i<ops.size) (hni:i ∉ M') (hM:∀ j,j≠i->(j∈M' ↔ j∈M)) (hl:∀ j,j<ops.size->(listed.getD j true=false ↔ j∈M)) :
  ∀ j,j<ops.size->((listed.setIfInBounds i true).getD j true=false ↔ j∈M'):=by
 intro j hj
 have hjl:j<listed.size:=by omega
 by_cases e1:j=i
 .subst e1
  constructor
  .intro hx; simp [Array.getD,hjl] at hx
  .intro hx; exact (hni hx).elim
 .have hsame:(listed.setIfInBounds i true).getD j true=listed.getD j true:=by
   simp [Array.getElem?_setIfInBounds_ne (Ne.symm e1)]
  rw [hsame,hl j hj,hM j e1]
theorem zj4 {listed:Array Bool} {i:Nat} {o:Oper} (hsz:listed.size=ops.size) (h1:i<ops.size) (h3:ops[i]?=some o) (h4:∀ e∈o.after.toList,Region.binds .any e=true->listed.getD e.on false=true)
  (hcl:∀ j o,listed.getD j false=true->ops[j]?=some o->∀ e∈o.after.toList,Region.binds .any e=true->listed.getD e.on false=true) :
  ∀ j o,(listed.setIfInBounds i true).getD j false=true->ops[j]?=some o->∀ e∈o.after.toList,Region.binds .any e=true->(listed.setIfInBounds i true).getD e.on false=true:=by
 have hup:∀ k,listed.getD k false=true->(listed.setIfInBounds i true).getD k false=true:=by
  intro k hk
  by_cases e1:k=i
  .subst e1
   have:k<listed.size:=by omega
   simp [Array.getD,this]
  .simp [Array.getElem?_setIfInBounds_ne (Ne.symm e1)] at hk |-
   exact hk
 intro j o' hj ho' e' he' hb'
 by_cases e1:j=i
 .subst e1
  rw [h3] at ho'
  injection ho' with ho'; subst ho'
  exact hup _ (h4 e' he' hb')
 .refine hup _ (hcl j o' ?_ ho' e' he' hb')
  simp [Array.getElem?_setIfInBounds_ne (Ne.symm e1)] at hj |-
  exact hj
def TO (ops:Array Oper) (e f:EU):Prop:=depB ops e.i f.i=false
theorem zh0 (hedge:zcg ops=true) (listed:Array Bool) (e:EU) (es:List EU) (hs:(e::es).Pairwise (TO ops)) (hl:∀ i,i<ops.size->(listed.getD i true=false ↔ i∈(e::es).map (·.i))) (hlt:∀ f∈e::es,f.i<ops.size) (hsz:listed.size=ops.size) :
  e.i∈Region.ready .any ops listed:=by
 have hi:=hlt e (by simp)
 refine zga.2 ⟨hi,(hl e.i hi).2 (by simp),ops[e.i],by simp [hi],fun ed hed hb=>?_⟩
 have:=(List.all_eq_true.1 hedge) e.i (by simpa using hi)
 have e1:ops[e.i]?=some ops[e.i]:=by simp [hi]
 simp only [e1] at this
 have:=(Array.all_eq_true'.1 this) ed (by simpa using hed)
 rw [hb] at this
 have hon:ed.on<e.i:=by simpa using this
 have hon2:ed.on<ops.size:=by omega
 have hnot:¬ (listed.getD ed.on true=false):=fun hf=>by
  have:=(hl ed.on hon2).1 hf
  rw [List.map_cons,List.mem_cons] at this
  rcases this with h | h
  .omega
  .obtain ⟨f,hf1,hf2⟩:=List.mem_map.1 h
   have:=(List.pairwise_cons.1 hs).1 f hf1
   unfold TO depB at this
   rw [e1] at this
   simp only at this
   have h5:(ops[e.i].after.any fun e=>Region.binds .any e && e.on == f.i)=true:=Array.any_eq_true'.2 ⟨ed,by simpa using hed,by simp [hb,hf2]⟩
   rw [h5] at this; simp at this
 have hin:ed.on<listed.size:=by omega
 simp [Array.getD,hin] at hnot |-
 exact hnot
theorem zqO {listed:Array Bool} {M:List Nat} {i:Nat} {o:Oper} (hsz:listed.size=ops.size) (h1:i<ops.size) (h3:ops[i]?=some o) (h4:∀ e∈o.after.toList,Region.binds .any e=true->listed.getD e.on false=true)
  (hcl:∀ j o,listed.getD j false=true->ops[j]?=some o->∀ e∈o.after.toList,Region.binds .any e=true->listed.getD e.on false=true)
  (hl:∀ i,i<ops.size->(listed.getD i true=false ↔ i∈M)) (hlt:∀ i∈M,i<ops.size):∀ f:Nat,f∈M->dirB ops f i=true->False:=by
 intro f hfm hd
 unfold dirB at hd
 have hlst:=zgx (L:=fun k=>listed.getD k false=true) hcl i o h3 h4 ops.size h1 f hd
 have hfi:=hlt f hfm
 have:=(hl f hfi).2 hfm
 have hin:f<listed.size:=by omega
 simp [Array.getD,hin] at hlst this
 rw [hlst] at this
 simp at this
theorem zg3:∀ {es:List EU},zpg ops (es.map (·.i))=true->es.Pairwise (TO ops)
 | [],_=>.nil
 | e::es,h=>by
  rw [List.map_cons,zpg,Bool.and_eq_true] at h
  refine .cons (fun f hf=>?_) (zg3 h.2)
  have:=(List.all_eq_true.1 h.1) f.i (List.mem_map.2 ⟨f,hf,rfl⟩)
  unfold TO; simpa using this
theorem zlN {l:List Nat} {n:Nat} (h:zt7 l (List.range n)=true):l.Nodup/\l.length=n/\∀ j,j∈l ↔ j<n:=by
 unfold zt7 at h
 simp only [Bool.and_eq_true,decide_eq_true_eq,List.all_eq_true,List.contains_eq_mem,List.length_range,List.mem_range] at h
 exact ⟨h.1.1.1,h.1.1.2,fun j=>⟨fun hj=>h.2 j hj,fun hj=>h.1.2 j hj⟩⟩
def PL (ops:Array Oper) (X:List (Nat × Nat)) (e f:EU):Prop:=dirB ops e.i f.i=true\/Ind e f\/excL X e.i f.i=true
def zvJ (P:Program) (cf:Cfg) (N:Nat × List Nat) (ops:Array Oper) (X:List (Nat × Nat)) (FX:EU->Prop) (K:St->Prop) (M:List Nat) (S:St) (π:List Nat):Prop :=
 ∃ es S1,Run P cf N ops es S S1/\K S1/\es.Pairwise (PL ops X)/\es.Pairwise (TO ops)/\(es.map (·.i)).Nodup/\(∀ j,j∈es.map (·.i) ↔ j∈M)/\(∀ e∈es,FX e) /\
  ∀ x y,excL X x y=true->[x,y].Sublist π->[x,y].Sublist (es.map (·.i))
def Top (ops:Array Oper) (M π:List Nat):Prop:=π.Nodup/\(∀ j,j∈π ↔ j∈M)/\π.Pairwise (fun i j=>depB ops i j=false)
theorem znu {X:List (Nat × Nat)} {x y:Nat} (h:excL X x y=true):excL X y x=true:=by
 unfold excL at h |-
 rw [List.any_eq_true] at h |-
 obtain ⟨p,hp,h⟩:=h
 refine ⟨p,hp,?_⟩
 simp at h |-
 omega
theorem zcC {l:List Nat} {x y:Nat} (hn:l.Nodup) (h1:[x,y].Sublist l) (h2:[y,x].Sublist l) (hne:x≠y):False:=by
 induction l with
 | nil=>cases h1
 | cons a l ih =>
  rw [List.nodup_cons] at hn
  cases h1 with
  | cons _ h1 =>
   cases h2 with
   | cons _ h2=>exact ih hn.2 h1 h2
   | cons_cons _ h2=>exact hn.1 (h1.subset (by simp))
  | cons_cons _ h1 =>
   cases h2 with
   | cons _ h2=>exact hn.1 (h2.subset (by simp))
   | cons_cons _ h2=>exact hne rfl
theorem zvE {X:List (Nat × Nat)} {FX:EU->Prop} {K:St->Prop} {M:List Nat} {π:List Nat} {i:Nat} (hi:i∈M) (nodir:∀ f:EU,f.i∈M->dirB ops f.i i=true->False)
  (hne:∀ x y,excL X x y=true->x≠y) (hpm:∀ j,j∈π ↔ j∈M/\j≠i) (h:zvJ P cf N ops X FX K M S (i::π)) :
  ∃ e es' S1,e.i=i/\FX e/\Run P cf N ops (e::es') S S1/\K S1/\es'.Pairwise (PL ops X)/\es'.Pairwise (TO ops)/\(es'.map (·.i)).Nodup/\(∀ j,j∈es'.map (·.i) ↔ j∈M/\j≠i)/\(∀ e∈es',FX e) /\
   ∀ x y,excL X x y=true->[x,y].Sublist π->[x,y].Sublist (es'.map (·.i)):=by
 obtain ⟨es,S1,hr,hK,hp,ht,hnd,hm,hx,ho⟩:=h
 obtain ⟨e,he,hei⟩:=List.mem_map.1 ((hm i).2 hi)
 obtain ⟨l1,l2,rfl⟩:=List.append_of_mem he
 have hsub:(l1++l2).Sublist (l1++e::l2):=by simp
 have hni:i ∉ (l1++l2).map (·.i):=by
  rw [List.map_append,List.map_cons,hei,List.nodup_append,List.nodup_cons] at hnd
  intro hx
  rw [List.map_append] at hx
  rcases List.mem_append.1 hx with hx | hx
  .exact hnd.2.2 i hx i (by simp) rfl
  .exact hnd.2.1.1 hx
 have hind:∀ f∈l1,Ind f e:=by
  intro f hfm
  have hfM:f.i∈M:=(hm f.i).1 (by simp; exact .inl ⟨f,hfm,rfl⟩)
  have hfi:f.i≠i:=fun hh=>hni (by rw [<- hh]; simp; exact .inl ⟨f,hfm,rfl⟩)
  rcases (List.pairwise_append.1 hp).2.2 f hfm e (by simp) with hd | hd | hd
  .rw [hei] at hd; exact (nodir f hfM hd).elim
  .exact hd
  .exfalso
   rw [hei] at hd
   have h1:=ho i f.i (znu hd) (.cons_cons _ (by simpa using (hpm f.i).2 ⟨hfM,hfi⟩))
   obtain ⟨m1,m2,rfl⟩:=List.append_of_mem hfm
   have h2:[f.i,i].Sublist ((m1++f::m2++e::l2).map (·.i)):=by
    simp only [List.map_append,List.map_cons,List.append_assoc,List.cons_append]
    refine List.Sublist.trans ?_ (List.sublist_append_right _ _)
    refine .cons_cons _ (List.Sublist.trans ?_ (List.sublist_append_right _ _))
    rw [hei]; simp
   exact zcC hnd h1 h2 (fun e=>hfi e.symm)
 refine ⟨e,l1++l2,S1,hei,hx e (by simp),hr.front hind,hK,hp.sublist hsub,ht.sublist hsub,hnd.sublist (hsub.map _),fun j=>?_,fun g hg=>hx g (hsub.subset hg),fun x y hxy hs=>?_⟩
 .constructor
  .intro hj
   exact ⟨(hm j).1 ((hsub.map _).subset hj),fun ej=>hni (ej ▸ hj)⟩
  .rintro ⟨hj,hne⟩
   have:=(hm j).2 hj
   rw [List.map_append,List.map_cons,hei] at this
   rw [List.map_append]
   rcases List.mem_append.1 this with h | h
   .exact List.mem_append.2 (.inl h)
   .rcases List.mem_cons.1 h with h | h
    .exact (hne h).elim
    .exact List.mem_append.2 (.inr h)
 .have h1:=ho x y hxy (.cons _ hs)
  have hxi:x≠i:=((hpm x).1 (hs.subset (by simp))).2
  have hyi:y≠i:=((hpm y).1 (hs.subset (by simp))).2
  have h2:=h1.filter (fun j=>j != i)
  have e1:[x,y].filter (fun j=>j != i)=[x,y]:=by simp [hxi,hyi]
  have e2:((l1++e::l2).map (·.i)).filter (fun j=>j != i)=(l1++l2).map (·.i):=by
   rw [List.map_append,List.map_cons,List.filter_append,List.filter_cons,hei]
   simp only [bne_self_eq_false,Bool.false_eq_true,if_false]
   rw [<- List.filter_append,<- List.map_append,List.filter_eq_self]
   intro j hj
   have:j≠i:=fun ej=>hni (ej ▸ hj)
   simpa using this
  rw [e1,e2] at h2
  exact h2
theorem zsm (hdst:∀ o∈ops.toList,∀ d,o.dst=some d->OkD N d) (hedge:zcg ops=true) {FX:EU->Prop} (hdet:∀ e f S,FX e->FX f->f.i=e.i->Stp P cf N ops e.i e.D e.U S->Stp P cf N ops e.i f.D f.U S->e.U=f.U) {X:List (Nat × Nat)} (hne:∀ x y,excL X x y=true->x≠y) {K:St->Prop} {Q:Exit->Act->World->Prop} (hk:∀ S a w,K S->StRel P N G w0 S a w->Q .normal a w) :
  ∀ (fuel:Nat) (listed:Array Bool) (M:List Nat) (S:St) (a:Act) (w:World),StRel P N G w0 S a w->(∀ π,Top ops M π->zvJ P cf N ops X FX K M S π)->(∃ π,Top ops M π/\π.length<=fuel) ->
   (∀ i,i<ops.size->(listed.getD i true=false ↔ i∈M))->(∀ i∈M,i<ops.size)->listed.size=ops.size ->
   (∀ j o,listed.getD j false=true->ops[j]?=some o->∀ e∈o.after.toList,Region.binds .any e=true->listed.getD e.on false=true) ->
   wpAny P .any ops Q fuel listed a w:=by
 intro fuel
 induction fuel with
 | zero =>
  rintro listed M S a w hr hc ⟨π,hπ,hf⟩ hl hlt hsz hcl
  have:π=[]:=List.eq_nil_of_length_eq_zero (by omega)
  subst this
  obtain ⟨es,S1,r,k,_,_,_,hm,_⟩:=hc [] hπ
  have hM:∀ j,j ∉ M:=fun j hj=>by have:=(hπ.2.1 j).2 hj; simp at this
  have:es=[]:=by
   cases es with
   | nil=>rfl
   | cons e es=>exact (hM e.i ((hm e.i).1 (by simp))).elim
  subst this
  cases r
  refine ⟨?_,hk _ a w k hr⟩
  refine List.eq_nil_iff_forall_not_mem.2 (fun i hi=>?_)
  obtain ⟨h1,h2,_⟩:=zga.1 hi
  exact hM i ((hl i h1).1 h2)
 | succ fuel ih =>
  rintro listed M S a w hr hc ⟨π,hπ,hf⟩ hl hlt hsz hcl
  refine ⟨fun hnil=>?_,fun i hi=>?_⟩
  .obtain ⟨es,S1,r,k,_,t,_,hm,_⟩:=hc π hπ
   cases es with
   | nil=>cases r; exact hk _ a w k hr
   | cons e es =>
    have:=zh0 hedge listed e es t (fun i hi=>by rw [hl i hi,hm]) (fun f hf=>hlt f.i ((hm f.i).1 (List.mem_map.2 ⟨f,hf,rfl⟩))) hsz
    rw [hnil] at this
    simp at this
  .obtain ⟨h1,h2,o,h3,h4⟩:=zga.1 hi
   have hmem:=(hl i h1).1 h2
   have nodir:=zqO hsz h1 h3 h4 hcl hl hlt
   have hcl':=zj4 hsz h1 h3 h4 hcl
   have hsz':(listed.setIfInBounds i true).size=ops.size:=by simp [hsz]
   have nodep:∀ j,j∈M->depB ops i j=false:=fun j hj=>by
    cases hd:depB ops i j with
    | false=>rfl
    | true =>
     unfold depB at hd
     rw [h3] at hd
     simp only [Array.any_eq_true'] at hd
     obtain ⟨e,he,hb⟩:=hd
     rw [Bool.and_eq_true,beq_iff_eq] at hb
     have g1:=h4 e (by simpa using he) hb.1
     have g2:=(hl j (hlt j hj)).2 hj
     rw [hb.2] at g1
     have hin:j<listed.size:=by have:=hlt j hj; omega
     simp [Array.getD,hin] at g1 g2
     rw [g1] at g2
     simp at g2
   have lift:∀ ρ:List Nat,Top ops (M.filter (fun j=>j != i)) ρ->Top ops M (i::ρ):=fun ρ h=>by
    have hm:∀ j,j∈ρ ↔ j∈M/\j≠i:=fun j=>by rw [h.2.1 j,List.mem_filter]; simp
    refine ⟨List.nodup_cons.2 ⟨fun hx=>((hm i).1 hx).2 rfl,h.1⟩,fun j=>?_,.cons (fun j hj=>nodep j ((hm j).1 hj).1) h.2.2⟩
    rw [List.mem_cons,hm]
    constructor
    .rintro (rfl | h)
     .exact hmem
     .exact h.1
    .intro hj
     by_cases e:j=i
     .exact .inl e
     .exact .inr ⟨hj,e⟩
   have mem':∀ {ρ:List Nat},Top ops (M.filter (fun j=>j != i)) ρ->∀ j,j∈ρ ↔ j∈M/\j≠i:=fun h j=>by rw [h.2.1 j,List.mem_filter]; simp
   have hπ':Top ops (M.filter (fun j=>j != i)) (π.filter (fun j=>j != i)):=⟨hπ.1.filter _,fun j=>by rw [List.mem_filter,List.mem_filter,hπ.2.1],hπ.2.2.filter _⟩
   obtain ⟨e,es',S1,hei,hfx,hrun,hK,hp',ht',hnd',hm',hx',ho'⟩:=zvE hmem (fun f=>nodir f.i) hne (mem' hπ') (hc _ (lift _ hπ'))
   cases hrun with
   | cons _ _ _ _ hst hrest =>
    have hw:=hst.sound hdst hr (K:=fun a' w'=>wpAny P .any ops Q fuel (listed.setIfInBounds i true) a' w') (Q:=Q) (fun a' w' hr'=>by
     refine ih (listed.setIfInBounds i true) (M.filter (fun j=>j != i)) _ a' w' hr' (fun ρ hρ=>?_) ⟨_,hπ',?_⟩ ?_ (fun j hj=>hlt j (List.mem_filter.1 hj).1) hsz' hcl'
     .obtain ⟨e2,es2',S2,hei2,hfx2,hrun2,hK2,hp2,ht2,hnd2,hm2,hx2,ho2⟩:=zvE hmem (fun f=>nodir f.i) hne (mem' hρ) (hc _ (lift _ hρ))
      cases hrun2 with
      | cons _ _ _ _ hst2 hrest2 =>
       have hU:e.U=e2.U:=by
        have k:=hst2
        rw [hei2,<- hei] at k
        exact hdet e e2 S hfx hfx2 (hei2.trans hei.symm) hst k
       rw [<- hU] at hrest2
       exact ⟨es2',S2,hrest2,hK2,hp2,ht2,hnd2,fun j=>by rw [hm2,List.mem_filter]; simp,hx2,ho2⟩
     .have:(π.filter (fun j=>j != i)).length<π.length:=List.length_filter_lt_length_iff_exists.2 ⟨i,(hπ.2.1 i).2 hmem,by simp⟩
      omega
     .exact zjg hsz h1 (fun hx=>by simpa using (List.mem_filter.1 hx).2) (fun j hj=>by rw [List.mem_filter]; simp [hj]) hl)
    rw [hei] at hw
    exact hw
theorem ziW {x y:Nat}:∀ {l:List Nat},befB x y l=true->[x,y].Sublist l
 | [],h=>by simp [befB] at h
 | a::l,h=>by
  rw [befB] at h
  split at h
  .rename_i e; subst e; exact .cons_cons _ (by simpa using h)
  .exact .cons _ (ziW h)
theorem zkw {l:List Nat} {x y:Nat} (hx:x∈l) (hy:y∈l) (hne:x≠y):[x,y].Sublist l\/[y,x].Sublist l:=by
 induction l with
 | nil=>simp at hx
 | cons a l ih =>
  rcases List.mem_cons.1 hx with ex | hx2
  .rcases List.mem_cons.1 hy with ey | hy2
   .exact (hne (ex.trans ey.symm)).elim
   .subst ex; exact .inl (.cons_cons _ (List.singleton_sublist.2 hy2))
  .rcases List.mem_cons.1 hy with ey | hy2
   .subst ey; exact .inr (.cons_cons _ (List.singleton_sublist.2 hx2))
   .exact (ih hx2 hy2).imp (.cons _) (.cons _)
theorem znL {π:List Nat}:∀ {X:List (Nat × Nat)},(∀ p∈X,p.1∈π/\p.2∈π/\p.1≠p.2)->∃ O∈zji X,(∀ p∈O,[p.1,p.2].Sublist π)/\∀ p∈X,p∈O\/(p.2,p.1)∈O
 | [],_=>⟨[],by simp [zji],by simp,by simp⟩
 | (x,y)::X,h=>by
  obtain ⟨O,h1,h2,h3⟩:=znL (X:=X) (fun p hp=>h p (by simp [hp]))
  obtain ⟨hx,hy,hne⟩:=h (x,y) (by simp)
  rcases zkw hx hy hne with hs | hs
  .refine ⟨(x,y)::O,by simp [zji,h1],fun p hp=>?_,fun p hp=>?_⟩
   .rcases List.mem_cons.1 hp with rfl | hp
    .exact hs
    .exact h2 p hp
   .rcases List.mem_cons.1 hp with rfl | hp
    .exact .inl (by simp)
    .exact (h3 p hp).imp (fun h=>by simp [h]) (fun h=>by simp [h])
  .refine ⟨(y,x)::O,by simp [zji,h1],fun p hp=>?_,fun p hp=>?_⟩
   .rcases List.mem_cons.1 hp with rfl | hp
    .exact hs
    .exact h2 p hp
   .rcases List.mem_cons.1 hp with rfl | hp
    .exact .inr (by simp)
    .exact (h3 p hp).imp (fun h=>by simp [h]) (fun h=>by simp [h])
theorem zmt (hedge:zcg ops=true) {i j:Nat} (hd:depB ops i j=true):j<i:=by
 unfold depB at hd
 cases ho:ops[i]? with
 | none=>rw [ho] at hd; simp at hd
 | some o =>
  rw [ho] at hd
  simp only [Array.any_eq_true'] at hd
  obtain ⟨e,he,hb⟩:=hd
  rw [Bool.and_eq_true,beq_iff_eq] at hb
  have hi:i<ops.size:=(Array.getElem?_eq_some_iff.1 ho).1
  have:=(List.all_eq_true.1 hedge) i (by simpa using hi)
  simp only [ho] at this
  have:=(Array.all_eq_true'.1 this) e he
  rw [hb.1] at this
  have:e.on<i:=by simpa using this
  omega
theorem zoP (hedge:zcg ops=true) {i j:Nat} (h:i<j):depB ops i j=false:=by
 cases hd:depB ops i j with
 | false=>rfl
 | true=>have:=zmt hedge hd; omega
theorem zh9 (hedge:zcg ops=true):Top ops (List.range ops.size) (List.range ops.size) :=
 ⟨List.nodup_range,fun _=>Iff.rfl,List.pairwise_lt_range.imp (zoP hedge)⟩
theorem znG (hedge:zcg ops=true) {π:List Nat} (hπ:Top ops (List.range ops.size) π) {x y:Nat} (h:dirB ops x y=true):[x,y].Sublist π:=by
 have hy:y<ops.size:=by
  rcases Nat.lt_or_ge y ops.size with h' | h'
  .exact h'
  .unfold dirB at h
   rw [List.getD_eq_getElem?_getD,List.getElem?_eq_none (by rw [zcs]; exact h')] at h; simp at h
 have ho:ops[y]?=some ops[y]:=by simp [hy]
 have dep:∀ j o,ops[j]?=some o->∀ e∈o.after.toList,Region.binds .any e=true->e.on<j/\depB ops j e.on=true:=by
  intro j o ho e he hb
  have hd:depB ops j e.on=true:=by
   unfold depB
   rw [ho]
   simp only [Array.any_eq_true']
   exact ⟨e,by simpa using he,by simp [hb]⟩
  exact ⟨zmt hedge hd,hd⟩
 have bef:∀ j o,j<ops.size->ops[j]?=some o->∀ e∈o.after.toList,Region.binds .any e=true->[e.on,j].Sublist π:=by
  intro j o hj ho e he hb
  obtain ⟨d1,d2⟩:=dep j o ho e he hb
  rcases zkw ((hπ.2.1 e.on).2 (by simp; omega)) ((hπ.2.1 j).2 (by simpa using hj)) (by omega) with h | h
  .exact h
  .have:=List.pairwise_iff_forall_sublist.1 hπ.2.2 h
   rw [d2] at this; simp at this
 have:=zgx (ops:=ops) (L:=fun k=>[k,y].Sublist π) (fun j o hj ho e he hb=>by
  have hj1:=bef j o ((Array.getElem?_eq_some_iff.1 ho).1) ho e he hb
  obtain ⟨d1,d2⟩:=dep j o ho e he hb
  have hej:e.on≠y:=fun ey=>by
   rw [ey] at hj1
   exact zcC hπ.1 hj hj1 (fun e2=>by omega)
  rcases zkw (hj1.subset (by simp)) ((hπ.2.1 y).2 (by simpa using hy)) hej with h | h
  .exact h
  .exfalso
   have tr:∀ {a b c:Nat},[a,b].Sublist π->[b,c].Sublist π->a≠c->[a,c].Sublist π:=fun {a b c} h1 h2 hac=>by
    rcases zkw (h1.subset (by simp)) (h2.subset (by simp)) hac with h | h
    .exact h
    .exfalso
     obtain ⟨l1,l2,e1,e2,e3⟩:∃ l1 l2,π=l1++b::l2/\a∈l1/\c∈l2:=by
      obtain ⟨l1,l2,rfl⟩:=List.append_of_mem (h2.subset (show b∈[b,c] by simp))
      have nd:=hπ.1
      rw [List.nodup_append,List.nodup_cons] at nd
      refine ⟨l1,l2,rfl,?_,?_⟩
      .rcases List.mem_append.1 (h1.subset (show a∈[a,b] by simp)) with h | h
       .exact h
       .exfalso
        rcases List.mem_cons.1 h with rfl | h
        .have:=hπ.1.sublist h1; simp at this
        .exact zcC hπ.1 h1 (List.Sublist.trans (.cons_cons _ (List.singleton_sublist.2 h)) (List.sublist_append_right _ _)) (fun e=>nd.2.1.1 (by rw [<- e]; exact h))
      .rcases List.mem_append.1 (h2.subset (show c∈[b,c] by simp)) with h | h
       .exfalso
        exact zcC hπ.1 h2 (by
         have:[c].Sublist l1:=by simpa using h
         exact List.Sublist.append this (by simp)) (fun e=>by subst e; exact nd.2.2 b h b (by simp) rfl)
       .rcases List.mem_cons.1 h with rfl | h
        .have:=hπ.1.sublist h2; simp at this
        .exact h
     subst e1
     exact zcC hπ.1 h (List.Sublist.append (show [a].Sublist l1 by simpa using e2) (.cons _ (by simpa using e3))) (Ne.symm hac)
   exact zcC hπ.1 hj (tr h hj1 (fun e2=>by
    rw [<- e2] at hj
    have:=hπ.1.sublist hj; simp at this)) (fun e2=>by
    rw [<- e2] at h
    exact zcC hπ.1 hj1 h (by omega))) y _ ho (fun e he hb=>bef y _ hy ho e he hb) ops.size hy x h
 exact this
theorem zbT (hm:P.follows .mixedOrders=true) (hdst:∀ o∈ops.toList,∀ d,o.dst=some d->OkD N d) {K:St->Prop} {Q:Exit->Act->World->Prop} (hr:StRel P N G w0 S a w) (h:DrawVC6 P cf N ops K S)
  (hk:∀ S a w,K S->StRel P N G w0 S a w->Q .normal a w) {id:Nat}:(Code.region id ops true).wp P Q a w:=by
 obtain ⟨X,Ls,R,hch,hY⟩:=h
 unfold zgZ at hch
 simp only [Bool.and_eq_true] at hch
 obtain ⟨⟨⟨hedge,hX⟩,hL⟩,hcv⟩:=hch
 have hX2:∀ p∈X,p.1<ops.size/\p.2<ops.size/\p.1≠p.2:=fun p hp=>by
  have:=List.all_eq_true.1 hX p hp
  simp at this
  exact ⟨this.1.1,this.1.2,this.2⟩
 have hne:∀ x y,excL X x y=true->x≠y:=fun x y h=>by
  unfold excL at h
  rw [List.any_eq_true] at h
  obtain ⟨p,hp,h⟩:=h
  have:=(hX2 p hp).2.2
  simp at h
  omega
 have runs:∀ (Ls:List (List Nat)),AllY P cf N ops (excL X) R K S Ls->∀ l∈Ls,vcY P cf N ops (excL X) R l K [] S:=by
  intro Ls
  induction Ls with
  | nil=>intro _ l hl; simp at hl
  | cons l0 Ls ih =>
   intro h l hl
   rcases List.mem_cons.1 hl with rfl | hl
   .exact h.1
   .exact ih h.2 l hl
 have hr':StRel P N G w0 S a { w with drawn:=w.drawn+1 }:=by
  obtain ⟨F,oss,hc⟩:=hr
  exact (hc.world (w':={ w with drawn:=w.drawn+1 }) (X':=[]) rfl rfl ⟨rfl,zbk _⟩ (Nat.le_refl _) (fun _ _ _=>rfl) (fun _ h=>h) (fun _ h=>.inl h) (by simp) List.nodup_nil).st
 have top0:∀ l∈Ls,Top ops (List.range ops.size) l/\l.length=ops.size:=fun l hl=>by
  have:=List.all_eq_true.1 hL l hl
  rw [Bool.and_eq_true] at this
  obtain ⟨n1,l1,m1⟩:=zlN this.1
  refine ⟨⟨n1,fun j=>by rw [m1,List.mem_range],?_⟩,l1⟩
  have tp:=this.2
  clear n1 l1 m1 hl
  clear this
  induction l with
  | nil=>exact .nil
  | cons i l ih =>
   rw [zpg,Bool.and_eq_true] at tp
   refine .cons (fun j hj=>?_) (ih tp.2)
   have:=List.all_eq_true.1 tp.1 j hj
   simpa using this
 have cov:∀ π,Top ops (List.range ops.size) π->∃ l∈Ls,∀ x y,excL X x y=true->[x,y].Sublist π->[x,y].Sublist l:=fun π hπ=>by
  obtain ⟨O,h1,h2,h3⟩:=znL (π:=π) (X:=X) (fun p hp=>⟨(hπ.2.1 _).2 (by simpa using (hX2 p hp).1),(hπ.2.1 _).2 (by simpa using (hX2 p hp).2.1),(hX2 p hp).2.2⟩)
  have hO:=List.all_eq_true.1 hcv O h1
  rw [Bool.or_eq_true] at hO
  have hnot:ztj ops O≠true:=fun hn=>by
   unfold ztj at hn
   rw [List.any_eq_true] at hn
   obtain ⟨p,hp,hn⟩:=hn
   rw [Bool.or_eq_true] at hn
   have hp2:=h2 p hp
   have pne:p.1≠p.2:=fun e=>by have:=hπ.1.sublist hp2; simp [e] at this
   rcases hn with hn | hn
   .exact zcC hπ.1 hp2 (znG (ze2 hedge) hπ hn) pne
   .rw [List.any_eq_true] at hn
    obtain ⟨r,hrr,hn⟩:=hn
    rw [Bool.and_eq_true,beq_iff_eq] at hn
    have hr2:=h2 r hrr
    rw [hn.1] at hr2
    have hd:=znG (ze2 hedge) hπ hn.2
    obtain ⟨l1,l2,rfl⟩:=List.append_of_mem (hr2.subset (show p.2∈[p.2,r.2] by simp))
    have nd:=hπ.1
    rw [List.nodup_append,List.nodup_cons] at nd
    have a1:p.1∈l1:=by
     rcases List.mem_append.1 (hp2.subset (show p.1∈[p.1,p.2] by simp)) with h | h
     .exact h
     .exfalso
      rcases List.mem_cons.1 h with h | h
      .exact pne h
      .exact zcC hπ.1 hp2 (List.Sublist.trans (.cons_cons _ (by simpa using h)) (List.sublist_append_right _ _)) pne
    have a2:r.2∈l2:=by
     have rne:p.2≠r.2:=fun e=>by have:=hπ.1.sublist hr2; simp [e] at this
     rcases List.mem_append.1 (hr2.subset (show r.2∈[p.2,r.2] by simp)) with h | h
     .exact (zcC hπ.1 hr2 (List.Sublist.append (show [r.2].Sublist l1 by simpa using h) (by simp)) rne).elim
     .rcases List.mem_cons.1 h with h | h
      .exact (rne h.symm).elim
      .exact h
    exact zcC hπ.1 hd (List.Sublist.append (show [p.1].Sublist l1 by simpa using a1) (.cons _ (by simpa using a2))) (fun e=>nd.2.2 p.1 a1 r.2 (by simp [a2]) e.symm)
  rcases hO with hO | hO
  .exact (hnot hO).elim
  .rw [List.any_eq_true] at hO
   obtain ⟨l,hl,hO⟩:=hO
   refine ⟨l,hl,fun x y hxy hs=>?_⟩
   unfold excL at hxy
   rw [List.any_eq_true] at hxy
   obtain ⟨p,hp,hxy⟩:=hxy
   have hO':∀ q∈O,[q.1,q.2].Sublist l:=fun q hq=>ziW (List.all_eq_true.1 hO q hq)
   have done:(x,y)∈O\/(y,x)∈O:=by
    obtain ⟨p1,p2⟩:=p
    have h4:=h3 _ hp
    simp at hxy
    rcases hxy with ⟨rfl,rfl⟩ | ⟨rfl,rfl⟩
    .exact h4
    .exact h4.symm
   rcases done with h | h
   .exact hO' _ h
   .exfalso
    have hn:x≠y:=fun e=>by subst e; have:=hπ.1.sublist hs; simp at this
    exact zcC hπ.1 hs (h2 _ h) hn
 obtain ⟨l0,hl0,_⟩:=cov _ (zh9 (ze2 hedge))
 refine wp_region_any hm (zsm (cf:=cf) hdst (ze2 hedge) (FX:=fixU ops R) (fun e f S h1 h2 hi he hf=>he.det hedge (zrM h1 h2 hi) hf) (X:=X) hne hk ops.size _ (List.range ops.size) S a _ hr' (fun π hπ=>?_) ⟨l0,(top0 l0 hl0).1,by rw [(top0 l0 hl0).2]; exact Nat.le_refl _⟩ (fun i hi=>?_) (fun i hi=>by simpa using hi) (by simp) ?_)
 .obtain ⟨l,hl,hlo⟩:=cov π hπ
  obtain ⟨es,S1,b1,b2,b3,b4,b5⟩:=znh _ [] S (runs Ls hY l hl)
  have tl:=(top0 l hl).1
  have tb:=List.all_eq_true.1 hL l hl
  rw [Bool.and_eq_true] at tb
  refine ⟨es,S1,b1,b2,?_,zg3 (by rw [b3]; exact tb.2),by rw [b3]; exact tl.1,by rw [b3]; exact tl.2.1,b5,by rw [b3]; exact hlo⟩
  have:=zkF b4
  rw [List.append_nil,List.pairwise_reverse,List.pairwise_map] at this
  exact this.imp (fun h=>h.imp (fun h=>h) (fun h=>h.imp zjd (fun h=>h)))
 .simp [hi]
 .intro j o hj
  exfalso
  rw [Array.getD_eq_getD_getElem?] at hj
  simp only [Array.getElem?_replicate] at hj; split at hj <;> simp at hj
theorem zmk (hm:P.follows .mixedOrders=true) (hdst:∀ o∈ops.toList,∀ d,o.dst=some d->OkD N d) {K:St->Prop} {Q:Exit->Act->World->Prop} (hr:StRel P N G w0 S a w) (h:zkI P cf N ops K S)
  (hk:∀ S a w,K S->StRel P N G w0 S a w->Q .normal a w) {id:Nat}:(Code.region id ops true).wp P Q a w:=by
 obtain ⟨h1,h2⟩:=h
 obtain ⟨es,S1,k1,k2,k3,k4⟩:=zmT ops.toList 0 [] S (fun j o hj=>by simpa using hj) h2
 have hes:es.Pairwise (PL ops []):=by
  have:=zkB k4
  rw [List.append_nil,List.pairwise_reverse,List.pairwise_map] at this
  exact this.imp (fun h=>h.imp (fun h=>h) (fun h=>.inl (zjd h)))
 have hr':StRel P N G w0 S a { w with drawn:=w.drawn+1 }:=by
  obtain ⟨F,oss,hc⟩:=hr
  exact (hc.world (w':={ w with drawn:=w.drawn+1 }) (X':=[]) rfl rfl ⟨rfl,zbk _⟩ (Nat.le_refl _) (fun _ _ _=>rfl) (fun _ h=>h) (fun _ h=>.inl h) (by simp) List.nodup_nil).st
 have k3':es.map (·.i)=List.range ops.size:=by rw [k3,List.range_eq_range']; simp
 have hat:∀ e∈es,es[e.i]?=some e:=fun e he=>by
  obtain ⟨j,hj,rfl⟩:=List.mem_iff_getElem.1 he
  have:(es.map (·.i))[j]?=some j:=by
   rw [k3',List.getElem?_range]; have:=congrArg List.length k3'; simp at this; omega
  simp [hj] at this
  rw [this]; simp [hj]
 have hto:es.Pairwise (TO ops):=by
  have:(es.map (·.i)).Pairwise (·<·):=by rw [k3']; exact List.pairwise_lt_range
  rw [List.pairwise_map] at this
  exact this.imp (zoP h1)
 refine wp_region_any hm (zsm (cf:=cf) hdst h1 (FX:=fun e=>es[e.i]?=some e) (fun e f _ he hf hi _ _=>by rw [hi,he] at hf; injection hf with hf; rw [hf]) (X:=[]) (fun x y h=>by simp [excL] at h) hk ops.size _ (List.range ops.size) S a _ hr'
  (fun π hπ=>⟨es,S1,k1,k2,hes,hto,by rw [k3']; exact List.nodup_range,by rw [k3']; exact fun _=>Iff.rfl,hat,fun x y h=>by simp [excL] at h⟩) ⟨_,zh9 h1,by simp⟩ (fun i hi=>?_) (fun i hi=>by simpa using hi) (by simp) ?_)
 .simp [hi]
 .intro j o hj
  exfalso
  rw [Array.getD_eq_getD_getElem?] at hj
  simp only [Array.getElem?_replicate] at hj; split at hj <;> simp at hj
theorem zhD (hm:P.follows .mixedOrders=true) (hdst:∀ o∈ops.toList,∀ d,o.dst=some d->OkD N d) {id:Nat} {K:St->Prop} {Q:Exit->Act->World->Prop} (hr:StRel P N G w0 S a w) (h:DrawSel P cf N ops id K S)
  (hk:∀ S a w,K S->StRel P N G w0 S a w->Q .normal a w):(Code.region id ops true).wp P Q a w:=by
 unfold DrawSel at h
 split at h
 .split at h
  .exact zbT hm hdst hr ⟨_,_,_,h.1,h.2⟩ hk
  .exact zbT hm hdst hr ⟨_,_,_,h.1,h.2⟩ hk
 .split at h
  .split at h
   .obtain ⟨R,h0,h1,h2⟩:=h
    exact zbT hm hdst hr ⟨_,_,R,h0,h1,h2,trivial⟩ hk
   .obtain ⟨R,h0,h1,h2,h3⟩:=h
    exact zbT hm hdst hr ⟨_,_,R,h0,h1,h2,h3,trivial⟩ hk
  .split at h
   .exact zbT hm hdst hr h hk
   .exact zmk hm hdst hr h hk
end
end Go.Abs


namespace Go.Abs
variable [DrawK]
open Go.RowKit (Below)
def zmG (K:St->Prop) (Q:Exit->St->Prop):Exit->St->Prop
 | .normal,S=>K S
 | e,S=>Q e S
def zfz (id:Nat) (Q:Exit->St->Prop):Exit->St->Prop
 | .exit id',S=>if id'=id then Q .normal S else Q (.exit id') S
 | e,S=>Q e S
def Weak (S S':St):Prop:=∀ (P:Program) (N:Nat × List Nat) (G:Nat->Prop) (w0:W0) (a:Act) (w:World),StRel P N G w0 S a w->StRel P N G w0 S' a w
def ztF (I:Nat->St->Prop) (n:Nat) (Q:Exit->St->Prop):Exit->St->Prop
 | .normal,S=>∃ m,m<n/\∃ S',Weak S S'/\I m S'
 | e,S=>Q e S
def zkZ (body:(Exit->St->Prop)->St->Prop) (Q:Exit->St->Prop) (S:St):Prop :=
 ∃ I:Nat->St->Prop,(∃ n S',Weak S S'/\I n S')/\∀ n S,I n S->body (ztF I n Q) S
def vc (P:Program) (cf:Cfg) (N:Nat × List Nat):Code->(Exit->St->Prop)->St->Prop
 | .skip,Q,S=>Q .normal S
 | .region id ops draw,Q,S=>if draw then DrawSel P cf N ops id (Q .normal) S else zcQ P cf N ops ops.toList (Q .normal) S
 | .seq x y,Q,S=>vc P cf N x (zmG (vc P cf N y Q) Q) S
 | .cond c x y,Q,S=>match aop S c with
  | .val (.bool t)=>zdM t (vc P cf N x Q) (vc P cf N y Q) S S
  | _=>False
 | .block id b,Q,S=>vc P cf N b (zfz id Q) S
 | .loop b,Q,S=>zkZ (vc P cf N b) Q S
 | .exit id,Q,S=>Q (.exit id) S
 | .ret,Q,S=>Q .ret S
 | _,_,_=>False
section
variable {P:Program} {N:Nat × List Nat} {G:Nat->Prop} {w0:W0} {w w':World} {S:St} {a:Act} {F:Nat->Prop} {oss:Nat->List Nat} {X:List Nat}
theorem zxr {p:Nat->Prop} (h:∃ n,p n):∃ n,p n/\∀ m,p m->n<=m:=by
 obtain ⟨n,hn⟩:=h
 induction n using Nat.strongRecOn with
 | ind n ih =>
  by_cases hx:∃ m,m<n/\p m
  .obtain ⟨m,hm,hp⟩:=hx; exact ih m hm hp
  .exact ⟨n,hn,fun m hp=>Nat.le_of_not_lt fun hlt=>hx ⟨m,hlt,hp⟩⟩
def zbN (N:Nat × List Nat):Code->Bool
 | .region _ ops _=>ops.toList.all fun o=>match o.dst with
  | some d=>decide (OkD N d)
  | none=>true
 | .seq x y=>zbN N x && zbN N y
 | .cond _ x y=>zbN N x && zbN N y
 | .block _ b=>zbN N b
 | .loop b=>zbN N b
 | _=>true
theorem zp3 {cf:Cfg} (hm:P.follows .mixedOrders=true):∀ {c:Code} {S:St} {a:Act} {w:World} {Q:Exit->St->Prop} {Q':Exit->Act->World->Prop},zbN N c=true->StRel P N G w0 S a w ->
  vc P cf N c Q S->(∀ e S a w,Q e S->StRel P N G w0 S a w->Q' e a w)->c.wp P Q' a w:=by
 intro c
 induction c with
 | skip=>intro S a w Q Q' _ h hv hk; exact wp_skip (hk _ _ _ _ hv h)
 | region id ops draw =>
  intro S a w Q Q' hd h hv hk
  simp only [vc] at hv
  split at hv
  .rename_i hdr
   subst hdr
   exact zhD hm (fun o ho d hd'=>by
    have:=(List.all_eq_true.1 hd) o ho
    simpa [hd'] using this) h hv (fun S a w hS hr=>hk _ S a w hS hr)
  .rename_i hdr
   have:draw=false:=by simpa using hdr
   subst this
   refine wp_region_list (zbU (fun o ho d hd'=>?_) (fun _ h=>h) h hv (fun S a w hS hr=>hk _ S a w hS hr))
   have:=(List.all_eq_true.1 hd) o ho
   simpa [hd'] using this
 | seq x y ihx ihy =>
  intro S a w Q Q' hd h hv hk
  simp only [zbN,Bool.and_eq_true] at hd
  refine wp_seq (ihx hd.1 h hv (fun e S a w hq hr=>?_))
  cases e with
  | normal=>exact ihy hd.2 hr hq hk
  | _=>exact hk _ S a w hq hr
 | cond c x y ihx ihy =>
  intro S a w Q Q' hd h hv hk
  simp only [zbN,Bool.and_eq_true] at hd
  simp only [vc] at hv
  split at hv
  .rename_i t hc
   obtain ⟨F,oss,hcore⟩:=h
   refine wp_cond_split (hcore.int hc) (fun ht=>ihx hd.1 hcore.st (hv.1 ht) hk) (fun ht=>ihy hd.2 hcore.st (hv.2 ht) hk)
  .exact hv.elim
 | block id b ih =>
  intro S a w Q Q' hd h hv hk
  refine wp_block (ih hd h hv (fun e S a w hq hr=>?_))
  cases e with
  | exit id' =>
   simp only [Exit.inBlock,zfz] at hq |-
   split at hq
   .rename_i e; rw [if_pos e]; exact hk _ S a w hq hr
   .rename_i e; rw [if_neg e]; exact hk _ S a w hq hr
  | _=>exact hk _ S a w hq hr
 | loop b ih =>
  intro S a w Q Q' hd h hv hk
  obtain ⟨I,⟨n,S',hw,hI⟩,hstep⟩:=hv
  have h':=hw P N G w0 a w h
  let p:Act->World->Nat->Prop:=fun a w n=>∃ S,I n S/\StRel P N G w0 S a w
  let μ:Act->World->Nat:=fun a w=>Classical.epsilon fun n=>p a w n/\∀ m,p a w m->n<=m
  have hμ:∀ a w,(∃ n,p a w n)->p a w (μ a w)/\∀ m,p a w m->μ a w<=m:=fun a w hn=>Classical.epsilon_spec (zxr hn)
  refine wp_loop (fun a w=>∃ n,p a w n) μ ⟨n,S',hI,h'⟩ ?_
  intro a w hn
  obtain ⟨⟨S1,hI1,hr1⟩,_⟩:=hμ a w hn
  refine ih hd hr1 (hstep _ _ hI1) (fun e S a' w' hq hr=>?_)
  cases e with
  | normal =>
   obtain ⟨m,hm,S2,hweak,hI2⟩:=hq
   have hp:p a' w' m:=⟨S2,hI2,hweak P N G w0 a' w' hr⟩
   exact ⟨⟨m,hp⟩,Nat.lt_of_le_of_lt ((hμ a' w' ⟨m,hp⟩).2 m hp) hm⟩
  | _=>exact hk _ S a' w' hq hr
 | exit id=>intro S a w Q Q' _ h hv hk; exact wp_exit (hk _ _ _ _ hv h)
 | ret=>intro S a w Q Q' _ h hv hk; exact wp_ret (hk _ _ _ _ hv h)
 | _=>intro S a w Q Q' _ h hv hk; exact hv.elim
def zha (args:List AV):St:=fun i=>match args[i]? with
 | some c=>c
 | none=>.any
def za9 (P:Program):St->List ResultVar->Option (List AV)
 | _,[]=>some []
 | S,.tmp t::rs=>match S t with
  | .agg cs=>if zaO cs then if (zaB cs).isEmpty then match za9 P (upd t .any S) rs with
     | some ds=>some (.agg cs::ds)
     | none=>none
    else none
   else match tkLs S (cs.flatMap locB) with
    | some (lf,S1)=>match zbu cs lf with
     | some (es,[])=>match za9 P S1 rs with
      | some ds=>some (.agg es::ds)
      | none=>none
     | _=>none
    | none=>none
  | _=>match tk { nv:=0 } S (.tmp t) with
   | some (c,U)=>match za9 P (app U S) rs with
    | some ds=>some (c::ds)
    | none=>none
   | none=>none
 | S,.cell t ty::rs=>match S t,zaj P ty with
  | .box _ cs,some (some m)=>if cs.length=m then match za9 P (upd t .any S) rs with
    | some ds=>some (.agg cs::ds)
    | none=>none
   else none
  | _,_=>none
mutual
def zax:AV->Bool
 | .any=>true
 | .val _=>true
 | .own _ _ cs=>zav cs
 | .ofs _ _ _ cs=>zav cs
 | .box _ cs=>zav cs
 | .mp _=>true
 | .agg cs=>zav cs
 | .tup cs=>zav cs
 | .fn f cs=>zav cs
 | .sl n cs=>n == 0 && cs.isEmpty
 | _=>false
def zav:List AV->Bool
 | []=>true
 | c::cs=>zax c && zav cs
end
mutual
theorem RepC.fresh {F':Nat->Prop} {c:AV} {v:Value} {os:List Nat} (h:RepC P w F c v os) (hf:zax c=true):RepC P w F' c v os:=by
 cases h with
 | any v h=>exact .any v h
 | val v h=>exact .val v h
 | sl0 b c=>exact .sl0 b c
 | sl b off n cap c e fr cs hF hb hl hn =>
  simp [zax] at hf
  obtain ⟨rfl,rfl⟩:=hf
  exact .sl0 _ _
 | own0 e=>exact .own0 e
 | own b e n cap c cs os hb hn hc hl=>exact .own b e n cap c cs os hb hn hc (RepL.fresh hl (by simpa [zax] using hf))
 | ofs b k e n cap c cs os hb hn hl=>exact .ofs b k e n cap c cs os hb hn (RepL.fresh hl (by simpa [zax] using hf))
 | box b e c cs os hb hl=>exact .box b e c cs os hb (RepL.fresh hl (by simpa [zax] using hf))
 | fptr=>simp [zax] at hf
 | mp b es clock c hb hm=>exact .mp b es clock c hb hm
 | fmp=>simp [zax] at hf
 | it=>simp [zax] at hf
theorem RepL.fresh {F':Nat->Prop} {cs:List AV} {vs:List Value} {os:List Nat} (h:RepL P w F cs vs os) (hf:zav cs=true):RepL P w F' cs vs os:=by
 cases h with
 | nil vs=>exact .nil vs
 | cons c v os cs vs os' h t =>
  simp [zav] at hf
  exact .cons c v os cs vs os' (RepC.fresh h hf.1) (RepL.fresh t hf.2)
end
def zbh (cs:List AV):AV:=match cs with
 | [c]=>c
 | cs=>.tup cs
def retQ (P:Program) (rs:List ResultVar) (r:AV):Exit->St->Prop
 | .normal,S=>∃ cs,za9 P S rs=some cs/\zbh cs=r
 | .ret,S=>∃ cs,za9 P S rs=some cs/\zbh cs=r
 | _,_=>False
end
end Go.Abs

