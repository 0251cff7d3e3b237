/- Texts of the own layer and contracts, part 6: V13 W32 W17 Q41 Q43 E11 N8 W44 E41 E42 N3 W45 W46 N9 W48 W47 N10 W49 E43 E44 E45 E46 E47 V15 W51 W50 E48 E49 E53 W65 W66 W67 W68 W52 W53 W70 W72 W33. -/
import Derived.Lib.AppendZerosOnto
import Derived.Lib.Walk
import Derived.WalkKit
import Derived.Shelf.Abstract
import Derived.Shelf.RegionOpenPlain
import Derived.Lib.SliceRun
import Derived.Test.YthhdollpkieknaaGreatM5
set_option linter.unusedSectionVars false
set_option linter.unusedVariables false
set_option linter.unusedSimpArgs false
set_option maxHeartbeats 40000000
set_option maxRecDepth 100000
namespace Go.Proofs.YthhdollpkieknaaGreat
open Go.Abs
theorem zmI (a b:List Int) (ha:a.length<=9223372036854775807):Con Tryz.prog 131 [.sl a.length (avs a),.sl b.length (avs b)] (.bool (decide (a=b))):=by
 by_cases hl:a.length=b.length
 .have hi:(a.length:Int)=b.length:=by omega
  refine zab Tryz.mixed ⟨7,[],[],[]⟩ Tryz.func131 ?_
  rw [Tryz.ntmps131]
  simp [go_sem,hi]
  refine zac (4::5::List.range' 13 13) (fun i:Nat=>[(13,.int i)]) (fun i=>i<=b.length/\a.take i=b.take i) (fun i=>b.length-i) 0 (by simp) (by simp [go_sem]) (by simp [go_sem]) ?_
  intro i hi
  simp [go_sem]
  refine ⟨fun h=>?_,fun h=>?_⟩ <;> simp at h
  .have h2:i<a.length:=by omega
   simp [go_sem,zaj h,zaj h2]
   refine ⟨by kernel_rfl,⟨h2,by rintro rfl; simp at h2⟩,⟨h,by rintro rfl; simp at h⟩,?_⟩
   refine ⟨by kernel_rfl,?_⟩
   simp [go_sem]
   refine ⟨fun h3=>?_,fun h3=>?_⟩ <;> simp at h3 <;> simp [go_sem]
   .rintro rfl; exact h3 rfl
   .refine ⟨by omega,i+1,⟨by omega,?_⟩,by omega,zaa _ _ _ (by simp),by omega⟩
    rw [List.take_add_one,List.take_add_one,hi.2]
    rw [List.getElem?_eq_getElem h,List.getElem?_eq_getElem h2] at h3 |-
    simp only [Option.getD_some] at h3
    rw [h3]
  .simp [go_sem]
   have e:i=b.length:=by omega
   subst e
   have:=hi.2
   rw [List.take_length,<- hl,List.take_length] at this
   exact this
 .have e:decide (a=b)=false:=by
   rw [decide_eq_false_iff_not]; intro h; exact hl (by rw [h])
  rw [e]
  have hi:¬ (a.length:Int)=b.length:=by omega
  refine zab Tryz.mixed ⟨7,[],[],[]⟩ Tryz.func131 ?_
  rw [Tryz.ntmps131]
  simp [go_sem,hi]
end Go.Proofs.YthhdollpkieknaaGreat


namespace Go.Proofs.YthhdollpkieknaaGreat
open Go.Abs
def runT (l:List (List Int)) (i:Nat) (s:Int):Int:=if 0<i/\l[i-1]?.getD []≠l[i]?.getD [] then 1 else s+1
def symP (g:List Int->Int) (l:List (List Int)):Nat->Int × Int
 | 0=>(1,0)
 | i+1=>((symP g l i).1*(runT l i (symP g l i).2*g (l[i]?.getD [])),runT l i (symP g l i).2)
def symF:Nat->List Int->Int
 | 0,_=>1
 | n+1,t=>(symP (symF n) (srtT (brs (canF (n+1) t))) (srtT (brs (canF (n+1) t))).length).1
def okS:Nat->List Int->Bool
 | 0,_=>false
 | n+1,t=>lv0 t && decide (t.length<=n+1) && lv0 (canF (n+1) t) && decide ((srtT (brs (canF (n+1) t))).length<=19) &&
   (srtT (brs (canF (n+1) t))).all (fun b=>okS n b && decide (0<=symF n b/\symF n b<=1000000)) &&
   (List.range ((srtT (brs (canF (n+1) t))).length+1)).all fun i=>decide (0<=(symP (symF n) (srtT (brs (canF (n+1) t))) i).1/\(symP (symF n) (srtT (brs (canF (n+1) t))) i).1<=1000000/\0<=(symP (symF n) (srtT (brs (canF (n+1) t))) i).2/\(symP (symF n) (srtT (brs (canF (n+1) t))) i).2<=100)
theorem zgP {n:Nat} {t:List Int} (h:okS (n+1) t=true):Lv t/\t.length<=n+1/\Lv (canF (n+1) t)/\(srtT (brs (canF (n+1) t))).length<=19 /\
  (∀ b∈srtT (brs (canF (n+1) t)),okS n b=true/\0<=symF n b/\symF n b<=1000000) /\
  ∀ i,i<=(srtT (brs (canF (n+1) t))).length->0<=(symP (symF n) (srtT (brs (canF (n+1) t))) i).1/\(symP (symF n) (srtT (brs (canF (n+1) t))) i).1<=1000000/\0<=(symP (symF n) (srtT (brs (canF (n+1) t))) i).2/\(symP (symF n) (srtT (brs (canF (n+1) t))) i).2<=100:=by
 unfold okS at h
 simp only [Bool.and_eq_true,decide_eq_true_eq,List.all_eq_true] at h
 obtain ⟨⟨⟨⟨⟨h1,h2⟩,h3⟩,h4⟩,h5⟩,h6⟩:=h
 exact ⟨zjZ h1,h2,zjZ h3,h4,fun b hb=>h5 b hb,fun i hi=>h6 i (by simpa using Nat.lt_succ_of_le hi)⟩
theorem ztA:∀ {n:Nat} {t:List Int},okS n t=true->t.length<=n
 | 0,t,h=>by simp [okS] at h
 | n+1,t,h=>(zgP h).2.1
theorem zfU:∀ (n:Nat) (t:List Int),n<=100->okS n t=true->Con Tryz.prog 83 [.sl t.length (avs t)] (.int (symF n t))
 | 0,t,_,h=>by simp [okS] at h
 | n+1,t,hn,h=>by
  obtain ⟨hLv,hl,hcv,hk,hb,hp⟩:=zgP h
  have ih:=fun b (h:b∈srtT (brs (canF (n+1) t)))=>zfU n b (by omega) (hb b h).1
  have hlen:=fun b (h:b∈srtT (brs (canF (n+1) t)))=>ztA (hb b h).1
  have cC:=zbg (n+1) t hn hLv hl
  have cl:=zaQ (n+1) t hLv hl
  have cB:=zbn (canF (n+1) t) (by omega) hcv
  rw [cl] at cB
  have cF:=zcP (brs (canF (n+1) t)) (fun m hm=>by have:=hlen m ((zbd _).mem_iff.2 hm); omega) (by have:=hk; rw [zeh] at this; exact this)
  have sl:=zeh (brs (canF (n+1) t))
  rw [<- sl] at cF cB
  have e1:symF (n+1) t=(symP (symF n) (srtT (brs (canF (n+1) t))) (srtT (brs (canF (n+1) t))).length).1:=rfl
  rw [e1]
  clear e1 sl cl
  generalize canF (n+1) t=u at *
  generalize srtT (brs u)=l at *
  refine zab Tryz.mixed ⟨8,[11],[],[]⟩ Tryz.func83 ?_
  rw [Tryz.ntmps83]
  simp [go_sem]
  refine CallVC.of (cC) ?_
  simp [go_sem]
  refine CallVC.of (cB) ?_
  simp [go_sem]
  refine CallVC.of (cF) ?_
  simp [go_sem]
  refine zac ([3,5,6,7]++List.range' 14 26) (fun i:Nat=>[(3,.int (symP (symF n) l i).1),(5,.int (symP (symF n) l i).2),(14,.int i)]) (fun i=>i<=l.length) (fun i=>l.length-i) 0 (by simp) (by simp [go_sem,symP]) (by simp [go_sem]) ?_
  intro i hi
  simp [go_sem]
  refine ⟨fun h=>?_,fun h=>?_⟩ <;> simp at h
  .have h0:=hp i hi
   have h1:=hp (i+1) (by omega)
   have hm:l[i]?.getD []∈l:=by simp [h]
   have cS:=ih _ hm
   have lS:=hlen _ hm
   have gS:=(hb _ hm).2
   have s1:(symP (symF n) l (i+1)).1=(symP (symF n) l i).1*(runT l i (symP (symF n) l i).2*symF n (l[i]?.getD [])):=rfl
   have s2:(symP (symF n) l (i+1)).2=runT l i (symP (symF n) l i).2:=rfl
   rw [s1,s2] at h1
   have hd:=zar h
   rw [s1.symm.trans rfl] at h1
   have pr:∀ r g:Int,0<=r->r<=100->0<=g->g<=1000000->0<=r*g/\r*g<=100000000:=fun r g a1 a2 a3 a4=>⟨Int.mul_nonneg a1 a3,by have:=Int.mul_le_mul a2 a4 a3 (by omega); omega⟩
   have q:=pr _ _ h1.2.2.1 h1.2.2.2 gS.1 gS.2
   by_cases h00:i=0
   .subst h00
    have e:runT l 0 (symP (symF n) l 0).2=(symP (symF n) l 0).2+1:=by unfold runT; rw [if_neg (by omega)]
    rw [e] at s1 s2 h1 q
    rw [s1] at h1
    generalize hO:(symP (symF n) l (0+1)).1=o2 at *
    generalize hS:(symP (symF n) l (0+1)).2=s2' at *
    generalize (symP (symF n) l 0).1=o at *
    generalize (symP (symF n) l 0).2=s at *
    generalize symF n (l[0]?.getD [])=g at *
    generalize l[0]?.getD []=b at *
    have ne:¬ l=[]:=by rintro rfl; simp at h
    simp [go_sem,hd]
    refine ⟨⟨by omega,ne⟩,⟨by omega,by omega⟩,?_⟩
    refine CallVC.of (cS) ?_
    simp [go_sem]
    refine ⟨⟨by omega,by omega⟩,⟨by omega,by omega⟩,0+1,by omega,by omega,zaa _ _ _ (by simp),?_⟩
    rw [hO,hS,s1,s2]
    exact ⟨rfl,rfl,by omega⟩
   .obtain ⟨j,rfl⟩:∃ j,i=j+1:=⟨i-1,by omega⟩
    have hj:j<l.length:=by omega
    have hdj:=zar hj
    have hmj:l[j]?.getD []∈l:=by simp [hj]
    have lSj:=hlen _ hmj
    have cE:=zmI (l[j]?.getD []) (l[j+1]?.getD []) (by omega)
    have e:runT l (j+1) (symP (symF n) l (j+1)).2=if l[j]?.getD []=l[j+1]?.getD [] then (symP (symF n) l (j+1)).2+1 else 1:=by
     unfold runT
     rw [show j+1-1=j by omega]
     by_cases x:l[j]?.getD []=l[j+1]?.getD []
     .rw [if_neg (by simp [x]),if_pos x]
     .rw [if_pos ⟨by omega,x⟩,if_neg x]
    rw [e] at s1 s2 h1 q
    rw [s1] at h1
    generalize hO:(symP (symF n) l (j+1+1)).1=o2 at *
    generalize hS:(symP (symF n) l (j+1+1)).2=s2' at *
    generalize (symP (symF n) l (j+1)).1=o at *
    generalize (symP (symF n) l (j+1)).2=s at *
    generalize symF n (l[j+1]?.getD [])=g at *
    generalize l[j+1]?.getD []=b at *
    generalize l[j]?.getD []=b0 at *
    have hj1:(0:Int)<j+1:=by omega
    have ne:¬ l=[]:=by rintro rfl; simp at h
    by_cases x:b0=b
    .rw [decide_eq_true x] at cE
     rw [if_pos x] at s1 s2 h1 q
     simp [go_sem,hd,hdj,hj1]
     refine ⟨⟨by omega,by omega,ne⟩,⟨by omega,by omega⟩,by omega,⟨hj,ne⟩,?_⟩
     refine CallVC.of (cE) ?_
     simp [go_sem]
     refine CallVC.of (cS) ?_
     simp [go_sem]
     refine ⟨⟨by omega,by omega⟩,⟨by omega,by omega⟩,⟨by omega,by omega⟩,j+1+1,by omega,by omega,zaa _ _ _ (by simp),?_⟩
     rw [hO,hS,s1,s2]
     exact ⟨rfl,rfl,by omega⟩
    .rw [decide_eq_false x] at cE
     rw [if_neg x] at s1 s2 h1 q
     rw [Int.one_mul] at s1 h1 q
     simp [go_sem,hd,hdj,hj1]
     refine ⟨⟨by omega,by omega,ne⟩,⟨by omega,by omega⟩,by omega,⟨hj,ne⟩,?_⟩
     refine CallVC.of (cE) ?_
     simp [go_sem]
     refine CallVC.of (cS) ?_
     simp [go_sem]
     refine ⟨⟨by omega,by omega⟩,⟨by omega,by omega⟩,⟨by omega,by omega⟩,j+1+1,by omega,by omega,zaa _ _ _ (by simp),?_⟩
     rw [hO,hS,s1,s2]
     exact ⟨rfl,rfl,by omega⟩
  .have e:i=l.length:=by omega
   subst e
   simp [go_sem]
end Go.Proofs.YthhdollpkieknaaGreat


namespace Go.Proofs.YthhdollpkieknaaGreat
open Go.Abs
end Go.Proofs.YthhdollpkieknaaGreat


namespace Go.Proofs.YthhdollpkieknaaGreat
open Go.Abs
def pF (t:List Int):Nat->Option Nat
 | 0=>none
 | j+1=>if t[j]?.getD 0<=1 then pF t j else some j
def qF (t:List Int) (v:Int):Nat->Option Nat
 | 0=>none
 | j+1=>if t[j]?.getD 0=v then some j else qF t v j
def fiS (t:List Int) (d p:Nat):Nat->List Int
 | 0=>t
 | k+1=>(fiS t d p k).set (p+k) ((fiS t d p k)[p+k-d]?.getD 0)
@[simp] theorem zjo (t:List Int) (d p:Nat):∀ k,(fiS t d p k).length=t.length
 | 0=>rfl
 | k+1=>by simp [fiS,zjo t d p k]
def genT:Nat->List Int->List (List Int)
 | 0,_=>[]
 | k+1,t=>t::match pF t t.length with
  | none=>[]
  | some p=>match qF t (t[p]?.getD 0-1) p with
   | none=>[]
   | some q=>genT k (fiS t (p-q) p (t.length-p))
def chkT:Nat->List Int->Bool
 | 0,_=>false
 | k+1,t=>t.all (fun x=>decide (0<=x/\x<=100)) && match pF t t.length with
  | none=>true
  | some p=>match qF t (t[p]?.getD 0-1) p with
   | none=>false
   | some q=>chkT k (fiS t (p-q) p (t.length-p))
theorem zuI {t:List Int} {v:Int}:∀ {j q:Nat},qF t v j=some q->q<j/\t[q]?.getD 0=v
 | j+1,q,h=>by
  rw [qF] at h
  split at h
  .injection h with h; subst h; exact ⟨by omega,by assumption⟩
  .have:=zuI h; exact ⟨by omega,this.2⟩
theorem zl5 (n F:Nat) (hn:n<=1000) (hF:F<=1000000) (hc:chkT F (upTo n)=true):Con Tryz.prog 168 [.int n] (.own 25 (genT F (upTo n)).length (omat (genT F (upTo n)))):=by
 refine zab Tryz.mixed ⟨9,[],[],[]⟩ Tryz.func168 ?_
 rw [Tryz.ntmps168]
 simp [go_sem]
 refine zac (3::5::List.range' 12 8) (fun i:Nat=>[(3,.own 2 i (avs (upTo i))),(12,.int i)]) (fun i=>i<=n) (fun i=>n-i) 0 (by simp) (by simp [go_sem,upTo]) (by simp [go_sem]) ?_
 intro i hi
 simp [go_sem]
 refine ⟨fun h=>?_,fun h=>?_⟩ <;> simp at h
 .simp [go_sem]
  refine ⟨⟨by omega,by omega⟩,by omega,i+1,by omega,by omega,zaa _ _ _ (by simp),by rw [znt,zaD]; exact ⟨rfl,rfl⟩,by omega⟩
 .have e:i=n:=by omega
  subst e
  simp [go_sem]
  refine zac (2::3::4::6::7::8::List.range' 20 52) (fun x:Nat × List Int × List (List Int)=>[(3,.own 2 i (avs x.2.1)),(4,.own 25 x.2.2.length (omat x.2.2))]) (fun x=>x.2.2++genT x.1 x.2.1=genT F (upTo i)/\chkT x.1 x.2.1=true/\x.2.1.length=i/\x.2.2.length+x.1<=F) (fun x=>x.1) (F,upTo i,[]) ⟨by simp,hc,by simp,by simp⟩ (by simp [go_sem,zdB]) (by simp [go_sem]) ?_
  rintro ⟨k,t,done⟩ ⟨hg,hk,hl,hdl⟩
  simp only at hg hk hl hdl
  cases k with
  | zero=>simp [chkT] at hk
  | succ k =>
   rw [chkT] at hk
   rw [genT] at hg
   simp only [Bool.and_eq_true] at hk
   obtain ⟨hb,hk⟩:=hk
   have hb2:∀ j:Nat,0<=t[j]?.getD 0/\t[j]?.getD 0<=100:=fun j=>by
    rcases Nat.lt_or_ge j t.length with hj | hj
    .have:=(List.all_eq_true.1 hb) _ (List.getElem_mem hj)
     simp only [decide_eq_true_eq] at this
     simpa [hj] using this
    .simp [List.getElem?_eq_none hj]
   have cC:=zjq t (by omega)
   rw [hl] at cC hk hg
   simp [go_sem]
   refine CallVC.of (cC) ?_
   simp [go_sem]
   refine ⟨⟨by omega,by omega⟩,⟨by omega,by omega⟩,?_⟩
   refine zac (6::List.range' 27 11) (fun j:Nat=>[(6,.int ((j:Int)-1))]) (fun j=>j<=i/\pF t i=pF t j) (fun j=>j) i ⟨by omega,rfl⟩ (by simp [go_sem]) (by simp [go_sem]) ?_
   rintro j ⟨hj,hpj⟩
   rcases j with _ | j
   .rw [hpj,pF] at hg
    simp [go_sem]
    rw [<- hg,zbq,zb5,hl]
    exact ⟨by simp,rfl⟩
   .have hjt:j<t.length:=by omega
    have ej:((j+1:Nat):Int)-1=j:=by omega
    have j0:(0:Int)<=j:=by omega
    by_cases ht:t[j]?.getD 0<=1
    .rw [pF,if_pos ht] at hpj
     simp [go_sem,ej,j0,zcr hjt,ht]
     exact ⟨by omega,⟨by omega,by omega⟩,j,⟨by omega,hpj⟩,by omega,zaa _ _ _ (by simp),by omega⟩
    .rw [pF,if_neg ht] at hpj
     rw [hpj] at hg hk
     simp only at hg hk
     have jn:¬ (j:Int)<0:=by omega
     cases hq:qF t (t[j]?.getD 0-1) j with
     | none=>rw [hq] at hk; simp at hk
     | some q =>
      rw [hq] at hg hk
      simp only at hg hk
      have hql:=zuI hq
      have b1:=hb2 j
      simp [go_sem,ej,j0,zcr hjt,ht,jn]
      refine ⟨by omega,⟨by omega,by omega⟩,?_⟩
      refine zac (7::List.range' 43 12) (fun r:Nat=>[(7,.int ((r:Int)-1))]) (fun r=>r<=j/\qF t (t[j]?.getD 0-1) r=some q) (fun r=>r) j ⟨by omega,hq⟩ (by simp [go_sem]) (by simp [go_sem]) ?_
      rintro r ⟨hr,hqr⟩
      rcases r with _ | r
      .simp [qF] at hqr
      .have hrt:r<t.length:=by omega
       have er:((r+1:Nat):Int)-1=r:=by omega
       by_cases hv:t[r]?.getD 0=t[j]?.getD 0-1
       .rw [qF,if_pos hv] at hqr
        injection hqr with hqr
        subst hqr
        simp [go_sem,er,zcr hrt,zcr hjt,hv]
        refine ⟨by kernel_rfl,by omega,by omega,⟨by omega,by omega⟩,?_⟩
        refine ⟨by kernel_rfl,?_⟩
        simp [go_sem]
        refine zac (3::8::List.range' 56 16) (fun e:Nat=>[(3,.own 2 i (avs (fiS t (j-r) j e))),(8,.int ((j+e:Nat):Int))]) (fun e=>j+e<=i) (fun e=>i-e) 0 (by omega) (by simp [go_sem,fiS]) (by simp [go_sem]) ?_
        intro e he
        simp [go_sem]
        refine ⟨fun h=>?_,fun h=>?_⟩ <;> simp at h
        .have hlf:=zjo t (j-r) j e
         have k1:j+e-(j-r)<(fiS t (j-r) j e).length:=by omega
         have k2:j+e<(fiS t (j-r) j e).length:=by omega
         have ix:((j:Int)+e-(j-r))=((j+e-(j-r):Nat):Int):=by omega
         have hs:fiS t (j-r) j (e+1)=(fiS t (j-r) j e).set (j+e) ((fiS t (j-r) j e)[j+e-(j-r)]?.getD 0):=rfl
         generalize hF1:fiS t (j-r) j (e+1)=F1 at *
         generalize fiS t (j-r) j e=F0 at *
         have ix2:((j:Int)+e-(j-r)).toNat=j+e-(j-r):=by omega
         have ij2:((j:Int)+e).toNat=j+e:=by omega
         simp [go_sem,ix2,zcr k1,ij2]
         refine ⟨⟨by omega,by omega⟩,⟨by omega,by omega⟩,⟨by omega,by omega⟩,⟨by omega,by omega⟩,k2,⟨by omega,by omega⟩,e+1,by omega,by omega,zaa _ _ _ (by simp),?_,by omega⟩
         rw [hF1,hs,zaR]
        .have en:e=i-j:=by omega
         subst en
         have h1:done++[t]++genT k (fiS t (j-r) j (i-j))=genT F (upTo i):=by rw [<- hg]; simp
         simp [go_sem]
         refine ⟨k,fiS t (j-r) j (i-j),done++[t],⟨h1,hk,by rw [zjo]; exact hl,by simp; omega⟩,by omega,(by repeat (first | exact zaa _ _ _ (by simp) | (refine Off.reset (by intro x hx; simp at hx |-; omega) (by simp) ?_; simp -failIfUnchanged [go_sem,zaa]))),rfl,?_⟩
         rw [zbq,zb5,hl]
         exact ⟨by simp,rfl⟩
       .rw [qF,if_neg hv] at hqr
        simp [go_sem,er,zcr hrt,zcr hjt,hv]
        refine ⟨by kernel_rfl,by omega,by omega,⟨by omega,by omega⟩,?_⟩
        refine ⟨by kernel_rfl,?_⟩
        simp [go_sem]
        exact ⟨⟨by omega,by omega⟩,r,⟨by omega,hqr⟩,by omega,zaa _ _ _ (by simp),by omega⟩
end Go.Proofs.YthhdollpkieknaaGreat


namespace Go.Proofs.YthhdollpkieknaaGreat
open Go.Abs
def nlA (L:List (List Int)):AV:=match L with
 | []=>.val (.slice none 0 0)
 | _::_=>.own 25 L.length (omat L)
def grwL:Nat->List Int->List (List Int)->List (List Int)
 | 0,t,L=>if canF t.length t=t then L++[t] else L
 | k+1,t,L=>(List.range (t[t.length-1]?.getD 0+1).toNat).foldl (fun (L:List (List Int)) (i:Nat)=>grwL k (t++[t[t.length-1]?.getD 0+1-(i:Int)]) L) L
def grwI (k:Nat) (t:List Int) (m:Int) (L:List (List Int)) (i:Nat):List (List Int):=(List.range i).foldl (fun (L:List (List Int)) (i:Nat)=>grwL k (t++[m-(i:Int)]) L) L
theorem zhq (k:Nat) (t:List Int) (m:Int) (L:List (List Int)) (i:Nat):grwI k t m L (i+1)=grwL k (t++[m-(i:Int)]) (grwI k t m L i):=by simp [grwI,List.range_succ]
theorem zhT (k:Nat) (t:List Int) (L:List (List Int)):grwL (k+1) t L=grwI k t (t[t.length-1]?.getD 0+1) L (t[t.length-1]?.getD 0+1).toNat:=rfl
theorem zfS:∀ n:Nat,1<=n->n<=6->chkT 200 (upTo n)=true/\genT 200 (upTo n)=grwL (n-1) [0] []/\(genT 200 (upTo n)).all lvB=true:=by
 have h:∀ n∈[1,2,3,4,5,6],(chkT 200 (upTo n) && decide (genT 200 (upTo n)=grwL (n-1) [0] []) && (genT 200 (upTo n)).all lvB)=true:=by decide +kernel
 intro n h1 h6
 have:=h n (by simp; omega)
 simp only [Bool.and_eq_true,decide_eq_true_eq] at this
 exact ⟨this.1.1,this.1.2,this.2⟩
theorem zjs {t:List Int} (h:Lv t) {x:Int} (h1:1<=x) (h2:x<=t[t.length-1]?.getD 0+1):Lv (t++[x]):=by
 have hp:=h.1
 refine ⟨by simp,by rw [List.getElem?_append_left hp]; exact h.2.1,fun j hj hl=>?_⟩
 simp at hl
 by_cases e:j=t.length
 .subst e
  rw [List.getElem?_append_right (Nat.le_refl _),List.getElem?_append_left (by omega),Nat.sub_self]
  exact ⟨h1,h2⟩
 .rw [List.getElem?_append_left (by omega),List.getElem?_append_left (by omega)]
  exact h.2.2 j hj (by omega)
theorem zoi {t:List Int} (h:Lv t):0<=t[t.length-1]?.getD 0/\t[t.length-1]?.getD 0<t.length:=by
 have gen:∀ j,j<t.length->0<=t[j]?.getD 0/\t[j]?.getD 0<=j:=by
  intro j
  induction j with
  | zero=>intro _; rw [h.2.1]; omega
  | succ j ih=>intro hj; have:=ih (by omega); have h3:=h.2.2 (j+1) (by omega) hj; simp only [Nat.add_sub_cancel] at h3; omega
 have hp:=h.1
 have:=gen (t.length-1) (by omega)
 omega
theorem ziS {k:Nat} {t:List Int} {L:List (List Int)} (hg:∀ (x:Int) (L:List (List Int)),1<=x->x<=t[t.length-1]?.getD 0+1->(grwL k (t++[x]) L).length<=L.length+6 ^ k):∀ i:Nat,i<=(t[t.length-1]?.getD 0+1).toNat->(grwI k t (t[t.length-1]?.getD 0+1) L i).length<=L.length+i*6 ^ k
 | 0,_=>by simp [grwI]
 | i+1,hi=>by
  rw [zhq]
  have:=hg (t[t.length-1]?.getD 0+1-(i:Int)) (grwI k t (t[t.length-1]?.getD 0+1) L i) (by omega) (by omega)
  have:=ziS (L:=L) hg i (by omega)
  rw [Nat.add_mul]
  omega
theorem zkB:∀ (k:Nat) (t:List Int) (L:List (List Int)),Lv t->t.length+k<=6->(grwL k t L).length<=L.length+6 ^ k
 | 0,t,L,_,_=>by rw [grwL]; split <;> simp
 | k+1,t,L,h,hk=>by
  have hl:=zoi h
  have gen:=ziS (k:=k) (t:=t) (L:=L) (fun x L h1 h2=>zkB k (t++[x]) L (zjs h h1 h2) (by simp; omega))
  rw [zhT]
  have h1:=gen _ (Nat.le_refl _)
  have h2:(t[t.length-1]?.getD 0+1).toNat*6 ^ k<=6*6 ^ k:=Nat.mul_le_mul_right _ (by omega)
  rw [Nat.pow_succ]
  omega
theorem zrj (k:Nat) (t:List Int) (L:List (List Int)) (h:Lv t) (hk:t.length+(k+1)<=6) (i:Nat) (hi:i<=(t[t.length-1]?.getD 0+1).toNat):(grwI k t (t[t.length-1]?.getD 0+1) L i).length<=L.length+i*6 ^ k :=
 ziS (fun x L h1 h2=>zkB k (t++[x]) L (zjs h h1 h2) (by simp; omega)) i hi
@[simp] theorem zwP:nlA []=.val (.slice none 0 0):=rfl
@[simp] theorem zvP (r:List Int) (L:List (List Int)):nlA (r::L)=.own 25 (L.length+1) (omat (r::L)):=rfl
theorem zrZ (W:List Nat) (L:List (List Int)):kl W (nlA L)=nlA L:=by cases L <;> simp [go_sem]
theorem zhC (n:Nat) (hn:n<=6):∀ (k:Nat) (t:List Int) (L:List (List Int)),Lv t->t.length+k=n->L.length+6 ^ k<=1000000->MCon Tryz.prog 272 [.own 2 t.length (avs t),.int n,nlA L] (nlA (grwL k t L)) [.any,.any,.any]
 | 0,t,L,h,hk,hL=>by
  have e:t.length=n:=by omega
  have hp:=h.1
  have hc:=zcQ n t (by omega) h (by omega)
  have hl:=zaQ n t h (by omega)
  rw [<- hl] at hc
  have hs:=zhS (canF n t) t (by omega)
  have hO:=zg5 t (by omega)
  rw [grwL,e]
  by_cases hcn:canF n t=t
  .rw [if_pos hcn]
   rw [hcn] at hc hs
   simp only [decide_true] at hs
   rw [e] at hc hs hO
   cases L with
   | nil =>
    rw [nlA,List.nil_append,nlA]
    refine za8 Tryz.mixed ⟨2,[],[272],[]⟩ [] Tryz.func272 ?_
    rw [Tryz.ntmps272]
    simp [go_sem]
    refine CallVC.of (hc) ?_
    simp [go_sem]
    refine CallVC.of (hs) ?_
    simp [go_sem]
    refine CallVC.of (hO) ?_
    simp [go_sem]
    rw [zb5,e]
   | cons r L =>
    rw [nlA,List.cons_append,nlA]
    refine za8 Tryz.mixed ⟨2,[],[272],[]⟩ [] Tryz.func272 ?_
    rw [Tryz.ntmps272]
    simp [go_sem]
    refine CallVC.of (hc) ?_
    simp [go_sem]
    refine CallVC.of (hs) ?_
    simp [go_sem]
    refine CallVC.of (hO) ?_
    simp [go_sem]
    simp at hL
    have em:omat (r::L)++[AV.own 2 n (avs t)]=omat (r::(L++[t])):=by rw [<- List.cons_append,zbq,zb5,e]
    refine ⟨⟨by omega,by omega⟩,em,?_⟩
    rw [em]; exact zdZ _
  .rw [if_neg hcn]
   simp only [hcn,decide_false] at hs
   rw [hl] at hc hs
   rw [e] at hc hs
   cases L with
   | nil =>
    rw [nlA]
    refine za8 Tryz.mixed ⟨2,[],[272],[]⟩ [] Tryz.func272 ?_
    rw [Tryz.ntmps272]
    simp [go_sem]
    refine CallVC.of (hc) ?_
    simp [go_sem]
    refine CallVC.of (hs) ?_
    simp [go_sem]
   | cons r L =>
    rw [nlA]
    refine za8 Tryz.mixed ⟨2,[],[272],[]⟩ [] Tryz.func272 ?_
    rw [Tryz.ntmps272]
    simp [go_sem]
    refine CallVC.of (hc) ?_
    simp [go_sem]
    refine CallVC.of (hs) ?_
    simp [go_sem]
 | k+1,t,L,h,hk,hL=>by
  have hp:=h.1
  have hl:=zoi h
  have tn:¬ (t.length:Int)=n:=by omega
  have tn2:¬ t.length=n:=by omega
  have hO:=zg5 t (by omega)
  have ht:t.length-1<t.length:=by omega
  have ex:((t.length:Int)-1)=((t.length-1:Nat):Int):=by omega
  rw [zhT]
  have glen:=fun (i:Nat) (hi:i<=(t[t.length-1]?.getD 0+1).toNat)=>zrj k t L h (by omega) i hi
  have ih:=fun (i:Nat) (hi:i<(t[t.length-1]?.getD 0+1).toNat) (L1:List (List Int)) (h1:L1.length+6 ^ k<=1000000)=>zhC n hn k (t++[t[t.length-1]?.getD 0+1-(i:Int)]) L1 (zjs h (by omega) (by omega)) (by simp; omega) h1
  generalize hm:t[t.length-1]?.getD 0=m at *
  have ib:∀ i:Nat,i<(m+1).toNat->(grwI k t (m+1) L i).length+6 ^ k<=1000000:=fun i hi=>by
   have:=glen i (by omega)
   have h6:(i+1)*6 ^ k<=6*6 ^ k:=Nat.mul_le_mul_right _ (by omega)
   rw [Nat.pow_succ] at hL
   rw [Nat.add_mul] at h6
   omega
  have Tr:∀ (S:St),S 2=nlA L->S 7=.val (.int .i64 (m+1))->Trk S ([(2,nlA (grwI k t (m+1) L 0)),(7,.int (m+1-(0:Nat)))]:List (Nat × AV)):=fun S h2 h7=>by
   simp [go_sem,grwI,h2,h7]
  obtain ⟨LL,hLL⟩:∃ LL,LL=L:=⟨_,rfl⟩
  have hR:grwI k t (m+1) L (m+1).toNat=grwI k t (m+1) LL (m+1).toNat:=by rw [hLL]
  rw [hR]
  rw [<- hLL] at Tr ib
  clear hR
  cases L
  all_goals
   refine za8 Tryz.mixed ⟨2,[],[272],[]⟩ [] Tryz.func272 ?_
   rw [Tryz.ntmps272]
   simp [go_sem]
   simp [go_sem,tn,tn2,ex,zcr ht,hm]
   refine ⟨by omega,ht,⟨by omega,by omega⟩,?_⟩
   refine zac (2::7::List.range' 29 12) (fun i:Nat=>[(2,nlA (grwI k t (m+1) LL i)),(7,.int (m+1-(i:Int)))]) (fun i=>i<=(m+1).toNat) (fun i=>(m+1).toNat-i) 0 (by simp) (Tr _ (by simp [go_sem,hLL]) (by simp [go_sem])) (by simp [go_sem,zrZ]) ?_
   intro i hi
   simp [go_sem]
   refine ⟨fun h=>?_,fun h=>?_⟩ <;> simp at h
   .have him:i<(m+1).toNat:=by omega
    have i1:=ih i him _ (ib i him)
    have e1:=zhq k t (m+1) LL i
    generalize hL2:grwI k t (m+1) LL (i+1)=L2 at *
    generalize grwI k t (m+1) LL i=L1 at *
    rw [<- e1] at i1
    simp only [List.length_append,List.length_singleton,zaD] at i1
    cases L1 <;> cases L2
    all_goals
     simp [go_sem]
     refine CallVC.of (hO) ?_
     simp [go_sem]
     refine ⟨⟨by omega,by omega⟩,?_⟩
     refine ⟨_,_,i1,?_⟩
     simp [go_sem]
     refine ⟨⟨by omega,by omega⟩,i+1,by omega,by omega,zaa _ _ _ (by simp),?_,zrZ _ _⟩
     rw [hL2]
     exact ⟨rfl,by omega⟩
   .have e:i=(m+1).toNat:=by omega
    subst e
    generalize grwI k t (m+1) LL (m+1).toNat=L1 at *
    cases L1
    all_goals
     simp [go_sem]
end Go.Proofs.YthhdollpkieknaaGreat


namespace Go.Proofs.YthhdollpkieknaaGreat
open Go.Abs CR
structure Adj (A:List (List Int)) (B:List Int) (A':List (List Int)) (B':List Int):Prop where
 tab:Tab A' B'
 len:B'.length=B.length
 a:∀ r c,r<B.length->c<B.length->mx A' r c%10007=(B[B.length-1-c]?.getD 0-mx A (B.length-1-r) (B.length-1-c))%10007
 b:∀ r,r<B.length->B'[r]?.getD 0%10007=B[B.length-1-r]?.getD 0%10007
theorem serEq.mul {a b c d:Ser Int} (h:serEq a b) (k:serEq c d):serEq (a*c) (b*d):=fun i=>zqQ i (fun j _=>h j) (fun j _=>k j)
theorem serEq.eq {a b c:Ser Int} (h:serEq a b) (k:b=c):serEq a c:=k ▸ h
end Go.Proofs.YthhdollpkieknaaGreat


namespace Go.Proofs.YthhdollpkieknaaGreat
open Go.Abs
def denF:Nat->List Int->Int
 | 0,_=>0
 | n+1,t=>(brs t).foldl (fun o b=>o*denF n b) t.length
def denK (n:Nat) (t:List Int) (j:Nat):Int:=((brs t).take j).foldl (fun o b=>o*denF n b) t.length
def zs4:Nat->List Int->Bool
 | 0,_=>false
 | n+1,t=>(brs t).all (zs4 n) && (List.range ((brs t).length+1)).all fun j=>decide (0<=denK n t j/\denK n t j<=1000000)
def trN (k:Nat):List (List Int):=(List.range k).flatMap fun i=>genT 200 (upTo (i+1))
theorem zkX (k:Nat):trN (k+1)=trN k++genT 200 (upTo (k+1)):=by simp [trN,List.range_succ]
theorem zgS:∀ k,k<=6->(trN k).length<=100:=by decide +kernel
theorem zbs:(trN 6).length=37:=by decide +kernel
def lvC (t:List Int):Bool:=decide (0<t.length) && decide (t[0]?.getD 0=0) && (List.range t.length).all fun j=>decide (j=0) || decide (1<=t[j]?.getD 0/\t[j]?.getD 0<=t[j-1]?.getD 0+1)
theorem zkw {t:List Int} (h:lvC t=true):Lv t:=by
 unfold lvC at h
 simp only [Bool.and_eq_true,decide_eq_true_eq,List.all_eq_true,Bool.or_eq_true,List.mem_range] at h
 exact ⟨h.1.1,h.1.2,fun j h1 h2=>(h.2 j h2).resolve_left (by omega)⟩
theorem zs3:(trN 6).all (fun t=>lvC t && decide (t.length<=6) && zs4 8 t)=true:=by decide +kernel
theorem zjT {t:List Int} (h:t∈trN 6):Lv t/\t.length<=6/\zs4 8 t=true:=by
 have:=List.all_eq_true.1 zs3 t h
 simp only [Bool.and_eq_true,decide_eq_true_eq] at this
 exact ⟨zkw this.1.1,this.1.2,this.2⟩
theorem zhN (n:Nat) (hn:n<=6):Con Tryz.prog 80 [.int n] (.own 25 (trN n).length (omat (trN n))):=by
 refine zab Tryz.mixed ⟨5,[],[],[]⟩ Tryz.func80 ?_
 rw [Tryz.ntmps80]
 simp [go_sem]
 refine zac ([3,4]++List.range' 6 9) (fun i:Nat=>[(3,.own 25 (trN i).length (omat (trN i))),(4,.int (i+1))]) (fun i=>i<=n) (fun i=>n-i) 0 (by simp) (by simp [go_sem,trN,omat]) (by simp [go_sem]) ?_
 intro i hi
 have l0:=zgS i (by omega)
 by_cases hin:i<n
 .have hii:(i:Int)+1<=n:=by omega
  have cT:=zl5 (i+1) 200 (by omega) (by omega) (zfS (i+1) (by omega) (by omega)).1
  have l1:=zgS (i+1) (by omega)
  have ts:=zkX i
  have tl:=congrArg List.length ts
  rw [List.length_append] at tl
  have ot:omat (trN (i+1))=omat (trN i)++omat (genT 200 (upTo (i+1))):=by rw [ts]; simp [omat]
  have ec:((i+1:Nat):Int)=(i:Int)+1:=by omega
  rw [ec] at cT
  generalize genT 200 (upTo (i+1))=G at *
  simp [go_sem,hii]
  refine CallVC.of (cT) ?_
  simp [go_sem]
  exact ⟨⟨by omega,by omega⟩,⟨by omega,by omega⟩,i+1,by omega,by omega,zaa _ _ _ (by simp),by rw [tl,ot]; exact ⟨rfl,rfl⟩,by omega⟩
 .have e:i=n:=by omega
  subst e
  have hii:¬ (i:Int)+1<=i:=by omega
  simp [go_sem,hii]
end Go.Proofs.YthhdollpkieknaaGreat


namespace Go.Proofs.YthhdollpkieknaaGreat
open Go.Abs
theorem zid [DrawK] (F:List (List Int)) (hl:F.length<=1000) (hr:∀ r∈F,r.length<=1000):Con Tryz.prog 324 [.sl F.length (mat F)] (.int (sumN F)):=by
 have bd:∀ i,i<=F.length->sumN (F.take i)<=1000*i:=fun i=>by
  induction i with
  | zero=>intro _; simp [sumN]
  | succ i ih =>
   intro hi
   have h1:=ih (by omega)
   have h2:F.take (i+1)=F.take i++[F[i]?.getD []]:=by
    rw [List.take_succ_eq_append_getElem (by omega),List.getElem?_eq_getElem (by omega)]; rfl
   rw [h2,zep]
   have h3:=hr _ (memD [] (show i<F.length by omega))
   have h4:sumN [F[i]?.getD []]=(F[i]?.getD []).length:=by simp [sumN]
   omega
 refine zab Tryz.mixed ⟨6,[],[],[]⟩ Tryz.func324 ?_
 rw [Tryz.ntmps324]
 simp [go_sem]
 refine zac (3::5::List.range' 8 9) (fun i:Nat=>[(3,.int (sumN (F.take i))),(8,.int i)]) (fun i=>i<=F.length) (fun i=>F.length-i) 0 (by simp) (by simp [go_sem,sumN]) (by simp [go_sem]) ?_
 intro i hi
 by_cases h:i<F.length
 .have hii:(i:Int)<F.length:=by omega
  have ne:¬ F=[]:=by rintro rfl; simp at h
  have b1:=bd i hi
  have b2:=bd (i+1) h
  have h2:F.take (i+1)=F.take i++[F[i]?.getD []]:=by
   rw [List.take_succ_eq_append_getElem h,List.getElem?_eq_getElem h]; rfl
  have h4:sumN (F.take (i+1))=sumN (F.take i)+(F[i]?.getD []).length:=by rw [h2,zep]; simp [sumN]
  simp [go_sem,hii,zar h]
  exact ⟨ne,⟨by omega,by omega⟩,⟨by omega,by omega⟩,i+1,by omega,by omega,zaa _ _ _ (by simp),by rw [h4]; omega,by omega⟩
 .have e:i=F.length:=by omega
  subst e
  rw [List.take_length]
  simp [go_sem]
def zaT:List (List Int)->List (List Int)->Int
 | [],[]=>0
 | [],_::_ => -1
 | _::_,[]=>1
 | a::f,b::g=>if cmpT a b=0 then zaT f g else cmpT a b
theorem zf4:∀ (f g:List (List Int)) (i:Nat),i<=f.length->i<=g.length->(∀ j,j<i->cmpT (f[j]?.getD []) (g[j]?.getD [])=0)->zaT f g=zaT (f.drop i) (g.drop i)
 | f,g,0,_,_,_=>rfl
 | a::f,b::g,i+1,h1,h2,h=>by
  have h0:cmpT a b=0:=h 0 (by omega)
  rw [zaT,if_pos h0,List.drop_succ_cons,List.drop_succ_cons]
  exact zf4 f g i (by simpa using h1) (by simpa using h2) (fun j hj=>by simpa using h (j+1) (by omega))
theorem zdi [DrawK] (f g:List (List Int)) (hf:f.length<=1000) (hg:g.length<=1000) (rf:∀ r∈f,r.length<=1000) (rg:∀ r∈g,r.length<=1000) :
  Con Tryz.prog 246 [.sl f.length (mat f),.sl g.length (mat g),.val (.func (.func 195) #[] #[])] (.int (zaT f g)):=by
 refine zab Tryz.mixed ⟨11,[],[],[]⟩ Tryz.func246 ?_
 rw [Tryz.ntmps246]
 simp [go_sem]
 refine zac (List.range' 6 5++List.range' 13 21) (fun i:Nat=>[(13,.int i)]) (fun i=>i<=f.length/\i<=g.length/\∀ j,j<i->cmpT (f[j]?.getD []) (g[j]?.getD [])=0) (fun i=>f.length-i) 0 (by simp) (by simp [go_sem]) (by simp [go_sem]) ?_
 rintro i ⟨hi,hg2,hz⟩
 have sk:=zf4 f g i hi hg2 hz
 by_cases h:i<f.length
 .have hii:(i:Int)<f.length:=by omega
  have nf:¬ f=[]:=by rintro rfl; simp at h
  have df:f.drop i=f[i]?.getD []::f.drop (i+1):=by rw [List.drop_eq_getElem_cons h]; simp [h]
  by_cases h2:i<g.length
  .have ng:¬ g=[]:=by rintro rfl; simp at h2
   have hgi:¬ (g.length:Int)<=i:=by omega
   have dg:g.drop i=g[i]?.getD []::g.drop (i+1):=by rw [List.drop_eq_getElem_cons h2]; simp [h2]
   have cT:=za4 (f[i]?.getD []) (g[i]?.getD []) (by have:=rf _ (memD [] h); omega) (by have:=rg _ (memD [] h2); omega)
   rw [df,dg,zaT] at sk
   have m1:=zar h
   have m2:=zar h2
   by_cases c0:cmpT (f[i]?.getD []) (g[i]?.getD [])=0
   .rw [c0] at cT
    rw [if_pos c0] at sk
    simp [go_sem,hii,m1,m2,hgi]
    repeat refine ⟨by first | omega | exact nf | exact ng | exact ⟨h,nf⟩ | exact ⟨h2,ng⟩,?_⟩
    refine CallVC.of (cT) ?_
    simp [go_sem]
    refine ⟨⟨by omega,by omega⟩,i+1,⟨by omega,by omega,fun j hj=>?_⟩,by omega,zaa _ _ _ (by simp),by omega⟩
    rcases Nat.lt_or_ge j i with hji | hji
    .exact hz j hji
    .have:j=i:=by omega
     subst this; exact c0
   .rw [if_neg c0] at sk
    rw [sk]
    generalize cmpT (f[i]?.getD []) (g[i]?.getD [])=e at *
    simp [go_sem,hii,m1,m2,hgi]
    repeat refine ⟨by first | omega | exact nf | exact ng | exact ⟨h,nf⟩ | exact ⟨h2,ng⟩,?_⟩
    refine CallVC.of (cT) ?_
    simp [go_sem]
    simp [go_sem,c0]
  .have hgi:(g.length:Int)<=i:=by omega
   rw [df,show g.drop i=[] from List.drop_eq_nil_of_le (by omega),zaT] at sk
   rw [sk]
   simp [go_sem,hii,zar h,hgi]
   repeat refine ⟨by first | omega | exact nf | exact ⟨h,nf⟩,?_⟩
   exact nf
 .have e:i=f.length:=by omega
  subst e
  rw [List.drop_eq_nil_of_le (Nat.le_refl _)] at sk
  by_cases h2:f.length<g.length
  .have dg:g.drop f.length=g[f.length]?.getD []::g.drop (f.length+1):=by rw [List.drop_eq_getElem_cons h2]; simp [h2]
   rw [dg,zaT] at sk
   rw [sk]
   simp [go_sem,h2]
  .rw [List.drop_eq_nil_of_le (by omega),zaT] at sk
   rw [sk]
   simp [go_sem,h2]
theorem zcy [DrawK] (f g:List (List Int)) (hf:f.length<=1000) (hg:g.length<=1000) (rf:∀ r∈f,r.length<=1000) (rg:∀ r∈g,r.length<=1000) :
  Con Tryz.prog 283 [.sl f.length (mat f),.sl g.length (mat g)] (.int (if f.length=g.length then zaT f g else (f.length:Int)-g.length)):=by
 have cC:=zdi f g hf hg rf rg
 by_cases e:f.length=g.length
 .rw [if_pos e]
  rw [e] at cC
  refine zab Tryz.mixed ⟨5,[],[],[]⟩ Tryz.func283 ?_
  rw [Tryz.ntmps283]
  simp [go_sem]
  simp [go_sem,e]
  refine CallVC.of (cC) ?_
  simp [go_sem]
 .rw [if_neg e]
  have ei:¬ (f.length:Int)=g.length:=by omega
  refine zab Tryz.mixed ⟨5,[],[],[]⟩ Tryz.func283 ?_
  rw [Tryz.ntmps283]
  simp [go_sem]
  simp [go_sem,ei]
  omega
def zgr (f g:List (List Int)):Int:=if f.length=g.length then zaT f g else (f.length:Int)-g.length
def zfH (f g:List (List Int)):Int:=if (sumN f:Int)-sumN g=0 then zgr f g else (sumN f:Int)-sumN g
theorem zmc {F:List (List Int)} {b:Nat} (hr:∀ r∈F,r.length<=b):sumN F<=b*F.length:=by
 induction F with
 | nil=>simp [sumN]
 | cons r F ih =>
  have h1:=ih (fun s hs=>hr s (by simp [hs]))
  have h2:=hr r (by simp)
  simp only [sumN,List.length_cons,Nat.mul_succ]
  omega
theorem zec [DrawK] (f g:List (List Int)) (hf:f.length<=1000) (hg:g.length<=1000) (rf:∀ r∈f,r.length<=1000) (rg:∀ r∈g,r.length<=1000) :
  Con Tryz.prog 282 [.sl f.length (mat f),.sl g.length (mat g)] (.int (zfH f g)):=by
 have c1:=zid f hf rf
 have c2:=zid g hg rg
 have c3:=zcy f g hf hg rf rg
 have b1:=zmc rf
 have b2:=zmc rg
 unfold zfH
 have e3:(if f.length=g.length then zaT f g else (f.length:Int)-g.length)=zgr f g:=rfl
 rw [e3] at c3
 generalize zgr f g=w at *
 generalize sumN f=a at *
 generalize sumN g=b at *
 by_cases e:(a:Int)-b=0
 .rw [if_pos e]
  refine zab Tryz.mixed ⟨6,[],[],[]⟩ Tryz.func282 ?_
  rw [Tryz.ntmps282]
  simp [go_sem]
  refine CallVC.of (c1) ?_
  simp [go_sem]
  refine CallVC.of (c2) ?_
  simp [go_sem]
  refine ⟨⟨by omega,by omega⟩,?_⟩
  simp [go_sem,e]
  refine CallVC.of (c3) ?_
  simp [go_sem]
 .rw [if_neg e]
  refine zab Tryz.mixed ⟨6,[],[],[]⟩ Tryz.func282 ?_
  rw [Tryz.ntmps282]
  simp [go_sem]
  refine CallVC.of (c1) ?_
  simp [go_sem]
  refine CallVC.of (c2) ?_
  simp [go_sem]
  refine ⟨⟨by omega,by omega⟩,?_⟩
  simp [go_sem,e]
abbrev Spl:=List (List Int) × List (List Int) × Int
def zbH (s r:Spl):Int:=if zfH s.1 r.1=0 then zgr s.2.1 r.2.1 else zfH s.1 r.1
def spA (s:Spl):List AV:=[.own 25 s.1.length (omat s.1),.own 25 s.2.1.length (omat s.2.1),.int s.2.2]
def spF (s:Spl):List AV:=[.sl s.1.length (mat s.1),.sl s.2.1.length (mat s.2.1),.int s.2.2]
theorem zmm (s:Spl):frzL (spA s)=spF s:=by simp [spA,spF,frzL,frz]
def SpOk (s:Spl):Prop:=(s.1.length<=100/\∀ r∈s.1,r.length<=100)/\(s.2.1.length<=100/\∀ r∈s.2.1,r.length<=100)
theorem ze4 [DrawK] (s r:Spl) (hs:SpOk s) (hr:SpOk r):Con Tryz.prog 281 [.agg (spF s),.agg (spF r)] (.int (zbH s r)):=by
 obtain ⟨⟨s1,s2⟩,s3,s4⟩:=hs
 obtain ⟨⟨r1,r2⟩,r3,r4⟩:=hr
 have c1:=zec s.1 r.1 (by omega) (by omega) (fun x hx=>by have:=s2 x hx; omega) (fun x hx=>by have:=r2 x hx; omega)
 have c2:=zcy s.2.1 r.2.1 (by omega) (by omega) (fun x hx=>by have:=s4 x hx; omega) (fun x hx=>by have:=r4 x hx; omega)
 have e3:(if s.2.1.length=r.2.1.length then zaT s.2.1 r.2.1 else (s.2.1.length:Int)-r.2.1.length)=zgr s.2.1 r.2.1:=rfl
 rw [e3] at c2
 unfold zbH spF
 generalize zgr s.2.1 r.2.1=w at *
 generalize zfH s.1 r.1=v at *
 by_cases v0:v=0
 .rw [if_pos v0]
  refine zab Tryz.mixed ⟨6,[],[],[]⟩ Tryz.func281 ?_
  rw [Tryz.ntmps281]
  simp [go_sem]
  refine CallVC.of (c1) ?_
  simp [go_sem]
  simp [go_sem,v0]
  refine CallVC.of (c2) ?_
  simp [go_sem]
 .rw [if_neg v0]
  refine zab Tryz.mixed ⟨6,[],[],[]⟩ Tryz.func281 ?_
  rw [Tryz.ntmps281]
  simp [go_sem]
  refine CallVC.of (c1) ?_
  simp [go_sem]
  simp [go_sem,v0]
end Go.Proofs.YthhdollpkieknaaGreat


namespace Go.Proofs.YthhdollpkieknaaGreat
open Go.Abs Go.Shelf Go.Sort
structure LinC {α:Type} (c:α->α->Int):Prop where
 zero:∀ a b,c a b=0 ↔ a=b
 anti:∀ a b,c a b<0 ↔ 0<c b a
 trans:∀ a b d,c a b<0->c b d<0->c a d<0
theorem LinC.self {α:Type} {c:α->α->Int} (h:LinC c) (a:α):c a a=0:=(h.zero a a).2 rfl
theorem zik:∀ a b:List Int,cmpL a b=0 ↔ a=b
 | [],[]=>by simp [cmpL]
 | [],_::_=>by simp [cmpL]
 | _::_,[]=>by simp [cmpL]
 | x::xs,y::ys=>by
  rw [cmpL]
  by_cases h:x=y
  .rw [if_pos h,zik xs ys]; simp [h]
  .rw [if_neg h]; simp [h,znL h]
theorem zhL:∀ a b:List Int,cmpL a b<0 ↔ 0<cmpL b a
 | [],[]=>by simp [cmpL]
 | [],_::_=>by simp [cmpL]
 | _::_,[]=>by simp [cmpL]
 | x::xs,y::ys=>by
  rw [cmpL,cmpL]
  by_cases h:x=y
  .rw [if_pos h,if_pos h.symm]; exact zhL xs ys
  .rw [if_neg h,if_neg (fun e=>h e.symm)]
   by_cases h1:x<y
   .have h2:¬ y<x:=by omega
    simp [cmpI,h1,h2]
   .have h2:y<x:=by omega
    simp [cmpI,h1,h2]
theorem linLx:LinC cmpL where
 zero:=zik
 anti:=zhL
 trans a b d h1 h2:=by
  have:=zaU (a:=a) (b:=b) (c:=d) (by rw [<- zbO]; simpa using h1) (by rw [<- zbO]; simpa using h2)
  rw [<- zbO] at this; simpa using this
theorem LinC.flip {α:Type} {c:α->α->Int} (h:LinC c):LinC (fun a b=>c b a) :=
 ⟨fun a b=>(h.zero b a).trans eq_comm,fun a b=>h.anti b a,fun a b d h1 h2=>h.trans d b a h2 h1⟩
theorem LinC.key {α:Type} {c:α->α->Int} (h:LinC c) (k:α->Nat):LinC (fun a b=>if k a=k b then c a b else (k a:Int)-k b) where
 zero a b:=by
  by_cases e:k a=k b
  .simp only [if_pos e]; exact h.zero a b
  .simp only [if_neg e]; exact ⟨fun x=>by omega,fun x=>(e (by rw [x])).elim⟩
 anti a b:=by
  by_cases e:k a=k b
  .simp only [if_pos e,if_pos e.symm]; exact h.anti a b
  .have e2:¬ k b=k a:=fun x=>e x.symm
   simp only [if_neg e,if_neg e2]; omega
 trans a b d h1 h2:=by
  by_cases e:k a=k b
  .by_cases e2:k b=k d
   .simp only [if_pos e] at h1; simp only [if_pos e2] at h2; simp only [if_pos (e.trans e2)]; exact h.trans _ _ _ h1 h2
   .simp only [if_neg e2] at h2; have e3:¬ k a=k d:=by omega
    simp only [if_neg e3]; omega
  .simp only [if_neg e] at h1
   by_cases e2:k b=k d
   .have e3:¬ k a=k d:=by omega
    simp only [if_neg e3]; omega
   .simp only [if_neg e2] at h2; have e3:¬ k a=k d:=by omega
    simp only [if_neg e3]; omega
theorem LinC.pair {α β:Type} {c:α->α->Int} {d:β->β->Int} (h:LinC c) (k:LinC d):LinC (fun p q:α × β=>if c p.1 q.1=0 then d p.2 q.2 else c p.1 q.1) where
 zero p q:=by
  obtain ⟨a,x⟩:=p; obtain ⟨b,y⟩:=q
  by_cases e:c a b=0
  .have e1:=(h.zero a b).1 e
   simp only [if_pos e]; rw [k.zero]; simp [e1]
  .have e1:¬ a=b:=fun x=>e ((h.zero a b).2 x)
   simp only [if_neg e]; simp [e,e1]
 anti p q:=by
  obtain ⟨a,x⟩:=p; obtain ⟨b,y⟩:=q
  by_cases e:c a b=0
  .have e2:c b a=0:=(h.zero b a).2 ((h.zero a b).1 e).symm
   simp only [if_pos e,if_pos e2]; exact k.anti x y
  .have e2:¬ c b a=0:=fun x=>e ((h.zero a b).2 ((h.zero b a).1 x).symm)
   simp only [if_neg e,if_neg e2]; exact h.anti a b
 trans p q r h1 h2:=by
  obtain ⟨a,x⟩:=p; obtain ⟨b,y⟩:=q; obtain ⟨d,z⟩:=r
  by_cases e:c a b=0
  .have e1:=(h.zero a b).1 e
   simp only [if_pos e] at h1
   by_cases e2:c b d=0
   .simp only [if_pos e2] at h2; rw [<- e1] at e2; simp only [if_pos e2]; exact k.trans _ _ _ h1 h2
   .simp only [if_neg e2] at h2; rw [<- e1] at e2 h2; simp only [if_neg e2]; exact h2
  .simp only [if_neg e] at h1
   by_cases e2:c b d=0
   .have e3:=(h.zero b d).1 e2
    rw [e3] at h1 e; simp only [if_neg e]; exact h1
   .simp only [if_neg e2] at h2
    have h3:=h.trans a b d h1 h2
    have e3:¬ c a d=0:=by omega
    simp only [if_neg e3]; exact h3
theorem LinC.swo {α β:Type} {c:β->β->Int} (h:LinC c) (k:α->β):SWO (Go.Proofs.ltOf fun a b=>c (k a) (k b)):=by
 refine ⟨fun a=>?_,fun x y z h1 h2=>?_,fun x y z h1 h2=>?_⟩
 .show decide (c (k a) (k a)<0)=false
  rw [h.self]; rfl
 .have h1:decide (c (k x) (k y)<0)=true:=h1
  have h2:decide (c (k y) (k z)<0)=true:=h2
  show decide (c (k x) (k z)<0)=true
  rw [decide_eq_true_eq] at *
  exact h.trans _ _ _ h1 h2
 .have h1:decide (c (k x) (k y)<0)=false:=h1
  have h2:decide (c (k y) (k z)<0)=false:=h2
  show decide (c (k x) (k z)<0)=false
  rw [decide_eq_false_iff_not] at *
  intro h3
  by_cases e:c (k x) (k y)=0
  .rw [(h.zero _ _).1 e] at h3; exact h2 h3
  .have h4:c (k y) (k x)<0:=(h.anti _ _).2 (by omega)
   exact h2 (h.trans _ _ _ h4 h3)
theorem linT:LinC cmpT:=linLx.flip.key List.length
theorem zf2:∀ f g,zaT f g=0 ↔ f=g
 | [],[]=>by simp [zaT]
 | [],_::_=>by simp [zaT]
 | _::_,[]=>by simp [zaT]
 | a::f,b::g=>by
  rw [zaT]
  by_cases h:cmpT a b=0
  .rw [if_pos h,zf2 f g]; simp [(linT.zero a b).1 h]
  .have e:¬ a=b:=fun e=>h ((linT.zero a b).2 e)
   rw [if_neg h]; simp [h,e]
theorem zgf:∀ f g,zaT f g<0 ↔ 0<zaT g f
 | [],[]=>by simp [zaT]
 | [],_::_=>by simp [zaT]
 | _::_,[]=>by simp [zaT]
 | a::f,b::g=>by
  rw [zaT,zaT]
  by_cases h:cmpT a b=0
  .have h2:cmpT b a=0:=(linT.zero b a).2 ((linT.zero a b).1 h).symm
   rw [if_pos h,if_pos h2]; exact zgf f g
  .have h2:¬ cmpT b a=0:=fun x=>h ((linT.zero a b).2 ((linT.zero b a).1 x).symm)
   rw [if_neg h,if_neg h2]; exact linT.anti a b
theorem zfm:∀ f g k,zaT f g<0->zaT g k<0->zaT f k<0
 | [],[],k,h1,_=>by simp [zaT] at h1
 | [],b::g,[],_,h2=>by simp [zaT] at h2
 | [],b::g,d::k,_,_=>by simp [zaT]
 | a::f,[],k,h1,_=>by simp [zaT] at h1
 | a::f,b::g,[],_,h2=>by simp [zaT] at h2
 | a::f,b::g,d::k,h1,h2=>by
  rw [zaT] at h1 h2 |-
  by_cases e1:cmpT a b=0
  .have e:=(linT.zero a b).1 e1
   rw [if_pos e1] at h1
   rw [<- e] at h2
   by_cases e2:cmpT a d=0
   .rw [if_pos e2] at h2 |-; exact zfm f g k h1 h2
   .rw [if_neg e2] at h2 |-; exact h2
  .rw [if_neg e1] at h1
   by_cases e2:cmpT b d=0
   .rw [(linT.zero b d).1 e2] at h1 e1
    rw [if_neg e1]; exact h1
   .rw [if_neg e2] at h2
    have h3:=linT.trans a b d h1 h2
    rw [if_neg (by omega)]; exact h3
theorem linFs:LinC zaT:=⟨zf2,zgf,zfm⟩
theorem linTr:LinC zgr:=linFs.key List.length
theorem linFo:LinC zfH:=by
 have e:zfH=fun f g=>if sumN f=sumN g then zgr f g else (sumN f:Int)-sumN g:=by
  funext f g
  unfold zfH
  by_cases e:sumN f=sumN g
  .rw [if_pos (by omega),if_pos e]
  .rw [if_neg (by omega),if_neg e]
 rw [e]; exact linTr.key sumN
theorem linSp:LinC (fun p q:List (List Int) × List (List Int)=>if zfH p.1 q.1=0 then zgr p.2 q.2 else zfH p.1 q.1):=linFo.pair linTr
def keyS (s:Spl):List (List Int) × List (List Int):=(s.1,s.2.1)
theorem zul:SWO (Go.Proofs.ltOf zbH):=linSp.swo keyS
theorem spT {a b d:Spl} (h1:zbH a b<0) (h2:zbH b d<0):zbH a d<0:=linSp.trans (keyS a) (keyS b) (keyS d) h1 h2
theorem spI (a:Spl):¬ zbH a a<0:=by
 have:zbH a a=0:=linSp.self (keyS a)
 omega
theorem spZ {a b:Spl}:zbH a b=0 ↔ keyS a=keyS b:=linSp.zero (keyS a) (keyS b)
theorem spAn {a b:Spl}:zbH a b<0 ↔ 0<zbH b a:=linSp.anti (keyS a) (keyS b)
def insS (p:Spl):List Spl->List Spl
 | []=>[p]
 | s::S=>if zbH p s<0 then p::s::S else s::insS p S
def srtS:List Spl->List Spl
 | []=>[]
 | s::S=>insS s (srtS S)
theorem zft (p:Spl):∀ S,(insS p S).Perm (p::S)
 | []=>.refl _
 | s::S=>by
  rw [insS]; split
  .exact .refl _
  .exact ((zft p S).cons s).trans (.swap _ _ _)
theorem zcu:∀ S,(srtS S).Perm S
 | []=>.refl _
 | s::S=>(zft s _).trans ((zcu S).cons s)
theorem zqi (S:List Spl):(srtS S).length=S.length:=(zcu S).length_eq
theorem zjK (p:Spl):∀ S:List Spl,S.Pairwise (fun x y=>¬ zbH y x<0)->(insS p S).Pairwise (fun x y=>¬ zbH y x<0)
 | [],_=>by simp [insS]
 | s::S,h=>by
  obtain ⟨h1,h2⟩:=List.pairwise_cons.1 h
  rw [insS]; split
  .rename_i hl
   refine .cons (fun y hy=>?_) h
   rcases List.mem_cons.1 hy with e | hy
   .rw [e]; intro hc; exact spI p (spT hl hc)
   .intro hc; exact h1 y hy (spT hc hl)
  .rename_i hl
   refine .cons (fun y hy=>?_) (zjK p S h2)
   rcases List.mem_cons.1 ((zft p S).mem_iff.1 hy) with e | hy
   .rw [e]; exact hl
   .exact h1 y hy
theorem zjR:∀ S:List Spl,(srtS S).Pairwise (fun x y=>¬ zbH y x<0)
 | []=>.nil
 | s::S=>zjK s _ (zjR S)
theorem zi7 {ys X:List Spl} (hp:ys.Perm X) (h1:∀ s∈X,s.2.2=1) (hy:ys.Pairwise (fun x y=>¬ zbH y x<0)):ys=srtS X :=
 (hp.trans (zcu X).symm).eq_of_pairwise (fun a b ha hb k1 k2=>by
  have e1:=h1 a (hp.mem_iff.1 ha)
  have e2:=h1 b ((zcu X).mem_iff.1 hb)
  have z:zbH a b=0:=by
   have k3:¬ 0<zbH a b:=fun x=>k1 (spAn.2 x)
   omega
  have k:=spZ.1 z
  obtain ⟨a1,a2,a3⟩:=a
  obtain ⟨b1,b2,b3⟩:=b
  simp only [keyS,Prod.mk.injEq] at k e1 e2
  rw [k.1,k.2,e1,e2]) hy (zjR X)
def zfK (out:List Spl) (s:Spl):List Spl:=match out.getLast? with
 | some l=>if zbH l s=0 then out.set (out.length-1) (l.1,l.2.1,l.2.2+1) else out++[s]
 | none=>[s]
def gthS (L:List Spl):List Spl:=L.foldl zfK []
theorem zim (L:List Spl) (s:Spl):gthS (L++[s])=zfK (gthS L) s:=by simp [gthS]
theorem zoD (out:List Spl) (s:Spl):(zfK out s).length<=out.length+1:=by
 unfold zfK
 split
 .split <;> simp
 .simp
theorem zrp (L:List Spl):(gthS L).length<=L.length/\(∀ l∈gthS L,∃ s∈L,keyS l=keyS s)/\((∀ s∈L,s.2.2=1)->∀ l∈gthS L,0<=l.2.2/\l.2.2<=L.length):=by
 refine zb9 (P:=fun L=>(gthS L).length<=L.length/\(∀ l∈gthS L,∃ s∈L,keyS l=keyS s)/\((∀ s∈L,s.2.2=1)->∀ l∈gthS L,0<=l.2.2/\l.2.2<=L.length)) ⟨by simp [gthS],by simp [gthS],by simp [gthS]⟩ (fun L s ih=>?_) L
 obtain ⟨i1,i2,i3⟩:=ih
 rw [zim]
 have hl:=zoD (gthS L) s
 refine ⟨by rw [List.length_append,List.length_singleton]; omega,fun l hm=>?_,fun h1 l hm=>?_⟩
 .unfold zfK at hm
  split at hm
  .rename_i l0 hl0
   split at hm
   .rcases List.mem_or_eq_of_mem_set hm with hm | e
    .obtain ⟨t,t1,t2⟩:=i2 l hm
     exact ⟨t,by simp [t1],t2⟩
    .obtain ⟨t,t1,t2⟩:=i2 l0 (List.mem_of_getLast? hl0)
     exact ⟨t,by simp [t1],by rw [e,<- t2]; rfl⟩
   .rcases List.mem_append.1 hm with hm | hm
    .obtain ⟨t,t1,t2⟩:=i2 l hm
     exact ⟨t,by simp [t1],t2⟩
    .rw [List.mem_singleton] at hm
     exact ⟨s,by simp,by rw [hm]⟩
  .rw [List.mem_singleton] at hm
   exact ⟨s,by simp,by rw [hm]⟩
 .have j3:=i3 (fun t ht=>h1 t (by simp [ht]))
  have hs:=h1 s (by simp)
  rw [List.length_append,List.length_singleton]
  unfold zfK at hm
  split at hm
  .rename_i l0 hl0
   split at hm
   .rcases List.mem_or_eq_of_mem_set hm with hm | e
    .have:=j3 l hm; omega
    .have:=j3 l0 (List.mem_of_getLast? hl0)
     rw [e]; simp only; omega
   .rcases List.mem_append.1 hm with hm | hm
    .have:=j3 l hm; omega
    .rw [List.mem_singleton] at hm; rw [hm]; omega
  .rw [List.mem_singleton] at hm; rw [hm]; omega
end Go.Proofs.YthhdollpkieknaaGreat


namespace Go.Proofs.YthhdollpkieknaaGreat
open Go.Abs
def zbD (L M:List Spl):List Spl:=L.flatMap fun s=>M.map fun c=>(s.1++c.1,s.2.1++c.2.1,(0:Int))
def spl:Nat->List Int->List Spl
 | 0,_=>[]
 | n+1,t=>((brs t).foldl (fun L b=>zbD L (spl n b)) [([],[],0)]).map (fun s=>(s.1,[canF (n+1) (zaC s.2.1)],s.2.2))++[([canF (n+1) t],[],0)]
def fldS (n:Nat) (bs:List (List Int)):List Spl:=bs.foldl (fun L b=>zbD L (spl n b)) [([],[],0)]
theorem znQ (n:Nat) (bs:List (List Int)) (b:List Int):fldS n (bs++[b])=zbD (fldS n bs) (spl n b):=by simp [fldS]
theorem zkq (n:Nat) (t:List Int):spl (n+1) t=(fldS n (brs t)).map (fun s=>(s.1,[canF (n+1) (zaC s.2.1)],s.2.2))++[([canF (n+1) t],[],0)]:=rfl
theorem zlL (L M:List Spl) (s:Spl):zbD (L++[s]) M=zbD L M++M.map fun c=>(s.1++c.1,s.2.1++c.2.1,(0:Int)):=by simp [zbD]
theorem zoU (L M:List Spl):(zbD L M).length=L.length*M.length:=by
 induction L with
 | nil=>simp [zbD]
 | cons s L ih =>
  have e:zbD (s::L) M=(M.map fun c=>(s.1++c.1,s.2.1++c.2.1,(0:Int)))++zbD L M:=rfl
  rw [e,List.length_append,ih,List.length_map,List.length_cons,Nat.succ_mul]; omega
def smS (s:Spl):Bool:=decide (s.1.length<=100) && decide (s.2.1.length<=100) && decide (s.2.2=0)
def rtS (n:Nat) (s:Spl):Bool:=lvC (zaC s.2.1) && decide ((zaC s.2.1).length<=n) && s.2.1.all (fun b=>decide (b.length<=100) && b.all (fun x=>decide (0<=x) && decide (x<=100)))
def zjc:Nat->List Int->Bool
 | 0,_=>false
 | n+1,t=>decide (n+1<=100) && lvC t && decide (t.length<=n+1) && (brs t).all (zjc n) && (brs t).all (fun b=>decide ((spl n b).length<=100) && (spl n b).all smS) &&
   (List.range ((brs t).length+1)).all (fun i=>decide ((fldS n ((brs t).take i)).length<=100) && (fldS n ((brs t).take i)).all smS) && (fldS n (brs t)).all (rtS (n+1))
theorem zdH {s:Spl} (h:smS s=true):s.1.length<=100/\s.2.1.length<=100/\s.2.2=0:=by
 simp [smS] at h; exact ⟨h.1.1,h.1.2,h.2⟩
theorem zqS {n:Nat} {s:Spl} (h:rtS n s=true):Lv (zaC s.2.1)/\(zaC s.2.1).length<=n/\∀ b∈s.2.1,b.length<=100/\∀ x∈b,0<=x/\x<=100:=by
 simp only [rtS,Bool.and_eq_true,decide_eq_true_eq,List.all_eq_true] at h
 exact ⟨zkw h.1.1,h.1.2,h.2⟩
theorem zlz {n:Nat} {t:List Int} (h:zjc (n+1) t=true):n+1<=100/\Lv t/\t.length<=n+1/\(∀ b∈brs t,zjc n b=true/\(spl n b).length<=100/\∀ s∈spl n b,smS s=true) /\
  (∀ i,i<=(brs t).length->(fldS n ((brs t).take i)).length<=100/\∀ s∈fldS n ((brs t).take i),smS s=true)/\∀ s∈fldS n (brs t),rtS (n+1) s=true:=by
 simp only [zjc,Bool.and_eq_true,decide_eq_true_eq,List.all_eq_true,List.mem_range] at h
 obtain ⟨⟨⟨⟨⟨⟨h1,h2⟩,h3⟩,h4⟩,h5⟩,h6⟩,h7⟩:=h
 exact ⟨h1,zkw h2,h3,fun b hb=>⟨h4 b hb,(h5 b hb).1,(h5 b hb).2⟩,fun i hi=>h6 i (by omega),h7⟩
theorem zn5:(trN 6).all (zjc 6)=true:=by kernel_rfl
end Go.Proofs.YthhdollpkieknaaGreat


namespace Go.Proofs.YthhdollpkieknaaGreat
open Go.RowKit Go.Shelf Go.Lib Go.Abs
end Go.Proofs.YthhdollpkieknaaGreat


namespace Go.Proofs.YthhdollpkieknaaGreat
open Go.Abs
def bsG (L:List (List Int)) (t:List Int):Nat->Nat->Nat->Nat
 | 0,i,_=>i
 | n+1,i,j=>if i<j then (if cmpT (L[(i+j) / 2]?.getD []) t<0 then bsG L t n ((i+j) / 2+1) j else bsG L t n i ((i+j) / 2)) else i
def bsI (L:List (List Int)) (t:List Int):Nat:=bsG L t (L.length+1) 0 L.length
theorem zen (L:List (List Int)) (t:List Int):∀ (n m i j:Nat),j-i<n->j-i<m->bsG L t n i j=bsG L t m i j
 | 0,m,i,j,h,_=>by omega
 | n+1,0,i,j,_,h=>by omega
 | n+1,m+1,i,j,h1,h2=>by
  rw [bsG,bsG]
  by_cases hij:i<j
  .rw [if_pos hij,if_pos hij]
   by_cases hc:cmpT (L[(i+j) / 2]?.getD []) t<0
   .rw [if_pos hc,if_pos hc]; exact zen L t n m _ _ (by omega) (by omega)
   .rw [if_neg hc,if_neg hc]; exact zen L t n m _ _ (by omega) (by omega)
  .rw [if_neg hij,if_neg hij]
theorem zoj (L:List (List Int)) (t:List Int):∀ (n i j:Nat),i<=j->i<=bsG L t n i j/\bsG L t n i j<=j
 | 0,i,j,h=>⟨Nat.le_refl _,h⟩
 | n+1,i,j,h=>by
  rw [bsG]
  by_cases hij:i<j
  .rw [if_pos hij]
   by_cases hc:cmpT (L[(i+j) / 2]?.getD []) t<0
   .rw [if_pos hc]
    have:=zoj L t n ((i+j) / 2+1) j (by omega)
    omega
   .rw [if_neg hc]
    have:=zoj L t n i ((i+j) / 2) (by omega)
    omega
  .rw [if_neg hij]; omega
theorem shr1 {a:Nat} (h:a<1000000000):shrI IntKind.u64 (a:Int) 1=((a / 2:Nat):Int):=by
 have e:(2:Int) ^ min (1:Int).toNat IntKind.u64.bits=2:=by decide
 unfold shrI
 rw [e,Int.fdiv_eq_ediv_of_nonneg _ (by decide)]
 omega
theorem zfI (L:List (List Int)) (t:List Int) (hL:L.length<=1000) (hr:∀ r∈L,r.length<=1000) (ht:t.length<=1000) :
  Con Tryz.prog 194 [.sl L.length (mat L),.sl t.length (avs t),.val (.func (.func 195) #[] #[])] (.tup [.int (bsI L t),.bool (decide (bsI L t<L.length) && decide (cmpT (L[bsI L t]?.getD []) t=0))]):=by
 refine zab Tryz.mixed ⟨12,[],[],[]⟩ Tryz.func194 ?_
 rw [Tryz.ntmps194]
 simp [go_sem]
 refine zac (List.range' 9 3++List.range' 15 20) (fun x:Nat × Nat=>[(9,.int x.1),(10,.int x.2)]) (fun x=>x.1<=x.2/\x.2<=L.length/\bsG L t (x.2-x.1+1) x.1 x.2=bsI L t) (fun x=>x.2-x.1) (0,L.length) ⟨by simp,by simp,rfl⟩ (by simp [go_sem]) (by simp [go_sem]) ?_
 rintro ⟨i,j⟩ ⟨h1,h2,h3⟩
 simp only at h1 h2 h3
 by_cases hij:i<j
 .have hii:(i:Int)<j:=by omega
  have hh:(i+j) / 2<L.length:=by omega
  have cT:=za4 (L[(i+j) / 2]?.getD []) t (by have:=hr _ (memD [] hh); omega) (by omega)
  rw [bsG,if_pos hij] at h3
  have hsh:shrI IntKind.u64 (IntKind.u64.wrap ((i:Int)+j)) 1=(((i+j) / 2:Nat):Int):=by
   have w:IntKind.u64.wrap ((i:Int)+j)=((i+j:Nat):Int):=by
    rw [zcF (by omega) (by omega)]; omega
   rw [w]
   exact shr1 (by omega)
  have hnL:¬ L=[]:=by rintro rfl; simp at hh
  have md:=zar hh
  have k1:i<=(i+j) / 2:=by omega
  have k2:(i+j) / 2<j:=by omega
  generalize (i+j) / 2=k at *
  by_cases c0:cmpT (L[k]?.getD []) t<0
  .rw [if_pos c0,zen L t (j-i) (j-(k+1)+1) _ _ (by omega) (by omega)] at h3
   generalize cmpT (L[k]?.getD []) t=e at *
   simp [go_sem,hii,hsh,md]
   refine ⟨⟨by omega,by omega⟩,by omega,⟨hh,hnL⟩,?_⟩
   refine CallVC.of (cT) ?_
   simp [go_sem]
   simp [go_sem,c0]
   exact ⟨⟨by omega,by omega⟩,k+1,j,⟨by omega,h2,h3⟩,by omega,zaa _ _ _ (by simp),by omega,rfl⟩
  .rw [if_neg c0,zen L t (j-i) (k-i+1) _ _ (by omega) (by omega)] at h3
   generalize cmpT (L[k]?.getD []) t=e at *
   simp [go_sem,hii,hsh,md]
   refine ⟨⟨by omega,by omega⟩,by omega,⟨hh,hnL⟩,?_⟩
   refine CallVC.of (cT) ?_
   simp [go_sem]
   simp [go_sem,c0]
   exact ⟨i,k,⟨by omega,by omega,h3⟩,by omega,zaa _ _ _ (by simp),rfl,rfl⟩
 .have e:i=j:=by omega
  subst e
  have hii:¬ (i:Int)<i:=by omega
  rw [bsG,if_neg (by omega)] at h3
  rw [<- h3]
  by_cases hi:i<L.length
  .have hiL:(i:Int)<L.length:=by omega
   have hnL:¬ L=[]:=by rintro rfl; simp at hi
   have cT:=za4 (L[i]?.getD []) t (by have:=hr _ (memD [] hi); omega) (by omega)
   have md:=zar hi
   generalize cmpT (L[i]?.getD []) t=e at *
   simp [go_sem,hii,hiL,md]
   refine ⟨hnL,?_⟩
   refine CallVC.of (cT) ?_
   simp [go_sem]
   simp [hi]
  .have hiL:¬ (i:Int)<L.length:=by omega
   simp [go_sem,hii,hiL]
   omega
def ixT (L:List (List Int)) (t:List Int):Int:=if bsI L t<L.length/\cmpT (L[bsI L t]?.getD []) t=0 then bsI L t else -1
theorem zvm (L:List (List Int)) (t:List Int):bsI L t<=L.length:=(zoj L t _ 0 L.length (by omega)).2
theorem zfr (L:List (List Int)) (t:List Int) : -1<=ixT L t/\ixT L t<=L.length:=by
 have:=zvm L t
 unfold ixT
 split <;> omega
theorem zn4 (L:List (List Int)) (t:List Int) (hL:L.length<=1000) (hr:∀ r∈L,r.length<=1000) (ht:t.length<=1000) :
  Con Tryz.prog 105 [.sl L.length (mat L),.sl t.length (avs t)] (.int (ixT L t)):=by
 have c1:=zfI L t hL hr ht
 unfold ixT
 by_cases h:bsI L t<L.length/\cmpT (L[bsI L t]?.getD []) t=0
 .rw [if_pos h]
  rw [decide_eq_true h.1,decide_eq_true h.2] at c1
  generalize bsI L t=i at *
  refine zab Tryz.mixed ⟨7,[],[],[]⟩ Tryz.func105 ?_
  rw [Tryz.ntmps105]
  simp [go_sem]
  refine CallVC.of (c1) ?_
  simp [go_sem]
 .rw [if_neg h]
  have e:(decide (bsI L t<L.length) && decide (cmpT (L[bsI L t]?.getD []) t=0))=false:=by
   cases e1:decide (bsI L t<L.length) with
   | false=>rfl
   | true =>
    cases e2:decide (cmpT (L[bsI L t]?.getD []) t=0) with
    | false=>rfl
    | true=>exact (h ⟨of_decide_eq_true e1,of_decide_eq_true e2⟩).elim
  rw [e] at c1
  generalize bsI L t=i at *
  refine zab Tryz.mixed ⟨7,[],[],[]⟩ Tryz.func105 ?_
  rw [Tryz.ntmps105]
  simp [go_sem]
  refine CallVC.of (c1) ?_
  simp [go_sem]
theorem zeX (L:List (List Int)) (n:Nat) (cs:List AV) (t:List Int) (hL:L.length<=1000) (hr:∀ r∈L,r.length<=1000) (ht:t.length<=1000) :
  Con Tryz.prog 162 [.agg [.sl L.length (mat L),.sl n cs],.sl t.length (avs t)] (.int (ixT L t+1)):=by
 have c1:=zn4 L t hL hr ht
 have b:=zfr L t
 generalize ixT L t=e at *
 refine zab Tryz.mixed ⟨5,[],[],[]⟩ Tryz.func162 ?_
 rw [Tryz.ntmps162]
 simp [go_sem]
 refine CallVC.of (c1) ?_
 simp [go_sem]
 omega
end Go.Proofs.YthhdollpkieknaaGreat


namespace Go.Proofs.YthhdollpkieknaaGreat
open Go.Abs Go.Shelf Go.Sort
theorem zge:∀ X:List Spl,zap (X.flatMap spA)=true
 | []=>rfl
 | s::X=>by
  have:=zge X
  simp only [List.flatMap_cons,spA,List.cons_append,List.nil_append]
  simp [zap,zat,this]
theorem zky:∀ X:List Spl,frzL (X.flatMap spA)=X.flatMap spF
 | []=>rfl
 | s::X=>by
  have:=zky X
  simp only [List.flatMap_cons,spA,spF,List.cons_append,List.nil_append]
  simp [frzL,frz,this]
theorem znx (X:List Spl) (h1:∀ s∈X,s.2.2=1) (hok:∀ s∈X,SpOk s) (hn:X.length<=1048576) :
  MCon Tryz.prog 284 [.own 198 X.length (X.flatMap spA),.val (.func (.func 281) #[] #[])] (.tup []) [.own 198 X.length ((srtS X).flatMap spA),.any]:=by
 obtain ⟨ys,p1,p2,p3⟩:=zhO Tryz.sortSplits 3 Tryz.isAgg198 Tryz.sizeOf198 ⟨_,Tryz.func284,by decide,rfl⟩ spA zbH zul 281 198 (by kernel_rfl) X (fun _ _=>rfl) (zge X)
  (fun x hx y hy=>by rw [zmm,zmm]; exact @ze4 ⟨1⟩ x y (hok x hx) (hok y hy)) (by omega)
 have e:ys=srtS X:=zi7 p1 h1 p2
 subst e
 exact p3
def cntF (s:Spl):Spl:=(srtT s.1,srtT s.2.1,1)
def mixS (L:List Spl) (i:Nat):List AV:=((L.map cntF).take i).flatMap spA++(L.drop i).flatMap spF
theorem zjk (X:List Spl):(X.flatMap spA).length=X.length*3:=by
 induction X with
 | nil=>rfl
 | cons s X ih=>rw [List.flatMap_cons,List.length_append,ih]; simp [spA]; omega
theorem zaG (X:List Spl):(X.flatMap spF).length=X.length*3:=by
 induction X with
 | nil=>rfl
 | cons s X ih=>rw [List.flatMap_cons,List.length_append,ih]; simp [spF]; omega
theorem set3 (R:List AV) (x1 x2 x3 y1 y2 y3:AV):∀ P:List AV,(((P++x1::x2::x3::R).set P.length y1).set (P.length+1) y2).set (P.length+1+1) y3=P++y1::y2::y3::R
 | []=>rfl
 | p::P=>by
  have:=set3 R x1 x2 x3 y1 y2 y3 P
  simp only [List.cons_append,List.length_cons,List.set_cons_succ]
  rw [this]
theorem zuS (x1 x2 x3 y3:AV):∀ P:List AV,(P++[x1,x2,x3]).set (P.length+2) y3=P++[x1,x2,y3]
 | []=>rfl
 | p::P=>by
  have:=zuS x1 x2 x3 y3 P
  show p::(P++[x1,x2,x3]).set (P.length+2) y3=p::(P++[x1,x2,y3])
  rw [this]
theorem zlO (O:List Spl) (l s:Spl):zfK (O++[l]) s=if zbH l s=0 then O++[(l.1,l.2.1,l.2.2+1)] else O++[l]++[s]:=by
 have e:∀ O:List Spl,(O++[l]).set O.length (l.1,l.2.1,l.2.2+1)=O++[(l.1,l.2.1,l.2.2+1)]:=fun O=>by
  induction O with
  | nil=>rfl
  | cons o O ih=>rw [List.cons_append,List.length_cons,List.set_cons_succ,ih]; rfl
 unfold zfK
 rw [List.getLast?_concat]
 simp only [List.length_append,List.length_singleton,Nat.add_sub_cancel,e]
theorem ztZ (L:List Spl) {i:Nat} (h:i<L.length) {a b:List (List Int)} {k:Int} (hsp:L[i]?.getD ([],[],0)=(a,b,k)) :
  (((mixS L i).set (i*3) (AV.own 25 a.length (omat (srtT a)))).set (i*3+1) (AV.own 25 b.length (omat (srtT b)))).set (i*3+1+1) (AV.val (Value.int IntKind.i64 1))=mixS L (i+1):=by
 have e1:(((L.map cntF).take i).flatMap spA).length=i*3:=by rw [zjk,List.length_take,List.length_map,Nat.min_eq_left (by omega)]
 have e2:L.drop i=(a,b,k)::L.drop (i+1):=by rw [List.drop_eq_getElem_cons h,<- hsp]; simp [h]
 have e3:(L.map cntF).take (i+1)=(L.map cntF).take i++[cntF (a,b,k)]:=by
  rw [List.take_succ_eq_append_getElem (by simpa using h),List.getElem_map]
  congr 2
  rw [<- hsp]; simp [h]
 unfold mixS
 rw [e2,e3,List.flatMap_cons,List.flatMap_append,<- e1]
 refine (set3 _ _ _ _ _ _ _ _).trans ?_
 simp [cntF,spA]
theorem zl0 (L:List Spl) (hok:∀ s∈L,(s.1.length<=19/\∀ r∈s.1,r.length<=100)/\(s.2.1.length<=19/\∀ r∈s.2.1,r.length<=100)) (hn:L.length<=1000) :
  GCon Tryz.prog 236 [.own 198 L.length (L.flatMap spF)] (.own 198 (gthS (srtS (L.map cntF))).length ((gthS (srtS (L.map cntF))).flatMap spF)) [.any]:=by
 have cS:=znx (L.map cntF) (fun s hs=>by obtain ⟨t,_,rfl⟩:=List.mem_map.1 hs; rfl) (fun s hs=>by
  obtain ⟨t,ht,rfl⟩:=List.mem_map.1 hs
  have h:=hok t ht
  refine ⟨⟨by simp [cntF]; omega,fun r hr=>h.1.2 r ((zbd _).mem_iff.1 hr)⟩,by simp [cntF]; omega,fun r hr=>h.2.2 r ((zbd _).mem_iff.1 hr)⟩) (by simp; omega)
 rw [List.length_map] at cS
 refine zal Tryz.mixed ⟨10,[32],[284],[]⟩ [] Tryz.func236 ?_
 rw [Tryz.ntmps236]
 simp [go_sem]
 refine zdt (0::3::4::10::List.range' 12 16) (3::4::List.range' 13 15) (fun i:Nat=>[(0,.own 198 L.length (mixS L i)),(10,.bor 0 []),(12,.int i)]) (fun i=>i<=L.length) (fun i=>L.length-i) 0 (by intro x i h1 h2; have:i=0\/i=10\/i=12:=(by simp at h1 h2; omega); rcases this with rfl | rfl | rfl <;> rfl) (by intro i h; simp at h |-; omega) (by simp) (by simp [go_sem,mixS]) (by simp [go_sem,kl]) ?_
 intro i hi
 by_cases h:i<L.length
 .have hii:(i:Int)<L.length:=by omega
  have hs:=hok (L[i]?.getD ([],[],0)) (memD _ h)
  have c1:=zcP (L[i]?.getD ([],[],0)).1 (fun m hm=>by have:=hs.1.2 m hm; omega) hs.1.1
  have c2:=zcP (L[i]?.getD ([],[],0)).2.1 (fun m hm=>by have:=hs.2.2 m hm; omega) hs.2.1
  have dr:(mixS L i).drop (i*3)=spF (L[i]?.getD ([],[],0))++(L.drop (i+1)).flatMap spF:=by
   have e1:(((L.map cntF).take i).flatMap spA).length=i*3:=by rw [zjk,List.length_take,List.length_map,Nat.min_eq_left (by omega)]
   have e2:L.drop i=L[i]?.getD ([],[],0)::L.drop (i+1):=by rw [List.drop_eq_getElem_cons h]; simp [h]
   unfold mixS
   rw [List.drop_append_of_le_length (by omega),e2,List.flatMap_cons,List.drop_eq_nil_of_le (by omega),List.nil_append]
  generalize hsp:L[i]?.getD ([],[],0)=s at *
  obtain ⟨a,b,k⟩:=s
  simp only [spF] at dr c1 c2
  have ml:(mixS L i).length=L.length*3:=by
   unfold mixS
   rw [List.length_append,zjk,zaG,List.length_take,List.length_map,List.length_drop,Nat.min_eq_left (by omega)]; omega
  have nm:¬ mixS L i=[]:=by intro e; rw [e] at ml; simp at ml; omega
  simp [go_sem,hii,dr]
  refine ⟨⟨nm,by omega⟩,by kernel_rfl,?_⟩
  refine CallD.of (c1) ?_
  simp [go_sem]
  refine CallD.of (c2) ?_
  simp [go_sem]
  refine ⟨h,⟨by omega,nm⟩,?_⟩
  refine ⟨by kernel_rfl,?_⟩
  simp [go_sem]
  refine ⟨⟨by omega,by omega⟩,i+1,by omega,by omega,zaa _ _ _ (by simp),ztZ L h hsp,by omega⟩
 .have e:i=L.length:=by omega
  subst e
  have hii:¬ (L.length:Int)<L.length:=by omega
  have e0:mixS L L.length=(L.map cntF).flatMap spA:=by
   unfold mixS
   rw [List.take_of_length_le (by simp),List.drop_eq_nil_of_le (Nat.le_refl _)]; simp
  rw [e0]
  have sl:(srtS (L.map cntF)).length=L.length:=by rw [zqi,List.length_map]
  have so:∀ s∈srtS (L.map cntF),s.2.2=1/\SpOk s:=fun s hs=>by
   obtain ⟨t,ht,rfl⟩:=List.mem_map.1 ((zcu _).mem_iff.1 hs)
   have h:=hok t ht
   exact ⟨rfl,⟨by simp [cntF]; omega,fun r hr=>h.1.2 r ((zbd _).mem_iff.1 hr)⟩,by simp [cntF]; omega,fun r hr=>h.2.2 r ((zbd _).mem_iff.1 hr)⟩
  simp [go_sem,hii]
  refine ⟨_,_,cS,?_⟩
  simp [go_sem]
  generalize srtS (L.map cntF)=S at *
  simp [go_sem,zky]
  refine zac (6::8::9::List.range' 34 33) (fun i:Nat=>[(6,.own 198 (gthS (S.take i)).length ((gthS (S.take i)).flatMap spF)),(34,.int i)]) (fun i=>i<=L.length) (fun i=>L.length-i) 0 (by simp) (by simp [go_sem,gthS]) (by simp [go_sem]) ?_
  intro i hi
  by_cases hi2:i<L.length
  .have hii:(i:Int)<L.length:=by omega
   have hS:i<S.length:=by omega
   have dr:(S.flatMap spF).drop (i*3)=spF (S[i]?.getD ([],[],0))++(S.drop (i+1)).flatMap spF:=by
    have e1:((S.take i).flatMap spF).length=i*3:=by rw [zaG,List.length_take,Nat.min_eq_left (by omega)]
    have e2:S.drop i=S[i]?.getD ([],[],0)::S.drop (i+1):=by rw [List.drop_eq_getElem_cons hS]; simp [hS]
    have e3:S.flatMap spF=(S.take i).flatMap spF++(S.drop i).flatMap spF:=by rw [<- List.flatMap_append,List.take_append_drop]
    rw [e3,List.drop_append_of_le_length (by omega),e2,List.flatMap_cons,List.drop_eq_nil_of_le (by omega),List.nil_append]
   have hs:=so _ (memD ([],[],0) hS)
   generalize hsp:S[i]?.getD ([],[],0)=s at *
   obtain ⟨a,b,k⟩:=s
   obtain ⟨hk,hs⟩:=hs
   simp only at hk
   subst hk
   simp only [spF] at dr
   have ml:(S.flatMap spF).length=L.length*3:=by rw [zaG,sl]
   have nm:¬ S.flatMap spF=[]:=by intro e; rw [e] at ml; simp at ml; omega
   have gs:gthS (S.take (i+1))=zfK (gthS (S.take i)) (a,b,1):=by
    rw [List.take_succ_eq_append_getElem hS,zim]
    congr 1
    rw [<- hsp,List.getElem?_eq_getElem hS]; rfl
   have iv:=zrp (S.take i)
   generalize S.flatMap spF=M at *
   rcases (List.eq_nil_or_concat (gthS (S.take i))) with ho | ⟨O,l,ho⟩
   .rw [ho,show zfK [] (a,b,1)=[(a,b,1)] from rfl] at gs
    rw [ho]
    simp [go_sem,hii,dr]
    refine ⟨nm,by kernel_rfl,?_⟩
    refine ⟨by kernel_rfl,?_⟩
    simp [go_sem]
    refine ⟨⟨by omega,by omega⟩,i+1,by omega,by omega,zaa _ _ _ (by simp),?_⟩
    rw [gs]
    exact ⟨⟨rfl,by simp [spF]⟩,by omega⟩
   .rw [List.concat_eq_append] at ho
    rw [ho] at iv
    rw [ho,zlO] at gs
    rw [ho]
    obtain ⟨i1,i2,i3⟩:=iv
    have kb:=i3 (fun s hs=>(so s (List.mem_of_mem_take hs)).1) l (by simp)
    have hl:SpOk l:=by
     obtain ⟨t,t1,t2⟩:=i2 l (by simp)
     have:=(so t (List.mem_of_mem_take t1)).2
     simp only [keyS,Prod.mk.injEq] at t2
     unfold SpOk
     rw [t2.1,t2.2]; exact this
    have cG:=ze4 l (a,b,1) hl hs
    have cl:((O++[l]).flatMap spF).length=(O.length+1)*3:=by rw [zaG]; simp
    have cd:((O++[l]).flatMap spF).drop (O.length*3)=[.sl l.1.length (mat l.1),.sl l.2.1.length (mat l.2.1),.int l.2.2]:=by
     rw [List.flatMap_append,List.drop_append_of_le_length (by rw [zaG]; omega),List.drop_eq_nil_of_le (by rw [zaG]; omega)]
     simp [spF]
    have cs:∀ y,((O++[l]).flatMap spF).set (O.length*3+2) y=O.flatMap spF++[.sl l.1.length (mat l.1),.sl l.2.1.length (mat l.2.1),y]:=fun y=>by
     have e:=zuS (.sl l.1.length (mat l.1)) (.sl l.2.1.length (mat l.2.1)) (.int l.2.2) y (O.flatMap spF)
     rw [zaG] at e
     rw [<- e,List.flatMap_append]; simp [spF]
    have ol:(O++[l]).length=O.length+1:=by simp
    have i1':O.length+1<=i:=by
     rw [ol,List.length_take] at i1; omega
    rw [List.length_take] at i3
    simp only [spF] at cG
    rw [ol]
    generalize hC:(O++[l]).flatMap spF=C at *
    have cg:C[O.length*3+2]?=some (.val (.int .i64 l.2.2)):=by rw [<- List.getElem?_drop,cd]; rfl
    have nC:¬ C=[]:=by intro e; rw [e] at cl; simp at cl
    have hd:0<O.length+1:=by omega
    generalize hv:zbH l (a,b,1)=v at *
    by_cases hz:v=0
    .rw [if_pos hz] at gs
     subst hz
     simp [go_sem,hii,dr,hd,cd]
     refine ⟨nm,by kernel_rfl,?_⟩
     refine ⟨by omega,by omega,⟨nC,by omega⟩,?_⟩
     refine CallD.of (cG) ?_
     simp [go_sem]
     refine ⟨by kernel_rfl,?_⟩
     simp [go_sem]
     simp [go_sem,cg]
     have tl:(S.take i).length<=i:=by rw [List.length_take]; omega
     have kk:0<=l.2.2/\l.2.2<=1000:=by omega
     refine ⟨by omega,by omega,nC,⟨by omega,by omega⟩,by omega,nC,by omega,⟨by omega,by omega⟩,i+1,by omega,by omega,zaa _ _ _ (by simp),?_⟩
     rw [gs,cs]
     refine ⟨⟨by simp,?_⟩,by omega⟩
     rw [List.flatMap_append]
     simp [spF]
    .rw [if_neg hz] at gs
     simp [go_sem,hii,dr,hd,cd]
     refine ⟨nm,by kernel_rfl,?_⟩
     refine ⟨by omega,by omega,⟨nC,by omega⟩,?_⟩
     refine CallD.of (cG) ?_
     simp [go_sem]
     simp [go_sem,hz]
     refine ⟨by kernel_rfl,?_⟩
     simp [go_sem]
     refine ⟨⟨by rw [cl],by omega,by omega⟩,⟨by omega,by omega⟩,i+1,by omega,by omega,zaa _ _ _ (by simp),?_⟩
     rw [gs]
     refine ⟨⟨by simp,?_⟩,by omega⟩
     rw [List.flatMap_append,hC]
     simp [spF]
  .have e:i=S.length:=by omega
   subst e
   have hii:¬ (S.length:Int)<L.length:=by omega
   rw [List.take_length]
   simp [go_sem,hii]
end Go.Proofs.YthhdollpkieknaaGreat


namespace Go.Proofs.YthhdollpkieknaaGreat
open Go.RowKit Go.Shelf Go.Lib Go.Abs
theorem zjw (n:Nat) (h0:0<n) (hn:n<=1048576) (i:TypeInfo) (z:Value) (hi:Tryz.prog.info? 25=some i) (hz:i.zero=some z) (hs:0<i.size) (hb:i.bytes=24) (w:World) :
  Calls Tryz.prog 326 #[.slice none 0 0,.int .i64 n] w fun e w' =>
   e=.returned (.slice (some ⟨w.heap.size,0,none⟩) 0 (grownCap w n 0 25)) /\
   w'=w.drew.alloc (.cells (([]:List Value).toArray++Builtin.zeroCells z.cells n++Builtin.zeroCells z.cells (grownCap w n 0 25-n)) 25):=by
 have h1:¬ ((n:Int)<0):=by omega
 have h2:wrap64 (n:Int)=n:=by unfold wrap64; omega
 have h4:(n:Int) > 0:=by omega
 have hrz:∀ ty,(Builtin.append_ #[24,3] ty #[.slice none 0 0,.int .i64 (n:Int)]).run Tryz.prog w =
   .ok (.slice (some ⟨w.heap.size,0,none⟩) n (grownCap w n 0 25)) (w.drew.alloc (.cells (([]:List Value).toArray++Builtin.zeroCells z.cells n++Builtin.zeroCells z.cells (grownCap w n 0 25-n)) 25)):=fun ty=>by
  have h:=Lib.run_append_grow_zeros w 24 3 ty 25 i z .i64 .i64 Tryz.underlying24 Tryz.underlying3 hi hz none 0 0 [] (run_firstCells_none w.drew i.size 0 0 0) n h0 hs (by omega) (by omega)
   (by rw [hb]; omega) (by
    rw [hb]
    have:=growslice_fits (need:=0+n) (old:=0) (bytes:=24) (by omega) (by omega)
    exact this)
  simp only [Nat.zero_add] at h
  exact h
 have hGn:n<=grownCap w n 0 25:=grownCap_ge w _ _ _
 obtain ⟨G,hG⟩:∃ G,G=grownCap w n 0 25:=⟨_,rfl⟩
 rw [<- hG] at hrz hGn |-
 have hG63:G<=9223372036854775807:=by
  have:=grownCap_le_maxLen w n 0 25 (by unfold maxLen; omega)
  rw [<- hG] at this
  unfold maxLen at this
  omega
 clear hG
 go_enter Tryz.func326,Tryz.ntmps326
 go_wp2_with (at_builtin; refine Lib.wpList_append_run _ rfl _ _ _ _ rfl _ _ rfl rfl _ _ (hrz _) ?_)
 all_goals (go_ret; exact ⟨rfl,rfl⟩)
theorem zsC (n:Nat) (h0:0<n) (hn:n<=1048576):Con Tryz.prog 326 [.val (.slice none 0 0),.int n] (.own 25 0 []):=by
 refine ⟨⟨_,Tryz.func326,by decide,rfl⟩,fun w vs hl ha=>?_⟩
 have k:=ha (fun _=>undef) (fun _=>[])
 generalize hoz:([]:List Nat)=oz at k
 obtain ⟨i,z,hi,hz,hs,hb,hzs,_,hce⟩:=zaE Tryz.info25
 cases k with
 | cons c v o cs vs os hc ht =>
  cases ht with
  | cons c2 v2 o2 cs2 vs2 os2 hc2 ht2 =>
   have e2:vs2=[]:=by simpa using hl
   subst e2
   cases hc2 with
   | cell _ _ _ hc2 =>
    cases hc2 with
    | val _ _ =>
     cases hc with
     | cell _ _ _ hc =>
      cases hc with
      | val _ _ =>
       refine (zjw n h0 hn i z hi hz (by omega) hb w).mono ?_
       rintro e w' ⟨rfl,rfl⟩
       have hge:n<=grownCap w n 0 25:=grownCap_ge w _ _ _
       have hrep:RepC Tryz.prog (w.drew.alloc (.cells (([]:List Value).toArray++Builtin.zeroCells z.cells n++Builtin.zeroCells z.cells (grownCap w n 0 25-n)) 25)) (fun _=>False) (.own 25 0 []) (.slice (some ⟨w.heap.size,0,none⟩) 0 (grownCap w n 0 25)) [w.heap.size] :=
        .own _ _ 0 _ _ _ _ (zc3 w _) (by omega) (by rw [hce]; simp [size_zeroCells,hzs,<- Nat.add_mul]; omega) (.nil _)
       refine ⟨_,[w.heap.size],rfl,⟨rfl,rfl,rfl,by simp,fun b hb=>zcX w _ b hb,by first | exact Nat.le_refl _ | exact zba _⟩,fun tm oss=>.cell _ _ _ (hrep.mono (fun _ h=>h.elim) (fun _ _=>rfl)),by simp,by simp⟩
inductive NW:AV->AV->Prop
 | same (c:AV):NW c c
 | nil:NW (.val (.slice none 0 0)) (.sl 0 [])
inductive NWL:List AV->List AV->Prop
 | nil:NWL [] []
 | cons {c c':AV} {cs cs':List AV} (h:NW c c') (t:NWL cs cs'):NWL (c::cs) (c'::cs')
theorem NW.rep {P:Program} {w:World} {F:Nat->Prop} {c c':AV} {v:Value} {os:List Nat} (h:NW c c') (hr:RepC P w F c v os):RepC P w F c' v os:=by
 cases h with
 | same=>exact hr
 | nil=>cases hr with
  | val _ _=>exact .sl0 none 0
theorem NWL.rep {P:Program} {w:World} {F:Nat->Prop} {cs cs':List AV} (h:NWL cs cs'):∀ {vs:List Value} {os:List Nat},RepL P w F cs vs os->RepL P w F cs' vs os:=by
 induction h with
 | nil=>intro vs os hr; exact hr
 | cons h _ ih =>
  intro vs os hr
  cases hr with
  | cons _ v os _ vs os' h1 h2=>exact .cons _ _ _ _ _ _ (h.rep h1) (ih h2)
theorem GCon.nwArg {P:Program} {f:FuncId} {e:TypeId} {n:Nat} {cs cs':List AV} {r:AV} {outs:List AV} (hw:NWL cs cs') (h:GCon P f [.own e n cs'] r outs):GCon P f [.own e n cs] r outs:=by
 refine ⟨h.1,fun w vs os F0 hl hnd ho hF hr=>h.2 w vs os F0 hl hnd ho hF fun tm oss=>?_⟩
 have k:=hr tm oss
 cases k with
 | cons c v o cs1 vs os2 hc ht =>
  refine .cons _ _ _ _ _ _ ?_ ht
  cases hc with
  | cell _ _ _ hc =>
   refine .cell _ _ _ ?_
   cases hc with
   | own0=>cases hw; exact .own0 _
   | own b _ _ cap c _ os3 hb hn2 hc2 hl2=>exact .own b _ _ cap c _ os3 hb hn2 hc2 (hw.rep hl2)
theorem GCon.own0 {P:Program} {f:FuncId} {args:List AV} {outs:List AV} (e:TypeId) (h:GCon P f args (.val (.slice none 0 0)) outs):GCon P f args (.own e 0 []) outs:=by
 refine ⟨h.1,fun w vs os F0 hl hn ho hF hr=>(h.2 w vs os F0 hl hn ho hF hr).mono ?_⟩
 rintro x w' ⟨v,orr,oo,F',h1,h2,h3,h4,h5,h6⟩
 refine ⟨v,orr,oo,F',h1,h2,h3,h4,fun tm oss=>?_,h6⟩
 have k:=h5 tm oss
 cases k with
 | cell _ _ _ hc=>cases hc with
  | val _ _=>exact .cell _ _ _ (.own0 e)
theorem NWL.app {a b:List AV} (h:NWL a b):∀ p:List AV,NWL (p++a) (p++b)
 | []=>h
 | c::p=>.cons (.same c) (NWL.app h p)
theorem GCon.nwRes {P:Program} {f:FuncId} {args:List AV} {e:TypeId} {n:Nat} {cs cs':List AV} {outs:List AV} (hw:NWL cs cs') (h:GCon P f args (.own e n cs) outs):GCon P f args (.own e n cs') outs:=by
 refine ⟨h.1,fun w vs os F0 hl hn ho hF hr=>(h.2 w vs os F0 hl hn ho hF hr).mono ?_⟩
 rintro x w' ⟨v,orr,oo,F',h1,h2,h3,h4,h5,h6⟩
 refine ⟨v,orr,oo,F',h1,h2,h3,h4,fun tm oss=>?_,h6⟩
 have k:=h5 tm oss
 cases k with
 | cell _ _ _ hc =>
  refine .cell _ _ _ ?_
  cases hc with
  | own0=>cases hw; exact .own0 _
  | own b _ _ cap c _ os3 hb hn2 hc2 hl2=>exact .own b _ _ cap c _ os3 hb hn2 hc2 (hw.rep hl2)
def szC (x y:List (List Int)) (i:Nat):Nat:=if i=0 then 0 else if i=1 then x.length else x.length+y.length
def flC (x y:List (List Int)) (i:Nat):List (List Int):=if i=0 then [] else if i=1 then x else x++y
theorem ziR (x y:List (List Int)) (h0:0<x.length+y.length) (hn:x.length+y.length<=1000) :
  GCon Tryz.prog 285 [.own 24 2 [.sl x.length (mat x),.sl y.length (mat y)]] (.own 25 (x++y).length (mat (x++y))) [.any]:=by
 have cG:=Con.gfz (zsC (x.length+y.length) h0 (by omega)) (by simp [zaF,zbk]) rfl
 refine zal Tryz.mixed ⟨9,[],[1000000+326],[]⟩ [] Tryz.func285 ?_
 rw [Tryz.ntmps285]
 simp [go_sem]
 refine zac ([3,5]++List.range' 11 12) (fun i:Nat=>[(3,.int (szC x y i)),(11,.int i)]) (fun i=>i<=2) (fun i=>2-i) 0 (by simp) (by simp [go_sem,szC]) (by simp [go_sem]) ?_
 intro i hi
 have hc:i=0\/i=1\/i=2:=by omega
 rcases hc with rfl | rfl | rfl
 .have hs:¬ ((x.length:Int)<0):=by omega
  simp [go_sem,szC,hs]
  exact ⟨by omega,1,by omega,by omega,zaa _ _ _ (by simp),by simp,by omega⟩
 .have hs:¬ ((x.length:Int)+y.length<0):=by omega
  simp [go_sem,szC,hs]
  exact ⟨⟨by omega,by omega⟩,2,by omega,by omega,zaa _ _ _ (by simp),by simp,by omega⟩
 .have e2:(x.length:Int)+y.length=((x.length+y.length:Nat):Int):=by omega
  simp [go_sem,szC]
  rw [e2]
  refine ⟨_,_,cG,?_⟩
  simp [go_sem]
  refine zac ([6,8]++List.range' 27 8) (fun i:Nat=>[(6,.own 25 (flC x y i).length (mat (flC x y i))),(27,.int i)]) (fun i=>i<=2) (fun i=>2-i) 0 (by simp) (by simp [go_sem,flC,mat,frzL]) (by simp [go_sem]) ?_
  intro i hi
  have hc:i=0\/i=1\/i=2:=by omega
  rcases hc with rfl | rfl | rfl
  .simp [go_sem,flC,mat]
   exact ⟨⟨by omega,by omega⟩,1,by omega,by omega,zaa _ _ _ (by simp),by simp,by omega⟩
  .simp [go_sem,flC,mat]
   exact ⟨⟨by omega,by omega⟩,2,by omega,by omega,zaa _ _ _ (by simp),by simp,by omega⟩
  .simp [go_sem,flC]
theorem zih (w:World) :
  Calls Tryz.prog 326 #[.slice none 0 0,.int .i64 0] w fun e w'=>e=.returned (.slice none 0 0)/\w'=w:=by
 have h2:wrap64 (0:Int)=0:=by unfold wrap64; omega
 go_enter Tryz.func326,Tryz.ntmps326
 go_wp2
 all_goals (go_ret; exact ⟨rfl,rfl⟩)
theorem zms:GCon Tryz.prog 326 [.val (.slice none 0 0),.int 0] (.val (.slice none 0 0)) [.any,.any]:=by
 refine ⟨⟨_,Tryz.func326,by decide,rfl⟩,fun w vs os F0 hl hnd ho hF hr=>?_⟩
 have k:=hr (fun _=>undef) (fun _=>[])
 cases k with
 | cons c v o cs vs os1 hc ht =>
  cases ht with
  | cons c2 v2 o2 cs2 vs2 os2 hc2 ht2 =>
   have e2:vs2=[]:=by simpa using hl
   subst e2
   cases hc2 with
   | cell _ _ _ hc2 =>
    cases hc2 with
    | val _ _ =>
     cases hc with
     | cell _ _ _ hc =>
      cases hc with
      | val _ _ =>
       refine (zih w).mono ?_
       rintro e w' ⟨rfl,rfl⟩
       exact ⟨_,[],[],F0,rfl,Ext.refl _ _,fun _ h=>h,fun _ h=>.inl h,fun tm oss=>.cell _ _ _ (.val _ rfl),fun tm oss=>.cons _ _ [] _ _ [] (.any _) (.cons _ _ [] _ _ [] (.any _) (.nil _)),rfl,by simp,by simp⟩
theorem ziN :
  GCon Tryz.prog 285 [.own 24 2 [.sl 0 [],.sl 0 []]] (.own 25 0 []) [.any]:=by
 have cG:=GCon.own0 25 zms
 refine zal Tryz.mixed ⟨9,[],[1000000+326],[]⟩ [] Tryz.func285 ?_
 rw [Tryz.ntmps285]
 simp [go_sem]
 refine zac ([3,5]++List.range' 11 12) (fun i:Nat=>[(3,.int 0),(11,.int i)]) (fun i=>i<=2) (fun i=>2-i) 0 (by simp) (by simp [go_sem]) (by simp [go_sem]) ?_
 intro i hi
 have hc:i=0\/i=1\/i=2:=by omega
 rcases hc with rfl | rfl | rfl
 .simp [go_sem]
  exact ⟨1,by omega,by omega,zaa _ _ _ (by simp),by omega⟩
 .simp [go_sem]
  exact ⟨2,by omega,by omega,zaa _ _ _ (by simp),by omega⟩
 .simp [go_sem]
  refine ⟨_,_,cG,?_⟩
  simp [go_sem]
  refine zac ([6,8]++List.range' 27 8) (fun i:Nat=>[(6,.own 25 0 []),(27,.int i)]) (fun i=>i<=2) (fun i=>2-i) 0 (by simp) (by simp [go_sem]) (by simp [go_sem]) ?_
  intro i hi
  have hc:i=0\/i=1\/i=2:=by omega
  rcases hc with rfl | rfl | rfl
  .simp [go_sem]
   exact ⟨1,by omega,by omega,zaa _ _ _ (by simp),by omega⟩
  .simp [go_sem]
   exact ⟨2,by omega,by omega,zaa _ _ _ (by simp),by omega⟩
  .simp [go_sem]
theorem zfw (x y:List (List Int)) (hn:x.length+y.length<=1000) :
  GCon Tryz.prog 285 [.own 24 2 [.sl x.length (mat x),.sl y.length (mat y)]] (.own 25 (x++y).length (mat (x++y))) [.any]:=by
 by_cases h0:0<x.length+y.length
 .exact ziR x y h0 hn
 .have e1:x=[]:=List.length_eq_zero_iff.1 (by omega)
  have e2:y=[]:=List.length_eq_zero_iff.1 (by omega)
  subst e1 e2
  exact ziN
theorem zhn (y:List (List Int)) (hn:y.length<=1000) :
  GCon Tryz.prog 285 [.own 24 2 [.val (.slice none 0 0),.sl y.length (mat y)]] (.own 25 y.length (mat y)) [.any] :=
 GCon.nwArg (.cons .nil (.cons (.same _) .nil)) (zfw [] y (by simpa using hn))
end Go.Proofs.YthhdollpkieknaaGreat


namespace Go.Proofs.YthhdollpkieknaaGreat
open Go.Abs
def canS (n:Nat) (s:Spl):Spl:=(s.1,[canF (n+1) (zaC s.2.1)],s.2.2)
def lfS (n:Nat) (j:Nat):AV:=.own 198 1 [.val (.slice none 0 0),if j=0 then .val (.slice none 0 0) else .sl 1 (mat [canF (n+1) (zaC [])]),.int 0]
theorem zfD {n:Nat} {t:List Int} (h1:n+1<=100) (h2:Lv t) (h3:t.length<=n+1) (hb:brs t=[]) :
  GCon Tryz.prog 237 [.sl t.length (avs t)] (.own 198 (spl (n+1) t).length ((spl (n+1) t).flatMap spF)) [.any]:=by
 have cB:=zbn t (by omega) h2
 have cT:=zbg (n+1) t h1 h2 h3
 have cR:=zeA [] (by simp) (by simp)
 have cK:=zbg (n+1) (zaC []) h1 zjx (by simp [zaC])
 rw [zkq,hb]
 rw [hb] at cB
 refine GCon.nwRes (n:=2) (cs:=[.val (.slice none 0 0),.sl 1 (mat [canF (n+1) (zaC [])]),.int 0,.sl 1 (mat [canF (n+1) t]),.val (.slice none 0 0),.int 0]) (.cons .nil (.cons (.same _) (.cons (.same _) (.cons (.same _) (.cons .nil (.cons (.same _) .nil)))))) ?_
 refine zal Tryz.mixed ⟨6,[16,23,42,48,69,76],[],[]⟩ [] Tryz.func237 ?_
 rw [Tryz.ntmps237]
 simp [go_sem]
 refine CallVC.of (cB) ?_
 simp [go_sem]
 refine zac (3::5::6::8::10::List.range' 18 38) (fun i:Nat=>[(3,lfS n 0),(18,.int 0)]) (fun _=>True) (fun _=>0) 0 trivial (by simp [go_sem,lfS]) (by simp [go_sem,lfS]) ?_
 intro _ _
 simp [go_sem,lfS]
 refine zdt (3::11::12::56::List.range' 58 15) (11::12::List.range' 59 14) (fun j:Nat=>[(3,lfS n j),(56,.bor 3 []),(58,.int j)]) (fun j=>j<=1) (fun j=>1-j) 0 (by intro x i h1 h2; have:i=3\/i=56\/i=58:=(by simp at h1 h2; omega); rcases this with rfl | rfl | rfl <;> rfl) (by intro i h; simp at h |-; omega) (by simp) (by simp [go_sem,lfS]) (by simp [go_sem,kl,lfS]) ?_
 intro j hj
 have hj01:j=0\/j=1:=by omega
 rcases hj01 with rfl | rfl
 .simp [go_sem,lfS]
  refine CallVC.of (cR) ?_
  simp [go_sem]
  refine CallVC.of (cK) ?_
  simp [go_sem]
  have cl:(canF (n+1) (zaC [])).length=1:=zaQ (n+1) (zaC []) zjx (by simp [zaC])
  refine ⟨1,by omega,by omega,zaa _ _ _ (by simp),?_⟩
  have cl2:(canF (n+1) [0]).length=1:=cl
  simp [lfS,mat,cl2,zaC]
 .simp [go_sem,lfS]
  refine CallVC.of (cT) ?_
  simp [go_sem]
  simp [mat,zaQ (n+1) t h2 h3]
end Go.Proofs.YthhdollpkieknaaGreat


namespace Go.Proofs.YthhdollpkieknaaGreat
open Go.Abs
theorem zk8:∀ X:List Spl,frzL (X.flatMap spF)=X.flatMap spF
 | []=>rfl
 | s::X=>by
  have:=zk8 X
  simp only [List.flatMap_cons,spF,List.cons_append,List.nil_append]
  simp [frzL,frz,this]
theorem zey {L:List Spl} {i:Nat} (h:i<L.length):(L.flatMap spF).drop (i*3)=spF (L[i]?.getD ([],[],0))++(L.drop (i+1)).flatMap spF:=by
 have e1:((L.take i).flatMap spF).length=i*3:=by rw [zaG,List.length_take,Nat.min_eq_left (by omega)]
 have e2:L.drop i=L[i]?.getD ([],[],0)::L.drop (i+1):=by rw [List.drop_eq_getElem_cons h]; simp [h]
 have e3:L.flatMap spF=(L.take i).flatMap spF++(L.drop i).flatMap spF:=by rw [<- List.flatMap_append,List.take_append_drop]
 rw [e3,List.drop_append_of_le_length (by omega),e2,List.flatMap_cons,List.drop_eq_nil_of_le (by omega),List.nil_append]
def xS (n:Nat) (bs:List (List Int)) (i:Nat):AV:=if i=0 then .own 198 1 [.val (.slice none 0 0),.val (.slice none 0 0),.int 0] else .own 198 (fldS n (bs.take i)).length ((fldS n (bs.take i)).flatMap spF)
def mxT (n:Nat) (L:List Spl) (j:Nat):List AV:=((L.take j).map (canS n)).flatMap spF++(L.drop j).flatMap spF
theorem zqH (n:Nat) (L:List Spl):mxT n L 0=L.flatMap spF:=by simp [mxT]
theorem ztt (n:Nat) (L:List Spl):mxT n L L.length=(L.map (canS n)).flatMap spF:=by simp [mxT]
theorem zsn (n:Nat) (L:List Spl) {j:Nat} (h:j<=L.length):(mxT n L j).length=L.length*3:=by
 unfold mxT
 rw [List.length_append,zaG,zaG,List.length_map,List.length_take,List.length_drop,Nat.min_eq_left h]; omega
theorem zqF (n:Nat) {L:List Spl} {j:Nat} (h:j<L.length):(mxT n L j).drop (j*3)=spF (L[j]?.getD ([],[],0))++(L.drop (j+1)).flatMap spF:=by
 have e1:(((L.take j).map (canS n)).flatMap spF).length=j*3:=by rw [zaG,List.length_map,List.length_take,Nat.min_eq_left (by omega)]
 have e2:L.drop j=L[j]?.getD ([],[],0)::L.drop (j+1):=by rw [List.drop_eq_getElem_cons h]; simp [h]
 unfold mxT
 rw [List.drop_append_of_le_length (by omega),e2,List.flatMap_cons,List.drop_eq_nil_of_le (by omega),List.nil_append]
theorem set1 (R:List AV) (x1 x2 y:AV):∀ P:List AV,(P++x1::x2::R).set (P.length+1) y=P++x1::y::R
 | []=>rfl
 | p::P=>by
  have:=set1 R x1 x2 y P
  simp only [List.cons_append,List.length_cons,List.set_cons_succ]
  rw [this]
theorem zr6 (n:Nat) {L:List Spl} {j:Nat} (h:j<L.length):(mxT n L j).set (j*3+1) (.sl 1 (mat [canF (n+1) (zaC (L[j]?.getD ([],[],0)).2.1)]))=mxT n L (j+1):=by
 have e1:(((L.take j).map (canS n)).flatMap spF).length=j*3:=by rw [zaG,List.length_map,List.length_take,Nat.min_eq_left (by omega)]
 have e2:L.drop j=L[j]?.getD ([],[],0)::L.drop (j+1):=by rw [List.drop_eq_getElem_cons h]; simp [h]
 have e3:L.take (j+1)=L.take j++[L[j]?.getD ([],[],0)]:=by
  rw [List.take_succ_eq_append_getElem h,List.getElem?_eq_getElem h]; rfl
 unfold mxT
 rw [e2,e3,List.flatMap_cons,List.map_append,List.flatMap_append,<- e1]
 refine (set1 _ _ _ _ _).trans ?_
 simp [canS,spF]
def zS (M:List Spl) (j:Nat):AV:=if j=0 then .own 198 0 [] else .own 198 M.length (M.flatMap spF)
theorem ziD:∀ (n:Nat) (t:List Int),zjc n t=true ->
  GCon Tryz.prog 237 [.sl t.length (avs t)] (.own 198 (spl n t).length ((spl n t).flatMap spF)) [.any]:=by
 intro n
 induction n with
 | zero=>intro t h; simp [zjc] at h
 | succ n ih =>
  intro t h
  obtain ⟨h1,h2,h3,h4,h5,h6⟩:=zlz h
  have cB:=zbn t (by omega) h2
  by_cases hb:brs t=[]
  .exact zfD h1 h2 h3 hb
  rw [zkq]
  refine GCon.nwRes (cs:=((fldS n (brs t)).map (canS n)).flatMap spF++[.sl 1 (mat [canF (n+1) t]),.val (.slice none 0 0),.int 0]) (by rw [List.flatMap_append]; exact NWL.app (.cons (.same _) (.cons .nil (.cons (.same _) .nil))) _) ?_
  have cT:=zbg (n+1) t h1 h2 h3
  refine zal Tryz.mixed ⟨6,[16,23,42,48,69,76],[1000000+237,1000000+285],[]⟩ [] Tryz.func237 ?_
  rw [Tryz.ntmps237]
  simp [go_sem]
  refine CallVC.of (cB) ?_
  simp [go_sem]
  have bl:(brs t).length<t.length:=ziH h2
  generalize brs t=bs at *
  refine zac (3::5::6::8::10::List.range' 18 38) (fun i:Nat=>[(3,xS n bs i),(18,.int i)]) (fun i=>i<=bs.length) (fun i=>bs.length-i) 0 (by simp) (by simp [go_sem,xS]) (by simp [go_sem,xS]) ?_
  intro i hi
  by_cases hib:i<bs.length
  .have hii:(i:Int)<bs.length:=by omega
   have hm:bs[i]?.getD []∈bs:=memD [] hib
   obtain ⟨b1,b2,b3⟩:=h4 _ hm
   have cI:=ih _ b1
   have md:=zar hib
   have sn:fldS n (bs.take (i+1))=zbD (fldS n (bs.take i)) (spl n (bs[i]?.getD [])):=by
    rw [List.take_succ_eq_append_getElem hib,znQ,List.getElem?_eq_getElem hib]; rfl
   obtain ⟨l1,l2⟩:=h5 i hi
   obtain ⟨l3,l4⟩:=h5 (i+1) (by omega)
   rw [sn] at l3 l4
   generalize bs[i]?.getD []=b at *
   generalize spl n b=M at *
   by_cases hi0:i=0
   .have hx:xS n bs i=.own 198 1 [.val (.slice none 0 0),.val (.slice none 0 0),.int 0]:=by unfold xS; rw [if_pos hi0]
    rw [hx]
    have L0:fldS n (bs.take i)=[([],[],0)]:=by rw [hi0]; simp [fldS]
    have M0:zbD [([],[],0)] M=M:=by
     have e:zbD [([],[],0)] M=M.map fun c=>(c.1,c.2.1,(0:Int)):=by simp [zbD]
     rw [e]
     refine (List.map_congr_left (g:=id) fun c hc=>?_).trans (List.map_id _)
     obtain ⟨_,_,c3⟩:=zdH (b3 c hc)
     obtain ⟨a,b,c⟩:=c
     simp only at c3
     subst c3; rfl
    rw [L0,M0] at sn
    have hx1:xS n bs (i+1)=.own 198 M.length (M.flatMap spF):=by unfold xS; rw [if_neg (by omega),sn]
    simp [go_sem,hii,md,frzL,frz]
    refine ⟨hb,?_⟩
    refine zac (6::8::10::List.range' 25 29) (fun j:Nat=>[(6,zS M j),(25,.int j)]) (fun j=>j<=1) (fun j=>1-j) 0 (by simp) (by simp [go_sem,zS]) (by simp [go_sem,zS]) ?_
    intro j hj
    have hj01:j=0\/j=1:=by omega
    rcases hj01 with rfl | rfl
    .simp [go_sem,zS]
     refine ⟨_,_,cI,?_⟩
     simp [go_sem]
     refine zac (6::10::List.range' 32 21) (fun k:Nat=>[(6,.own 198 k ((M.take k).flatMap spF)),(32,.int k)]) (fun k=>k<=M.length) (fun k=>M.length-k) 0 (by simp) (by simp [go_sem]) (by simp [go_sem]) ?_
     intro k hk
     by_cases hkm:k<M.length
     .have hki:(k:Int)<M.length:=by omega
      have dr2:=zey hkm
      have nM:¬ M.flatMap spF=[]:=by intro e; have:=zaG M; rw [e] at this; simp at this; omega
      obtain ⟨c1,c2,c3⟩:=zdH (b3 _ (memD ([],[],0) hkm))
      have tk:M.take (k+1)=M.take k++[M[k]?.getD ([],[],0)]:=by
       rw [List.take_succ_eq_append_getElem hkm,List.getElem?_eq_getElem hkm]; rfl
      have cA:=zhn (M[k]?.getD ([],[],0)).1 (by omega)
      have cC:=zhn (M[k]?.getD ([],[],0)).2.1 (by omega)
      generalize M[k]?.getD ([],[],0)=c at *
      obtain ⟨ca,cb,cc⟩:=c
      simp only [spF] at dr2
      simp only at c1 c2 c3 tk cA cC
      subst c3
      have cl:=zaG (M.take k)
      rw [List.length_take,Nat.min_eq_left (by omega)] at cl
      have lM:=zaG M
      generalize hC:(M.take k).flatMap spF=C at *
      generalize hMC:M.flatMap spF=MC at *
      simp [go_sem,hki,dr2]
      refine ⟨⟨nM,by omega⟩,by kernel_rfl,?_⟩
      refine ⟨_,_,cA,?_⟩
      simp [go_sem]
      refine ⟨_,_,cC,?_⟩
      simp [go_sem]
      refine ⟨⟨by rw [cl],by omega,by omega⟩,?_⟩
      refine ⟨by kernel_rfl,?_⟩
      simp [go_sem]
      refine ⟨⟨by omega,by omega⟩,k+1,by omega,by omega,zaa _ _ _ (by simp),?_⟩
      refine ⟨⟨by omega,?_⟩,by omega⟩
      rw [tk,List.flatMap_append,hC]
      simp [spF]
     .have e:k=M.length:=by omega
      subst e
      have hki:¬ (M.length:Int)<M.length:=by omega
      rw [List.take_length]
      simp [go_sem,hki]
      exact ⟨1,by omega,by omega,(Off.reset (by intro x hx; simp at hx |-; omega) (by simp) (by simp [go_sem,zaa])),by simp [zS],by simp [zS,go_sem]⟩
    .simp [go_sem,zS]
     exact ⟨⟨by omega,by omega⟩,i+1,by omega,by omega,(Off.reset (by intro x hx; simp at hx |-; omega) (by simp) (by simp [go_sem,zaa])),⟨by rw [hx1],by omega⟩,by simp [hx1,go_sem]⟩
   .have hx:xS n bs i=.own 198 (fldS n (bs.take i)).length ((fldS n (bs.take i)).flatMap spF):=by unfold xS; rw [if_neg hi0]
    rw [hx]
    generalize fldS n (bs.take i)=L at *
    simp [go_sem,hii,md,zk8]
    refine ⟨hb,?_⟩
    refine zac (6::8::10::List.range' 25 29) (fun j:Nat=>[(6,.own 198 (zbD (L.take j) M).length ((zbD (L.take j) M).flatMap spF)),(25,.int j)]) (fun j=>j<=L.length) (fun j=>L.length-j) 0 (by simp) (by simp [go_sem,zbD]) (by simp [go_sem]) ?_
    intro j hj
    by_cases hjl:j<L.length
    .have hji:(j:Int)<L.length:=by omega
     have dr:=zey hjl
     have ms:zbD (L.take (j+1)) M=zbD (L.take j) M++M.map fun c=>((L[j]?.getD ([],[],0)).1++c.1,(L[j]?.getD ([],[],0)).2.1++c.2.1,(0:Int)):=by
      rw [List.take_succ_eq_append_getElem hjl,zlL,List.getElem?_eq_getElem hjl]; rfl
     have nL:¬ L.flatMap spF=[]:=by intro e; have:=zaG L; rw [e] at this; simp at this; omega
     have lL:=zaG L
     obtain ⟨s1,s2,s3⟩:=zdH (l2 _ (memD ([],[],0) hjl))
     have ml:(zbD (L.take j) M).length+M.length<=10000:=by
      rw [zoU,List.length_take,Nat.min_eq_left (by omega)]
      have:=Nat.mul_le_mul (show j<=99 by omega) b2
      omega
     generalize L[j]?.getD ([],[],0)=s at *
     obtain ⟨sa,sb,sc⟩:=s
     simp only [spF] at dr
     simp only at s1 s2 s3 ms
     subst s3
     generalize zbD (L.take j) M=A at *
     generalize L.flatMap spF=LC at *
     simp [go_sem,hji,dr]
     refine ⟨nL,?_⟩
     refine ⟨_,_,cI,?_⟩
     simp [go_sem]
     refine zac (6::10::List.range' 32 21) (fun k:Nat=>[(6,.own 198 (A.length+k) ((A++(M.take k).map fun c=>(sa++c.1,sb++c.2.1,(0:Int))).flatMap spF)),(32,.int k)]) (fun k=>k<=M.length) (fun k=>M.length-k) 0 (by simp) (by simp [go_sem]) (by simp [go_sem]) ?_
     intro k hk
     by_cases hkm:k<M.length
     .have hki:(k:Int)<M.length:=by omega
      have dr2:=zey hkm
      have nM:¬ M.flatMap spF=[]:=by intro e; have:=zaG M; rw [e] at this; simp at this; omega
      obtain ⟨c1,c2,c3⟩:=zdH (b3 _ (memD ([],[],0) hkm))
      have tk:(M.take (k+1)).map (fun c=>(sa++c.1,sb++c.2.1,(0:Int)))=(M.take k).map (fun c=>(sa++c.1,sb++c.2.1,(0:Int)))++[(sa++(M[k]?.getD ([],[],0)).1,sb++(M[k]?.getD ([],[],0)).2.1,0)]:=by
       rw [List.take_succ_eq_append_getElem hkm,List.map_append,List.getElem?_eq_getElem hkm]; rfl
      have cA:=zfw sa (M[k]?.getD ([],[],0)).1 (by omega)
      have cC:=zfw sb (M[k]?.getD ([],[],0)).2.1 (by omega)
      generalize M[k]?.getD ([],[],0)=c at *
      obtain ⟨ca,cb,cc⟩:=c
      simp only [spF] at dr2
      simp only at c1 c2 c3 tk cA cC
      subst c3
      have al:(A++(M.take k).map fun c=>(sa++c.1,sb++c.2.1,(0:Int))).length=A.length+k:=by rw [List.length_append,List.length_map,List.length_take]; omega
      have cl:=zaG (A++(M.take k).map fun c=>(sa++c.1,sb++c.2.1,(0:Int)))
      generalize hC:(A++(M.take k).map fun c=>(sa++c.1,sb++c.2.1,(0:Int))).flatMap spF=C at *
      have lM:=zaG M
      generalize hMC:M.flatMap spF=MC at *
      simp [go_sem,hki,dr2]
      refine ⟨⟨nM,by omega⟩,by kernel_rfl,?_⟩
      refine ⟨_,_,cA,?_⟩
      simp [go_sem]
      refine ⟨_,_,cC,?_⟩
      simp [go_sem]
      refine ⟨⟨by rw [cl,al],by omega,by omega⟩,?_⟩
      refine ⟨by kernel_rfl,?_⟩
      simp [go_sem]
      refine ⟨⟨by omega,by omega⟩,k+1,by omega,by omega,zaa _ _ _ (by simp),?_⟩
      refine ⟨⟨by omega,?_⟩,by omega⟩
      rw [<- List.map_take,tk,List.flatMap_append,<- List.append_assoc,<- List.flatMap_append,hC]
      simp [spF]
     .have e:k=M.length:=by omega
      subst e
      have hki:¬ (M.length:Int)<M.length:=by omega
      rw [List.take_length]
      simp [go_sem,hki]
      refine ⟨⟨by omega,by omega⟩,j+1,by omega,by omega,(Off.reset (by intro x hx; simp at hx |-; omega) (by simp) (by simp [go_sem,zaa])),?_⟩
      rw [ms]
      exact ⟨⟨by simp,by rw [List.flatMap_append]⟩,by omega⟩
    .have e:j=L.length:=by omega
     subst e
     have hji:¬ (L.length:Int)<L.length:=by omega
     rw [List.take_length]
     have hx1:xS n bs (i+1)=.own 198 (zbD L M).length ((zbD L M).flatMap spF):=by unfold xS; rw [if_neg (by omega),sn]
     simp [go_sem,hji]
     exact ⟨⟨by omega,by omega⟩,i+1,by omega,by omega,(Off.reset (by intro x hx; simp at hx |-; omega) (by simp) (by simp [go_sem,zaa])),⟨by rw [hx1],by omega⟩,by simp [hx1,go_sem]⟩
  .have e:i=bs.length:=by omega
   subst e
   have hl0:¬ bs.length=0:=by intro e; exact hb (List.length_eq_zero_iff.1 e)
   have hx:xS n bs bs.length=.own 198 (fldS n bs).length ((fldS n bs).flatMap spF):=by unfold xS; rw [if_neg hl0,List.take_length]
   have hii:¬ (bs.length:Int)<bs.length:=by omega
   obtain ⟨l1,l2⟩:=h5 bs.length (Nat.le_refl _)
   rw [List.take_length] at l1 l2
   rw [hx]
   generalize fldS n bs=L at *
   simp [go_sem,hii]
   refine zdt (3::11::12::56::List.range' 58 15) (11::12::List.range' 59 14) (fun j:Nat=>[(3,.own 198 L.length (mxT n L j)),(56,.bor 3 []),(58,.int j)]) (fun j=>j<=L.length) (fun j=>L.length-j) 0 (by intro x i h1 h2; have:i=3\/i=56\/i=58:=(by simp at h1 h2; omega); rcases this with rfl | rfl | rfl <;> rfl) (by intro i h; simp at h |-; omega) (by simp) (by simp [go_sem,zqH]) (by simp [go_sem,kl]) ?_
   intro j hj
   by_cases hjl:j<L.length
   .have hji:(j:Int)<L.length:=by omega
    obtain ⟨s1,s2,s3⟩:=zdH (l2 _ (memD ([],[],0) hjl))
    obtain ⟨r1,r2,r3⟩:=zqS (h6 _ (memD ([],[],0) hjl))
    have dr:=zqF n hjl
    have st:=zr6 n hjl
    have ml:=zsn n L hj
    have nm:¬ mxT n L j=[]:=by intro e; rw [e] at ml; simp at ml; omega
    have cR:=zeA (L[j]?.getD ([],[],0)).2.1 (by omega) (fun b hb=>⟨by have:=(r3 b hb).1; omega,fun x hx=>by have:=(r3 b hb).2 x hx; omega⟩)
    have cK:=zbg (n+1) _ h1 r1 r2
    generalize L[j]?.getD ([],[],0)=s at *
    obtain ⟨sa,sb,sc⟩:=s
    simp only [spF] at dr
    simp only at s1 s2 s3 cR cK st
    simp [go_sem,hji,dr]
    refine ⟨⟨nm,by omega⟩,?_⟩
    refine CallVC.of (cR) ?_
    simp [go_sem]
    refine CallVC.of (cK) ?_
    simp [go_sem]
    simp only at r1 r2
    have e:mat [canF (n+1) (zaC sb)]=[.sl (zaC sb).length (avs (canF (n+1) (zaC sb)))]:=by simp [mat,zaQ (n+1) (zaC sb) r1 r2]
    rw [e] at st
    refine ⟨hjl,nm,by omega,⟨by omega,by omega⟩,j+1,by omega,by omega,zaa _ _ _ (by simp),?_⟩
    first
     | exact ⟨st,by omega⟩
     | (refine ⟨?_,by omega⟩; simpa using st)
     | simp [st]
   .have e:j=L.length:=by omega
    subst e
    have hji:¬ (L.length:Int)<L.length:=by omega
    rw [ztt]
    simp [go_sem,hji]
    refine CallVC.of (cT) ?_
    simp [go_sem]
    refine ⟨⟨?_,by omega,by omega⟩,by simp [mat,zaQ (n+1) t h2 h3]⟩
    have:=zaG (L.map (canS n))
    simpa using this
end Go.Proofs.YthhdollpkieknaaGreat


namespace Go.Proofs.YthhdollpkieknaaGreat
open Go.Abs
mutual
inductive NX:AV->AV->Prop
 | same (c:AV):NX c c
 | nil:NX (.val (.slice none 0 0)) (.sl 0 [])
 | sl (n:Nat) {cs cs':List AV} (h:NXL cs cs'):NX (.sl n cs) (.sl n cs')
 | own (e:TypeId) (n:Nat) {cs cs':List AV} (h:NXL cs cs'):NX (.own e n cs) (.own e n cs')
inductive NXL:List AV->List AV->Prop
 | nil:NXL [] []
 | cons {c c':AV} {cs cs':List AV} (h:NX c c') (t:NXL cs cs'):NXL (c::cs) (c'::cs')
end
theorem NXL.same:∀ l:List AV,NXL l l
 | []=>.nil
 | c::l=>.cons (.same c) (NXL.same l)
theorem NXL.app {a b:List AV} (h:NXL a b):∀ {p q:List AV},NXL p q->NXL (p++a) (q++b)
 | _,_,.nil=>h
 | _,_,.cons k t=>.cons k (NXL.app h t)
theorem NXL.ne {a b:List AV} (h:NXL a b) (e:b=[]):a=[]:=by
 cases h with
 | nil=>rfl
 | cons=>simp at e
section
variable {P:Program} {w:World} {F:Nat->Prop}
mutual
theorem NX.rep {c c':AV} {v:Value} {os:List Nat} (h:NX c c') (hr:RepC P w F c v os):RepC P w F c' v os:=by
 cases h with
 | same=>exact hr
 | nil=>cases hr with
  | val _ _=>exact .sl0 none 0
 | sl n h=>cases hr with
  | sl0 base cap=>cases h; exact .sl0 base cap
  | sl b off n cap c e fr cs hF hb hl hn=>exact .sl b off n cap c e fr _ hF hb (NXL.rep h hl) hn
 | own e n h=>cases hr with
  | own0=>cases h; exact .own0 _
  | own b _ _ cap c _ os3 hb hn hc hl=>exact .own b _ _ cap c _ os3 hb hn hc (NXL.rep h hl)
theorem NXL.rep {cs cs':List AV} {vs:List Value} {os:List Nat} (h:NXL cs cs') (hr:RepL P w F cs vs os):RepL P w F cs' vs os:=by
 cases h with
 | nil=>exact hr
 | cons h t=>cases hr with
  | cons _ v os _ vs os' h1 h2=>exact .cons _ _ _ _ _ _ (NX.rep h h1) (NXL.rep t h2)
end
theorem NX.repT {tm:Nat->Value} {oss:Nat->List Nat} {c c':AV} {v:Value} {os:List Nat} (h:NX c c') (hr:RepT P w F tm oss c v os):RepT P w F tm oss c' v os:=by
 cases h with
 | same=>exact hr
 | nil=>cases hr with
  | cell _ _ _ hc=>exact .cell _ _ _ (NX.rep .nil hc)
 | sl n h=>cases hr with
  | cell _ _ _ hc=>exact .cell _ _ _ (NX.rep (.sl n h) hc)
 | own e n h=>cases hr with
  | cell _ _ _ hc=>exact .cell _ _ _ (NX.rep (.own e n h) hc)
theorem NXL.len {cs cs':List AV} (h:NXL cs cs'):cs'.length=cs.length:=by
 induction cs generalizing cs' with
 | nil=>cases h; rfl
 | cons c cs ih=>cases h with
  | cons h t=>rw [List.length_cons,List.length_cons,ih t]
theorem NXL.repT {tm:Nat->Value} {oss:Nat->List Nat} {cs cs':List AV} {vs:List Value} {os:List Nat} (h:NXL cs cs') (hr:RepTL P w F tm oss cs vs os):RepTL P w F tm oss cs' vs os:=by
 induction cs generalizing cs' vs os with
 | nil=>cases h; exact hr
 | cons c cs ih=>cases h with
  | cons h t=>cases hr with
   | cons _ v os _ vs os' h1 h2=>exact .cons _ _ _ _ _ _ (h.repT h1) (ih t h2)
end
theorem GCon.nx [DrawK] {P:Program} {f:FuncId} {args:List AV} {r r':AV} {outs:List AV} (hw:NX r r') (h:GCon P f args r outs):GCon P f args r' outs:=by
 refine ⟨h.1,fun w vs os F0 hl hn ho hF hr=>(h.2 w vs os F0 hl hn ho hF hr).mono ?_⟩
 rintro x w' ⟨v,orr,oo,F',h1,h2,h3,h4,h5,h6⟩
 exact ⟨v,orr,oo,F',h1,h2,h3,h4,fun tm oss=>hw.repT (h5 tm oss),h6⟩
theorem GCon.nxA [DrawK] {P:Program} {f:FuncId} {args:List AV} {cs cs':List AV} {outs:List AV} (hw:NXL cs cs') (h:GCon P f args (.agg cs) outs):GCon P f args (.agg cs') outs:=by
 refine ⟨h.1,fun w vs os F0 hl hn ho hF hr=>(h.2 w vs os F0 hl hn ho hF hr).mono ?_⟩
 rintro x w' ⟨v,orr,oo,F',h1,h2,h3,h4,h5,h6⟩
 refine ⟨v,orr,oo,F',h1,h2,h3,h4,fun tm oss=>?_,h6⟩
 have k:=h5 tm oss
 cases k with
 | cell _ _ _ hc=>cases hc
 | agg _ vs2 os2 hl2 hc=>exact .agg _ _ _ (by rw [hw.len]; exact hl2) (hw.repT hc)
theorem RCon.toG [DrawK] {P:Program} {f:FuncId} {args:List AV} {r:AV} {outs:List AV} (h:RCon P f args fun x o=>x=r/\o=outs):GCon P f args r outs:=by
 refine ⟨h.1,fun w vs os F0 hl hn ho hF hr=>(h.2 w vs os F0 hl hn ho hF hr).mono ?_⟩
 rintro x w' ⟨_,_,⟨rfl,rfl⟩,k⟩
 exact k
theorem GCon.nxL [DrawK] {P:Program} {f:FuncId} {args args':List AV} {r:AV} {outs:List AV} (hw:NXL args args') (h:GCon P f args' r outs):GCon P f args r outs :=
 ⟨h.1,fun w vs os F0 hl hn ho hF hr=>h.2 w vs os F0 (by rw [hw.len]; exact hl) hn ho hF fun tm oss=>hw.repT (hr tm oss)⟩
theorem GCon.frzR [DrawK] {P:Program} {f:FuncId} {args:List AV} {r r':AV} {outs:List AV} (h:GCon P f args r outs) (e:frz r=r'):GCon P f args r' outs:=by
 subst e
 refine ⟨h.1,fun w vs os F0 hl hn ho hF hr=>(h.2 w vs os F0 hl hn ho hF hr).mono ?_⟩
 rintro x w' ⟨v,orr,oo,F',h1,h2,h3,h4,h5,h6,h7,h8,h9⟩
 refine ⟨v,[],oo,fun b=>F' b\/b∈orr,h1,h2,fun b hb=>.inl (h3 b hb),fun b hb=>?_,fun tm oss=>(h5 tm oss).frz (fun b hb=>.inl hb) (fun b hb=>.inr hb),fun tm oss=>?_,h7,?_,fun b hb=>?_⟩
 .rcases hb with hb | hb
  .exact h4 b hb
  .have:=h9 b (.inl hb)
   exact .inr ⟨this.1,this.2.1⟩
 .have:=RepTL.kl (w':=w') (F':=fun b=>F' b\/b∈orr) (tm':=tm) (oss':=oss) [] (fun b hb=>.inl hb) (fun _ _ _ _ h=>h) (h6 tm oss) (fun _ _=>rfl)
  rwa [zc6] at this
 .exact (List.nodup_append.1 h8).2.1
 .have hb:b∈oo:=by simpa using hb
  obtain ⟨k1,k2,k3⟩:=h9 b (.inr hb)
  refine ⟨k1,k2,fun hf=>?_⟩
  rcases hf with hf | hf
  .exact k3 hf
  .exact (List.nodup_append.1 h8).2.2 b hf b hb rfl
end Go.Proofs.YthhdollpkieknaaGreat


namespace Go.Proofs.YthhdollpkieknaaGreat
open Go.Abs
def gokS (s:Spl):Bool:=(decide (s.1.length<=19) && s.1.all fun r=>decide (r.length<=100)) && (decide (s.2.1.length<=19) && s.2.1.all fun r=>decide (r.length<=100))
def cutL (t:List Int):List Spl:=gthS (srtS ((spl 6 t).map cntF))
theorem zsU:(trN 6).all (fun t=>decide ((spl 6 t).length<=1000) && (spl 6 t).all gokS)=true:=by kernel_rfl
theorem zqb:(trN 6).all (fun t=>decide ((cutL t).length<=100) && (cutL t).all fun s=>decide (s.1.length<=6) && (s.1.all (fun r=>decide (r.length<=6)) && (decide (s.2.1.length<=1) && (s.2.1.all (fun r=>decide (1<=r.length) && decide (r.length<=6)) && (decide (0<=s.2.2) && decide (s.2.2<=100))))))=true:=by kernel_rfl
theorem zrz {t:List Int} (h:t∈trN 6):(∀ s∈spl 6 t,(s.1.length<=19/\∀ r∈s.1,r.length<=100)/\(s.2.1.length<=19/\∀ r∈s.2.1,r.length<=100))/\(spl 6 t).length<=1000:=by
 have k:=List.all_eq_true.1 zsU t h
 simp only [Bool.and_eq_true,decide_eq_true_eq,List.all_eq_true,gokS] at k
 exact ⟨fun s hs=>k.2 s hs,k.1⟩
theorem zom {t:List Int} (h:t∈trN 6):(cutL t).length<=100/\∀ s∈cutL t,s.1.length<=6/\(∀ r∈s.1,r.length<=6)/\s.2.1.length<=1/\(∀ r∈s.2.1,1<=r.length/\r.length<=6)/\0<=s.2.2/\s.2.2<=100:=by
 have k:=List.all_eq_true.1 zqb t h
 simp only [Bool.and_eq_true,decide_eq_true_eq,List.all_eq_true] at k
 exact k
def tkL (s:Spl):List Int:=s.2.1.headD []
def cuX (s:Spl):List AV:=[.sl s.1.length (mat s.1),if s.2.1=[] then .val (.slice none 0 0) else .sl (tkL s).length (avs (tkL s)),.int s.2.2]
def cuF (s:Spl):List AV:=[.sl s.1.length (mat s.1),.sl (tkL s).length (avs (tkL s)),.int s.2.2]
theorem zvg:∀ L:List Spl,NXL (L.flatMap cuX) (L.flatMap cuF)
 | []=>.nil
 | s::L=>by
  rw [List.flatMap_cons,List.flatMap_cons]
  refine NXL.app (zvg L) (.cons (.same _) (.cons ?_ (.cons (.same _) .nil)))
  by_cases h:s.2.1=[]
  .rw [if_pos h]
   have e:tkL s=[]:=by unfold tkL; rw [h]; rfl
   rw [e]
   exact .nil
  .rw [if_neg h]; exact .same _
theorem zsH (X:List Spl):(X.flatMap cuX).length=X.length*3:=by
 induction X with
 | nil=>rfl
 | cons s X ih=>rw [List.flatMap_cons,List.length_append,ih]; simp [cuX]; omega
theorem zpf {t:List Int} (h:t∈trN 6):GCon Tryz.prog 161 [.sl t.length (avs t)] (.own 148 (cutL t).length ((cutL t).flatMap cuF)) [.any]:=by
 have cS:=ziD 6 t (List.all_eq_true.1 zn5 t h)
 have cG:=zl0 (spl 6 t) (zrz h).1 (zrz h).2
 obtain ⟨b1,b2⟩:=zom h
 refine GCon.nx (.own _ _ (zvg _)) ?_
 unfold cutL at *
 generalize spl 6 t=Z at *
 generalize gthS (srtS (Z.map cntF))=L at *
 refine zal Tryz.mixed ⟨7,[],[1000000+237,1000000+236],[]⟩ [] Tryz.func161 ?_
 rw [Tryz.ntmps161]
 simp [go_sem]
 refine ⟨_,_,cS,?_⟩
 simp [go_sem]
 refine ⟨_,_,cG,?_⟩
 simp [go_sem]
 refine zac (3::5::6::List.range' 12 23) (fun i:Nat=>[(3,.own 148 i ((L.take i).flatMap cuX)),(12,.int i)]) (fun i=>i<=L.length) (fun i=>L.length-i) 0 (by simp) (by simp [go_sem]) (by simp [go_sem]) ?_
 intro i hi
 by_cases hib:i<L.length
 .have hii:(i:Int)<L.length:=by omega
  have dr:=zey hib
  have nL:¬ L.flatMap spF=[]:=by intro e; have:=zaG L; rw [e] at this; simp at this; omega
  have hm:=memD ([],[],0) hib
  obtain ⟨c1,c2,c3,c4,c5,c6⟩:=b2 _ hm
  have tk:L.take (i+1)=L.take i++[L[i]?.getD ([],[],0)]:=by
   rw [List.take_succ_eq_append_getElem hib,List.getElem?_eq_getElem hib]; rfl
  have cl:=zsH (L.take i)
  rw [List.length_take,Nat.min_eq_left (by omega)] at cl
  have lL:=zaG L
  generalize L[i]?.getD ([],[],0)=s at *
  obtain ⟨a,b,k⟩:=s
  simp only [spF] at dr
  simp only at c1 c2 c3 c4 c5 c6
  generalize hC:(L.take i).flatMap cuX=C at *
  generalize hMC:L.flatMap spF=MC at *
  cases b with
  | nil =>
   simp [go_sem,hii,dr]
   refine ⟨⟨nL,by omega⟩,?_⟩
   refine ⟨⟨by rw [cl],by omega,by omega⟩,⟨by omega,by omega⟩,i+1,by omega,by omega,zaa _ _ _ (by simp),?_⟩
   rw [tk,List.flatMap_append,hC]
   refine ⟨⟨by omega,?_⟩,by omega⟩
   simp [cuX,tkL]
  | cons r b =>
   have e:b=[]:=List.length_eq_zero_iff.1 (by simpa using c3)
   subst e
   simp [go_sem,hii,dr,mat]
   refine ⟨⟨nL,by omega⟩,?_⟩
   refine ⟨⟨by rw [cl],by omega,by omega⟩,⟨by omega,by omega⟩,i+1,by omega,by omega,zaa _ _ _ (by simp),?_⟩
   rw [tk,List.flatMap_append,hC]
   refine ⟨⟨by omega,?_⟩,by omega⟩
   simp [cuX,tkL,mat]
 .have e:i=L.length:=by omega
  subst e
  have hii:¬ (L.length:Int)<L.length:=by omega
  rw [List.take_length]
  simp [go_sem,hii]
end Go.Proofs.YthhdollpkieknaaGreat


namespace Go.Proofs.YthhdollpkieknaaGreat
abbrev Mo:=Nat × List Nat
abbrev Py:=List Mo
def evm (r:Nat->Int):List Nat->Int
 | []=>1
 | v::m=>r v*evm r m
def evp (r:Nat->Int):Py->Int
 | []=>0
 | t::P=>(t.1:Int)*evm r t.2+evp r P
def insM (v:Nat):List Nat->List Nat
 | []=>[v]
 | w::m=>if Nat.ble v w then v::w::m else w::insM v m
def zls:List Nat->List Nat->List Nat
 | [],n=>n
 | v::m,n=>insM v (zls m n)
def cmM:List Nat->List Nat->Nat
 | [],[]=>1
 | [],_::_=>0
 | _::_,[]=>2
 | v::m,w::n=>if Nat.beq v w then cmM m n else if Nat.ble v w then 0 else 2
def addT (t:Mo):Py->Py
 | []=>[t]
 | u::P=>match cmM t.2 u.2 with
  | 0=>t::u::P
  | 1=>let c:=(t.1+u.1)%10007; if Nat.beq c 0 then P else (c,u.2)::P
  | _=>u::addT t P
def addP:Py->Py->Py
 | [],Q=>Q
 | t::P,Q=>addT t (addP P Q)
def mulT (t:Mo):Py->Py->Py
 | [],R=>R
 | u::P,R=>addT ((t.1*u.1)%10007,zls t.2 u.2) (mulT t P R)
def mulP:Py->Py->Py
 | [],_=>[]
 | t::P,Q=>mulT t Q (mulP P Q)
theorem zoV (r:Nat->Int) (v:Nat):∀ m,evm r (insM v m)=r v*evm r m
 | []=>rfl
 | w::m=>by
  unfold insM
  split
  .rfl
  .rw [evm,zoV r v m,evm,Int.mul_left_comm]
theorem zoH (r:Nat->Int):∀ m n,evm r (zls m n)=evm r m*evm r n
 | [],n=>by simp [zls,evm]
 | v::m,n=>by rw [zls,zoV,zoH r m n,evm,Int.mul_assoc]
theorem zrN:∀ {m n:List Nat},cmM m n=1->m=n
 | [],[],_=>rfl
 | [],_::_,h=>by simp [cmM] at h
 | _::_,[],h=>by simp [cmM] at h
 | v::m,w::n,h=>by
  unfold cmM at h
  by_cases e:Nat.beq v w=true
  .rw [if_pos e] at h
   rw [Nat.eq_of_beq_eq_true e,zrN h]
  .rw [if_neg e] at h
   split at h <;> simp at h
theorem zgM {a b c d:Int} (h:a%10007=b%10007) (k:c%10007=d%10007):(a+c)%10007=(b+d)%10007:=by omega
theorem zaH {a b c d:Int} (h:a%10007=b%10007) (k:c%10007=d%10007):(a*c)%10007=(b*d)%10007:=by
 rw [Int.mul_emod,h,k,<- Int.mul_emod]
theorem zgG (r:Nat->Int) (t:Mo):∀ P,evp r (addT t P)%10007=((t.1:Int)*evm r t.2+evp r P)%10007
 | []=>rfl
 | u::P=>by
  unfold addT
  split
  .rfl
  .rename_i h
   have e:=zrN h
   have h1:(((t.1+u.1)%10007:Nat):Int)*evm r u.2%10007=((t.1:Int)+u.1)*evm r u.2%10007:=by
    refine zaH ?_ rfl
    omega
   rw [Int.add_mul] at h1
   show evp r (if Nat.beq ((t.1+u.1)%10007) 0=true then P else ((t.1+u.1)%10007,u.2)::P)%10007=_
   rw [e,evp]
   split
   .rename_i h0
    have h0:=Nat.eq_of_beq_eq_true h0
    rw [h0] at h1
    simp only [Int.natCast_zero,Int.zero_mul] at h1
    omega
   .rw [evp]
    simp only
    omega
  .rw [evp,evp]
   have:=zgG r t P
   omega
theorem zg8 (r:Nat->Int):∀ P Q,evp r (addP P Q)%10007=(evp r P+evp r Q)%10007
 | [],Q=>by simp [addP,evp]
 | t::P,Q=>by
  rw [addP,zgG,evp]
  have:=zg8 r P Q
  omega
theorem zkW (r:Nat->Int) (t:Mo):∀ P R,evp r (mulT t P R)%10007=((t.1:Int)*evm r t.2*evp r P+evp r R)%10007
 | [],R=>by simp [mulT,evp]
 | u::P,R=>by
  rw [mulT,zgG,evp]
  have h:=zkW r t P R
  have h1:(((t.1*u.1)%10007:Nat):Int)*evm r (zls t.2 u.2)%10007=(t.1:Int)*evm r t.2*((u.1:Int)*evm r u.2)%10007:=by
   rw [zoH,show (t.1:Int)*evm r t.2*((u.1:Int)*evm r u.2)=((t.1:Int)*u.1)*(evm r t.2*evm r u.2) by ac_rfl]
   refine zaH ?_ rfl
   omega
  rw [Int.mul_add]
  generalize (t.1:Int)*evm r t.2*((u.1:Int)*evm r u.2)=A at *
  generalize (t.1:Int)*evm r t.2*evp r P=B at *
  simp only
  omega
theorem zcW (r:Nat->Int):∀ P Q,evp r (mulP P Q)%10007=(evp r P*evp r Q)%10007
 | [],Q=>by simp [mulP,evp]
 | t::P,Q=>by
  rw [mulP,zkW,evp,Int.add_mul]
  have:=zcW r P Q
  omega
end Go.Proofs.YthhdollpkieknaaGreat


namespace Go.Proofs.YthhdollpkieknaaGreat
def cutT:List (List (Nat × List Nat × Nat)):=[[(1,[],1),(1,[1],0)],
 [(1,[],2),(1,[1],1),(1,[2],0)],
 [(1,[],3),(1,[1],2),(1,[2],1),(1,[3],0)],
 [(1,[],4),(2,[1],2),(1,[1,1],1),(1,[4],0)],
 [(1,[],5),(1,[1],3),(1,[2],2),(1,[3],1),(1,[5],0)],
 [(1,[],6),(2,[1],3),(1,[1,1],2),(1,[4],1),(1,[6],0)],
 [(1,[],7),(1,[1],3),(1,[1],4),(1,[2],2),(1,[1,1],2),(1,[1,2],1),(1,[7],0)],
 [(1,[],8),(3,[1],4),(3,[1,1],2),(1,[1,1,1],1),(1,[8],0)],
 [(1,[],9),(1,[1],5),(1,[2],3),(1,[3],2),(1,[5],1),(1,[9],0)],
 [(1,[],10),(2,[1],5),(1,[1,1],3),(1,[4],2),(1,[6],1),(1,[10],0)],
 [(1,[],11),(1,[1],5),(1,[1],6),(1,[2],3),(1,[1,1],3),(1,[1,2],2),(1,[7],1),(1,[11],0)],
 [(1,[],12),(1,[1],5),(1,[1],7),(1,[2],4),(1,[1,1],3),(1,[3],2),(1,[1,2],2),(1,[1,3],1),(1,[12],0)],
 [(1,[],13),(3,[1],6),(3,[1,1],3),(1,[1,1,1],2),(1,[8],1),(1,[13],0)],
 [(1,[],14),(1,[1],6),(2,[1],7),(2,[1,1],3),(1,[1,1],4),(1,[4],2),(1,[1,1,1],2),(1,[1,4],1),(1,[14],0)],
 [(1,[],15),(2,[1],7),(2,[2],3),(1,[1,1],4),(2,[1,2],2),(1,[2,2],1),(1,[15],0)],
 [(1,[],16),(2,[1],7),(1,[1],8),(1,[2],4),(1,[1,1],3),(2,[1,1],4),(2,[1,2],2),(1,[1,1,1],2),(1,[1,1,2],1),(1,[16],0)],
 [(1,[],17),(4,[1],8),(6,[1,1],4),(4,[1,1,1],2),(1,[1,1,1,1],1),(1,[17],0)],
 [(1,[],18),(1,[1],9),(1,[2],5),(1,[3],3),(1,[5],2),(1,[9],1),(1,[18],0)],
 [(1,[],19),(2,[1],9),(1,[1,1],5),(1,[4],3),(1,[6],2),(1,[10],1),(1,[19],0)],
 [(1,[],20),(1,[1],9),(1,[1],10),(1,[2],5),(1,[1,1],5),(1,[1,2],3),(1,[7],2),(1,[11],1),(1,[20],0)],
 [(1,[],21),(1,[1],9),(1,[1],11),(1,[2],6),(1,[1,1],5),(1,[3],3),(1,[1,2],3),(1,[1,3],2),(1,[12],1),(1,[21],0)],
 [(1,[],22),(1,[1],9),(1,[1],12),(1,[2],7),(1,[1,1],5),(1,[3],4),(1,[1,2],3),(1,[5],2),(1,[1,3],2),(1,[1,5],1),(1,[22],0)],
 [(1,[],23),(3,[1],10),(3,[1,1],5),(1,[1,1,1],3),(1,[8],2),(1,[13],1),(1,[23],0)],
 [(1,[],24),(1,[1],10),(2,[1],11),(2,[1,1],5),(1,[1,1],6),(1,[4],3),(1,[1,1,1],3),(1,[1,4],2),(1,[14],1),(1,[24],0)],
 [(1,[],25),(1,[1],10),(2,[1],12),(2,[1,1],5),(1,[1,1],7),(1,[4],4),(1,[1,1,1],3),(1,[6],2),(1,[1,4],2),(1,[1,6],1),(1,[25],0)],
 [(1,[],26),(2,[1],11),(2,[2],5),(1,[1,1],6),(2,[1,2],3),(1,[2,2],2),(1,[15],1),(1,[26],0)],
 [(1,[],27),(2,[1],11),(1,[1],13),(1,[2],6),(1,[1,1],5),(2,[1,1],6),(2,[1,2],3),(1,[1,1,1],3),(1,[1,1,2],2),(1,[16],1),(1,[27],0)],
 [(1,[],28),(1,[1],11),(1,[1],12),(1,[1],14),(1,[2],7),(1,[1,1],5),(1,[1,1],6),(1,[1,1],7),(1,[1,2],3),(1,[1,2],4),(1,[1,1,1],3),(1,[7],2),(1,[1,1,2],2),(1,[1,7],1),(1,[28],0)],
 [(1,[],29),(1,[1],12),(1,[1],15),(1,[2],5),(1,[2],7),(1,[1,1],7),(1,[3],3),(1,[1,2],3),(1,[1,2],4),(1,[1,3],2),(1,[2,2],2),(1,[2,3],1),(1,[29],0)],
 [(1,[],30),(2,[1],12),(1,[1],16),(1,[2],8),(1,[1,1],5),(2,[1,1],7),(1,[3],4),(2,[1,2],4),(1,[1,1,1],3),(2,[1,3],2),(1,[1,1,2],2),(1,[1,1,3],1),(1,[30],0)],
 [(1,[],31),(4,[1],13),(6,[1,1],6),(4,[1,1,1],3),(1,[1,1,1,1],2),(1,[17],1),(1,[31],0)],
 [(1,[],32),(1,[1],13),(3,[1],14),(3,[1,1],6),(3,[1,1],7),(3,[1,1,1],3),(1,[1,1,1],4),(1,[8],2),(1,[1,1,1,1],2),(1,[1,8],1),(1,[32],0)],
 [(1,[],33),(1,[1],14),(2,[1],15),(1,[2],6),(3,[1,1],7),(1,[4],3),(2,[1,2],3),(1,[1,1,1],4),(1,[1,4],2),(1,[1,1,2],2),(1,[2,4],1),(1,[33],0)],
 [(1,[],34),(2,[1],14),(2,[1],16),(1,[1,1],6),(4,[1,1],7),(1,[1,1],8),(1,[4],4),(2,[1,1,1],3),(2,[1,1,1],4),(2,[1,4],2),(1,[1,1,1,1],2),(1,[1,1,4],1),(1,[34],0)],
 [(1,[],35),(1,[1],15),(2,[1],16),(2,[2],7),(2,[1,1],7),(1,[1,1],8),(2,[1,2],3),(2,[1,2],4),(1,[1,1,1],4),(1,[2,2],2),(2,[1,1,2],2),(1,[1,2,2],1),(1,[35],0)],
 [(1,[],36),(3,[1],16),(1,[1],17),(1,[2],8),(3,[1,1],7),(3,[1,1],8),(3,[1,2],4),(1,[1,1,1],3),(3,[1,1,1],4),(3,[1,1,2],2),(1,[1,1,1,1],2),(1,[1,1,1,2],1),(1,[36],0)],
 [(1,[],37),(5,[1],17),(10,[1,1],8),(10,[1,1,1],4),(5,[1,1,1,1],2),(1,[1,1,1,1,1],1),(1,[37],0)]]
abbrev Ctp:=Nat × List Nat × Nat
def prI (A:Nat->Int):List Nat->Int
 | []=>1
 | v::m=>A v*prI A m
def rowI (A B:Nat->Int):List Ctp->Int
 | []=>0
 | c::L=>(c.1:Int)*(prI A c.2.1*B c.2.2)+rowI A B L
def zoI (A:Nat->Py):List Nat->Py
 | []=>[(1,[])]
 | v::m=>mulP (A v) (zoI A m)
def rowP (A B:Nat->Py):List Ctp->Py
 | []=>[]
 | c::L=>addP (mulP [(c.1,[])] (mulP (zoI A c.2.1) (B c.2.2))) (rowP A B L)
theorem ztL (r:Nat->Int):evp r [(1,[])]=1:=by simp [evp,evm]
theorem zwk (r:Nat->Int) (c:Nat):evp r [(c,[])]=c:=by simp [evp,evm]
theorem zwO (r:Nat->Int) (v:Nat):evp r [(1,[v])]=r v:=by simp [evp,evm]
theorem zlb (r:Nat->Int) {A:Nat->Py} {A':Nat->Int}:∀ m,(∀ v∈m,evp r (A v)%10007=A' v%10007)->evp r (zoI A m)%10007=prI A' m%10007
 | [],_=>by rw [zoI,ztL]; rfl
 | v::m,h=>by rw [zoI,zcW,prI]; exact zaH (h v (by simp)) (zlb r m fun w hw=>h w (by simp [hw]))
theorem zgx (r:Nat->Int) {A B:Nat->Py} {A' B':Nat->Int}:∀ L:List Ctp,(∀ c∈L,(∀ v∈c.2.1,evp r (A v)%10007=A' v%10007)/\evp r (B c.2.2)%10007=B' c.2.2%10007)->evp r (rowP A B L)%10007=rowI A' B' L%10007
 | [],_=>rfl
 | c::L,h=>by
  rw [rowP,zg8,rowI]
  refine zgM ?_ (zgx r L fun d hd=>h d (by simp [hd]))
  rw [zcW,zwk]
  refine zaH rfl ?_
  rw [zcW]
  exact zaH (zlb r _ (h c (by simp)).1) (h c (by simp)).2
def v0 (k i:Nat):Py:=[(1,[k+i])]
def iat (a:List Int) (i:Nat):Int:=a[i]?.getD 0
def N38 (a:List Int):Prop:=a.length=38/\∀ x∈a,0<=x/\x<10007
def Ch (a:List Int):Prop:=N38 a/\iat a 0=1
theorem N38.at {a:List Int} (h:N38 a) (i:Nat):0<=iat a i/\iat a i<10007:=by
 unfold iat
 by_cases e:i<a.length
 .rw [List.getElem?_eq_getElem e]; exact h.2 _ (List.getElem_mem e)
 .rw [List.getElem?_eq_none (by omega)]; simp
def mk38 (f:Nat->Int):List Int:=(List.range 38).map fun i=>f i%10007
theorem zuN (f:Nat->Int):N38 (mk38 f):=by
 refine ⟨by simp [mk38],fun x hx=>?_⟩
 obtain ⟨i,_,rfl⟩:=List.mem_map.1 hx
 exact ⟨Int.emod_nonneg _ (by decide),Int.emod_lt_of_pos _ (by decide)⟩
theorem ziU (f:Nat->Int) {i:Nat} (h:i<38):iat (mk38 f) i=f i%10007:=by
 unfold iat mk38
 rw [List.getElem?_map,List.getElem?_range h]; rfl
theorem zpk (f:Nat->Int) {i:Nat} (h:i<38):iat (mk38 f) i%10007=f i%10007:=by
 rw [ziU f h,Int.emod_emod_of_dvd _ (Int.dvd_refl _)]
end Go.Proofs.YthhdollpkieknaaGreat


namespace Go.Proofs.YthhdollpkieknaaGreat
def ndT:List Nat:=[0,1,2,3,3,4,4,4,4,5,5,5,5,5,5,5,5,5,6,6,6,6,6,6,6,6,6,6,6,6,6,6,6,6,6,6,6,6]
def nd (i:Nat):Nat:=ndT[i]?.getD 0
theorem znM (r:Nat->Int) (v:Nat):∀ n,evm r (List.replicate n v)=r v ^ n
 | 0=>by simp [evm]
 | n+1=>by rw [List.replicate_succ,evm,znM r v n,Int.pow_succ,Int.mul_comm]
end Go.Proofs.YthhdollpkieknaaGreat


namespace Go.Proofs.YthhdollpkieknaaGreat
end Go.Proofs.YthhdollpkieknaaGreat


namespace Go.Proofs.YthhdollpkieknaaGreat
def T1 (n:Nat) (g:List Int):Int:=g.foldl (fun (p:Int × Int) x=>(p.1+x*p.2,p.2+x ^ n)) (0,0) |>.1
def T2 (n:Nat) (g:List Int):Int:=g.foldl (fun (p:Int × Int) x=>(p.1+p.2*x ^ n,p.2+x)) (0,0) |>.1
end Go.Proofs.YthhdollpkieknaaGreat


namespace Go.Proofs.YthhdollpkieknaaGreat
open Go.Abs
def mapB (a:List Int):Bool:=decide (a.length=38) && zcz a
theorem zjv (a:List Int) (ha:a.length<=9223372036854775807):Con Tryz.prog 77 [.sl a.length (avs a)] (.bool (mapB a)):=by
 have cN:=zbl a ha
 unfold mapB
 by_cases h:a.length=38
 .have hi:(a.length:Int)=38:=by omega
  rw [decide_eq_true h]
  refine zab Tryz.mixed ⟨3,[],[],[]⟩ Tryz.func77 ?_
  rw [Tryz.ntmps77]
  simp [go_sem,hi]
  refine CallVC.of (cN) ?_
  simp [go_sem]
 .have hi:¬ (a.length:Int)=38:=by omega
  rw [decide_eq_false h]
  refine zab Tryz.mixed ⟨3,[],[],[]⟩ Tryz.func77 ?_
  rw [Tryz.ntmps77]
  simp [go_sem,hi]
end Go.Proofs.YthhdollpkieknaaGreat


namespace Go.Proofs.YthhdollpkieknaaGreat
open Go.Abs
def nvs (l:List Nat):List Int:=l.map fun (v:Nat)=>(v:Int)
theorem zhj (l:List Nat):(nvs l).length=l.length:=by simp [nvs]
theorem zuG {l:List Nat} {i:Nat} (h:i<l.length):(nvs l).getD i 0=((l[i]?.getD 0:Nat):Int):=by rw [List.getD_eq_getElem?_getD]; simp [nvs,h]
theorem N38.Ns {a:List Int} (h:N38 a):Ns a:=fun x hx=>by have:=h.2 x hx; exact ⟨this.1,by have:=this.2; omega⟩
theorem zkN {a:List Int} (h:mapB a=true):N38 a:=by
 unfold mapB at h
 simp only [Bool.and_eq_true,decide_eq_true_eq] at h
 have hn:=zcZ.1 h.2
 exact ⟨by omega,fun x hx=>by have:=hn x hx; exact ⟨this.1,by have:=this.2; omega⟩⟩
theorem N38.mapB {a:List Int} (h:N38 a):mapB a=true:=by
 unfold Go.Proofs.YthhdollpkieknaaGreat.mapB
 rw [h.1,zcZ.2 h.Ns]; rfl
theorem zav {a:List Int} {v:Nat} (h:v<a.length):(avs a).drop v=.int (iat a v)::avs (a.drop (v+1)):=by
 rw [zaj h,List.getD_eq_getElem?_getD]; rfl
def vlN (a:List Int) (l:List Nat):Int:=l.foldl (fun o v=>o*iat a v%10007) 1
theorem zgy (a:List Int) (l:List Nat) (v:Nat):vlN a (l++[v])=vlN a l*iat a v%10007:=by simp [vlN]
theorem zvr (a:List Int) (l:List Nat):isN (vlN a l):=by
 rcases List.eq_nil_or_concat l with rfl | ⟨h,x,rfl⟩
 .show isN 1; exact ⟨by decide,by decide⟩
 .rw [List.concat_eq_append,zgy]; exact zak _
theorem zhc (A:Nat->Int) (v:Nat):∀ l,prI A (l++[v])=prI A l*A v
 | []=>by simp [prI]
 | w::l=>by rw [List.cons_append,prI,zhc A v l,prI,Int.mul_assoc]
theorem zsK (a:List Int) (l:List Nat):vlN a l%10007=prI (iat a) l%10007:=by
 generalize hn:l.length=n
 induction n generalizing l with
 | zero=>rw [List.length_eq_zero_iff.1 hn]; rfl
 | succ n ih =>
  rcases List.eq_nil_or_concat l with rfl | ⟨h,x,rfl⟩
  .simp at hn
  .rw [List.concat_eq_append] at hn |-
   rw [zgy,zhc,Int.emod_emod_of_dvd _ (Int.dvd_refl _)]
   exact zaH (ih h (by simpa using hn)) rfl
theorem zmV (a:List Int) (l:List Nat) (ha:Ns a) (hal:a.length<=1048576) (hl:l.length<=100) (h:∀ v∈l,v<a.length) :
  Con Tryz.prog 186 [.sl a.length (avs a),.sl l.length (avs (nvs l))] (.int (vlN a l)):=by
 refine zab Tryz.mixed ⟨8,[],[],[]⟩ Tryz.func186 ?_
 rw [Tryz.ntmps186]
 simp [go_sem]
 refine zac (5::7::List.range' 10 12) (fun i:Nat=>[(5,.int (vlN a (l.take i))),(10,.int i)]) (fun i=>i<=l.length) (fun i=>l.length-i) 0 (by simp) (by simp [go_sem,vlN]) (by simp [go_sem]) ?_
 intro i hi
 by_cases hil:i<l.length
 .have hii:(i:Int)<l.length:=by omega
  have hm:=h _ (memD 0 hil)
  have tk:l.take (i+1)=l.take i++[l[i]?.getD 0]:=by
   rw [List.take_succ_eq_append_getElem hil,List.getElem?_eq_getElem hil]; rfl
  have hN:=zvr a (l.take i)
  have hv:isN (iat a (l[i]?.getD 0)):=ha.get _
  have cN:=zbF (vlN a (l.take i)*iat a (l[i]?.getD 0)) (zaK hN hv).1 (zaK hN hv).2
  have dr:=zaj (show i<(nvs l).length by rw [zhj]; exact hil)
  rw [zuG hil] at dr
  have nl:¬ nvs l=[]:=by intro e; have:=zhj l; rw [e] at this; simp at this; omega
  have ar:=zav hm
  have na:¬ a=[]:=by intro e; rw [e] at hm; simp at hm
  have e:=zgy a (l.take i) (l[i]?.getD 0)
  rw [<- tk] at e
  have fm:=zaK hN hv
  generalize l[i]?.getD 0=v at *
  generalize iat a v=x at *
  simp [go_sem,hii,dr,ar]
  refine ⟨nl,⟨hm,na⟩,⟨fm.1,fm.2⟩,?_⟩
  refine CallVC.of (cN) ?_
  simp [go_sem]
  refine ⟨⟨by omega,by omega⟩,i+1,by omega,by omega,zaa _ _ _ (by simp),?_⟩
  rw [e]
  exact ⟨rfl,by omega⟩
 .have e:i=l.length:=by omega
  subst e
  have hii:¬ (l.length:Int)<l.length:=by omega
  rw [List.take_length]
  simp [go_sem,hii]
def ctF (c:Ctp):List AV:=[.int c.1,.sl c.2.1.length (avs (nvs c.2.1)),.int c.2.2]
def fcF:List AV:=cutT.map fun r=>.sl r.length (r.flatMap ctF)
theorem zi9 (X:List Ctp):(X.flatMap ctF).length=X.length*3:=by
 induction X with
 | nil=>rfl
 | cons s X ih=>rw [List.flatMap_cons,List.length_append,ih]; simp [ctF]; omega
theorem zpt {L:List Ctp} {i:Nat} (h:i<L.length):(L.flatMap ctF).drop (i*3)=ctF (L[i]?.getD (0,[],0))++(L.drop (i+1)).flatMap ctF:=by
 have e1:((L.take i).flatMap ctF).length=i*3:=by rw [zi9,List.length_take,Nat.min_eq_left (by omega)]
 have e2:L.drop i=L[i]?.getD (0,[],0)::L.drop (i+1):=by rw [List.drop_eq_getElem_cons h]; simp [h]
 have e3:L.flatMap ctF=(L.take i).flatMap ctF++(L.drop i).flatMap ctF:=by rw [<- List.flatMap_append,List.take_append_drop]
 rw [e3,List.drop_append_of_le_length (by omega),e2,List.flatMap_cons,List.drop_eq_nil_of_le (by omega),List.nil_append]
theorem zeM (A B:Nat->Int) (c:Ctp):∀ L,rowI A B (L++[c])=rowI A B L+(c.1:Int)*(prI A c.2.1*B c.2.2)
 | []=>by simp [rowI]
 | d::L=>by rw [List.cons_append,rowI,zeM A B c L,rowI,Int.add_assoc]
end Go.Proofs.YthhdollpkieknaaGreat


namespace Go.Proofs.YthhdollpkieknaaGreat
open Go.Abs
def cp (s:Spl):List Int:=s.1.map fun c=>ixT (trN 6) c+1
def tp (s:Spl):Int:=if tkL s=[] then 0 else ixT (trN 6) (tkL s)+1
theorem zvl:(trN 6).map (fun t=>(cutL t).map fun s=>(s.2.2,cp s,tp s))=cutT.map fun r=>r.map fun c=>((c.1:Int),nvs c.2.1,(c.2.2:Int)):=by kernel_rfl
def crX (s:Spl) (j:Nat):AV:=if j=0 then .val (.slice none 0 0) else .own 3 j (avs ((cp s).take j))
def mcX (s:Spl):List AV:=[.int s.2.2,if s.1=[] then .val (.slice none 0 0) else .own 3 s.1.length (avs (cp s)),.int (tp s)]
def rwX (t:List Int):AV:=.own 151 (cutL t).length ((cutL t).flatMap mcX)
def fcX (i:Nat):AV:=if i=0 then .val (.slice none 0 0) else .own 144 i (((trN 6).take i).map rwX)
theorem za2 {α:Type} (F:α->List AV) (hF:∀ s,(F s).length=3) (X:List α):(X.flatMap F).length=X.length*3:=by
 induction X with
 | nil=>rfl
 | cons s X ih=>rw [List.flatMap_cons,List.length_append,ih,hF,List.length_cons]; omega
theorem zdO {α:Type} (F:α->List AV) (hF:∀ s,(F s).length=3) (d:α) {L:List α} {i:Nat} (h:i<L.length):(L.flatMap F).drop (i*3)=F (L[i]?.getD d)++(L.drop (i+1)).flatMap F:=by
 have e1:((L.take i).flatMap F).length=i*3:=by rw [za2 F hF,List.length_take,Nat.min_eq_left (by omega)]
 have e2:L.drop i=L[i]?.getD d::L.drop (i+1):=by rw [List.drop_eq_getElem_cons h]; simp [h]
 have e3:L.flatMap F=(L.take i).flatMap F++(L.drop i).flatMap F:=by rw [<- List.flatMap_append,List.take_append_drop]
 rw [e3,List.drop_append_of_le_length (by omega),e2,List.flatMap_cons,List.drop_eq_nil_of_le (by omega),List.nil_append]
theorem zlV:GCon Tryz.prog 71 [] (.agg [.sl 37 (mat (trN 6)),.own 144 37 ((trN 6).map rwX)]) []:=by
 have cT:=zhN 6 (by omega)
 have l6:=zbs
 have at6:=fun t h=>zjT (t:=t) h
 have e6:((6:Nat):Int)=6:=rfl
 rw [e6] at cT
 rw [l6] at cT
 refine RCon.toG ?_
 refine zbv Tryz.mixed ⟨10,[10,56],[1000000+161],[]⟩ [] Tryz.func71 ?_
 rw [Tryz.ntmps71]
 simp [go_sem]
 refine CallVC.of (cT) ?_
 simp [go_sem]
 refine zac (1::3::4::6::7::9::List.range' 15 52) (fun i:Nat=>[(1,.box 88 [.sl 37 (mat (trN 6)),fcX i]),(15,.int i)]) (fun i=>i<=37) (fun i=>37-i) 0 (by simp) (by simp [go_sem,fcX]) (by simp [go_sem,fcX]) ?_
 intro i hi
 by_cases hil:i<37
 .have hii:(i:Int)<37:=by omega
  have hl:i<(trN 6).length:=by omega
  have dm:=zar hl
  have hm:=memD [] hl
  have cC:=zpf hm
  obtain ⟨b1,b2⟩:=zom hm
  have nm:¬ trN 6=[]:=by intro e; rw [e] at l6; simp at l6
  have tki:(trN 6).take (i+1)=(trN 6).take i++[(trN 6)[i]?.getD []]:=by
   rw [List.take_succ_eq_append_getElem hl,List.getElem?_eq_getElem hl]; rfl
  have x1:fcX (i+1)=.own 144 (i+1) (((trN 6).take i).map rwX++[rwX ((trN 6)[i]?.getD [])]):=by
   unfold fcX
   rw [if_neg (by omega),tki,List.map_append]; rfl
  have hrw:rwX ((trN 6)[i]?.getD [])=.own 151 (cutL ((trN 6)[i]?.getD [])).length ((cutL ((trN 6)[i]?.getD [])).flatMap mcX):=rfl
  have lti:(((trN 6).take i).map rwX).length=i:=by rw [List.length_map,List.length_take]; omega
  by_cases i0:i=0
  .have x0:fcX i=.val (.slice none 0 0):=by unfold fcX; rw [if_pos i0]
   rw [x0]
   generalize (trN 6)[i]?.getD []=t at *
   generalize cutL t=L at *
   have xf:AV.own 144 1 [AV.own 151 L.length (L.flatMap mcX)]=fcX (i+1):=by rw [x1,<- hrw,i0]; simp
   simp [go_sem,hii,dm]
   refine ⟨nm,?_⟩
   refine ⟨_,_,cC,?_⟩
   simp [go_sem]
   refine zac (4::6::7::9::List.range' 23 37) (fun j:Nat=>[(4,.own 151 j ((L.take j).flatMap mcX)),(23,.int j)]) (fun j=>j<=L.length) (fun j=>L.length-j) 0 (by simp) (by simp [go_sem]) (by simp [go_sem]) ?_
   intro j hj
   by_cases hjl:j<L.length
   .have hji:(j:Int)<L.length:=by omega
    have dr:=zdO cuF (fun _=>rfl) ([],[],0) hjl
    have nL:¬ L.flatMap cuF=[]:=by intro e; have:=za2 cuF (fun _=>rfl) L; rw [e] at this; simp at this; omega
    have lL:=za2 cuF (fun _=>rfl) L
    have hms:=memD ([],[],0) hjl
    obtain ⟨c1,c2,c3,c4,c5,c6⟩:=b2 _ hms
    have tkj:L.take (j+1)=L.take j++[L[j]?.getD ([],[],0)]:=by
     rw [List.take_succ_eq_append_getElem hjl,List.getElem?_eq_getElem hjl]; rfl
    have clj:=za2 mcX (fun _=>rfl) (L.take j)
    rw [List.length_take,Nat.min_eq_left (by omega)] at clj
    generalize L[j]?.getD ([],[],0)=s at *
    obtain ⟨sa,sb,sc⟩:=s
    simp only [cuF] at dr
    simp only at c1 c2 c3 c4 c5 c6
    have tk1:(tkL (sa,sb,sc)).length<=6:=by
     unfold tkL
     cases sb with
     | nil=>simp
     | cons r b=>exact (c4 r (by simp)).2
    have hMX:mcX (sa,sb,sc)=[.int sc,if sa=[] then .val (.slice none 0 0) else .own 3 sa.length (avs (cp (sa,sb,sc))),.int (tp (sa,sb,sc))]:=rfl
    have htp:tp (sa,sb,sc)=if tkL (sa,sb,sc)=[] then 0 else ixT (trN 6) (tkL (sa,sb,sc))+1:=rfl
    have hcp:cp (sa,sb,sc)=sa.map fun c=>ixT (trN 6) c+1:=rfl
    have hcr:∀ k,crX (sa,sb,sc) k=if k=0 then .val (.slice none 0 0) else .own 3 k (avs ((cp (sa,sb,sc)).take k)):=fun k=>rfl
    have hcl:(cp (sa,sb,sc)).length=sa.length:=by rw [hcp,List.length_map]
    have cPt:=zeX (trN 6) 0 [] (tkL (sa,sb,sc)) (by omega) (fun r hr=>by have:=(at6 r hr).2.1; omega) (by omega)
    have btp:=zfr (trN 6) (tkL (sa,sb,sc))
    rw [l6] at cPt btp
    generalize tkL (sa,sb,sc)=tk at *
    generalize tp (sa,sb,sc)=tpv at *
    generalize hCP:cp (sa,sb,sc)=cps at *
    generalize hMC:L.flatMap cuF=MC at *
    generalize hC:(L.take j).flatMap mcX=C at *
    simp [go_sem,hji,dr]
    refine ⟨⟨nL,by omega⟩,?_⟩
    refine zac (7::9::List.range' 33 13) (fun k:Nat=>[(7,.box 151 [.int sc,crX (sa,sb,sc) k,.int 0]),(33,.int k)]) (fun k=>k<=sa.length) (fun k=>sa.length-k) 0 (by simp) (by simp [go_sem,crX]) (by simp [go_sem,crX]) ?_
    intro k hk
    by_cases hkl:k<sa.length
    .have hki:(k:Int)<sa.length:=by omega
     have dk:=zar hkl
     have hmk:=memD [] hkl
     have hk6:=c2 _ hmk
     have na:¬ sa=[]:=by rintro rfl; simp at hkl
     have cP:=zeX (trN 6) 0 [] (sa[k]?.getD []) (by omega) (fun r hr=>by have:=(at6 r hr).2.1; omega) (by omega)
     rw [l6] at cP
     have bp:=zfr (trN 6) (sa[k]?.getD [])
     rw [l6] at bp
     have tkk:cps.take (k+1)=cps.take k++[ixT (trN 6) (sa[k]?.getD [])+1]:=by
      rw [List.take_succ_eq_append_getElem (by omega)]
      congr 2
      subst hcp
      rw [List.getElem_map,List.getElem?_eq_getElem hkl]; rfl
     have lk:(cps.take k).length=k:=by rw [List.length_take]; omega
     have x1:crX (sa,sb,sc) (k+1)=.own 3 (k+1) (avs (cps.take k++[ixT (trN 6) (sa[k]?.getD [])+1])):=by rw [hcr,if_neg (by omega),tkk]
     generalize sa[k]?.getD []=r at *
     generalize ixT (trN 6) r+1=v at *
     by_cases k0:k=0
     .have x0:crX (sa,sb,sc) k=.val (.slice none 0 0):=by rw [hcr,if_pos k0]
      rw [x0]
      simp [go_sem,hki,dk]
      refine ⟨na,by kernel_rfl,?_⟩
      refine CallD.of (cP) ?_
      simp [go_sem]
      refine ⟨by kernel_rfl,?_⟩
      simp [go_sem]
      refine ⟨⟨by omega,by omega⟩,k+1,by omega,by omega,zaa _ _ _ (by simp),?_⟩
      rw [x1]
      subst k0
      exact ⟨by simp [avs],by omega⟩
     .have x0:crX (sa,sb,sc) k=.own 3 k (avs (cps.take k)):=by rw [hcr,if_neg k0]
      rw [x0]
      simp [go_sem,hki,dk]
      refine ⟨na,by kernel_rfl,?_⟩
      refine CallD.of (cP) ?_
      simp [go_sem]
      refine ⟨⟨by omega,by omega,by omega⟩,?_⟩
      refine ⟨by kernel_rfl,?_⟩
      simp [go_sem]
      refine ⟨⟨by omega,by omega⟩,k+1,by omega,by omega,zaa _ _ _ (by simp),?_⟩
      rw [x1,zaD]
      exact ⟨rfl,by omega⟩
    .have e:k=sa.length:=by omega
     subst e
     have hki:¬ (sa.length:Int)<sa.length:=by omega
     by_cases s0:sa=[]
     .have x0:crX (sa,sb,sc) sa.length=.val (.slice none 0 0):=by rw [hcr,if_pos (by rw [s0]; rfl)]
      rw [x0]
      rw [if_pos s0] at hMX
      by_cases ht:0<tk.length
      .have t0:¬ tk=[]:=by rintro rfl; simp at ht
       rw [if_neg t0] at htp
       simp [go_sem,hki,ht]
       refine CallVC.of (cPt) ?_
       simp [go_sem]
       refine ⟨⟨by rw [clj],by omega,by omega⟩,⟨by omega,by omega⟩,j+1,by omega,by omega,(Off.reset (by intro x hx; simp at hx |-; omega) (by simp) (by simp [go_sem,zaa])),?_⟩
       rw [tkj,List.flatMap_append,hC]
       refine ⟨⟨by omega,?_⟩,by omega⟩
       simp [hMX,htp]
      .have t0:tk=[]:=List.length_eq_zero_iff.1 (by omega)
       rw [if_pos t0] at htp
       simp [go_sem,hki,ht]
       refine ⟨⟨by rw [clj],by omega,by omega⟩,⟨by omega,by omega⟩,j+1,by omega,by omega,(Off.reset (by intro x hx; simp at hx |-; omega) (by simp) (by simp [go_sem,zaa])),?_⟩
       rw [tkj,List.flatMap_append,hC]
       refine ⟨⟨by omega,?_⟩,by omega⟩
       simp [hMX,htp]
     .have x0:crX (sa,sb,sc) sa.length=.own 3 sa.length (avs cps):=by
       rw [hcr,if_neg (by intro e; exact s0 (List.length_eq_zero_iff.1 e)),List.take_of_length_le (by omega)]
      rw [x0]
      rw [if_neg s0] at hMX
      by_cases ht:0<tk.length
      .have t0:¬ tk=[]:=by rintro rfl; simp at ht
       rw [if_neg t0] at htp
       simp [go_sem,hki,ht]
       refine CallVC.of (cPt) ?_
       simp [go_sem]
       refine ⟨⟨by rw [clj],by omega,by omega⟩,⟨by omega,by omega⟩,j+1,by omega,by omega,(Off.reset (by intro x hx; simp at hx |-; omega) (by simp) (by simp [go_sem,zaa])),?_⟩
       rw [tkj,List.flatMap_append,hC]
       refine ⟨⟨by omega,?_⟩,by omega⟩
       simp [hMX,htp]
      .have t0:tk=[]:=List.length_eq_zero_iff.1 (by omega)
       rw [if_pos t0] at htp
       simp [go_sem,hki,ht]
       refine ⟨⟨by rw [clj],by omega,by omega⟩,⟨by omega,by omega⟩,j+1,by omega,by omega,(Off.reset (by intro x hx; simp at hx |-; omega) (by simp) (by simp [go_sem,zaa])),?_⟩
       rw [tkj,List.flatMap_append,hC]
       refine ⟨⟨by omega,?_⟩,by omega⟩
       simp [hMX,htp]
   .have e:j=L.length:=by omega
    subst e
    have hji:¬ (L.length:Int)<L.length:=by omega
    rw [List.take_length]
    simp [go_sem,hji]
    exact ⟨⟨by omega,by omega⟩,i+1,by omega,by omega,(by repeat (first | exact zaa _ _ _ (by simp) | (refine Off.reset (by intro x hx; simp at hx |-; omega) (by simp) ?_; simp -failIfUnchanged [go_sem,zaa]))),xf,by omega⟩
  .have x0:fcX i=.own 144 i (((trN 6).take i).map rwX):=by unfold fcX; rw [if_neg i0]
   rw [x0]
   generalize (trN 6)[i]?.getD []=t at *
   generalize cutL t=L at *
   generalize ((trN 6).take i).map rwX=FR at *
   have xf:AV.own 144 (i+1) (FR++[AV.own 151 L.length (L.flatMap mcX)])=fcX (i+1):=by rw [x1,<- hrw]
   simp [go_sem,hii,dm]
   refine ⟨nm,?_⟩
   refine ⟨_,_,cC,?_⟩
   simp [go_sem]
   refine zac (4::6::7::9::List.range' 23 37) (fun j:Nat=>[(4,.own 151 j ((L.take j).flatMap mcX)),(23,.int j)]) (fun j=>j<=L.length) (fun j=>L.length-j) 0 (by simp) (by simp [go_sem]) (by simp [go_sem]) ?_
   intro j hj
   by_cases hjl:j<L.length
   .have hji:(j:Int)<L.length:=by omega
    have dr:=zdO cuF (fun _=>rfl) ([],[],0) hjl
    have nL:¬ L.flatMap cuF=[]:=by intro e; have:=za2 cuF (fun _=>rfl) L; rw [e] at this; simp at this; omega
    have lL:=za2 cuF (fun _=>rfl) L
    have hms:=memD ([],[],0) hjl
    obtain ⟨c1,c2,c3,c4,c5,c6⟩:=b2 _ hms
    have tkj:L.take (j+1)=L.take j++[L[j]?.getD ([],[],0)]:=by
     rw [List.take_succ_eq_append_getElem hjl,List.getElem?_eq_getElem hjl]; rfl
    have clj:=za2 mcX (fun _=>rfl) (L.take j)
    rw [List.length_take,Nat.min_eq_left (by omega)] at clj
    generalize L[j]?.getD ([],[],0)=s at *
    obtain ⟨sa,sb,sc⟩:=s
    simp only [cuF] at dr
    simp only at c1 c2 c3 c4 c5 c6
    have tk1:(tkL (sa,sb,sc)).length<=6:=by
     unfold tkL
     cases sb with
     | nil=>simp
     | cons r b=>exact (c4 r (by simp)).2
    have hMX:mcX (sa,sb,sc)=[.int sc,if sa=[] then .val (.slice none 0 0) else .own 3 sa.length (avs (cp (sa,sb,sc))),.int (tp (sa,sb,sc))]:=rfl
    have htp:tp (sa,sb,sc)=if tkL (sa,sb,sc)=[] then 0 else ixT (trN 6) (tkL (sa,sb,sc))+1:=rfl
    have hcp:cp (sa,sb,sc)=sa.map fun c=>ixT (trN 6) c+1:=rfl
    have hcr:∀ k,crX (sa,sb,sc) k=if k=0 then .val (.slice none 0 0) else .own 3 k (avs ((cp (sa,sb,sc)).take k)):=fun k=>rfl
    have hcl:(cp (sa,sb,sc)).length=sa.length:=by rw [hcp,List.length_map]
    have cPt:=zeX (trN 6) i (frzL FR) (tkL (sa,sb,sc)) (by omega) (fun r hr=>by have:=(at6 r hr).2.1; omega) (by omega)
    have btp:=zfr (trN 6) (tkL (sa,sb,sc))
    rw [l6] at cPt btp
    generalize tkL (sa,sb,sc)=tk at *
    generalize tp (sa,sb,sc)=tpv at *
    generalize hCP:cp (sa,sb,sc)=cps at *
    generalize hMC:L.flatMap cuF=MC at *
    generalize hC:(L.take j).flatMap mcX=C at *
    simp [go_sem,hji,dr]
    refine ⟨⟨nL,by omega⟩,?_⟩
    refine zac (7::9::List.range' 33 13) (fun k:Nat=>[(7,.box 151 [.int sc,crX (sa,sb,sc) k,.int 0]),(33,.int k)]) (fun k=>k<=sa.length) (fun k=>sa.length-k) 0 (by simp) (by simp [go_sem,crX]) (by simp [go_sem,crX]) ?_
    intro k hk
    by_cases hkl:k<sa.length
    .have hki:(k:Int)<sa.length:=by omega
     have dk:=zar hkl
     have hmk:=memD [] hkl
     have hk6:=c2 _ hmk
     have na:¬ sa=[]:=by rintro rfl; simp at hkl
     have cP:=zeX (trN 6) i (frzL FR) (sa[k]?.getD []) (by omega) (fun r hr=>by have:=(at6 r hr).2.1; omega) (by omega)
     rw [l6] at cP
     have bp:=zfr (trN 6) (sa[k]?.getD [])
     rw [l6] at bp
     have tkk:cps.take (k+1)=cps.take k++[ixT (trN 6) (sa[k]?.getD [])+1]:=by
      rw [List.take_succ_eq_append_getElem (by omega)]
      congr 2
      subst hcp
      rw [List.getElem_map,List.getElem?_eq_getElem hkl]; rfl
     have lk:(cps.take k).length=k:=by rw [List.length_take]; omega
     have x1:crX (sa,sb,sc) (k+1)=.own 3 (k+1) (avs (cps.take k++[ixT (trN 6) (sa[k]?.getD [])+1])):=by rw [hcr,if_neg (by omega),tkk]
     generalize sa[k]?.getD []=r at *
     generalize ixT (trN 6) r+1=v at *
     by_cases k0:k=0
     .have x0:crX (sa,sb,sc) k=.val (.slice none 0 0):=by rw [hcr,if_pos k0]
      rw [x0]
      simp [go_sem,hki,dk]
      refine ⟨na,by kernel_rfl,?_⟩
      refine CallD.of (cP) ?_
      simp [go_sem]
      refine ⟨by kernel_rfl,?_⟩
      simp [go_sem]
      refine ⟨⟨by omega,by omega⟩,k+1,by omega,by omega,zaa _ _ _ (by simp),?_⟩
      rw [x1]
      subst k0
      exact ⟨by simp [avs],by omega⟩
     .have x0:crX (sa,sb,sc) k=.own 3 k (avs (cps.take k)):=by rw [hcr,if_neg k0]
      rw [x0]
      simp [go_sem,hki,dk]
      refine ⟨na,by kernel_rfl,?_⟩
      refine CallD.of (cP) ?_
      simp [go_sem]
      refine ⟨⟨by omega,by omega,by omega⟩,?_⟩
      refine ⟨by kernel_rfl,?_⟩
      simp [go_sem]
      refine ⟨⟨by omega,by omega⟩,k+1,by omega,by omega,zaa _ _ _ (by simp),?_⟩
      rw [x1,zaD]
      exact ⟨rfl,by omega⟩
    .have e:k=sa.length:=by omega
     subst e
     have hki:¬ (sa.length:Int)<sa.length:=by omega
     by_cases s0:sa=[]
     .have x0:crX (sa,sb,sc) sa.length=.val (.slice none 0 0):=by rw [hcr,if_pos (by rw [s0]; rfl)]
      rw [x0]
      rw [if_pos s0] at hMX
      by_cases ht:0<tk.length
      .have t0:¬ tk=[]:=by rintro rfl; simp at ht
       rw [if_neg t0] at htp
       simp [go_sem,hki,ht]
       refine CallVC.of (cPt) ?_
       simp [go_sem]
       refine ⟨⟨by rw [clj],by omega,by omega⟩,⟨by omega,by omega⟩,j+1,by omega,by omega,(Off.reset (by intro x hx; simp at hx |-; omega) (by simp) (by simp [go_sem,zaa])),?_⟩
       rw [tkj,List.flatMap_append,hC]
       refine ⟨⟨by omega,?_⟩,by omega⟩
       simp [hMX,htp]
      .have t0:tk=[]:=List.length_eq_zero_iff.1 (by omega)
       rw [if_pos t0] at htp
       simp [go_sem,hki,ht]
       refine ⟨⟨by rw [clj],by omega,by omega⟩,⟨by omega,by omega⟩,j+1,by omega,by omega,(Off.reset (by intro x hx; simp at hx |-; omega) (by simp) (by simp [go_sem,zaa])),?_⟩
       rw [tkj,List.flatMap_append,hC]
       refine ⟨⟨by omega,?_⟩,by omega⟩
       simp [hMX,htp]
     .have x0:crX (sa,sb,sc) sa.length=.own 3 sa.length (avs cps):=by
       rw [hcr,if_neg (by intro e; exact s0 (List.length_eq_zero_iff.1 e)),List.take_of_length_le (by omega)]
      rw [x0]
      rw [if_neg s0] at hMX
      by_cases ht:0<tk.length
      .have t0:¬ tk=[]:=by rintro rfl; simp at ht
       rw [if_neg t0] at htp
       simp [go_sem,hki,ht]
       refine CallVC.of (cPt) ?_
       simp [go_sem]
       refine ⟨⟨by rw [clj],by omega,by omega⟩,⟨by omega,by omega⟩,j+1,by omega,by omega,(Off.reset (by intro x hx; simp at hx |-; omega) (by simp) (by simp [go_sem,zaa])),?_⟩
       rw [tkj,List.flatMap_append,hC]
       refine ⟨⟨by omega,?_⟩,by omega⟩
       simp [hMX,htp]
      .have t0:tk=[]:=List.length_eq_zero_iff.1 (by omega)
       rw [if_pos t0] at htp
       simp [go_sem,hki,ht]
       refine ⟨⟨by rw [clj],by omega,by omega⟩,⟨by omega,by omega⟩,j+1,by omega,by omega,(Off.reset (by intro x hx; simp at hx |-; omega) (by simp) (by simp [go_sem,zaa])),?_⟩
       rw [tkj,List.flatMap_append,hC]
       refine ⟨⟨by omega,?_⟩,by omega⟩
       simp [hMX,htp]
   .have e:j=L.length:=by omega
    subst e
    have hji:¬ (L.length:Int)<L.length:=by omega
    rw [List.take_length]
    simp [go_sem,hji]
    exact ⟨⟨by omega,by omega,by omega⟩,⟨by omega,by omega⟩,i+1,by omega,by omega,(by repeat (first | exact zaa _ _ _ (by simp) | (refine Off.reset (by intro x hx; simp at hx |-; omega) (by simp) ?_; simp -failIfUnchanged [go_sem,zaa]))),xf,by omega⟩
 .have e:i=37:=by omega
  subst e
  have x:fcX 37=.own 144 37 ((trN 6).map rwX):=by
   unfold fcX
   rw [if_neg (by omega),List.take_of_length_le (by omega)]
  rw [x]
  simp [go_sem]
def trG (row:List (Int × List Int × Int)):AV:=.sl row.length (row.flatMap fun x=>[.int x.1,.sl x.2.1.length (avs x.2.1),.int x.2.2])
theorem ziZ:∀ a b:List AV,frzL (a++b)=frzL a++frzL b
 | [],b=>rfl
 | c::a,b=>by rw [List.cons_append,frzL,ziZ a b,frzL]; rfl
theorem zrw:∀ L:List Spl,NXL (frzL (L.flatMap mcX)) ((L.map fun s=>(s.2.2,cp s,tp s)).flatMap fun x=>[.int x.1,.sl x.2.1.length (avs x.2.1),.int x.2.2])
 | []=>.nil
 | s::L=>by
  rw [List.map_cons,List.flatMap_cons,List.flatMap_cons,ziZ]
  refine NXL.app (zrw L) ?_
  by_cases h:s.1=[]
  .have e:mcX s=[.int s.2.2,.val (.slice none 0 0),.int (tp s)]:=by unfold mcX; rw [if_pos h]
   have e2:cp s=[]:=by unfold cp; rw [h]; rfl
   rw [e,e2]
   exact .cons (.same _) (.cons .nil (.cons (.same _) .nil))
  .have e:mcX s=[.int s.2.2,.own 3 s.1.length (avs (cp s)),.int (tp s)]:=by unfold mcX; rw [if_neg h]
   have e2:(cp s).length=s.1.length:=by simp [cp]
   rw [e]
   show NXL [.int s.2.2,.sl s.1.length (frzL (avs (cp s))),.int (tp s)] [.int s.2.2,.sl (cp s).length (avs (cp s)),.int (tp s)]
   rw [zgu,e2]
   exact NXL.same _
theorem zrY:∀ T:List (List Int),NXL (frzL (T.map rwX)) (T.map fun t=>trG ((cutL t).map fun s=>(s.2.2,cp s,tp s)))
 | []=>.nil
 | t::T=>by
  rw [List.map_cons,List.map_cons]
  refine .cons ?_ (zrY T)
  show NX (.sl (cutL t).length (frzL ((cutL t).flatMap mcX))) (trG _)
  unfold trG
  rw [List.length_map]
  exact .sl _ (zrw _)
theorem zsV:((trN 6).map fun t=>trG ((cutL t).map fun s=>(s.2.2,cp s,tp s)))=fcF:=by
 have e:=congrArg (List.map trG) zvl
 rw [List.map_map,List.map_map] at e
 refine (Eq.trans ?_ e).trans ?_
 .rfl
 .unfold fcF
  refine List.map_congr_left fun r _=>?_
  show trG (r.map _)=_
  unfold trG
  rw [List.length_map,List.flatMap_map]
  show AV.sl r.length (r.flatMap fun c=>[.int c.1,.sl (nvs c.2.1).length (avs (nvs c.2.1)),.int c.2.2])=_
  simp only [zhj]
  rfl
theorem zlp:GCon Tryz.prog 71 [] (.agg [.sl 37 (mat (trN 6)),.sl 37 fcF]) []:=by
 refine GCon.nxA (.cons (.same _) (.cons (.sl 37 ?_) .nil)) (GCon.frzR zlV rfl)
 rw [<- zsV]
 exact zrY _
end Go.Proofs.YthhdollpkieknaaGreat


namespace Go.Proofs.YthhdollpkieknaaGreat
def vb (k i:Nat):Py:=if Nat.beq i 0 then [] else [(1,[k+i])]
theorem zrJ {r:Nat->Int} {k:Nat} {A:Nat->Int} (h0:A 0%10007=0) (h:∀ i,i<38->r (k+i)=A i) {i:Nat} (hi:i<38):evp r (vb k i)%10007=A i%10007:=by
 unfold vb
 split
 .rename_i e
  rw [Nat.eq_of_beq_eq_true e,h0]; rfl
 .rw [zwO,h i hi]
def Inf (b:List Int):Prop:=N38 b/\iat b 0=0
end Go.Proofs.YthhdollpkieknaaGreat


namespace Go.Proofs.YthhdollpkieknaaGreat
def parT:List (List (Nat × List Nat × Nat)):=[[(1,[1],1)],
 [(1,[2],1),(1,[1,1],2)],
 [(1,[3],1),(2,[1,2],2),(1,[1,1,1],3)],
 [(1,[4],1),(2,[1,2],2),(1,[1,1,1],4)],
 [(1,[5],1),(2,[1,3],2),(1,[2,2],2),(3,[1,1,2],3),(1,[1,1,1,1],5)],
 [(1,[6],1),(2,[1,3],2),(1,[1,4],2),(2,[1,1,2],3),(1,[1,1,2],4),(1,[1,1,1,1],6)],
 [(1,[7],1),(1,[1,3],2),(1,[1,4],2),(1,[2,2],2),(1,[1,1,2],3),(2,[1,1,2],4),(1,[1,1,1,1],7)],
 [(1,[8],1),(3,[1,4],2),(3,[1,1,2],4),(1,[1,1,1,1],8)],
 [(1,[9],1),(2,[1,5],2),(2,[2,3],2),(3,[1,1,3],3),(3,[1,2,2],3),(4,[1,1,1,2],5),(1,[1,1,1,1,1],9)],
 [(1,[10],1),(2,[1,5],2),(1,[1,6],2),(1,[2,4],2),(2,[1,1,3],3),(1,[1,1,4],3),(2,[1,2,2],3),(1,[1,1,3],4),(2,[1,1,1,2],5),(2,[1,1,1,2],6),(1,[1,1,1,1,1],10)],
 [(1,[11],1),(1,[1,5],2),(1,[1,6],2),(1,[1,7],2),(1,[2,3],2),(2,[1,1,3],3),(1,[1,1,4],3),(1,[1,2,2],3),(1,[1,1,3],4),(1,[1,2,2],4),(1,[1,1,1,2],5),(2,[1,1,1,2],6),(1,[1,1,1,2],7),(1,[1,1,1,1,1],11)],
 [(1,[12],1),(1,[1,5],2),(1,[1,7],2),(1,[2,3],2),(1,[2,4],2),(1,[1,1,4],3),(2,[1,2,2],3),(2,[1,1,3],4),(1,[1,2,2],4),(1,[1,1,1,2],5),(3,[1,1,1,2],7),(1,[1,1,1,1,1],12)],
 [(1,[13],1),(3,[1,6],2),(1,[1,8],2),(3,[1,1,4],3),(3,[1,1,3],4),(3,[1,1,1,2],6),(1,[1,1,1,2],8),(1,[1,1,1,1,1],13)],
 [(1,[14],1),(1,[1,6],2),(2,[1,7],2),(1,[2,4],2),(2,[1,2,2],3),(2,[1,1,3],4),(2,[1,1,4],4),(1,[1,1,1,2],6),(2,[1,1,1,2],7),(1,[1,1,1,2],8),(1,[1,1,1,1,1],14)],
 [(1,[15],1),(2,[1,7],2),(2,[2,3],2),(2,[1,1,3],3),(1,[1,1,4],4),(3,[1,2,2],4),(4,[1,1,1,2],7),(1,[1,1,1,1,1],15)],
 [(1,[16],1),(2,[1,7],2),(1,[1,8],2),(1,[2,4],2),(1,[1,1,4],3),(1,[1,1,3],4),(2,[1,1,4],4),(2,[1,2,2],4),(2,[1,1,1,2],7),(2,[1,1,1,2],8),(1,[1,1,1,1,1],16)],
 [(1,[17],1),(4,[1,8],2),(6,[1,1,4],4),(4,[1,1,1,2],8),(1,[1,1,1,1,1],17)],
 [(1,[18],1),(2,[1,9],2),(2,[2,5],2),(1,[3,3],2),(3,[1,1,5],3),(6,[1,2,3],3),(1,[2,2,2],3),(4,[1,1,1,3],5),(6,[1,1,2,2],5),(5,[1,1,1,1,2],9),(1,[1,1,1,1,1,1],18)],
 [(1,[19],1),(2,[1,9],2),(1,[1,10],2),(1,[2,6],2),(1,[3,4],2),(2,[1,1,5],3),(1,[1,1,6],3),(4,[1,2,3],3),(2,[1,2,4],3),(1,[1,1,5],4),(2,[1,1,1,3],5),(1,[1,1,1,4],5),(4,[1,1,2,2],5),(2,[1,1,1,3],6),(1,[1,1,2,2],6),(2,[1,1,1,1,2],9),(3,[1,1,1,1,2],10),(1,[1,1,1,1,1,1],19)],
 [(1,[20],1),(1,[1,9],2),(1,[1,10],2),(1,[1,11],2),(1,[2,5],2),(1,[2,7],2),(2,[1,1,5],3),(1,[1,1,6],3),(1,[1,1,7],3),(2,[1,2,3],3),(1,[1,2,4],3),(1,[2,2,2],3),(1,[1,1,5],4),(1,[1,2,3],4),(2,[1,1,1,3],5),(1,[1,1,1,4],5),(2,[1,1,2,2],5),(1,[1,1,1,3],6),(3,[1,1,2,2],6),(1,[1,1,1,3],7),(1,[1,1,1,1,2],9),(2,[1,1,1,1,2],10),(2,[1,1,1,1,2],11),(1,[1,1,1,1,1,1],20)],
 [(1,[21],1),(1,[1,9],2),(1,[1,11],2),(1,[1,12],2),(1,[2,6],2),(1,[3,3],2),(1,[1,1,5],3),(1,[1,1,6],3),(1,[1,1,7],3),(3,[1,2,3],3),(1,[1,2,4],3),(1,[1,1,5],4),(2,[1,2,3],4),(1,[1,1,1,3],5),(1,[1,1,1,4],5),(2,[1,1,2,2],5),(2,[1,1,1,3],6),(1,[1,1,2,2],6),(1,[1,1,1,3],7),(2,[1,1,2,2],7),(1,[1,1,1,1,2],9),(3,[1,1,1,1,2],11),(1,[1,1,1,1,2],12),(1,[1,1,1,1,1,1],21)],
 [(1,[22],1),(1,[1,9],2),(1,[1,12],2),(1,[2,5],2),(1,[2,7],2),(1,[3,4],2),(1,[1,1,7],3),(2,[1,2,3],3),(2,[1,2,4],3),(1,[2,2,2],3),(2,[1,1,5],4),(2,[1,2,3],4),(1,[1,1,1,4],5),(3,[1,1,2,2],5),(3,[1,1,1,3],7),(3,[1,1,2,2],7),(1,[1,1,1,1,2],9),(4,[1,1,1,1,2],12),(1,[1,1,1,1,1,1],22)],
 [(1,[23],1),(3,[1,10],2),(1,[1,13],2),(1,[2,8],2),(3,[1,1,6],3),(1,[1,1,8],3),(3,[1,2,4],3),(3,[1,1,5],4),(3,[1,1,1,4],5),(3,[1,1,1,3],6),(3,[1,1,2,2],6),(1,[1,1,1,3],8),(3,[1,1,1,1,2],10),(2,[1,1,1,1,2],13),(1,[1,1,1,1,1,1],23)],
 [(1,[24],1),(1,[1,10],2),(2,[1,11],2),(1,[1,14],2),(1,[3,4],2),(1,[1,1,6],3),(2,[1,1,7],3),(2,[1,2,3],3),(1,[1,2,4],3),(2,[1,1,5],4),(1,[1,1,6],4),(1,[1,2,4],4),(2,[1,1,2,2],5),(3,[1,1,1,3],6),(2,[1,1,1,4],6),(2,[1,1,2,2],7),(1,[1,1,1,3],8),(1,[1,1,1,1,2],10),(2,[1,1,1,1,2],11),(1,[1,1,1,1,2],13),(1,[1,1,1,1,2],14),(1,[1,1,1,1,1,1],24)],
 [(1,[25],1),(1,[1,10],2),(2,[1,12],2),(1,[2,6],2),(1,[4,4],2),(2,[1,2,3],3),(3,[1,2,4],3),(2,[1,1,5],4),(1,[1,1,6],4),(1,[1,1,7],4),(1,[1,2,4],4),(2,[1,1,2,2],5),(1,[1,1,1,4],6),(1,[1,1,2,2],6),(2,[1,1,1,3],7),(1,[1,1,1,4],7),(2,[1,1,2,2],7),(1,[1,1,1,3],8),(1,[1,1,1,1,2],10),(2,[1,1,1,1,2],12),(2,[1,1,1,1,2],14),(1,[1,1,1,1,1,1],25)],
 [(1,[26],1),(2,[1,11],2),(1,[1,15],2),(2,[2,5],2),(2,[1,1,5],3),(2,[1,1,7],3),(2,[1,2,3],3),(1,[1,1,6],4),(2,[1,2,3],4),(1,[2,2,2],4),(2,[1,1,1,3],5),(1,[1,1,1,4],6),(3,[1,1,2,2],6),(2,[1,1,1,3],7),(2,[1,1,2,2],7),(4,[1,1,1,1,2],11),(1,[1,1,1,1,2],15),(1,[1,1,1,1,1,1],26)],
 [(1,[27],1),(2,[1,11],2),(1,[1,13],2),(1,[1,16],2),(1,[2,6],2),(1,[1,1,6],3),(2,[1,1,7],3),(1,[1,1,8],3),(1,[1,2,4],3),(1,[1,1,5],4),(2,[1,1,6],4),(2,[1,2,3],4),(1,[1,1,1,4],5),(1,[1,1,1,3],6),(2,[1,1,1,4],6),(2,[1,1,2,2],6),(2,[1,1,1,3],7),(1,[1,1,1,3],8),(1,[1,1,2,2],8),(2,[1,1,1,1,2],11),(2,[1,1,1,1,2],13),(1,[1,1,1,1,2],16),(1,[1,1,1,1,1,1],27)],
 [(1,[28],1),(1,[1,11],2),(1,[1,12],2),(1,[1,14],2),(2,[2,7],2),(1,[1,1,7],3),(1,[1,2,3],3),(1,[1,2,4],3),(1,[2,2,2],3),(1,[1,1,5],4),(1,[1,1,6],4),(2,[1,1,7],4),(1,[1,2,3],4),(1,[1,2,4],4),(1,[1,1,2,2],5),(2,[1,1,2,2],6),(2,[1,1,1,3],7),(2,[1,1,1,4],7),(1,[1,1,2,2],7),(1,[1,1,1,3],8),(1,[1,1,2,2],8),(1,[1,1,1,1,2],11),(1,[1,1,1,1,2],12),(2,[1,1,1,1,2],14),(1,[1,1,1,1,2],16),(1,[1,1,1,1,1,1],28)],
 [(1,[29],1),(1,[1,12],2),(1,[1,15],2),(1,[2,5],2),(1,[2,7],2),(1,[3,3],2),(1,[1,1,5],3),(1,[1,1,7],3),(2,[1,2,3],3),(1,[1,1,7],4),(3,[1,2,3],4),(1,[1,2,4],4),(1,[2,2,2],4),(1,[1,1,1,3],5),(2,[1,1,1,3],7),(1,[1,1,1,4],7),(6,[1,1,2,2],7),(2,[1,1,1,1,2],12),(3,[1,1,1,1,2],15),(1,[1,1,1,1,1,1],29)],
 [(1,[30],1),(2,[1,12],2),(1,[1,16],2),(1,[2,8],2),(1,[3,4],2),(1,[1,1,8],3),(2,[1,2,4],3),(1,[1,1,5],4),(2,[1,1,7],4),(2,[1,2,3],4),(2,[1,2,4],4),(1,[1,1,1,4],5),(2,[1,1,1,4],7),(4,[1,1,2,2],7),(2,[1,1,1,3],8),(1,[1,1,2,2],8),(2,[1,1,1,1,2],12),(3,[1,1,1,1,2],16),(1,[1,1,1,1,1,1],30)],
 [(1,[31],1),(4,[1,13],2),(1,[1,17],2),(4,[1,1,8],3),(6,[1,1,6],4),(6,[1,1,1,4],6),(4,[1,1,1,3],8),(4,[1,1,1,1,2],13),(1,[1,1,1,1,2],17),(1,[1,1,1,1,1,1],31)],
 [(1,[32],1),(1,[1,13],2),(3,[1,14],2),(1,[2,8],2),(3,[1,2,4],3),(3,[1,1,6],4),(3,[1,1,7],4),(1,[1,1,8],4),(3,[1,1,2,2],6),(3,[1,1,1,4],7),(3,[1,1,1,3],8),(1,[1,1,1,4],8),(1,[1,1,1,1,2],13),(3,[1,1,1,1,2],14),(1,[1,1,1,1,2],17),(1,[1,1,1,1,1,1],32)],
 [(1,[33],1),(1,[1,14],2),(2,[1,15],2),(1,[2,6],2),(1,[3,4],2),(1,[1,1,6],3),(2,[1,2,3],3),(3,[1,1,7],4),(2,[1,2,3],4),(2,[1,2,4],4),(1,[1,1,1,3],6),(2,[1,1,1,3],7),(1,[1,1,1,4],7),(4,[1,1,2,2],7),(1,[1,1,1,4],8),(1,[1,1,2,2],8),(2,[1,1,1,1,2],14),(2,[1,1,1,1,2],15),(1,[1,1,1,1,2],16),(1,[1,1,1,1,1,1],33)],
 [(1,[34],1),(2,[1,14],2),(2,[1,16],2),(1,[4,4],2),(2,[1,2,4],3),(1,[1,1,6],4),(4,[1,1,7],4),(1,[1,1,8],4),(2,[1,2,4],4),(1,[1,1,1,4],6),(4,[1,1,2,2],7),(2,[1,1,1,3],8),(3,[1,1,1,4],8),(2,[1,1,1,1,2],14),(2,[1,1,1,1,2],16),(1,[1,1,1,1,2],17),(1,[1,1,1,1,1,1],34)],
 [(1,[35],1),(1,[1,15],2),(2,[1,16],2),(2,[2,7],2),(2,[1,1,7],3),(2,[1,1,7],4),(1,[1,1,8],4),(2,[1,2,3],4),(2,[1,2,4],4),(1,[2,2,2],4),(2,[1,1,1,3],7),(2,[1,1,1,4],7),(2,[1,1,2,2],7),(1,[1,1,1,4],8),(3,[1,1,2,2],8),(1,[1,1,1,1,2],15),(4,[1,1,1,1,2],16),(1,[1,1,1,1,1,1],35)],
 [(1,[36],1),(3,[1,16],2),(1,[1,17],2),(1,[2,8],2),(1,[1,1,8],3),(3,[1,1,7],4),(3,[1,1,8],4),(3,[1,2,4],4),(3,[1,1,1,4],7),(1,[1,1,1,3],8),(3,[1,1,1,4],8),(3,[1,1,2,2],8),(3,[1,1,1,1,2],16),(2,[1,1,1,1,2],17),(1,[1,1,1,1,1,1],36)],
 [(1,[37],1),(5,[1,17],2),(10,[1,1,8],4),(10,[1,1,1,4],8),(5,[1,1,1,1,2],17),(1,[1,1,1,1,1,1],37)]]
def ptR (i:Nat):List Ctp:=parT[i-1]?.getD []
def sbI (B A:Nat->Int) (i:Nat):Int:=if i=0 then A 0 else rowI B A (ptR i)
def sbP (B A:Nat->Py) (i:Nat):Py:=if Nat.beq i 0 then A 0 else rowP B A (ptR i)
theorem zkr {i:Nat} (hi:i<38):∀ c∈ptR i,(∀ v∈c.2.1,v<38)/\c.2.2<38:=by
 have ok:(List.range 38).all (fun i=>(ptR i).all fun c=>c.2.1.all (fun v=>decide (v<38)) && decide (c.2.2<38))=true:=by decide +kernel
 intro c hc
 have h:=List.all_eq_true.1 (List.all_eq_true.1 ok i (List.mem_range.2 hi)) c hc
 simp only [Bool.and_eq_true,List.all_eq_true,decide_eq_true_eq] at h
 exact h
theorem zu4 (r:Nat->Int) {A B:Nat->Py} {A' B':Nat->Int} (h:∀ v,v<38->evp r (A v)%10007=A' v%10007) (k:∀ v,v<38->evp r (B v)%10007=B' v%10007) {i:Nat} (hi:i<38):evp r (sbP A B i)%10007=sbI A' B' i%10007:=by
 unfold sbP sbI
 by_cases e:i=0
 .subst e; exact k 0 (by omega)
 .rw [if_neg e,if_neg (by intro x; exact e (Nat.eq_of_beq_eq_true x))]
  exact zgx r _ fun c hc=>⟨fun v hv=>h v ((zkr hi c hc).1 v hv),k _ (zkr hi c hc).2⟩
def sbS (b a:List Int):List Int:=mk38 (sbI (iat b) (iat a))
theorem zfF (b a:List Int):N38 (sbS b a):=zuN _
theorem ztI (b a:List Int) {i:Nat} (hi:i<38):iat (sbS b a) i%10007=sbI (iat b) (iat a) i%10007:=zpk _ hi
end Go.Proofs.YthhdollpkieknaaGreat


namespace Go.Proofs.YthhdollpkieknaaGreat
open Go.Abs Go.Shelf Go.Sort
def bitB (m i:Nat):Bool:=Nat.beq (m / 2 ^ i%2) 1
def parK (t:List Int) (l:Int):Nat->Int
 | 0 => -1
 | k+1=>if t[k]?.getD 0=l-1 then (k:Int) else parK t l k
def parL (t:List Int):List Int:=(List.range t.length).map fun i=>parK t (t[i]?.getD 0) i
structure CuS where
 near:List (List Int)
 top:List Int
 tops:List Int
 btw:List (Int × Int)
def zhe (J:List (List Int)) (p i:Nat):List (List Int):=(J.set p (J[p]?.getD []++[(i:Int)])).set i (J[i]?.getD []++[(p:Int)])
def zjO (P:List Int) (m:Nat) (S:CuS) (i:Nat):CuS :=
 if P[i]?.getD 0<0\/bitB m i=true then
  ⟨S.near,S.top.set i S.tops.length,S.tops++[(i:Int)],if 0<=P[i]?.getD 0 then S.btw++[((S.top.set i S.tops.length)[(P[i]?.getD 0).toNat]?.getD 0,(S.tops.length:Int))] else S.btw⟩
 else ⟨zhe S.near (P[i]?.getD 0).toNat i,S.top.set i (S.top[(P[i]?.getD 0).toNat]?.getD 0),S.tops,S.btw⟩
def cuN (t:List Int) (m i:Nat):CuS:=(List.range i).foldl (zjO (parL t) m) ⟨List.replicate t.length [],List.replicate t.length 0,[],[]⟩
theorem zkh (t:List Int) (m i:Nat):cuN t m (i+1)=zjO (parL t) m (cuN t m i) i:=by simp [cuN,List.range_succ]
def jnN (B:List (Int × Int)) (n j:Nat):List (List Int):=(B.take j).foldl (fun J e=>zhe J e.1.toNat e.2.toNat) (List.replicate n [])
def tfF:Nat->List (List Int)->Int->Int->List Int
 | 0,_,_,_=>[]
 | n+1,J,r,f=>canF 7 (zaC (((J[r.toNat]?.getD []).filter fun x=>decide (x≠f)).map fun x=>tfF n J x r))
def cuR (t:List Int) (m:Nat):List (List Int) × List Int × Int :=
 let S:=cuN t m t.length
 (srtT (S.tops.map fun i=>tfF 7 S.near i (-1)),tfF 7 (jnN S.btw S.tops.length S.btw.length) 0 (-1),1)
def prtL (t:List Int):List (List (List Int) × List Int × Int):=(List.range (2 ^ (t.length-1))).map fun k=>cuR t (2*k)
abbrev Prt:=List (List Int) × List Int × Int
def zbG (s r:Prt):Int:=if cmpT s.2.1 r.2.1=0 then zaT s.1 r.1 else cmpT s.2.1 r.2.1
theorem linPa:LinC (fun p q:List Int × List (List Int)=>if cmpT p.1 q.1=0 then zaT p.2 q.2 else cmpT p.1 q.1):=linT.pair linFs
def zcv (s:Prt):List Int × List (List Int):=(s.2.1,s.1)
theorem zu3:SWO (Go.Proofs.ltOf zbG):=linPa.swo zcv
theorem paT2 {a b d:Prt} (h1:zbG a b<0) (h2:zbG b d<0):zbG a d<0:=linPa.trans (zcv a) (zcv b) (zcv d) h1 h2
theorem paI2 (a:Prt):¬ zbG a a<0:=by
 have:zbG a a=0:=linPa.self (zcv a)
 omega
theorem paZ2 {a b:Prt}:zbG a b=0 ↔ zcv a=zcv b:=linPa.zero (zcv a) (zcv b)
theorem zwZ {a b:Prt}:zbG a b<0 ↔ 0<zbG b a:=linPa.anti (zcv a) (zcv b)
def ziQ (p:Prt):List Prt->List Prt
 | []=>[p]
 | s::S=>if zbG p s<0 then p::s::S else s::ziQ p S
def zef:List Prt->List Prt
 | []=>[]
 | s::S=>ziQ s (zef S)
theorem zdS (p:Prt):∀ S,(ziQ p S).Perm (p::S)
 | []=>.refl _
 | s::S=>by
  rw [ziQ]; split
  .exact .refl _
  .exact ((zdS p S).cons s).trans (.swap _ _ _)
theorem zb0:∀ S,(zef S).Perm S
 | []=>.refl _
 | s::S=>(zdS s _).trans ((zb0 S).cons s)
theorem zo0 (S:List Prt):(zef S).length=S.length:=(zb0 S).length_eq
theorem zh3 (p:Prt):∀ S:List Prt,S.Pairwise (fun x y=>¬ zbG y x<0)->(ziQ p S).Pairwise (fun x y=>¬ zbG y x<0)
 | [],_=>by simp [ziQ]
 | s::S,h=>by
  obtain ⟨h1,h2⟩:=List.pairwise_cons.1 h
  rw [ziQ]; split
  .rename_i hl
   refine .cons (fun y hy=>?_) h
   rcases List.mem_cons.1 hy with e | hy
   .rw [e]; intro hc; exact paI2 p (paT2 hl hc)
   .intro hc; exact h1 y hy (paT2 hc hl)
  .rename_i hl
   refine .cons (fun y hy=>?_) (zh3 p S h2)
   rcases List.mem_cons.1 ((zdS p S).mem_iff.1 hy) with e | hy
   .rw [e]; exact hl
   .exact h1 y hy
theorem zhp:∀ S:List Prt,(zef S).Pairwise (fun x y=>¬ zbG y x<0)
 | []=>.nil
 | s::S=>zh3 s _ (zhp S)
theorem zhV {ys X:List Prt} (hp:ys.Perm X) (h1:∀ s∈X,s.2.2=1) (hy:ys.Pairwise (fun x y=>¬ zbG y x<0)):ys=zef X :=
 (hp.trans (zb0 X).symm).eq_of_pairwise (fun a b ha hb k1 k2=>by
  have e1:=h1 a (hp.mem_iff.1 ha)
  have e2:=h1 b ((zb0 X).mem_iff.1 hb)
  have z:zbG a b=0:=by
   have k3:¬ 0<zbG a b:=fun x=>k1 (zwZ.2 x)
   omega
  have k:=paZ2.1 z
  obtain ⟨a1,a2,a3⟩:=a
  obtain ⟨b1,b2,b3⟩:=b
  simp only [zcv,Prod.mk.injEq] at k e1 e2
  rw [k.1,k.2,e1,e2]) hy (zhp X)
def zcU (out:List Prt) (s:Prt):List Prt:=match out.getLast? with
 | some l=>if zbG l s=0 then out.set (out.length-1) (l.1,l.2.1,l.2.2+1) else out++[s]
 | none=>[s]
def zbP (L:List Prt):List Prt:=L.foldl zcU []
theorem zf3 (L:List Prt) (s:Prt):zbP (L++[s])=zcU (zbP L) s:=by simp [zbP]
theorem zlf (out:List Prt) (s:Prt):(zcU out s).length<=out.length+1:=by
 unfold zcU
 split
 .split <;> simp
 .simp
theorem zoO (L:List Prt):(zbP L).length<=L.length/\(∀ l∈zbP L,∃ s∈L,zcv l=zcv s)/\((∀ s∈L,s.2.2=1)->∀ l∈zbP L,0<=l.2.2/\l.2.2<=L.length):=by
 refine zb9 (P:=fun L=>(zbP L).length<=L.length/\(∀ l∈zbP L,∃ s∈L,zcv l=zcv s)/\((∀ s∈L,s.2.2=1)->∀ l∈zbP L,0<=l.2.2/\l.2.2<=L.length)) ⟨by simp [zbP],by simp [zbP],by simp [zbP]⟩ (fun L s ih=>?_) L
 obtain ⟨i1,i2,i3⟩:=ih
 rw [zf3]
 have hl:=zlf (zbP L) s
 refine ⟨by rw [List.length_append,List.length_singleton]; omega,fun l hm=>?_,fun h1 l hm=>?_⟩
 .unfold zcU at hm
  split at hm
  .rename_i l0 hl0
   split at hm
   .rcases List.mem_or_eq_of_mem_set hm with hm | e
    .obtain ⟨t,t1,t2⟩:=i2 l hm
     exact ⟨t,by simp [t1],t2⟩
    .obtain ⟨t,t1,t2⟩:=i2 l0 (List.mem_of_getLast? hl0)
     exact ⟨t,by simp [t1],by rw [e,<- t2]; rfl⟩
   .rcases List.mem_append.1 hm with hm | hm
    .obtain ⟨t,t1,t2⟩:=i2 l hm
     exact ⟨t,by simp [t1],t2⟩
    .rw [List.mem_singleton] at hm
     exact ⟨s,by simp,by rw [hm]⟩
  .rw [List.mem_singleton] at hm
   exact ⟨s,by simp,by rw [hm]⟩
 .have j3:=i3 (fun t ht=>h1 t (by simp [ht]))
  have hs:=h1 s (by simp)
  rw [List.length_append,List.length_singleton]
  unfold zcU at hm
  split at hm
  .rename_i l0 hl0
   split at hm
   .rcases List.mem_or_eq_of_mem_set hm with hm | e
    .have:=j3 l hm; omega
    .have:=j3 l0 (List.mem_of_getLast? hl0)
     rw [e]; simp only; omega
   .rcases List.mem_append.1 hm with hm | hm
    .have:=j3 l hm; omega
    .rw [List.mem_singleton] at hm; rw [hm]; omega
  .rw [List.mem_singleton] at hm; rw [hm]; omega
def parP (t:List Int):List Prt:=zbP (zef (prtL t))
def pcP (s:Prt):List Int:=s.1.map fun c=>ixT (trN 6) c+1
def skP (s:Prt):Int:=ixT (trN 6) s.2.1+1
theorem zuJ:(trN 6).map (fun t=>(parP t).map fun s=>(s.2.2,pcP s,skP s))=parT.map fun r=>r.map fun c=>((c.1:Int),nvs c.2.1,(c.2.2:Int)):=by decide +kernel
def tfS (n:Nat) (J:List (List Int)) (r f:Int):List (List Int):=((J[r.toNat]?.getD []).filter fun x=>decide (x≠f)).map fun x=>tfF n J x r
theorem zjQ (n:Nat) (J:List (List Int)) (r f:Int):tfF (n+1) J r f=canF 7 (zaC (tfS n J r f)):=rfl
def tfOk:Nat->List (List Int)->Int->Int->Bool
 | 0,_,_,_=>false
 | n+1,J,r,f=>(decide (0<=r) && decide (r<J.length)) && ((decide ((J[r.toNat]?.getD []).length<=10) && (J[r.toNat]?.getD []).all fun x=>decide (x=f) || tfOk n J x r) &&
   (((tfS n J r f).all fun b=>decide (b.length<=100) && b.all fun x=>decide (0<=x) && decide (x<=100)) && (lvC (zaC (tfS n J r f)) && decide ((zaC (tfS n J r f)).length<=7))))
def rwB (J:List (List Int)) (n:Nat):Bool:=decide (J.length=n) && J.all fun r=>decide (r.length<=10)
def cuB (t:List Int) (m:Nat):Bool :=
 ((List.range t.length).all fun i=>decide (-1<=(parL t)[i]?.getD 0) && decide ((parL t)[i]?.getD 0<i)) &&
 (((List.range (t.length+1)).all fun i=>rwB (cuN t m i).near t.length && (decide ((cuN t m i).top.length=t.length) && (decide ((cuN t m i).tops.length<=i) && decide ((cuN t m i).btw.length<=i)))) &&
 (((cuN t m t.length).tops.all fun i=>tfOk 7 (cuN t m t.length).near i (-1) && decide ((tfF 7 (cuN t m t.length).near i (-1)).length<=100)) &&
 (((cuN t m t.length).btw.all fun e=>(decide (0<=e.1) && decide (e.1<(cuN t m t.length).tops.length)) && ((decide (0<=e.2) && decide (e.2<(cuN t m t.length).tops.length)) && decide (e.1≠e.2))) &&
 (((List.range ((cuN t m t.length).btw.length+1)).all fun j=>rwB (jnN (cuN t m t.length).btw (cuN t m t.length).tops.length j) (cuN t m t.length).tops.length) &&
 (tfOk 7 (jnN (cuN t m t.length).btw (cuN t m t.length).tops.length (cuN t m t.length).btw.length) 0 (-1))))))
theorem zti:(trN 6).all (fun t=>(List.range (2 ^ (t.length-1))).all fun k=>cuB t (2*k))=true:=by decide +kernel
theorem zso:(trN 6).all (fun t=>((prtL t).all fun s=>(decide (s.1.length<=6) && s.1.all fun r=>decide (r.length<=6)) && decide (s.2.1.length<=6)) && decide ((parP t).length<=100))=true:=by decide +kernel
end Go.Proofs.YthhdollpkieknaaGreat


namespace Go.Proofs.YthhdollpkieknaaGreat
open Go.Abs
theorem zgJ (t:List Int) (l:Int):∀ k,-1<=parK t l k/\parK t l k<k
 | 0=>by simp [parK]
 | k+1=>by
  have:=zgJ t l k
  unfold parK
  split <;> omega
theorem zeC (t:List Int):(parL t).length=t.length:=by simp [parL]
theorem znF {t:List Int} {i:Nat} (h:i<t.length):(parL t).take (i+1)=(parL t).take i++[parK t (t[i]?.getD 0) i]:=by
 rw [List.take_succ_eq_append_getElem (by rw [zeC]; exact h)]
 simp [parL]
theorem ziG (t:List Int) (hl:t.length<=1000) (hb:∀ x∈t,0<=x/\x<=1000):Con Tryz.prog 290 [.sl t.length (avs t)] (.own 3 t.length (avs (parL t))):=by
 have tk:=fun i h=>znF (t:=t) (i:=i) h
 have ta:(parL t).take t.length=parL t:=List.take_of_length_le (by rw [zeC]; exact Nat.le_refl _)
 have lL:=zeC t
 generalize parL t=L at *
 refine zab Tryz.mixed ⟨7,[],[],[]⟩ Tryz.func290 ?_
 rw [Tryz.ntmps290]
 simp [go_sem]
 refine zac (List.range' 3 4++List.range' 10 25) (fun i:Nat=>[(3,.own 3 i (avs (L.take i))),(10,.int i)]) (fun i=>i<=t.length) (fun i=>t.length-i) 0 (by simp) (by simp [go_sem]) (by simp [go_sem]) ?_
 intro i hi
 by_cases hil:i<t.length
 .have hii:(i:Int)<t.length:=by omega
  have dr:=zav hil
  have t1:=tk i hil
  have bx:=hb _ (memD 0 hil)
  have eI:iat t i=t[i]?.getD 0:=rfl
  have ng:¬ t=[]:=by rintro rfl; simp at hil
  rw [eI] at dr
  generalize hl0:t[i]?.getD 0=l at *
  simp [go_sem,hii,dr]
  refine ⟨ng,⟨by omega,by omega⟩,?_⟩
  refine zac (6::List.range' 17 13) (fun k:Nat=>[(6,.int ((k:Int)-1))]) (fun k=>k<=i/\parK t l i=parK t l k) (fun k=>k) i ⟨Nat.le_refl _,rfl⟩ (by simp [go_sem]) (by simp [go_sem]) ?_
  rintro k ⟨h1,h2⟩
  cases k with
  | zero =>
   have e:parK t l 0 = -1:=rfl
   rw [h2,e] at t1
   simp [go_sem]
   refine ⟨⟨by omega,by omega,by omega⟩,⟨by omega,by omega⟩,i+1,by omega,by omega,(Off.reset (by intro x hx; simp at hx |-; omega) (by simp) (by simp [go_sem,zaa])),?_⟩
   rw [t1,zaD]
   exact ⟨⟨rfl,rfl⟩,by omega⟩
  | succ k =>
   have dk:=zav (a:=t) (v:=k) (by omega)
   have eK:iat t k=t[k]?.getD 0:=rfl
   rw [eK] at dk
   have bk:=hb _ (memD 0 (show k<t.length by omega))
   have e1:((k+1:Nat):Int)-1=k:=by omega
   rw [e1]
   rw [show parK t l (k+1)=if t[k]?.getD 0=l-1 then (k:Int) else parK t l k from rfl] at h2
   generalize t[k]?.getD 0=x at *
   by_cases hx:x=l-1
   .rw [if_pos hx] at h2
    rw [h2] at t1
    simp [go_sem,dk,hx]
    refine ⟨⟨by omega,ng⟩,⟨by omega,by omega⟩,⟨by omega,by omega,by omega⟩,⟨by omega,by omega⟩,i+1,by omega,by omega,(Off.reset (by intro x hx; simp at hx |-; omega) (by simp) (by simp [go_sem,zaa])),?_⟩
    rw [t1,zaD]
    exact ⟨⟨rfl,rfl⟩,by omega⟩
   .rw [if_neg hx] at h2
    simp [go_sem,dk,hx]
    refine ⟨⟨by omega,ng⟩,⟨by omega,by omega⟩,⟨by omega,by omega⟩,k,⟨by omega,h2⟩,by omega,zaa _ _ _ (by simp),?_⟩
    rfl
 .have e:i=t.length:=by omega
  subst e
  have hii:¬ (t.length:Int)<t.length:=by omega
  rw [ta]
  simp [go_sem,hii]
theorem zm7 {n:Nat} {J:List (List Int)} {r f:Int} (h:tfOk (n+1) J r f=true):(0<=r/\r<J.length)/\((J[r.toNat]?.getD []).length<=10/\∀ x∈J[r.toNat]?.getD [],x=f\/tfOk n J x r=true)/\(∀ b∈tfS n J r f,b.length<=100/\∀ x∈b,0<=x/\x<=100)/\Lv (zaC (tfS n J r f))/\(zaC (tfS n J r f)).length<=7:=by
 rw [tfOk] at h
 simp only [Bool.and_eq_true,Bool.or_eq_true,decide_eq_true_eq,List.all_eq_true] at h
 exact ⟨h.1,h.2.1,h.2.2.1,zkw h.2.2.2.1,h.2.2.2.2⟩
def tfL (n:Nat) (J:List (List Int)) (r f:Int) (l:List Int):List (List Int):=(l.filter fun x=>decide (x≠f)).map fun x=>tfF n J x r
theorem zq9 (n:Nat) (J:List (List Int)) (r f x:Int) (l:List Int):tfL n J r f (l++[x])=tfL n J r f l++if x=f then [] else [tfF n J x r]:=by
 unfold tfL
 rw [List.filter_append,List.map_append]
 by_cases h:x=f <;> simp [h]
theorem zm3 (n:Nat) (J:List (List Int)) (r f:Int) (l:List Int):(tfL n J r f l).length<=l.length:=by
 unfold tfL
 rw [List.length_map]
 exact List.length_filter_le _ _
theorem zf8:∀ (n:Nat) (J:List (List Int)) (r f:Int),tfOk n J r f=true->Con Tryz.prog 291 [.sl J.length (mat J),.int r,.int f] (.own 2 (tfF n J r f).length (avs (tfF n J r f)))
 | 0,J,r,f,h=>by simp [tfOk] at h
 | n+1,J,r,f,h=>by
  obtain ⟨h1,⟨h2,h3⟩,h4,h5,h6⟩:=zm7 h
  obtain ⟨k,rfl⟩:∃ k:Nat,r=k:=⟨r.toNat,by omega⟩
  rw [Int.toNat_natCast] at h2 h3
  have ih:=fun x hx=>zf8 n J x k hx
  have hk:k<J.length:=by omega
  have dm:=zar hk
  have hT:tfS n J k f=tfL n J k f (J[k]?.getD []):=by unfold tfS tfL; rw [Int.toNat_natCast]
  have cR:=zeA (tfS n J k f) (by rw [hT]; have:=zm3 n J k f (J[k]?.getD []); omega) (fun b hb=>⟨by have:=(h4 b hb).1; omega,fun x hx=>by have:=(h4 b hb).2 x hx; omega⟩)
  have cC:=zbg 7 (zaC (tfS n J k f)) (by omega) h5 h6
  have eL:(tfF (n+1) J k f).length=(zaC (tfS n J k f)).length:=by rw [zjQ,zaQ 7 _ h5 h6]
  rw [eL,zjQ]
  generalize zaC (tfS n J k f)=RT at *
  generalize canF 7 RT=CT at *
  rw [hT] at h4 cR
  generalize hrow:J[k]?.getD []=R at *
  have sn:=zq9 n J k f
  have lb:=zm3 n J k f
  have b0:tfL n J k f []=[]:=rfl
  clear hT h4
  generalize tfL n J k f=TL at *
  have o0:omat ([]:List (List Int))=[]:=rfl
  refine zab Tryz.mixed ⟨10,[],[],[]⟩ Tryz.func291 ?_
  rw [Tryz.ntmps291]
  simp [go_sem]
  have nJ:¬ J=[]:=by rintro rfl; simp at hk
  simp [go_sem,dm]
  refine ⟨⟨hk,nJ⟩,?_⟩
  refine zac (7::9::List.range' 16 15) (fun i:Nat=>[(7,.own 25 (TL (R.take i)).length (omat (TL (R.take i)))),(16,.int i)]) (fun i=>i<=R.length) (fun i=>R.length-i) 0 (by simp) (by simp [go_sem,b0,o0]) (by simp [go_sem]) ?_
  intro i hi
  by_cases hil:i<R.length
  .have hii:(i:Int)<R.length:=by omega
   have dr:=zav hil
   have hx:=h3 (iat R i) (memD 0 hil)
   have nR:¬ R=[]:=by rintro rfl; simp at hil
   have tk:R.take (i+1)=R.take i++[iat R i]:=by
    rw [List.take_succ_eq_append_getElem hil]
    unfold iat
    rw [List.getElem?_eq_getElem hil]; rfl
   have s1:=sn (iat R i) (R.take i)
   have b1:=lb (R.take i)
   have bt:(R.take i).length<=10:=by rw [List.length_take]; omega
   rw [<- tk] at s1
   have lB:(TL (R.take i)).length<=10:=by omega
   generalize TL (R.take i)=B at *
   generalize iat R i=x at *
   by_cases e:x=f
   .rw [if_pos e,List.append_nil] at s1
    simp [go_sem,hii,dr,e]
    refine ⟨nR,⟨by omega,by omega⟩,i+1,by omega,by omega,zaa _ _ _ (by simp),?_⟩
    rw [s1]
    exact ⟨⟨rfl,rfl⟩,by omega⟩
   .rw [if_neg e] at s1
    have c1:=ih x (hx.resolve_left e)
    generalize tfF n J x k=v at *
    simp [go_sem,hii,dr,e]
    refine ⟨nR,?_⟩
    refine CallVC.of (c1) ?_
    simp [go_sem]
    refine ⟨⟨by omega,by omega⟩,⟨by omega,by omega⟩,i+1,by omega,by omega,zaa _ _ _ (by simp),?_⟩
    rw [s1,zbq]
    exact ⟨⟨by simp,rfl⟩,by omega⟩
  .have e:i=R.length:=by omega
   subst e
   have hii:¬ (R.length:Int)<R.length:=by omega
   rw [List.take_length]
   generalize TL R=B at *
   simp [go_sem,hii]
   refine CallVC.of (cR) ?_
   simp [go_sem]
   refine CallVC.of (cC) ?_
   simp [go_sem]
theorem ze8 {m i:Nat} (hm:m<1000000) (hi:i<60):andI .i64 (shrI .i64 (m:Int) (i:Int)) 1=((m / 2 ^ i%2:Nat):Int):=by
 have e1:shrI .i64 (m:Int) (i:Int)=((m / 2 ^ i:Nat):Int):=by
  show (m:Int).fdiv (2 ^ min (i:Int).toNat 64)=_
  rw [Int.toNat_natCast,Nat.min_eq_left (by omega),Int.fdiv_eq_ediv_of_nonneg _ (Int.pow_nonneg (by decide))]
  simp
 have hl:m / 2 ^ i<1000000:=Nat.lt_of_le_of_lt (Nat.div_le_self _ _) hm
 rw [e1]
 generalize m / 2 ^ i=n at *
 have e2:(BitVec.ofInt 64 (n:Int)).toNat=n:=by
  rw [BitVec.toNat_ofInt]; simp; omega
 have e3:(BitVec.ofInt 64 (1:Int)).toNat=1:=by decide
 show IntKind.wrap .i64 ((BitVec.ofInt 64 (n:Int) &&& BitVec.ofInt 64 1).toNat:Int)=_
 rw [BitVec.toNat_and,e2,e3,Nat.and_one_is_mod]
 exact zdQ (by unfold inK; have a:IntKind.min .i64 = -9223372036854775808:=by decide
               have b:IntKind.max .i64=9223372036854775807:=by decide
               rw [a,b]; omega)
end Go.Proofs.YthhdollpkieknaaGreat


namespace Go.Proofs.YthhdollpkieknaaGreat
open Go.Abs
def nrC (r:List Int):AV:=if r=[] then .val (.slice none 0 0) else .own 3 r.length (avs r)
def nrA (J:List (List Int)):List AV:=J.map nrC
def btA (B:List (Int × Int)):List AV:=B.flatMap fun e=>[.int e.1,.int e.2]
theorem zgC (J:List (List Int)):(nrA J).length=J.length:=by simp [nrA]
theorem zgd {J:List (List Int)} {k:Nat} (h:k<J.length):(nrA J)[k]?=some (nrC (J[k]?.getD [])):=by
 simp [nrA,h]
theorem zg0 (J:List (List Int)) (k:Nat) (r:List Int):(nrA J).set k (nrC r)=nrA (J.set k r):=by simp [nrA,List.map_set]
theorem zhf {r:List Int} (x:Int):nrC (r++[x])=.own 3 (r.length+1) (avs r++[.int x]):=by
 unfold nrC
 rw [if_neg (by simp),List.length_append,List.length_singleton,zaD]
theorem zol (X:List (Int × Int)):(X.flatMap fun e=>[AV.int e.1,AV.int e.2]).length=X.length*2:=by
 induction X with
 | nil=>rfl
 | cons s X ih=>rw [List.flatMap_cons,List.length_append,ih,List.length_cons]; simp; omega
theorem zlU (d:Int × Int) {L:List (Int × Int)} {i:Nat} (h:i<L.length):(L.flatMap fun e=>[AV.int e.1,AV.int e.2]).drop (i*2)=[.int (L[i]?.getD d).1,.int (L[i]?.getD d).2]++(L.drop (i+1)).flatMap fun e=>[AV.int e.1,AV.int e.2]:=by
 have e1:((L.take i).flatMap fun e=>[AV.int e.1,AV.int e.2]).length=i*2:=by rw [zol,List.length_take,Nat.min_eq_left (by omega)]
 have e2:L.drop i=L[i]?.getD d::L.drop (i+1):=by rw [List.drop_eq_getElem_cons h]; simp [h]
 have e3:(L.flatMap fun e=>[AV.int e.1,AV.int e.2])=(L.take i).flatMap (fun e=>[AV.int e.1,AV.int e.2])++(L.drop i).flatMap fun e=>[AV.int e.1,AV.int e.2]:=by rw [<- List.flatMap_append,List.take_append_drop]
 rw [e3,List.drop_append_of_le_length (by omega),e2,List.flatMap_cons,List.drop_eq_nil_of_le (by omega),List.nil_append]
theorem zmx (B:List (Int × Int)):(btA B).length=B.length*2:=by
 induction B with
 | nil=>rfl
 | cons e B ih=>simp only [btA,List.flatMap_cons,List.length_append,List.length_cons,List.length_nil] at *; omega
theorem zrs {t:List Int} {m:Nat} (h:cuB t m=true) :
  (∀ i,i<t.length -> -1<=(parL t)[i]?.getD 0/\(parL t)[i]?.getD 0<i) /\
  (∀ i,i<t.length+1->((cuN t m i).near.length=t.length/\∀ r∈(cuN t m i).near,r.length<=10)/\(cuN t m i).top.length=t.length/\(cuN t m i).tops.length<=i/\(cuN t m i).btw.length<=i) /\
  (∀ i∈(cuN t m t.length).tops,tfOk 7 (cuN t m t.length).near i (-1)=true/\(tfF 7 (cuN t m t.length).near i (-1)).length<=100) /\
  (∀ e∈(cuN t m t.length).btw,(0<=e.1/\e.1<(cuN t m t.length).tops.length)/\(0<=e.2/\e.2<(cuN t m t.length).tops.length)/\e.1≠e.2) /\
  (∀ j,j<(cuN t m t.length).btw.length+1->(jnN (cuN t m t.length).btw (cuN t m t.length).tops.length j).length=(cuN t m t.length).tops.length/\∀ r∈jnN (cuN t m t.length).btw (cuN t m t.length).tops.length j,r.length<=10) /\
  tfOk 7 (jnN (cuN t m t.length).btw (cuN t m t.length).tops.length (cuN t m t.length).btw.length) 0 (-1)=true:=by
 unfold cuB rwB at h
 simp only [Bool.and_eq_true,List.all_eq_true,decide_eq_true_eq,List.mem_range] at h
 exact ⟨h.1,h.2.1,h.2.2.1,h.2.2.2.1,h.2.2.2.2.1,h.2.2.2.2.2⟩
theorem Off.tr {W:List Nat} {S0 S1 S2:St} (h:Off W S0 S1) (h2:Off W S1 S2):Off W S0 S2:=fun i hi=>(h2 i hi).trans (h i hi)
theorem Con.nxL {P:Program} {f:FuncId} {args args':List AV} {r:AV} (hw:NXL args args') (h:Con P f args' r):Con P f args r :=
 ⟨h.1,fun w vs hl ha=>h.2 w vs (by rw [hw.len]; exact hl) fun tm oss=>hw.repT (ha tm oss)⟩
theorem zvp:∀ J:List (List Int),NXL (frzL (nrA J)) (mat J)
 | []=>.nil
 | r::J=>by
  have ih:=zvp J
  refine .cons ?_ ih
  unfold nrC
  by_cases h:r=[]
  .rw [if_pos h,h]; exact .nil
  .rw [if_neg h]
   show NX (.sl r.length (frzL (avs r))) _
   rw [zgu]; exact .same _
theorem zgo (n:Nat) (J:List (List Int)) (r f:Int) (h:tfOk n J r f=true):Con Tryz.prog 291 [.sl J.length (frzL (nrA J)),.int r,.int f] (.own 2 (tfF n J r f).length (avs (tfF n J r f))) :=
 Con.nxL (.cons (.sl _ (zvp J)) (.cons (.same _) (.cons (.same _) .nil))) (zf8 n J r f h)
theorem zsT {B:List (Int × Int)} {k:Nat} (h:k<B.length):(btA B).drop (k*2)=[.int (B[k]?.getD (0,0)).1,.int (B[k]?.getD (0,0)).2]++btA (B.drop (k+1)):=zlU (0,0) h
theorem DrawVC6.facts {P:Program} {cf:Cfg} {N:Nat × List Nat} {ops:Array Oper} {K:St->Prop} {S:St} (W:List Nat) (Fs:List (Nat × AV)) (F:St->Prop) (hS:∀ x∈Fs,S x.1=x.2)
  (h:∀ S0:St,(∀ x∈Fs,S0 x.1=x.2)->DrawVC6 P cf N ops (fun S'=>Off W S0 S'/\F S') S0) (hK:∀ S',Off W S S'->F S'->K S'):DrawVC6 P cf N ops K S :=
 DrawVC6.mono (h S hS) fun S' h=>hK S' h.1 h.2
theorem zgg (t:List Int) (m:Nat):∀ i,i<=t.length->(∀ k,k<i -> -1<=(parL t)[k]?.getD 0/\(parL t)[k]?.getD 0<k)->∀ j,i<=j->(cuN t m i).near[j]?.getD []=[]
 | 0,_,_,j,_=>by
  show (List.replicate t.length ([]:List Int))[j]?.getD []=[]
  by_cases h:j<t.length
  .rw [List.getElem?_replicate_of_lt h]; rfl
  .rw [List.getElem?_eq_none (by simp; omega)]; rfl
 | i+1,hi,hp,j,hj=>by
  have ih:=zgg t m i (by omega) (fun k hk=>hp k (by omega)) j (by omega)
  have hpi:=hp i (by omega)
  rw [zkh]
  unfold zjO
  split
  .exact ih
  .rename_i hn
   have h0:¬ (parL t)[i]?.getD 0<0:=fun x=>hn (.inl x)
   show (zhe _ _ _)[j]?.getD []=[]
   unfold zhe
   rw [List.getElem?_set_ne (by omega),List.getElem?_set_ne (by omega)]
   exact ih
theorem ztW (t:List Int) (m:Nat) (hm:m<1000) (h:cuB t m=true) (hl:t.length<=7) (hb:∀ x∈t,0<=x/\x<=1000) (ht:0<t.length) :
  Con Tryz.prog 244 [.sl t.length (avs t),.int m] (.tup [.own 25 (cuR t m).1.length (omat (cuR t m).1),.own 2 (cuR t m).2.1.length (avs (cuR t m).2.1)]):=by
 obtain ⟨s1,s2,s3,s4,s5,s6⟩:=zrs h
 have s0:∀ i,i<t.length->(cuN t m i).near[i]?.getD []=[]:=fun i hi=>zgg t m i (by omega) (fun k hk=>s1 k (by omega)) i (Nat.le_refl _)
 have cP:=ziG t (by omega) hb
 have pl:=zeC t
 have z0:(cuN t m 0)=⟨List.replicate t.length [],List.replicate t.length 0,[],[]⟩:=rfl
 have zs:=zkh t m
 have r1:nrA (cuN t m 0).near=List.replicate t.length (.val (.slice none 0 0)):=by rw [z0]; simp [nrA,nrC]
 have r2:avs (cuN t m 0).top=List.replicate t.length (.int 0):=by rw [z0]; simp [avs]
 have r3:(cuN t m 0).tops=[]:=rfl
 have r4:(cuN t m 0).btw=[]:=rfl
 generalize parL t=P at *
 generalize hS:cuN t m=S at *
 refine zab Tryz.mixed ⟨19,[],[],[3000800000000,3002400000000,3002500000000]⟩ Tryz.func244 ?_
 rw [Tryz.ntmps244]
 simp [go_sem]
 refine CallVC.of (cP) ?_
 simp [go_sem]
 refine ⟨by kernel_rfl,⟨by omega,by omega⟩,⟨by omega,by omega⟩,?_⟩
 refine ⟨by kernel_rfl,?_⟩
 simp [go_sem]
 refine zac (List.range' 7 6++List.range' 31 66) (fun i:Nat=>[(7,.own 149 t.length (nrA (S i).near)),(8,.own 3 t.length (avs (S i).top)),(9,.own 3 (S i).tops.length (avs (S i).tops)),(10,.own 238 (S i).btw.length (btA (S i).btw)),(31,.int i)]) (fun i=>i<=t.length) (fun i=>t.length-i) 0 (by simp) (by simp [go_sem,r1,r2,r3,r4,btA]) (by simp [go_sem]) ?_
 intro i hi
 by_cases hil:i<t.length
 .have hii:(i:Int)<t.length:=by omega
  obtain ⟨⟨n1,n2⟩,n3,n4,n5⟩:=s2 i (by omega)
  have s0:=s0 i hil
  obtain ⟨p1,p2⟩:=s1 i hil
  have z1:=zs i
  have dp:=zav (a:=P) (v:=i) (by omega)
  have eI:iat P i=P[i]?.getD 0:=rfl
  rw [eI] at dp
  unfold zjO at z1
  have gp:(avs P)[i]?=some (.int (P[i]?.getD 0)):=by
   have:=List.getElem?_drop (xs:=avs P) (i:=i) (j:=0)
   rw [dp] at this
   simpa using this.symm
  have bl:=ze8 (m:=m) (i:=i) (by omega) (by omega)
  have eB:bitB m i=true ↔ m / 2 ^ i%2=1:=by
   unfold bitB
   exact ⟨fun h=>Nat.eq_of_beq_eq_true h,fun h=>by rw [h]; rfl⟩
  generalize P[i]?.getD 0=p at *
  generalize S i=Z at *
  obtain ⟨N,T,O,B⟩:=Z
  simp only at n1 n2 n3 n4 n5 z1 s0
  by_cases hp:p<0
  .rw [if_pos (.inl hp),if_neg (by omega)] at z1
   have hp0:¬ 0<=p:=by omega
   simp [go_sem,hii,gp,hp,hp0]
   refine ⟨by omega,⟨by omega,by omega⟩,⟨by omega,by omega⟩,i+1,by omega,by omega,zaa _ _ _ (by simp),?_⟩
   rw [z1]
   exact ⟨rfl,zaR _ _ _,⟨by simp,by rw [zaD]⟩,⟨rfl,rfl⟩,by omega⟩
  .obtain ⟨q,rfl⟩:∃ q:Nat,p=q:=⟨p.toNat,by omega⟩
   have hp0:(0:Int)<=q:=by omega
   rw [Int.toNat_natCast] at z1
   by_cases hb:bitB m i=true
   .rw [if_pos (.inr hb),if_pos hp0] at z1
    rw [eB.1 hb] at bl
    have h8:(avs T).set i (.val (.int .i64 O.length))=avs (T.set i O.length):=zaR _ _ _
    have lT:(T.set i (O.length:Int)).length=T.length:=by rw [List.length_set]
    have dq:=zav (a:=T.set i (O.length:Int)) (v:=q) (by omega)
    have gq:(avs (T.set i (O.length:Int)))[q]?=some (.int (iat (T.set i (O.length:Int)) q)):=by
     have:=List.getElem?_drop (xs:=avs (T.set i (O.length:Int))) (i:=q) (j:=0)
     rw [dq] at this
     simpa using this.symm
    have di:=zav (a:=T.set i (O.length:Int)) (v:=i) (by omega)
    have gi:(avs (T.set i (O.length:Int)))[i]?=some (.int O.length):=by
     have:=List.getElem?_drop (xs:=avs (T.set i (O.length:Int))) (i:=i) (j:=0)
     rw [di] at this
     have e:iat (T.set i (O.length:Int)) i=O.length:=by
      unfold iat
      rw [List.getElem?_set_self (by omega)]; rfl
     rw [e] at this
     simpa using this.symm
    have eq:iat (T.set i (O.length:Int)) q=(T.set i (O.length:Int))[q]?.getD 0:=rfl
    rw [<- eq] at z1
    generalize iat (T.set i (O.length:Int)) q=v at *
    generalize T.set i (O.length:Int)=T' at *
    simp [go_sem,hii,gp,hp,hp0,bl,h8]
    refine ⟨by omega,⟨by omega,by omega⟩,by kernel_rfl,?_⟩
    have lb:=zmx B
    simp [go_sem,gq,gi]
    refine ⟨by omega,hil,⟨lb,by omega,by omega⟩,?_⟩
    refine ⟨by kernel_rfl,?_⟩
    simp [go_sem]
    refine ⟨⟨by omega,by omega⟩,i+1,by omega,by omega,zaa _ _ _ (by simp),?_⟩
    rw [z1]
    exact ⟨rfl,rfl,⟨by simp,by rw [zaD]⟩,⟨by simp,by simp [btA]⟩,by omega⟩
   .rw [if_neg (by intro x; exact x.elim hp hb)] at z1
    have hq:¬ ((m:Int) / 2 ^ i%2=1):=by
     intro x
     apply hb
     apply eB.2
     have:((m / 2 ^ i%2:Nat):Int)=1:=by rw [<- x]; simp
     omega
    have dq:=zav (a:=T) (v:=q) (by omega)
    have gq:(avs T)[q]?=some (.int (iat T q)):=by
     have:=List.getElem?_drop (xs:=avs T) (i:=q) (j:=0)
     rw [dq] at this
     simpa using this.symm
    have eq:iat T q=T[q]?.getD 0:=rfl
    rw [<- eq] at z1
    have g1:=zgd (J:=N) (k:=q) (by omega)
    have g2:=zgd (J:=N) (k:=i) (by omega)
    have ln:=zgC N
    generalize iat T q=v at *
    have gi0:N[i]?.getD []=[]:=s0
    rw [gi0,show nrC []=.val (.slice none 0 0) from rfl] at g2
    simp [go_sem,hii,gp,hp,hp0,bl,hq,gq]
    have jE:nrA (zhe N q i)=((nrA N).set q (.own 3 ((N[q]?.getD []).length+1) (avs (N[q]?.getD [])++[.int i]))).set i (.own 3 1 [.int q]):=by
     have e1:=zhf (r:=N[q]?.getD []) (i:Int)
     have e2:=zhf (r:=[]) (q:Int)
     rw [<- e1,show (AV.own 3 1 [.int (q:Int)])=nrC ([]++[(q:Int)]) from e2.symm,zg0,zg0]
     unfold zhe
     rw [gi0]
    refine ⟨by omega,by omega,DrawVC6.facts (List.range' 7 6++List.range' 31 66) [(7,.own 149 t.length (nrA N)),(11,.int i),(12,.int q),(8,.own 3 t.length (avs (T.set i v))),(9,.own 3 O.length (avs O)),(10,.own 238 B.length (btA B)),(31,.int i)]
     (fun S'=>S' 7=.own 149 t.length (nrA (zhe N q i))/\S' 8=.own 3 t.length (avs (T.set i v))/\S' 9=.own 3 O.length (avs O)/\S' 10=.own 238 B.length (btA B)/\S' 31=.int i) (by simp [go_sem,zaR]) ?_ ?_⟩
    .intro S0 hS0
     have f7:=hS0 (7,.own 149 t.length (nrA N)) (by simp)
     have f11:=hS0 (11,.int i) (by simp)
     have f12:=hS0 (12,.int q) (by simp)
     have f8:=hS0 (8,.own 3 t.length (avs (T.set i v))) (by simp)
     have f9:=hS0 (9,.own 3 O.length (avs O)) (by simp)
     have f10:=hS0 (10,.own 238 B.length (btA B)) (by simp)
     have f31:=hS0 (31,.int i) (by simp)
     simp only at f7 f11 f12 f8 f9 f10 f31
     rw [jE]
     clear hS0 jE z1 s1 s2 s3 s4 s5 s6 zs r1 r2 r3 r4 cP
     by_cases hr:N[q]?.getD []=[]
     .rw [hr]
      rw [hr,show nrC []=.val (.slice none 0 0) from rfl] at g1
      refine ⟨[(0,10),(2,10),(11,10),(13,10),(14,10),(0,17),(2,17),(2,19)],[[0,1,2,3,4,5,6,7,8,9,11,12,13,14,10,15,16,17,18,19,20,21],[0,1,2,3,4,5,6,7,8,9,11,12,13,10,14,15,16,17,18,19,20,21],[0,1,2,3,4,5,6,7,8,9,11,10,12,13,14,15,16,17,18,19,20,21],[0,1,2,3,4,5,6,7,8,9,10,11,12,13,14,15,16,17,18,19,20,21],[0,1,3,4,5,6,7,8,9,11,12,13,14,10,2,15,16,17,18,19,20,21],[0,1,3,4,5,6,7,8,9,11,12,13,14,10,15,16,17,2,18,19,20,21],[0,1,3,4,5,6,7,8,9,11,12,13,14,10,15,16,17,18,19,2,20,21],[0,1,3,4,5,6,7,8,9,11,12,13,10,2,14,15,16,17,18,19,20,21],[0,1,3,4,5,6,7,8,9,11,12,13,10,14,15,16,17,2,18,19,20,21],[0,1,3,4,5,6,7,8,9,11,12,13,10,14,15,16,17,18,19,2,20,21],[0,1,3,4,5,6,7,8,9,11,10,2,12,13,14,15,16,17,18,19,20,21],[0,1,3,4,5,6,7,8,9,11,10,12,13,14,15,16,17,2,18,19,20,21],[0,1,3,4,5,6,7,8,9,11,10,12,13,14,15,16,17,18,19,2,20,21],[0,1,3,4,5,6,7,8,9,10,2,11,12,13,14,15,16,17,18,19,20,21],[0,1,3,4,5,6,7,8,9,10,11,12,13,14,15,16,17,2,18,19,20,21],[0,1,3,4,5,6,7,8,9,10,11,12,13,14,15,16,17,18,19,2,20,21],[1,2,3,4,5,6,7,8,9,11,12,13,14,10,0,15,16,17,18,19,20,21],[1,2,3,4,5,6,7,8,9,11,12,13,14,10,15,16,17,0,18,19,20,21],[1,2,3,4,5,6,7,8,9,11,12,13,10,0,14,15,16,17,18,19,20,21],[1,2,3,4,5,6,7,8,9,11,12,13,10,14,15,16,17,0,18,19,20,21],[1,2,3,4,5,6,7,8,9,11,10,0,12,13,14,15,16,17,18,19,20,21],[1,2,3,4,5,6,7,8,9,11,10,12,13,14,15,16,17,0,18,19,20,21],[1,2,3,4,5,6,7,8,9,10,0,11,12,13,14,15,16,17,18,19,20,21],[1,2,3,4,5,6,7,8,9,10,11,12,13,14,15,16,17,0,18,19,20,21],[1,3,4,5,6,7,8,9,11,12,13,14,10,0,2,15,16,17,18,19,20,21],[1,3,4,5,6,7,8,9,11,12,13,14,10,0,15,16,17,2,18,19,20,21],[1,3,4,5,6,7,8,9,11,12,13,14,10,0,15,16,17,18,19,2,20,21],[1,3,4,5,6,7,8,9,11,12,13,14,10,2,15,16,17,0,18,19,20,21],[1,3,4,5,6,7,8,9,11,12,13,14,10,15,16,17,0,2,18,19,20,21],[1,3,4,5,6,7,8,9,11,12,13,14,10,15,16,17,0,18,19,2,20,21],[1,3,4,5,6,7,8,9,11,12,13,10,0,2,14,15,16,17,18,19,20,21],[1,3,4,5,6,7,8,9,11,12,13,10,0,14,15,16,17,2,18,19,20,21],[1,3,4,5,6,7,8,9,11,12,13,10,0,14,15,16,17,18,19,2,20,21],[1,3,4,5,6,7,8,9,11,12,13,10,2,14,15,16,17,0,18,19,20,21],[1,3,4,5,6,7,8,9,11,12,13,10,14,15,16,17,0,2,18,19,20,21],[1,3,4,5,6,7,8,9,11,12,13,10,14,15,16,17,0,18,19,2,20,21],[1,3,4,5,6,7,8,9,11,10,0,2,12,13,14,15,16,17,18,19,20,21],[1,3,4,5,6,7,8,9,11,10,0,12,13,14,15,16,17,2,18,19,20,21],[1,3,4,5,6,7,8,9,11,10,0,12,13,14,15,16,17,18,19,2,20,21],[1,3,4,5,6,7,8,9,11,10,2,12,13,14,15,16,17,0,18,19,20,21],[1,3,4,5,6,7,8,9,11,10,12,13,14,15,16,17,0,2,18,19,20,21],[1,3,4,5,6,7,8,9,11,10,12,13,14,15,16,17,0,18,19,2,20,21],[1,3,4,5,6,7,8,9,10,0,2,11,12,13,14,15,16,17,18,19,20,21],[1,3,4,5,6,7,8,9,10,0,11,12,13,14,15,16,17,2,18,19,20,21],[1,3,4,5,6,7,8,9,10,0,11,12,13,14,15,16,17,18,19,2,20,21],[1,3,4,5,6,7,8,9,10,2,11,12,13,14,15,16,17,0,18,19,20,21],[1,3,4,5,6,7,8,9,10,11,12,13,14,15,16,17,0,2,18,19,20,21],[1,3,4,5,6,7,8,9,10,11,12,13,14,15,16,17,0,18,19,2,20,21]],fun _=>[],by kernel_rfl,?_⟩
      simp only [AllY,and_true]
      refine ⟨?_,?_,?_,?_,?_,?_,?_,?_,?_,?_,?_,?_,?_,?_,?_,?_,?_,?_,?_,?_,?_,?_,?_,?_,?_,?_,?_,?_,?_,?_,?_,?_,?_,?_,?_,?_,?_,?_,?_,?_,?_,?_,?_,?_,?_,?_,?_,?_⟩
      all_goals
       simp [go_sem,f7,f11,f12,f8,f9,f10,f31,g1,g2]
       exact ⟨by omega,by omega,by omega,by omega,by omega,by omega,by kernel_rfl,fun _ _=>rfl⟩
     .rw [nrC,if_neg hr] at g1
      have rl:=n2 _ (memD [] (show q<N.length by omega))
      generalize N[q]?.getD []=r at *
      have hne:¬ q=i:=by omega
      have c1:q<t.length:=by omega
      have c2:i<t.length:=by omega
      have c3:(r.length+1)*8<=140737488355328:=by omega
      have c4:r.length<=9223372036854775806:=by omega
      have c5:q<(nrA N).length/\i<(nrA N).length:=⟨by omega,by omega⟩
      have gs:((nrA N).set q AV.any)[i]?=some (.val (.slice none 0 0)):=by rw [List.getElem?_set_ne hne]; exact g2
      refine ⟨[(0,10),(2,10),(11,10),(13,10),(14,10),(0,17),(2,17),(2,19)],[[0,1,2,3,4,5,6,7,8,9,11,12,13,14,10,15,16,17,18,19,20,21],[0,1,2,3,4,5,6,7,8,9,11,12,13,10,14,15,16,17,18,19,20,21],[0,1,2,3,4,5,6,7,8,9,11,10,12,13,14,15,16,17,18,19,20,21],[0,1,2,3,4,5,6,7,8,9,10,11,12,13,14,15,16,17,18,19,20,21],[0,1,3,4,5,6,7,8,9,11,12,13,14,10,2,15,16,17,18,19,20,21],[0,1,3,4,5,6,7,8,9,11,12,13,14,10,15,16,17,2,18,19,20,21],[0,1,3,4,5,6,7,8,9,11,12,13,14,10,15,16,17,18,19,2,20,21],[0,1,3,4,5,6,7,8,9,11,12,13,10,2,14,15,16,17,18,19,20,21],[0,1,3,4,5,6,7,8,9,11,12,13,10,14,15,16,17,2,18,19,20,21],[0,1,3,4,5,6,7,8,9,11,12,13,10,14,15,16,17,18,19,2,20,21],[0,1,3,4,5,6,7,8,9,11,10,2,12,13,14,15,16,17,18,19,20,21],[0,1,3,4,5,6,7,8,9,11,10,12,13,14,15,16,17,2,18,19,20,21],[0,1,3,4,5,6,7,8,9,11,10,12,13,14,15,16,17,18,19,2,20,21],[0,1,3,4,5,6,7,8,9,10,2,11,12,13,14,15,16,17,18,19,20,21],[0,1,3,4,5,6,7,8,9,10,11,12,13,14,15,16,17,2,18,19,20,21],[0,1,3,4,5,6,7,8,9,10,11,12,13,14,15,16,17,18,19,2,20,21],[1,2,3,4,5,6,7,8,9,11,12,13,14,10,0,15,16,17,18,19,20,21],[1,2,3,4,5,6,7,8,9,11,12,13,14,10,15,16,17,0,18,19,20,21],[1,2,3,4,5,6,7,8,9,11,12,13,10,0,14,15,16,17,18,19,20,21],[1,2,3,4,5,6,7,8,9,11,12,13,10,14,15,16,17,0,18,19,20,21],[1,2,3,4,5,6,7,8,9,11,10,0,12,13,14,15,16,17,18,19,20,21],[1,2,3,4,5,6,7,8,9,11,10,12,13,14,15,16,17,0,18,19,20,21],[1,2,3,4,5,6,7,8,9,10,0,11,12,13,14,15,16,17,18,19,20,21],[1,2,3,4,5,6,7,8,9,10,11,12,13,14,15,16,17,0,18,19,20,21],[1,3,4,5,6,7,8,9,11,12,13,14,10,0,2,15,16,17,18,19,20,21],[1,3,4,5,6,7,8,9,11,12,13,14,10,0,15,16,17,2,18,19,20,21],[1,3,4,5,6,7,8,9,11,12,13,14,10,0,15,16,17,18,19,2,20,21],[1,3,4,5,6,7,8,9,11,12,13,14,10,2,15,16,17,0,18,19,20,21],[1,3,4,5,6,7,8,9,11,12,13,14,10,15,16,17,0,2,18,19,20,21],[1,3,4,5,6,7,8,9,11,12,13,14,10,15,16,17,0,18,19,2,20,21],[1,3,4,5,6,7,8,9,11,12,13,10,0,2,14,15,16,17,18,19,20,21],[1,3,4,5,6,7,8,9,11,12,13,10,0,14,15,16,17,2,18,19,20,21],[1,3,4,5,6,7,8,9,11,12,13,10,0,14,15,16,17,18,19,2,20,21],[1,3,4,5,6,7,8,9,11,12,13,10,2,14,15,16,17,0,18,19,20,21],[1,3,4,5,6,7,8,9,11,12,13,10,14,15,16,17,0,2,18,19,20,21],[1,3,4,5,6,7,8,9,11,12,13,10,14,15,16,17,0,18,19,2,20,21],[1,3,4,5,6,7,8,9,11,10,0,2,12,13,14,15,16,17,18,19,20,21],[1,3,4,5,6,7,8,9,11,10,0,12,13,14,15,16,17,2,18,19,20,21],[1,3,4,5,6,7,8,9,11,10,0,12,13,14,15,16,17,18,19,2,20,21],[1,3,4,5,6,7,8,9,11,10,2,12,13,14,15,16,17,0,18,19,20,21],[1,3,4,5,6,7,8,9,11,10,12,13,14,15,16,17,0,2,18,19,20,21],[1,3,4,5,6,7,8,9,11,10,12,13,14,15,16,17,0,18,19,2,20,21],[1,3,4,5,6,7,8,9,10,0,2,11,12,13,14,15,16,17,18,19,20,21],[1,3,4,5,6,7,8,9,10,0,11,12,13,14,15,16,17,2,18,19,20,21],[1,3,4,5,6,7,8,9,10,0,11,12,13,14,15,16,17,18,19,2,20,21],[1,3,4,5,6,7,8,9,10,2,11,12,13,14,15,16,17,0,18,19,20,21],[1,3,4,5,6,7,8,9,10,11,12,13,14,15,16,17,0,2,18,19,20,21],[1,3,4,5,6,7,8,9,10,11,12,13,14,15,16,17,0,18,19,2,20,21]],fun _=>[],by kernel_rfl,?_⟩
      simp only [AllY,and_true]
      refine ⟨?_,?_,?_,?_,?_,?_,?_,?_,?_,?_,?_,?_,?_,?_,?_,?_,?_,?_,?_,?_,?_,?_,?_,?_,?_,?_,?_,?_,?_,?_,?_,?_,?_,?_,?_,?_,?_,?_,?_,?_,?_,?_,?_,?_,?_,?_,?_,?_⟩
      all_goals
       simp [go_sem,f7,f11,f12,f8,f9,f10,f31,g1,g2,gs,c1,c2,c3,c4]
       exact ⟨by omega,by omega,by kernel_rfl,fun _ _=>rfl⟩
    .rintro S' hO ⟨h7,h8,h9,h10,h31⟩
     simp [go_sem,h31,h7,h8,h9,h10]
     refine ⟨⟨by omega,by omega⟩,i+1,by omega,by omega,Off.tr (by simp [go_sem]; exact zaa _ _ _ (by simp)) hO,?_⟩
     rw [z1]
     exact ⟨rfl,rfl,⟨rfl,rfl⟩,⟨rfl,rfl⟩,by omega⟩
 .have e:i=t.length:=by omega
  subst e
  have hii:¬ (t.length:Int)<t.length:=by omega
  have s3:=s3
  have s4:=s4
  generalize hZ:S t.length=Z at *
  obtain ⟨N,T,O,B⟩:=Z
  obtain ⟨⟨n1,n2⟩,n3,n4,n5⟩:=s2 t.length (by omega)
  rw [hZ] at n1 n2 n3 n4 n5
  simp only at s3 s4 s5 s6 n1 n2 n3 n4 n5
  have cT:=fun x hx=>zgo 7 N x (-1) (s3 x hx).1
  have tL:=fun x hx=>(s3 x hx).2
  rw [n1] at cT
  have eC:cuR t m=(srtT (O.map fun x=>tfF 7 N x (-1)),tfF 7 (jnN B O.length B.length) 0 (-1),1):=by
   unfold cuR
   rw [show cuN t m t.length=⟨N,T,O,B⟩ by rw [hS,hZ]]
  rw [eC]
  obtain ⟨TF,hTF⟩:∃ F:Int->List Int,F=fun x=>tfF 7 N x (-1):=⟨_,rfl⟩
  have eT:∀ x,tfF 7 N x (-1)=TF x:=fun x=>by rw [hTF]
  rw [<- hTF]
  simp only [eT] at cT tL
  clear hTF eT
  simp [go_sem,hii]
  refine ⟨by kernel_rfl,⟨by omega,by omega⟩,?_⟩
  refine ⟨by kernel_rfl,?_⟩
  simp [go_sem]
  refine zac (13::16::List.range' 103 11) (fun k:Nat=>[(13,.own 25 k (omat ((O.map TF).take k))),(103,.int k)]) (fun k=>k<=O.length) (fun k=>O.length-k) 0 (by simp) (by simp [go_sem,omat]) (by simp [go_sem]) ?_
  intro k hk
  by_cases hkl:k<O.length
  .have hki:(k:Int)<O.length:=by omega
   have dk:=zav (a:=O) (v:=k) hkl
   have gk:(avs O)[k]?=some (.int (iat O k)):=by
    have:=List.getElem?_drop (xs:=avs O) (i:=k) (j:=0)
    rw [dk] at this
    simpa using this.symm
   have cx:=cT (iat O k) (memD 0 hkl)
   have t1:(O.map TF).take (k+1)=(O.map TF).take k++[TF (iat O k)]:=by
    rw [List.take_succ_eq_append_getElem (by rw [List.length_map]; exact hkl),List.getElem_map]
    unfold iat
    rw [List.getElem?_eq_getElem hkl]; rfl
   have l1:=tL (iat O k) (memD 0 hkl)
   generalize iat O k=x at *
   simp [go_sem,hki,gk]
   refine CallVC.of (cx) ?_
   simp [go_sem]
   generalize TF x=y at *
   refine ⟨⟨by omega,by omega,by omega⟩,⟨by omega,by omega⟩,k+1,by omega,by omega,zaa _ _ _ (by simp),?_⟩
   rw [t1,zbq]
   exact ⟨⟨rfl,rfl⟩,by omega⟩
  .have e:k=O.length:=by omega
   subst e
   have hki:¬ (O.length:Int)<O.length:=by omega
   rw [List.take_of_length_le (by rw [List.length_map]; exact Nat.le_refl _)]
   have cF:=zcP (O.map TF) (fun m hm=>by
    obtain ⟨x,hx,rfl⟩:=List.mem_map.1 hm
    have:=tL x hx; omega) (by rw [List.length_map]; omega)
   have cJ:=zgo 7 (jnN B O.length B.length) 0 (-1) s6
   have j0:nrA (jnN B O.length 0)=List.replicate O.length (.val (.slice none 0 0)):=by simp [jnN,nrA,nrC]
   have js:∀ j,(h:j<B.length)->jnN B O.length (j+1)=zhe (jnN B O.length j) (B[j]?.getD (0,0)).1.toNat (B[j]?.getD (0,0)).2.toNat:=fun j h=>by
    unfold jnN
    rw [List.take_succ_eq_append_getElem h,List.foldl_append,List.getElem?_eq_getElem h]; rfl
   rw [List.length_map] at cF
   rw [(s5 B.length (by omega)).1] at cJ
   have lo:=(zbd (O.map TF)).length_eq
   rw [List.length_map] at lo
   try rw [lo]
   generalize O.map TF=OF at *
   generalize jnN B O.length=JN at *
   clear cT tL s6 eC zs s2 hS hZ
   simp [go_sem,hki]
   refine zac (14::18::List.range' 116 31) (fun j:Nat=>[(14,.own 149 O.length (nrA (JN j))),(116,.int j)]) (fun j=>j<=B.length) (fun j=>B.length-j) 0 (by simp) (by simp [go_sem,j0]) (by simp [go_sem]) ?_
   intro j hj
   by_cases hjl:j<B.length
   .have hji:(j:Int)<B.length:=by omega
    have dB:=zsT hjl
    obtain ⟨q1,q2⟩:=s5 j (by omega)
    obtain ⟨u1,u2,u3⟩:=s4 _ (memD (0,0) hjl)
    have sj:=js j hjl
    generalize B[j]?.getD (0,0)=e at *
    obtain ⟨e1,e2⟩:=e
    simp only at u1 u2 u3 sj dB
    obtain ⟨x,rfl⟩:∃ x:Nat,e1=x:=⟨e1.toNat,by omega⟩
    obtain ⟨y,rfl⟩:∃ y:Nat,e2=y:=⟨e2.toNat,by omega⟩
    rw [Int.toNat_natCast,Int.toNat_natCast] at sj
    generalize JN j=J at *
    have g1:=zgd (J:=J) (k:=x) (by omega)
    have g2:=zgd (J:=J) (k:=y) (by omega)
    have lB:=zmx B
    have lJ:=zgC J
    have nB:¬ btA B=[]:=by intro e; rw [e] at lB; simp at lB; omega
    simp [go_sem,hji,dB]
    refine ⟨⟨nB,by omega⟩,?_⟩
    refine DrawVC6.facts (14::18::List.range' 116 31) [(14,.own 149 O.length (nrA J)),(18,.box 238 [.int x,.int y]),(116,.int j)] (fun S'=>S' 14=.own 149 O.length (nrA (J.set x (J[x]?.getD []++[(y:Int)])))/\S' 18=.box 238 [.int x,.int y]/\S' 116=.int j) (by simp [go_sem]) ?_ ?_
    .intro S0 hS0
     have f14:=hS0 (14,.own 149 O.length (nrA J)) (by simp)
     have f18:=hS0 (18,.box 238 [.int x,.int y]) (by simp)
     have f116:=hS0 (116,.int j) (by simp)
     simp only at f14 f18 f116
     have jE:nrA (J.set x (J[x]?.getD []++[(y:Int)]))=(nrA J).set x (.own 3 ((J[x]?.getD []).length+1) (avs (J[x]?.getD [])++[.int y])):=by
      rw [<- zhf,zg0]
     have g1:=zgd (J:=J) (k:=x) (by omega)
     have lJ:=zgC J
     have d1:x<O.length:=by omega
     have d2:x<(nrA J).length:=by omega
     have rl:=q2 _ (memD [] (show x<J.length by omega))
     rw [jE]
     clear hS0 jE
     by_cases hr:J[x]?.getD []=[]
     .rw [hr,show nrC []=.val (.slice none 0 0) from rfl] at g1
      rw [hr]
      refine ⟨[(0,11)],[[0,1,2,3,4,5,6,7,8,9,10,11,12,13],[1,2,3,4,5,6,7,8,9,10,11,0,12,13]],fun _=>[],by kernel_rfl,?_⟩
      simp only [AllY,and_true]
      refine ⟨?_,?_⟩
      all_goals
       simp [go_sem,f14,f18,f116,g1,d1]
       exact ⟨by omega,by kernel_rfl,fun _ _=>rfl⟩
     .rw [nrC,if_neg hr] at g1
      generalize J[x]?.getD []=r at *
      have d3:(r.length+1)*8<=140737488355328:=by omega
      have d4:r.length<=9223372036854775806:=by omega
      refine ⟨[(0,11)],[[0,1,2,3,4,5,6,7,8,9,10,11,12,13],[1,2,3,4,5,6,7,8,9,10,11,0,12,13]],fun _=>[],by kernel_rfl,?_⟩
      simp only [AllY,and_true]
      refine ⟨?_,?_⟩
      all_goals
       simp [go_sem,f14,f18,f116,g1,d1,d3,d4]
       exact ⟨by omega,by kernel_rfl,fun _ _=>rfl⟩
    rintro S1 hO1 ⟨h14,h18,h116⟩
    have ly:((J.set x (J[x]?.getD []++[(y:Int)]))[y]?.getD [])=J[y]?.getD []:=by rw [List.getElem?_set_ne (by omega)]
    have lset:(J.set x (J[x]?.getD []++[(y:Int)])).length=J.length:=List.length_set
    have sj2:zhe J x y=(J.set x (J[x]?.getD []++[(y:Int)])).set y ((J.set x (J[x]?.getD []++[(y:Int)]))[y]?.getD []++[(x:Int)]):=by rw [ly]; rfl
    rw [sj2] at sj
    have rly:=q2 _ (memD [] (show y<J.length by omega))
    rw [<- ly] at rly
    generalize J.set x (J[x]?.getD []++[(y:Int)])=J1 at *
    simp [go_sem]
    refine DrawVC6.facts (14::18::List.range' 116 31) [(14,.own 149 O.length (nrA J1)),(18,.box 238 [.int x,.int y]),(116,.int j)] (fun S'=>S' 14=.own 149 O.length (nrA (J1.set y (J1[y]?.getD []++[(x:Int)])))/\S' 18=.box 238 [.int x,.int y]/\S' 116=.int j) (by simp [go_sem,h14,h18,h116]) ?_ ?_
    .intro S0 hS0
     have f14:=hS0 (14,.own 149 O.length (nrA J1)) (by simp)
     have f18:=hS0 (18,.box 238 [.int x,.int y]) (by simp)
     have f116:=hS0 (116,.int j) (by simp)
     simp only at f14 f18 f116
     have jE:nrA (J1.set y (J1[y]?.getD []++[(x:Int)]))=(nrA J1).set y (.own 3 ((J1[y]?.getD []).length+1) (avs (J1[y]?.getD [])++[.int x])):=by
      rw [<- zhf,zg0]
     have g1:=zgd (J:=J1) (k:=y) (by omega)
     have lJ:=zgC J1
     have d1:y<O.length:=by omega
     have d2:y<(nrA J1).length:=by omega
     have rl:=rly
     rw [jE]
     clear hS0 jE
     by_cases hr:J1[y]?.getD []=[]
     .rw [hr,show nrC []=.val (.slice none 0 0) from rfl] at g1
      rw [hr]
      refine ⟨[(0,11)],[[0,1,2,3,4,5,6,7,8,9,10,11,12,13],[1,2,3,4,5,6,7,8,9,10,11,0,12,13]],fun _=>[],by kernel_rfl,?_⟩
      simp only [AllY,and_true]
      refine ⟨?_,?_⟩
      all_goals
       simp [go_sem,f14,f18,f116,g1,d1]
       exact ⟨by omega,by kernel_rfl,fun _ _=>rfl⟩
     .rw [nrC,if_neg hr] at g1
      generalize J1[y]?.getD []=r at *
      have d3:(r.length+1)*8<=140737488355328:=by omega
      have d4:r.length<=9223372036854775806:=by omega
      refine ⟨[(0,11)],[[0,1,2,3,4,5,6,7,8,9,10,11,12,13],[1,2,3,4,5,6,7,8,9,10,11,0,12,13]],fun _=>[],by kernel_rfl,?_⟩
      simp only [AllY,and_true]
      refine ⟨?_,?_⟩
      all_goals
       simp [go_sem,f14,f18,f116,g1,d1,d3,d4]
       exact ⟨by omega,by kernel_rfl,fun _ _=>rfl⟩
    rintro S2 hO2 ⟨k14,k18,k116⟩
    simp [go_sem,k116,k14]
    refine ⟨⟨by omega,by omega⟩,j+1,by omega,by omega,Off.tr (Off.tr (by simp [go_sem]; exact zaa _ _ _ (by simp)) hO1) hO2,?_⟩
    rw [sj]
    exact ⟨rfl,by omega⟩
   .have e:j=B.length:=by omega
    subst e
    have hji:¬ (B.length:Int)<B.length:=by omega
    simp [go_sem,hji]
    refine CallVC.of (cF) ?_
    simp [go_sem]
    refine CallVC.of (cJ) ?_
    simp [go_sem]
end Go.Proofs.YthhdollpkieknaaGreat


namespace Go.Proofs.YthhdollpkieknaaGreat
open Go.Abs Go.Shelf Go.Sort
def paF (s:Prt):List AV:=[.sl s.1.length (mat s.1),.sl s.2.1.length (avs s.2.1),.int s.2.2]
theorem zmi (s:Prt):frzL (paF s)=paF s:=by simp [paF,frzL,frz]
theorem zc1 (X:List Prt):(X.flatMap paF).length=X.length*3:=by
 induction X with
 | nil=>rfl
 | cons s X ih=>rw [List.flatMap_cons,List.length_append,ih]; simp [paF]; omega
def PaOk (s:Prt):Prop:=(s.1.length<=100/\∀ r∈s.1,r.length<=100)/\s.2.1.length<=100
theorem zjY [DrawK] (s r:Prt) (hs:PaOk s) (hr:PaOk r):Con Tryz.prog 245 [.agg (paF s),.agg (paF r)] (.int (zbG s r)):=by
 obtain ⟨⟨s1,s2⟩,s3⟩:=hs
 obtain ⟨⟨r1,r2⟩,r3⟩:=hr
 have c1:=za4 s.2.1 r.2.1 (by omega) (by omega)
 have c2:=zdi s.1 r.1 (by omega) (by omega) (fun x hx=>by have:=s2 x hx; omega) (fun x hx=>by have:=r2 x hx; omega)
 unfold zbG paF
 generalize zaT s.1 r.1=w at *
 generalize cmpT s.2.1 r.2.1=v at *
 by_cases v0:v=0
 .rw [if_pos v0]
  refine zab Tryz.mixed ⟨6,[],[],[]⟩ Tryz.func245 ?_
  rw [Tryz.ntmps245]
  simp [go_sem]
  refine CallVC.of (c1) ?_
  simp [go_sem]
  simp [go_sem,v0]
  refine CallVC.of (c2) ?_
  simp [go_sem]
 .rw [if_neg v0]
  refine zab Tryz.mixed ⟨6,[],[],[]⟩ Tryz.func245 ?_
  rw [Tryz.ntmps245]
  simp [go_sem]
  refine CallVC.of (c1) ?_
  simp [go_sem]
  simp [go_sem,v0]
theorem znH (X:List Prt) (h1:∀ s∈X,s.2.2=1) (hok:∀ s∈X,PaOk s) (hn:X.length<=1048576) :
  GCon Tryz.prog 247 [.own 172 X.length (X.flatMap paF),.val (.func (.func 245) #[] #[])] (.tup []) [.own 172 X.length ((zef X).flatMap paF),.any]:=by
 obtain ⟨ys,p1,p2,p3⟩:=zhG Tryz.sortParts 3 Tryz.isAgg172 Tryz.sizeOf172 ⟨_,Tryz.func247,by decide,rfl⟩ paF zbG zu3 245 172 (by kernel_rfl) X (fun _ _=>rfl)
  (fun x hx y hy=>by rw [zmi,zmi]; exact @zjY ⟨1⟩ x y (hok x hx) (hok y hy)) (by omega)
 have e:ys=zef X:=zhV p1 h1 p2
 subst e
 exact p3
theorem zvo (x1 x2 x3 y3:AV):∀ P:List AV,(P++[x1,x2,x3]).set (P.length+2) y3=P++[x1,x2,y3]
 | []=>rfl
 | p::P=>by
  have:=zvo x1 x2 x3 y3 P
  show p::(P++[x1,x2,x3]).set (P.length+2) y3=p::(P++[x1,x2,y3])
  rw [this]
theorem zlS (O:List Prt) (l s:Prt):zcU (O++[l]) s=if zbG l s=0 then O++[(l.1,l.2.1,l.2.2+1)] else O++[l]++[s]:=by
 have e:∀ O:List Prt,(O++[l]).set O.length (l.1,l.2.1,l.2.2+1)=O++[(l.1,l.2.1,l.2.2+1)]:=fun O=>by
  induction O with
  | nil=>rfl
  | cons o O ih=>rw [List.cons_append,List.length_cons,List.set_cons_succ,ih]; rfl
 unfold zcU
 rw [List.getLast?_concat]
 simp only [List.length_append,List.length_singleton,Nat.add_sub_cancel,e]
theorem zop:∀ n,n<=6->shlI .i64 1 ((n:Nat):Int)=((2 ^ n:Nat):Int):=by decide
theorem zq6 (t:List Int):(prtL t).length=2 ^ (t.length-1):=by simp [prtL]
theorem zsk {t:List Int} {k:Nat} (h:k<2 ^ (t.length-1)):(prtL t)[k]?.getD ([],[],0)=cuR t (2*k):=by simp [prtL,h]
theorem zfN {t:List Int} (h:t∈trN 6):GCon Tryz.prog 187 [.sl t.length (avs t)] (.own 172 (parP t).length ((parP t).flatMap paF)) [.any]:=by
 obtain ⟨tL,t6,_⟩:=zjT h
 have t0:0<t.length:=tL.1
 have hcu:=fun k (hk:k<2 ^ (t.length-1))=>List.all_eq_true.1 (List.all_eq_true.1 zti t h) k (List.mem_range.2 hk)
 have hpr:=List.all_eq_true.1 zso t h
 simp only [Bool.and_eq_true,List.all_eq_true,decide_eq_true_eq] at hpr
 obtain ⟨hp1,hp2⟩:=hpr
 have bt:∀ x∈t,0<=x/\x<=1000:=fun x hx=>by
  have ok:(trN 6).all (fun t=>t.all fun x=>decide (0<=x) && decide (x<=1000))=true:=by decide +kernel
  have:=List.all_eq_true.1 (List.all_eq_true.1 ok t h) x hx
  simpa using this
 have pw6:2 ^ (t.length-1)<=32/\2 ^ t.length=2*2 ^ (t.length-1):=by
  refine ⟨Nat.pow_le_pow_right (by omega) (show t.length-1<=5 by omega),?_⟩
  rw [<- Nat.pow_succ',Nat.succ_eq_add_one,Nat.sub_add_cancel t0]
 have hcut:=fun k (hk:k<2 ^ (t.length-1))=>ztW t (2*k) (by omega) (hcu k hk) (by omega) bt t0
 have ok1:∀ s∈prtL t,s.2.2=1/\PaOk s:=fun s hs=>by
  obtain ⟨k,_,rfl⟩:=List.mem_map.1 hs
  have:=hp1 _ hs
  exact ⟨rfl,⟨by omega,fun r hr=>by have:=this.1.2 r hr; omega⟩,by omega⟩
 have so0:∀ s∈zef (prtL t),s.2.2=1/\PaOk s:=fun s hs=>ok1 s ((zb0 _).mem_iff.1 hs)
 have pl:=zq6 t
 have cS:=znH (prtL t) (fun s hs=>(ok1 s hs).1) (fun s hs=>(ok1 s hs).2) (by omega)
 have sl0:=zo0 (prtL t)
 have shl:=zop t.length t6
 have tk:∀ k,k<2 ^ (t.length-1)->(prtL t).take (k+1)=(prtL t).take k++[cuR t (2*k)]:=fun k hk=>by
  rw [List.take_succ_eq_append_getElem (by omega),<- zsk hk,List.getElem?_eq_getElem (by omega)]; rfl
 have hT:parP t=zbP (zef (prtL t)):=rfl
 rw [hT]
 rw [pw6.2] at shl
 rw [pl] at cS sl0
 have ta:(prtL t).take (2 ^ (t.length-1))=prtL t:=List.take_of_length_le (by omega)
 generalize prtL t=PL at *
 generalize 2 ^ (t.length-1)=M at *
 have paL:=fun k=>zc1 (PL.take k)
 refine zal Tryz.mixed ⟨12,[27,28],[1000000+247],[]⟩ [] Tryz.func187 ?_
 rw [Tryz.ntmps187]
 simp [go_sem]
 refine zac (List.range' 3 4++List.range' 13 19) (fun k:Nat=>[(3,.own 172 k ((PL.take k).flatMap paF)),(4,.int (2*(k:Int)))]) (fun k=>k<=M) (fun k=>M-k) 0 (by simp) (by simp [go_sem]) (by simp [go_sem]) ?_
 intro k hk
 by_cases hkl:k<M
 .have hki:2*(k:Int)<((2*M:Nat):Int):=by omega
  have c1:=hcut k hkl
  have t1:=tk k hkl
  have e2:((2*k:Nat):Int)=2*(k:Int):=by omega
  rw [e2] at c1
  have lk:=paL k
  rw [List.length_take,Nat.min_eq_left (by omega)] at lk
  have hx:paF (cuR t (2*k))=[.sl (cuR t (2*k)).1.length (mat (cuR t (2*k)).1),.sl (cuR t (2*k)).2.1.length (avs (cuR t (2*k)).2.1),.int 1]:=rfl
  generalize cuR t (2*k)=y at *
  generalize hC:(PL.take k).flatMap paF=C at *
  simp [go_sem,shl,hkl]
  refine CallVC.of (c1) ?_
  simp [go_sem]
  refine ⟨⟨by rw [lk],by omega,by omega⟩,⟨by omega,by omega⟩,k+1,by omega,by omega,zaa _ _ _ (by simp),?_⟩
  rw [t1,List.flatMap_append,hC]
  refine ⟨⟨rfl,?_⟩,by omega⟩
  simp [hx]
 .have e:k=M:=by omega
  subst e
  have hki:¬ 2*(k:Int)<((2*k:Nat):Int):=by omega
  rw [ta]
  simp [go_sem,shl]
  refine ⟨_,_,cS,?_⟩
  simp [go_sem]
  have so:=so0
  have sl:(zef PL).length=k:=sl0
  generalize zef PL=S at *
  refine zac (8::10::11::List.range' 38 33) (fun i:Nat=>[(8,.own 172 (zbP (S.take i)).length ((zbP (S.take i)).flatMap paF)),(38,.int i)]) (fun i=>i<=k) (fun i=>k-i) 0 (by simp) (by simp [go_sem,zbP]) (by simp [go_sem]) ?_
  intro i hi
  by_cases hi2:i<k
  .have hii:(i:Int)<k:=by omega
   have hS:i<S.length:=by omega
   have dr:(S.flatMap paF).drop (i*3)=paF (S[i]?.getD ([],[],0))++(S.drop (i+1)).flatMap paF:=by
    have e1:((S.take i).flatMap paF).length=i*3:=by rw [zc1,List.length_take,Nat.min_eq_left (by omega)]
    have e2:S.drop i=S[i]?.getD ([],[],0)::S.drop (i+1):=by rw [List.drop_eq_getElem_cons hS]; simp [hS]
    have e3:S.flatMap paF=(S.take i).flatMap paF++(S.drop i).flatMap paF:=by rw [<- List.flatMap_append,List.take_append_drop]
    rw [e3,List.drop_append_of_le_length (by omega),e2,List.flatMap_cons,List.drop_eq_nil_of_le (by omega),List.nil_append]
   have hs:=so _ (memD ([],[],0) hS)
   generalize hsp:S[i]?.getD ([],[],0)=s at *
   obtain ⟨a,b,k⟩:=s
   obtain ⟨hk,hs⟩:=hs
   simp only at hk
   subst hk
   simp only [paF] at dr
   have ml:(S.flatMap paF).length=k*3:=by rw [zc1,sl]
   have nm:¬ S.flatMap paF=[]:=by intro e; rw [e] at ml; simp at ml; omega
   have gs:zbP (S.take (i+1))=zcU (zbP (S.take i)) (a,b,1):=by
    rw [List.take_succ_eq_append_getElem hS,zf3]
    congr 1
    rw [<- hsp,List.getElem?_eq_getElem hS]; rfl
   have iv:=zoO (S.take i)
   generalize S.flatMap paF=M at *
   rcases (List.eq_nil_or_concat (zbP (S.take i))) with ho | ⟨O,l,ho⟩
   .rw [ho,show zcU [] (a,b,1)=[(a,b,1)] from rfl] at gs
    rw [ho]
    simp [go_sem,hii,dr]
    refine ⟨⟨nm,by omega⟩,by kernel_rfl,?_⟩
    refine ⟨by kernel_rfl,?_⟩
    simp [go_sem]
    refine ⟨⟨by omega,by omega⟩,i+1,by omega,by omega,zaa _ _ _ (by simp),?_⟩
    rw [gs]
    exact ⟨⟨rfl,by simp [paF]⟩,by omega⟩
   .rw [List.concat_eq_append] at ho
    rw [ho] at iv
    rw [ho,zlS] at gs
    rw [ho]
    obtain ⟨i1,i2,i3⟩:=iv
    have kb:=i3 (fun s hs=>(so s (List.mem_of_mem_take hs)).1) l (by simp)
    have hl:PaOk l:=by
     obtain ⟨t,t1,t2⟩:=i2 l (by simp)
     have:=(so t (List.mem_of_mem_take t1)).2
     simp only [zcv,Prod.mk.injEq] at t2
     unfold PaOk
     rw [t2.1,t2.2]; exact this
    have cG:=zjY l (a,b,1) hl hs
    have cl:((O++[l]).flatMap paF).length=(O.length+1)*3:=by rw [zc1]; simp
    have cd:((O++[l]).flatMap paF).drop (O.length*3)=[.sl l.1.length (mat l.1),.sl l.2.1.length (avs l.2.1),.int l.2.2]:=by
     rw [List.flatMap_append,List.drop_append_of_le_length (by rw [zc1]; omega),List.drop_eq_nil_of_le (by rw [zc1]; omega)]
     simp [paF]
    have cs:∀ y,((O++[l]).flatMap paF).set (O.length*3+2) y=O.flatMap paF++[.sl l.1.length (mat l.1),.sl l.2.1.length (avs l.2.1),y]:=fun y=>by
     have e:=zvo (.sl l.1.length (mat l.1)) (.sl l.2.1.length (avs l.2.1)) (.int l.2.2) y (O.flatMap paF)
     rw [zc1] at e
     rw [<- e,List.flatMap_append]; simp [paF]
    have ol:(O++[l]).length=O.length+1:=by simp
    have i1':O.length+1<=i:=by
     rw [ol,List.length_take] at i1; omega
    rw [List.length_take] at i3
    simp only [paF] at cG
    rw [ol]
    generalize hC:(O++[l]).flatMap paF=C at *
    have cg:C[O.length*3+2]?=some (.val (.int .i64 l.2.2)):=by rw [<- List.getElem?_drop,cd]; rfl
    have nC:¬ C=[]:=by intro e; rw [e] at cl; simp at cl
    have hd:0<O.length+1:=by omega
    generalize hv:zbG l (a,b,1)=v at *
    by_cases hz:v=0
    .rw [if_pos hz] at gs
     subst hz
     simp [go_sem,hii,dr,hd,cd]
     refine ⟨⟨nm,by omega⟩,by kernel_rfl,?_⟩
     refine ⟨by omega,by omega,⟨nC,by omega⟩,?_⟩
     refine CallD.of (cG) ?_
     simp [go_sem]
     refine ⟨by kernel_rfl,?_⟩
     simp [go_sem]
     simp [go_sem,cg]
     have tl:(S.take i).length<=i:=by rw [List.length_take]; omega
     have kk:0<=l.2.2/\l.2.2<=1000:=by omega
     refine ⟨by omega,by omega,nC,⟨by omega,by omega⟩,by omega,nC,by omega,⟨by omega,by omega⟩,i+1,by omega,by omega,zaa _ _ _ (by simp),?_⟩
     rw [gs,cs]
     refine ⟨⟨by simp,?_⟩,by omega⟩
     rw [List.flatMap_append]
     simp [paF]
    .rw [if_neg hz] at gs
     simp [go_sem,hii,dr,hd,cd]
     refine ⟨⟨nm,by omega⟩,by kernel_rfl,?_⟩
     refine ⟨by omega,by omega,⟨nC,by omega⟩,?_⟩
     refine CallD.of (cG) ?_
     simp [go_sem]
     simp [go_sem,hz]
     refine ⟨by kernel_rfl,?_⟩
     simp [go_sem]
     refine ⟨⟨by rw [cl],by omega,by omega⟩,⟨by omega,by omega⟩,i+1,by omega,by omega,zaa _ _ _ (by simp),?_⟩
     rw [gs]
     refine ⟨⟨by simp,?_⟩,by omega⟩
     rw [List.flatMap_append,hC]
     simp [paF]
  .have e:i=S.length:=by omega
   subst e
   have hii:¬ (S.length:Int)<k:=by omega
   rw [List.take_length]
   simp [go_sem,hii]
end Go.Proofs.YthhdollpkieknaaGreat


namespace Go.Proofs.YthhdollpkieknaaGreat
open Go.Abs
def prX (s:Prt) (k:Nat):AV:=if k=0 then .val (.slice none 0 0) else .own 3 k (avs ((pcP s).take k))
def mpX (s:Prt):List AV:=[.int s.2.2,if s.1=[] then .val (.slice none 0 0) else .own 3 s.1.length (avs (pcP s)),.int (skP s)]
def rwP (t:List Int):AV:=.sl (parP t).length (frzL ((parP t).flatMap mpX))
theorem zt5 {t:List Int} (h:t∈trN 6):(parP t).length<=100/\∀ s∈parP t,s.1.length<=6/\(∀ r∈s.1,r.length<=6)/\s.2.1.length<=6/\0<=s.2.2/\s.2.2<=100:=by
 have ok:(trN 6).all (fun t=>decide ((parP t).length<=100) && (parP t).all fun s=>decide (s.1.length<=6) && (s.1.all (fun r=>decide (r.length<=6)) && (decide (s.2.1.length<=6) && (decide (0<=s.2.2) && decide (s.2.2<=100)))))=true:=by decide +kernel
 have k:=List.all_eq_true.1 ok t h
 simp only [Bool.and_eq_true,decide_eq_true_eq,List.all_eq_true] at k
 exact k
theorem zfn:GCon Tryz.prog 100 [.agg [.sl 37 (mat (trN 6)),.sl 37 fcF]] (.own 165 37 ((trN 6).map rwP)) [.agg [.sl 37 (mat (trN 6)),.sl 37 fcF]]:=by
 have l6:=zbs
 have at6:=fun t h=>zjT (t:=t) h
 have tw:((trN 6).map rwP).take 37=(trN 6).map rwP:=List.take_of_length_le (by rw [List.length_map]; omega)
 have cPl:=fun t h1 h2 h3=>zeX (trN 6) 37 fcF t h1 h2 h3
 rw [l6] at cPl
 generalize fcF=FC at *
 refine zal Tryz.mixed ⟨12,[57],[1000000+187],[]⟩ [0] Tryz.func100 ?_
 rw [Tryz.ntmps100]
 simp [go_sem]
 refine zac (3::5::6::8::9::11::List.range' 16 45) (fun i:Nat=>[(3,.own 165 i (((trN 6).map rwP).take i)),(16,.int i)]) (fun i=>i<=37) (fun i=>37-i) 0 (by simp) (by simp [go_sem]) (by simp [go_sem]) ?_
 intro i hi
 by_cases hil:i<37
 .have hii:(i:Int)<37:=by omega
  have hl:i<(trN 6).length:=by omega
  have dm:=zar hl
  have hm:=memD [] hl
  have cC:=zfN hm
  obtain ⟨b1,b2⟩:=zt5 hm
  have nm:¬ trN 6=[]:=by intro e; rw [e] at l6; simp at l6
  have tki:((trN 6).map rwP).take (i+1)=((trN 6).map rwP).take i++[rwP ((trN 6)[i]?.getD [])]:=by
   rw [List.take_succ_eq_append_getElem (by rw [List.length_map]; omega),List.getElem_map,List.getElem?_eq_getElem hl]; rfl
  have lti:(((trN 6).map rwP).take i).length=i:=by rw [List.length_take,List.length_map]; omega
  have hrw:rwP ((trN 6)[i]?.getD [])=.sl (parP ((trN 6)[i]?.getD [])).length (frzL ((parP ((trN 6)[i]?.getD [])).flatMap mpX)):=rfl
  have lRW:((trN 6).map rwP).length=37:=by rw [List.length_map]; omega
  generalize (trN 6)[i]?.getD []=t at *
  generalize parP t=L at *
  generalize (trN 6).map rwP=RW at *
  simp [go_sem,hii,dm]
  refine ⟨nm,?_⟩
  refine ⟨_,_,cC,?_⟩
  simp [go_sem]
  refine zac (6::8::9::11::List.range' 24 32) (fun j:Nat=>[(6,.own 167 j ((L.take j).flatMap mpX)),(24,.int j)]) (fun j=>j<=L.length) (fun j=>L.length-j) 0 (by simp) (by simp [go_sem]) (by simp [go_sem]) ?_
  intro j hj
  by_cases hjl:j<L.length
  .have hji:(j:Int)<L.length:=by omega
   have dr:=zdO paF (fun _=>rfl) ([],[],0) hjl
   have nL:¬ L.flatMap paF=[]:=by intro e; have:=za2 paF (fun _=>rfl) L; rw [e] at this; simp at this; omega
   have lL:=za2 paF (fun _=>rfl) L
   have hms:=memD ([],[],0) hjl
   obtain ⟨c1,c2,c3,c4,c5⟩:=b2 _ hms
   have tkj:L.take (j+1)=L.take j++[L[j]?.getD ([],[],0)]:=by
    rw [List.take_succ_eq_append_getElem hjl,List.getElem?_eq_getElem hjl]; rfl
   have clj:=za2 mpX (fun _=>rfl) (L.take j)
   rw [List.length_take,Nat.min_eq_left (by omega)] at clj
   generalize L[j]?.getD ([],[],0)=s at *
   obtain ⟨sa,sb,sc⟩:=s
   simp only [paF] at dr
   simp only at c1 c2 c3 c4 c5
   have hMX:mpX (sa,sb,sc)=[.int sc,if sa=[] then .val (.slice none 0 0) else .own 3 sa.length (avs (pcP (sa,sb,sc))),.int (ixT (trN 6) sb+1)]:=rfl
   have hcp:pcP (sa,sb,sc)=sa.map fun c=>ixT (trN 6) c+1:=rfl
   have hcr:∀ k,prX (sa,sb,sc) k=if k=0 then .val (.slice none 0 0) else .own 3 k (avs ((pcP (sa,sb,sc)).take k)):=fun k=>rfl
   have hcl:(pcP (sa,sb,sc)).length=sa.length:=by rw [hcp,List.length_map]
   have cPs:=cPl sb (by omega) (fun r hr=>by have:=(at6 r hr).2.1; omega) (by omega)
   have bsk:=zfr (trN 6) sb
   rw [l6] at bsk
   generalize ixT (trN 6) sb+1=sk at *
   generalize hCP:pcP (sa,sb,sc)=cps at *
   generalize hMC:L.flatMap paF=MC at *
   generalize hC:(L.take j).flatMap mpX=C at *
   simp [go_sem,hji,dr]
   refine ⟨⟨nL,by omega⟩,by kernel_rfl,?_⟩
   refine CallD.of (cPs) ?_
   simp [go_sem]
   refine ⟨by kernel_rfl,?_⟩
   simp [go_sem]
   refine zac (9::11::List.range' 38 13) (fun k:Nat=>[(9,.box 167 [.int sc,prX (sa,sb,sc) k,.int sk]),(38,.int k)]) (fun k=>k<=sa.length) (fun k=>sa.length-k) 0 (by simp) (by simp [go_sem,prX]) (by simp [go_sem,prX]) ?_
   intro k hk
   by_cases hkl:k<sa.length
   .have hki:(k:Int)<sa.length:=by omega
    have dk:=zar hkl
    have hmk:=memD [] hkl
    have hk6:=c2 _ hmk
    have na:¬ sa=[]:=by rintro rfl; simp at hkl
    have cP:=cPl (sa[k]?.getD []) (by omega) (fun r hr=>by have:=(at6 r hr).2.1; omega) (by omega)
    have bp:=zfr (trN 6) (sa[k]?.getD [])
    rw [l6] at bp
    have tkk:cps.take (k+1)=cps.take k++[ixT (trN 6) (sa[k]?.getD [])+1]:=by
     rw [List.take_succ_eq_append_getElem (by omega)]
     congr 2
     subst hcp
     rw [List.getElem_map,List.getElem?_eq_getElem hkl]; rfl
    have lk:(cps.take k).length=k:=by rw [List.length_take]; omega
    have x1:prX (sa,sb,sc) (k+1)=.own 3 (k+1) (avs (cps.take k++[ixT (trN 6) (sa[k]?.getD [])+1])):=by rw [hcr,if_neg (by omega),tkk]
    generalize sa[k]?.getD []=r at *
    generalize ixT (trN 6) r+1=v at *
    by_cases k0:k=0
    .have x0:prX (sa,sb,sc) k=.val (.slice none 0 0):=by rw [hcr,if_pos k0]
     rw [x0]
     simp [go_sem,hki,dk]
     refine ⟨na,by kernel_rfl,?_⟩
     refine CallD.of (cP) ?_
     simp [go_sem]
     refine ⟨by kernel_rfl,?_⟩
     simp [go_sem]
     refine ⟨⟨by omega,by omega⟩,k+1,by omega,by omega,zaa _ _ _ (by simp),?_⟩
     rw [x1]
     subst k0
     exact ⟨by simp [avs],by omega⟩
    .have x0:prX (sa,sb,sc) k=.own 3 k (avs (cps.take k)):=by rw [hcr,if_neg k0]
     rw [x0]
     simp [go_sem,hki,dk]
     refine ⟨na,by kernel_rfl,?_⟩
     refine CallD.of (cP) ?_
     simp [go_sem]
     refine ⟨⟨by omega,by omega,by omega⟩,?_⟩
     refine ⟨by kernel_rfl,?_⟩
     simp [go_sem]
     refine ⟨⟨by omega,by omega⟩,k+1,by omega,by omega,zaa _ _ _ (by simp),?_⟩
     rw [x1,zaD]
     exact ⟨rfl,by omega⟩
   .have e:k=sa.length:=by omega
    subst e
    have hki:¬ (sa.length:Int)<sa.length:=by omega
    by_cases s0:sa=[]
    .have x0:prX (sa,sb,sc) sa.length=.val (.slice none 0 0):=by rw [hcr,if_pos (by rw [s0]; rfl)]
     rw [x0]
     rw [if_pos s0] at hMX
     simp [go_sem,hki]
     refine ⟨⟨by rw [clj],by omega,by omega⟩,⟨by omega,by omega⟩,j+1,by omega,by omega,(Off.reset (by intro x hx; simp at hx |-; omega) (by simp) (by simp [go_sem,zaa])),?_⟩
     rw [tkj,List.flatMap_append,hC]
     refine ⟨⟨by omega,?_⟩,by omega⟩
     simp [hMX]
    .have x0:prX (sa,sb,sc) sa.length=.own 3 sa.length (avs cps):=by
      rw [hcr,if_neg (by intro e; exact s0 (List.length_eq_zero_iff.1 e)),List.take_of_length_le (by omega)]
     rw [x0]
     rw [if_neg s0] at hMX
     simp [go_sem,hki]
     refine ⟨⟨by rw [clj],by omega,by omega⟩,⟨by omega,by omega⟩,j+1,by omega,by omega,(Off.reset (by intro x hx; simp at hx |-; omega) (by simp) (by simp [go_sem,zaa])),?_⟩
     rw [tkj,List.flatMap_append,hC]
     refine ⟨⟨by omega,?_⟩,by omega⟩
     simp [hMX]
  .have e:j=L.length:=by omega
   subst e
   have hji:¬ (L.length:Int)<L.length:=by omega
   rw [List.take_length]
   simp [go_sem,hji]
   refine ⟨⟨by omega,by omega,by omega⟩,⟨by omega,by omega⟩,i+1,by omega,by omega,(Off.reset (by intro x hx; simp at hx |-; omega) (by simp) (by simp [go_sem,zaa])),?_⟩
   rw [tki,hrw]
   exact ⟨⟨rfl,rfl⟩,by omega⟩
 .have e:i=37:=by omega
  subst e
  rw [tw]
  simp [go_sem]
def ppF:List AV:=parT.map fun r=>.sl r.length (r.flatMap ctF)
theorem zrG:∀ T:List (List Int),frzL (T.map rwP)=T.map rwP
 | []=>rfl
 | t::T=>by
  rw [List.map_cons,frzL,zrG T]; rfl
theorem zrP:∀ L:List Prt,NXL (frzL (L.flatMap mpX)) ((L.map fun s=>(s.2.2,pcP s,skP s)).flatMap fun x=>[.int x.1,.sl x.2.1.length (avs x.2.1),.int x.2.2])
 | []=>.nil
 | s::L=>by
  rw [List.map_cons,List.flatMap_cons,List.flatMap_cons,ziZ]
  refine NXL.app (zrP L) ?_
  by_cases h:s.1=[]
  .have e:mpX s=[.int s.2.2,.val (.slice none 0 0),.int (skP s)]:=by unfold mpX; rw [if_pos h]
   have e2:pcP s=[]:=by unfold pcP; rw [h]; rfl
   rw [e,e2]
   exact .cons (.same _) (.cons .nil (.cons (.same _) .nil))
  .have e:mpX s=[.int s.2.2,.own 3 s.1.length (avs (pcP s)),.int (skP s)]:=by unfold mpX; rw [if_neg h]
   have e2:(pcP s).length=s.1.length:=by simp [pcP]
   rw [e]
   show NXL [.int s.2.2,.sl s.1.length (frzL (avs (pcP s))),.int (skP s)] [.int s.2.2,.sl (pcP s).length (avs (pcP s)),.int (skP s)]
   rw [zgu,e2]
   exact NXL.same _
theorem zog:∀ T:List (List Int),NXL (T.map rwP) (T.map fun t=>trG ((parP t).map fun s=>(s.2.2,pcP s,skP s)))
 | []=>.nil
 | t::T=>by
  rw [List.map_cons,List.map_cons]
  refine .cons ?_ (zog T)
  show NX (.sl (parP t).length (frzL ((parP t).flatMap mpX))) (trG _)
  unfold trG
  rw [List.length_map]
  exact .sl _ (zrP _)
theorem zth:((trN 6).map fun t=>trG ((parP t).map fun s=>(s.2.2,pcP s,skP s)))=ppF:=by
 have e:=congrArg (List.map trG) zuJ
 rw [List.map_map,List.map_map] at e
 refine (Eq.trans ?_ e).trans ?_
 .rfl
 .unfold ppF
  refine List.map_congr_left fun r _=>?_
  show trG (r.map _)=_
  unfold trG
  rw [List.length_map,List.flatMap_map]
  show AV.sl r.length (r.flatMap fun c=>[.int c.1,.sl (nvs c.2.1).length (avs (nvs c.2.1)),.int c.2.2])=_
  simp only [zhj]
  rfl
theorem zeV:GCon Tryz.prog 100 [.agg [.sl 37 (mat (trN 6)),.sl 37 fcF]] (.sl 37 ppF) [.agg [.sl 37 (mat (trN 6)),.sl 37 fcF]]:=by
 refine GCon.nx (.sl 37 ?_) (GCon.frzR zfn (show frz (.own _ 37 _)=.sl 37 (frzL ((trN 6).map rwP)) from rfl))
 rw [zrG,<- zth]
 exact zog _
end Go.Proofs.YthhdollpkieknaaGreat


namespace Go.Proofs.YthhdollpkieknaaGreat
open Go.Abs
theorem N38.take {a:List Int} (ha:N38 a):a.take 38=a:=List.take_of_length_le (by rw [ha.1]; exact Nat.le_refl _)
end Go.Proofs.YthhdollpkieknaaGreat


namespace Go.Proofs.YthhdollpkieknaaGreat
open Go.Abs
theorem Ch.cons {a:List Int} (h:Ch a):avs a=.int 1::avs a.tail:=by
 have a0:=zav (a:=a) (v:=0) (by rw [h.1.1]; omega)
 rw [List.drop_zero,h.2,List.drop_one] at a0
 exact a0
theorem N38.ne {a:List Int} (h:N38 a):¬ a=[]:=by rintro rfl; have:=h.1; simp at this
end Go.Proofs.YthhdollpkieknaaGreat


namespace Go.Proofs.YthhdollpkieknaaGreat
open Go.Abs
theorem zvu {i:Nat} (hi:i<38):(ptR i).length<=100/\∀ c∈ptR i,c.2.1.length<=100/\c.1<=100/\(∀ v∈c.2.1,v<38)/\c.2.2<38:=by
 have ok:(List.range 38).all (fun i=>decide ((ptR i).length<=100) && (ptR i).all fun c=>decide (c.2.1.length<=100) && (decide (c.1<=100) && (c.2.1.all (fun v=>decide (v<38)) && decide (c.2.2<38))))=true:=by decide +kernel
 have h:=List.all_eq_true.1 ok i (List.mem_range.2 hi)
 simp only [Bool.and_eq_true,List.all_eq_true,decide_eq_true_eq] at h
 exact h
theorem zrm {i:Nat} (h:i<37):ppF.drop i=.sl (ptR (i+1)).length ((ptR (i+1)).flatMap ctF)::ppF.drop (i+1):=by
 have l:parT.length=37:=by decide +kernel
 have hl:i<ppF.length:=by unfold ppF; rw [List.length_map,l]; exact h
 rw [List.drop_eq_getElem_cons hl]
 congr 1
 have e:ppF[i]?=some (.sl (ptR (i+1)).length ((ptR (i+1)).flatMap ctF)):=by
  unfold ppF ptR
  rw [List.getElem?_map,Nat.add_sub_cancel,List.getElem?_eq_getElem (by rw [l]; exact h)]; rfl
 rw [List.getElem?_eq_getElem hl] at e
 exact Option.some.inj e
theorem zu9:¬ ppF=[]:=by
 intro e
 have l:parT.length=37:=by decide +kernel
 have:=congrArg List.length e
 unfold ppF at this
 rw [List.length_map,l] at this; simp at this
end Go.Proofs.YthhdollpkieknaaGreat


namespace Go.Proofs.YthhdollpkieknaaGreat
open Go.Abs
def suF (b a:List Int) (L:List Ctp):Int:=L.foldl (fun s c=>s+(c.1:Int)*(iat a c.2.2*vlN b c.2.1%10007)%10007) 0
theorem zk7 (b a:List Int) (L:List Ctp) (c:Ctp):suF b a (L++[c])=suF b a L+(c.1:Int)*(iat a c.2.2*vlN b c.2.1%10007)%10007:=by simp [suF]
theorem zgB (b a:List Int) (L:List Ctp):(0<=suF b a L/\suF b a L<=10006*L.length)/\suF b a L%10007=rowI (iat b) (iat a) L%10007:=by
 generalize hn:L.length=n
 induction n generalizing L with
 | zero=>rw [List.length_eq_zero_iff.1 hn]; exact ⟨⟨Int.le_refl _,by show (0:Int)<=_; omega⟩,rfl⟩
 | succ n ih =>
  rcases List.eq_nil_or_concat L with rfl | ⟨h,c,rfl⟩
  .simp at hn
  .rw [List.concat_eq_append] at hn |-
   obtain ⟨i1,i2⟩:=ih h (by simpa using hn)
   rw [zk7,zeM]
   have e:(c.1:Int)*(iat a c.2.2*vlN b c.2.1%10007)%10007=(c.1:Int)*(prI (iat b) c.2.1*iat a c.2.2)%10007:=by
    refine zaH rfl ?_
    rw [Int.emod_emod_of_dvd _ (Int.dvd_refl _),Int.mul_comm]
    exact zaH (zsK b c.2.1) rfl
   rw [e]
   generalize (c.1:Int)*(prI (iat b) c.2.1*iat a c.2.2)=z at *
   generalize suF b a h=p at *
   generalize rowI (iat b) (iat a) h=r at *
   omega
theorem zkl (b a:List Int) {i:Nat} (h:i<37):(sbS b a).take (i+2)=(sbS b a).take (i+1)++[suF b a (ptR (i+1))%10007]:=by
 have l:(sbS b a).length=38:=(zfF b a).1
 rw [List.take_succ_eq_append_getElem (by omega)]
 congr 2
 have k:=ziU (sbI (iat b) (iat a)) (i:=i+1) (by omega)
 have e:(sbS b a)[i+1]?=some (iat (sbS b a) (i+1)):=by
  unfold iat
  rw [List.getElem?_eq_getElem (by omega)]; rfl
 rw [List.getElem?_eq_getElem (by omega)] at e
 rw [Option.some.inj e,(zgB b a _).2]
 refine k.trans ?_
 unfold sbI
 rw [if_neg (by omega)]
theorem znv (b a:List Int) (ha:N38 a):(sbS b a).take 1=[iat a 0]:=by
 have k:=ziU (sbI (iat b) (iat a)) (i:=0) (by omega)
 have h0:=ha.at 0
 have l:(sbS b a).length=38:=(zfF b a).1
 unfold sbI at k
 rw [if_pos rfl,Int.emod_eq_of_lt h0.1 h0.2] at k
 rw [<- k]
 show _=[iat (sbS b a) 0]
 unfold iat
 rw [List.take_succ_eq_append_getElem (by omega),List.getElem?_eq_getElem (by omega)]
 rfl
theorem zq8 (b a:List Int) (hb:N38 b) (ha:N38 a):Con Tryz.prog 99 [.sl 37 ppF,.sl b.length (avs b),.sl a.length (avs a)] (.own 2 38 (avs (sbS b a))):=by
 have la:=ha.1
 have na:=ha.ne
 have lb:=hb.1
 have nb:=hb.ne
 have da1:=zav (a:=a) (v:=0) (by omega)
 rw [List.drop_zero,Nat.zero_add,List.drop_one] at da1
 have x0:=znv b a ha
 have xs:=fun i h=>zkl b a (i:=i) h
 have xl:(sbS b a).take 38=sbS b a:=List.take_of_length_le (by rw [(zfF b a).1]; omega)
 have a0:isN (iat a 0):=ha.Ns.get _
 have nP:=zu9
 have pd:=fun i h=>zrm (i:=i) h
 have sl:=(zfF b a).1
 generalize sbS b a=X at *
 generalize ppF=PP at *
 generalize iat a 0=v0 at *
 refine zab Tryz.mixed ⟨13,[],[],[]⟩ Tryz.func99 ?_
 rw [Tryz.ntmps99]
 simp [go_sem]
 simp [go_sem,da1]
 rw [<- da1]
 refine ⟨⟨by omega,na⟩,?_⟩
 refine zac (7::9::10::12::List.range' 19 34) (fun i:Nat=>[(7,.own 2 (i+1) (avs (X.take (i+1)))),(19,.int i)]) (fun i=>i<=37) (fun i=>37-i) 0 (by simp) (by simp [go_sem,x0,avs]) (by simp [go_sem]) ?_
 intro i hi
 by_cases hil:i<37
 .have hii:(i:Int)<37:=by omega
  have dr:=pd i hil
  obtain ⟨r1,r2⟩:=zvu (i:=i+1) (by omega)
  have xs1:=xs i hil
  have lX:(X.take (i+1)).length=i+1:=by rw [List.length_take]; omega
  generalize X.take (i+1)=XI at *
  generalize ptR (i+1)=R at *
  simp [go_sem,hii,dr]
  refine ⟨nP,?_⟩
  refine zac (10::12::List.range' 25 22) (fun j:Nat=>[(10,.int (suF b a (R.take j))),(25,.int j)]) (fun j=>j<=R.length) (fun j=>R.length-j) 0 (by simp) (by simp [go_sem,suF]) (by simp [go_sem]) ?_
  intro j hj
  by_cases hjl:j<R.length
  .have hji:(j:Int)<R.length:=by omega
   have cd:=zpt hjl
   have hmm:=memD (0,[],0) hjl
   obtain ⟨q1,q2,k1,k2⟩:=r2 _ hmm
   have tj:R.take (j+1)=R.take j++[R[j]?.getD (0,[],0)]:=by
    rw [List.take_succ_eq_append_getElem hjl,List.getElem?_eq_getElem hjl]; rfl
   have rs:=zk7 b a (R.take j) (R[j]?.getD (0,[],0))
   rw [<- tj] at rs
   have bd:=(zgB b a (R.take j)).1
   have bl:(R.take j).length<=100:=by rw [List.length_take]; omega
   have nR:¬ R.flatMap ctF=[]:=by intro e; have:=zi9 R; rw [e] at this; simp at this; omega
   have lR:=zi9 R
   generalize R.take j=F at *
   generalize R[j]?.getD (0,[],0)=c at *
   obtain ⟨n,l,t⟩:=c
   simp only [ctF] at cd q1 q2 k1 k2 rs
   generalize hMC:R.flatMap ctF=MC at *
   have cV:=zmV b l hb.Ns (by omega) q1 (fun v hv=>by have:=k1 v hv; omega)
   have vN:=zvr b l
   have aN:isN (iat a t):=ha.Ns.get t
   have dat:=zav (a:=a) (v:=t) (by omega)
   have f1:=zaK aN vN
   have c1:=zbF (iat a t*vlN b l) f1.1 f1.2
   have m1:=zak (iat a t*vlN b l)
   have f2:=zaK (show isN (n:Int) from ⟨by omega,by omega⟩) m1
   have c2:=zbF ((n:Int)*(iat a t*vlN b l%10007)) f2.1 f2.2
   have m2:=zak ((n:Int)*(iat a t*vlN b l%10007))
   have v1:=m2.1; have v2:=m2.2
   obtain ⟨f3,f4⟩:=f1
   obtain ⟨f5,f6⟩:=f2
   generalize suF b a F=s at *
   generalize hp1:iat a t*vlN b l%10007=p1 at *
   generalize hp2:(n:Int)*p1%10007=p2 at *
   generalize vlN b l=y at *
   generalize iat a t=z at *
   simp [go_sem,hji,cd]
   refine ⟨nR,by kernel_rfl,?_⟩
   simp [go_sem,dat]
   refine ⟨⟨by omega,na⟩,?_⟩
   refine CallD.of (cV) ?_
   simp [go_sem]
   refine ⟨⟨f3,f4⟩,?_⟩
   refine CallD.of (c1) ?_
   simp [go_sem]
   refine ⟨⟨f5,f6⟩,?_⟩
   refine CallD.of (c2) ?_
   simp [go_sem]
   refine ⟨⟨by omega,by omega⟩,?_⟩
   refine ⟨by kernel_rfl,?_⟩
   simp [go_sem]
   refine ⟨⟨by omega,by omega⟩,j+1,by omega,by omega,zaa _ _ _ (by simp),?_⟩
   rw [rs]
   exact ⟨rfl,by omega⟩
  .have e:j=R.length:=by omega
   subst e
   have hji:¬ (R.length:Int)<R.length:=by omega
   have bd:=(zgB b a R).1
   rw [List.take_length]
   generalize suF b a R=s at *
   have cN:=zbF s (by omega) (by omega)
   generalize s%10007=s1 at *
   simp [go_sem,hji]
   refine CallVC.of (cN) ?_
   simp [go_sem]
   refine ⟨⟨by omega,by omega,by omega⟩,⟨by omega,by omega⟩,i+1,by omega,by omega,(Off.reset (by intro x hx; simp at hx |-; omega) (by simp) (by simp [go_sem,zaa])),?_⟩
   rw [xs1,zaD]
   exact ⟨⟨rfl,rfl⟩,by omega⟩
 .have e:i=37:=by omega
  subst e
  rw [xl]
  simp [go_sem]
def smE (b a:List Int):Int:=if mapB b=true/\mapB a=true then if iat b 0=0 then 0 else 5 else 1
def smX (b a:List Int):List Int:=if smE b a=0 then sbS b a else []
theorem zo2 {b a:List Int} (h:smE b a=0):Inf b/\N38 a:=by
 unfold smE at h
 split at h
 .rename_i k
  split at h
  .rename_i k2; exact ⟨⟨zkN k.1,k2⟩,zkN k.2⟩
  .simp at h
 .simp at h
theorem zju (b a:List Int) (hb:b.length<=1048576) (ha:a.length<=1048576):GCon Tryz.prog 89 [.sl b.length (avs b),.own 25 1 [.sl a.length (avs a)]] (.int (smE b a)) [.any,.any]:=by
 have cB:=zjv b (by omega)
 have cA:=zjv a (by omega)
 have hE:smE b a=if mapB b=true/\mapB a=true then if iat b 0=0 then 0 else 5 else 1:=rfl
 have b0:mapB b=true->(avs b).drop 0=.int (iat b 0)::avs (b.drop 1)/\¬ b=[]/\0<b.length:=fun h=>by
  have h:=zkN h
  exact ⟨zav (a:=b) (v:=0) (by rw [h.1]; omega),h.ne,by rw [h.1]; omega⟩
 rw [hE]
 generalize mapB b=mb at *
 generalize mapB a=ma at *
 generalize iat b 0=z at *
 refine zal Tryz.mixed ⟨7,[],[],[]⟩ [] Tryz.func89 ?_
 rw [Tryz.ntmps89]
 simp [go_sem]
 refine zac (4::6::List.range' 12 8) (fun k:Nat=>[(12,.int k),(4,if k=0 then .int 0 else .int 0)]) (fun k=>k<=2/\(1<=k->ma=true)/\(2<=k->mb=true)) (fun k=>2-k) 0 (by simp) (by simp [go_sem]) (by simp [go_sem]) ?_
 rintro k ⟨hk,k1,k2⟩
 rcases (show k=0\/k=1\/k=2 by omega) with rfl | rfl | rfl
 .simp [go_sem]
  refine CallVC.of (cA) ?_
  simp [go_sem]
  cases ma with
  | false =>
   simp [go_sem]
  | true =>
   simp [go_sem]
   exact ⟨1,by simp,by omega,zaa _ _ _ (by simp),rfl⟩
 .rw [k1 (by omega)] at *
  simp [go_sem]
  refine CallVC.of (cB) ?_
  simp [go_sem]
  cases mb with
  | false =>
   simp [go_sem]
  | true =>
   simp [go_sem]
   exact ⟨2,by simp,by omega,zaa _ _ _ (by simp),rfl⟩
 .obtain ⟨b0,b1,b2⟩:=b0 (k2 (by omega))
  rw [k1 (by omega),k2 (by omega)]
  rw [List.drop_zero] at b0
  simp [go_sem,b0]
  refine ⟨b2,?_⟩
  by_cases hz:z=0
  .simp [go_sem,hz]
  .simp [go_sem,hz]
theorem zfB (b a:List Int) (hb:b.length<=1048576) (ha:a.length<=1048576) :
  Con Tryz.prog 29 [.sl b.length (avs b),.sl a.length (avs a)] (.tup [.own 2 (smX b a).length (avs (smX b a)),.int (smE b a)]):=by
 have c1:=zju b a hb ha
 by_cases he:smE b a=0
 .obtain ⟨k1,k2⟩:=zo2 he
  have cF:=zlp
  have cM:=zeV
  have c2:=zq8 b a k1.1 k2
  have eX:smX b a=sbS b a:=by unfold smX; rw [if_pos he]
  have l:=(zfF b a).1
  rw [eX,he,l]
  rw [he] at c1
  clear eX he l
  generalize sbS b a=X at *
  generalize ppF=PP at *
  generalize fcF=FC at *
  refine zab Tryz.mixed ⟨7,[],[1000000+89,1000000+71,1000000+100],[]⟩ Tryz.func29 ?_
  rw [Tryz.ntmps29]
  simp [go_sem]
  refine ⟨_,_,c1,?_⟩
  simp [go_sem]
  refine ⟨_,_,cF,?_⟩
  simp [go_sem]
  refine ⟨_,_,cM,?_⟩
  simp [go_sem]
  refine CallVC.of (c2) ?_
  simp [go_sem]
 .have eX:smX b a=[]:=by unfold smX; rw [if_neg he]
  rw [eX]
  have n1:smE b a=1\/smE b a=5:=by unfold smE at he |-; split <;> (try split) <;> simp_all
  clear eX
  generalize smE b a=E at *
  show Con _ _ _ (.tup [.own 2 0 [],.int E])
  refine Con.n1 _ ?_
  refine zab Tryz.mixed ⟨7,[],[1000000+89,1000000+71,1000000+100],[]⟩ Tryz.func29 ?_
  rw [Tryz.ntmps29]
  simp [go_sem]
  refine ⟨_,_,c1,?_⟩
  simp [go_sem]
  simp [go_sem,he]
end Go.Proofs.YthhdollpkieknaaGreat


namespace Go.Proofs.YthhdollpkieknaaGreat
open Go.Abs
theorem ziY (a b:List Int) (ha:a.length<=1000000) (hb:b.length<=1000000):Con Tryz.prog 293 [.sl a.length (avs a),.sl b.length (avs b)] (.bool (ltT a b)):=by
 unfold ltT
 have c:=zic b a (by omega) (by omega)
 by_cases h:a.length=b.length
 .have hi:(a.length:Int)=b.length:=by omega
  rw [if_pos h]
  refine zab Tryz.mixed ⟨5,[],[],[]⟩ Tryz.func293 ?_
  rw [Tryz.ntmps293]
  simp [go_sem,hi]
  refine CallVC.of (c) ?_
  simp [go_sem]
 .have hi:¬ (a.length:Int)=b.length:=by omega
  rw [if_neg h]
  refine zab Tryz.mixed ⟨5,[],[],[]⟩ Tryz.func293 ?_
  rw [Tryz.ntmps293]
  simp [go_sem,hi]
theorem zmj (bs:List (List Int)) (hl:∀ b∈bs,b.length<=1000000) (hn:bs.length<=1000):GCon Tryz.prog 252 [.sl bs.length (mat bs)] (.sl bs.length (mat (srtT bs))) [.any]:=by
 refine zal Tryz.mixed ⟨7,[7,36,48],[],[]⟩ [] Tryz.func252 ?_
 rw [Tryz.ntmps252]
 simp [go_sem]
 refine zac ([3,4,5,6]++List.range' 8 41) (fun i:Nat=>[(3,.sl i (mat (srtT (bs.take i)))),(4,.int i)]) (fun i=>i<=bs.length) (fun i=>bs.length-i) 0 (by simp) (by simp [go_sem,srtT,mat]) (by simp [go_sem]) ?_
 intro i hi
 simp [go_sem]
 refine ⟨fun h=>?_,fun h=>?_⟩ <;> simp at h
 .have hif:i<bs.length:=by omega
  have hb:=memD [] hif
  have ht:srtT (bs.take (i+1))=insT (bs[i]?.getD []) (srtT (bs.take i)):=by
   rw [List.take_add_one,List.getElem?_eq_getElem hif,Option.toList_some,zfo]; rfl
  have l1:=hl _ hb
  have sl:∀ s∈srtT (bs.take i),s.length<=1000000:=fun s hs=>hl s (List.mem_of_mem_take ((zbd _).mem_iff.1 hs))
  have il:(srtT (bs.take i)).length=i:=by rw [zeh]; simp; omega
  have mi:=zar hif
  have neb:¬ bs=[]:=by rintro rfl; simp at hif
  generalize hN:srtT (bs.take (i+1))=S2 at *
  generalize srtT (bs.take i)=S at *
  generalize bs[i]?.getD []=p at *
  have cO:=zg5 p (by omega)
  subst il
  simp [go_sem]
  refine zac (5::List.range' 14 18) (fun a:Nat=>[(5,.int a)]) (fun a=>a<=S.length/\atT p S=a+atT p (S.drop a)) (fun a=>S.length-a) 0 (by simp) (by simp [go_sem]) (by simp [go_sem]) ?_
  rintro a ⟨ha,hat⟩
  by_cases has:a<S.length
  .have has':(a:Int)<S.length:=by omega
   have hd:S.drop a=S[a]?.getD []::S.drop (a+1):=by rw [List.drop_eq_getElem_cons has]; simp [has]
   rw [hd,atT] at hat
   have hg:=zar has
   have hsl:=sl _ (memD [] has)
   have neS:¬ S=[]:=by rintro rfl; simp at has
   have cL:=ziY p (S[a]?.getD []) (by omega) (by omega)
   by_cases hlt:ltT p (S[a]?.getD [])=true
   .rw [if_pos hlt] at hat
    rw [hlt] at cL
    have hS2:S2=S.take a++p::S.drop a:=by rw [ht,insT,hat,Nat.add_zero]
    simp [go_sem,has',hg,mi]
    refine ⟨by kernel_rfl,⟨hif,neb⟩,neS,?_⟩
    refine CallD.of (cL) ?_
    simp [go_sem]
    refine ⟨by kernel_rfl,?_⟩
    simp [go_sem]
    simp [go_sem,mi,zbm,zbo,zbc]
    refine ⟨by kernel_rfl,⟨hif,neb⟩,?_⟩
    refine CallD.of (cO) ?_
    simp [go_sem]
    simp [go_sem,zbm,zbo,zbc]
    refine ⟨by omega,⟨by omega,by omega⟩,?_⟩
    refine ⟨by kernel_rfl,?_⟩
    simp [go_sem]
    simp [go_sem,zbm,zbo,zbc]
    refine ⟨by omega,⟨by omega,by omega⟩,⟨by omega,by omega,by omega,by omega⟩,⟨by omega,by omega⟩,S.length+1,by omega,by omega,(by repeat (first | exact zaa _ _ _ (by simp) | (refine Off.reset (by intro x hx; simp at hx |-; omega) (by simp) ?_; simp -failIfUnchanged [go_sem,zaa]))),⟨by omega,?_⟩,by omega⟩
    rw [hN,hS2,show (S.drop a).take (S.length-a)=S.drop a from List.take_of_length_le (by simp),<- zhb (S.take a++p::S.drop a),zgH]; rfl
   .rw [if_neg hlt] at hat
    have hlf:ltT p (S[a]?.getD [])=false:=by simpa using hlt
    rw [hlf] at cL
    simp [go_sem,has',hg,mi]
    refine ⟨by kernel_rfl,⟨hif,neb⟩,neS,?_⟩
    refine CallD.of (cL) ?_
    simp [go_sem]
    refine ⟨by kernel_rfl,?_⟩
    simp [go_sem]
    exact ⟨by omega,a+1,⟨by omega,by omega⟩,by omega,zaa _ _ _ (by simp),by omega⟩
  .have has':¬ (a:Int)<S.length:=by omega
   have hd:S.drop a=[]:=List.drop_eq_nil_of_le (by omega)
   rw [hd,atT] at hat
   have hS2:S2=S.take a++p::S.drop a:=by rw [ht,insT,hat,Nat.add_zero]
   simp [go_sem,has']
   refine ⟨by kernel_rfl,?_⟩
   refine ⟨by kernel_rfl,?_⟩
   simp [go_sem]
   simp [go_sem,mi,zbm,zbo,zbc]
   refine ⟨by kernel_rfl,⟨hif,neb⟩,?_⟩
   refine CallD.of (cO) ?_
   simp [go_sem]
   simp [go_sem,zbm,zbo,zbc]
   refine ⟨by omega,⟨by omega,by omega⟩,?_⟩
   refine ⟨by kernel_rfl,?_⟩
   simp [go_sem]
   simp [go_sem,zbm,zbo,zbc]
   refine ⟨by omega,⟨by omega,by omega⟩,⟨by omega,by omega,by omega,by omega⟩,⟨by omega,by omega⟩,S.length+1,by omega,by omega,(by repeat (first | exact zaa _ _ _ (by simp) | (refine Off.reset (by intro x hx; simp at hx |-; omega) (by simp) ?_; simp -failIfUnchanged [go_sem,zaa]))),⟨by omega,?_⟩,by omega⟩
   rw [hN,hS2,show (S.drop a).take (S.length-a)=S.drop a from List.take_of_length_le (by simp),<- zhb (S.take a++p::S.drop a),zgH]; rfl
 .have e:i=bs.length:=by omega
  subst e
  rw [List.take_length]
  simp [go_sem]
end Go.Proofs.YthhdollpkieknaaGreat

