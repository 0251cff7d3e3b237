/- Texts of the own layer and contracts, part 8: W83 W62 W64 W86 O W2 L54. -/
import Derived.Test.YthhdollpkieknaaGreatRows
import Derived.WalkKit
import Derived.ProofKit
import Derived.OpenShut
import Derived.Test.YthhdollpkieknaaGreatM7
set_option linter.unusedSectionVars false
set_option linter.unusedVariables false
set_option linter.unusedSimpArgs false
set_option maxHeartbeats 4000000
set_option maxRecDepth 100000
namespace Go.Proofs.YthhdollpkieknaaGreat
open Go.Abs
theorem znc (n:Nat) (h1:1<=n) (h6:n<=6):GCon Tryz.prog 351 [.int n] (.sl (freT n).length (mat (freT n))) [.any] :=
 GCon.frzR (zoL n h1 h6) (by simp [frz,zem])
def alF:Nat->List (List Int)
 | 0=>[]
 | n+1=>alF n++freT (n+1)
theorem zhj:(List.range 7).all (fun n=>decide ((alF n).length<=10))=true/\(alF 6).length=10/\(alF 6).all (fun r=>decide (r.length<=6))=true:=⟨by decide +kernel,by decide +kernel,by decide +kernel⟩
theorem zpU:GCon Tryz.prog 313 [] (.own 25 10 (mat (alF 6))) []:=by
 have cF:=fun i (h:i<6)=>znc (i+1) (by omega) (by omega)
 have hl:=fun i (h:i<=6)=>of_decide_eq_true (List.all_eq_true.1 zhj.1 i (List.mem_range.2 (by omega)))
 have st:∀ i,alF (i+1)=alF i++freT (i+1):=fun i=>rfl
 have a0:alF 0=[]:=rfl
 have l10:=zhj.2.1
 generalize alF=A at *
 generalize freT=F at *
 refine zaf Tryz.mixed ⟨3,[],[1000000+351],[]⟩ [] Tryz.func313 ?_
 rw [Tryz.ntmps313]
 simp [go_sem]
 refine zac (1::2::List.range' 4 8) (fun i:Nat=>[(1,.own 25 (A i).length (mat (A i))),(2,.int (i+1))]) (fun i=>i<=6) (fun i=>6-i) 0 (by simp) (by simp [go_sem,a0,mat]) (by simp [go_sem]) ?_
 intro i hi
 by_cases hil:i<6
 .have hii:(i:Int)+1<=6:=by omega
  have c1:=cF i hil
  have s1:=st i
  have h1:=hl i (by omega)
  have h2:=hl (i+1) (by omega)
  have tl:=congrArg List.length s1
  rw [List.length_append] at tl
  have em:mat (A (i+1))=mat (A i)++mat (F (i+1)):=by rw [s1]; simp [mat]
  have ec:((i+1:Nat):Int)=(i:Int)+1:=by omega
  rw [ec] at c1
  simp [go_sem,hii]
  refine ⟨_,_,c1,?_⟩
  simp [go_sem]
  exact ⟨⟨by omega,by omega⟩,⟨by omega,by omega⟩,i+1,by omega,by omega,zaa _ _ _ (by simp),by rw [tl,em]; exact ⟨rfl,rfl⟩,by omega⟩
 .have e:i=6:=by omega
  subst e
  simp [go_sem]
  exact l10
theorem zrB:GCon Tryz.prog 313 [] (.sl 10 (mat (alF 6))) []:=GCon.frzR zpU (by simp [frz,zem])
def sgA (t:List Int) (k:Nat):Bool:=decide (tuF 6 t k=rt0 t) && decide (iat t k%2=0)
def sgnT (t:List Int):Int:=if (List.range t.length).any (sgA t)=true then 1 else -1
theorem znZ (t:List Int) (h:zhA t=true):Con Tryz.prog 315 [.sl t.length (avs t)] (.int (sgnT t)):=by
 obtain ⟨m,c,Y,cR⟩:=zeu h
 obtain ⟨o1,o2,o3,_⟩:=zkC h
 obtain ⟨t1,t6,hk⟩:=zn0 o1
 have bt:∀ x∈t,0<=x/\x<=1000:=by
  unfold dbOk at o2
  simp only [Bool.and_eq_true,Bool.or_eq_true,decide_eq_true_eq,List.all_eq_true,List.mem_range] at o2
  exact o2.2.2.1
 have ng:¬ t=[]:=by rintro rfl; simp at t1
 have yes:∀ k,k<t.length->sgA t k=true->sgnT t=1:=fun k h2 h3=>by
  unfold sgnT
  rw [if_pos (List.any_eq_true.2 ⟨k,List.mem_range.2 h2,h3⟩)]
 have no:(∀ k,k<t.length->sgA t k=false)->sgnT t = -1:=fun h=>by
  unfold sgnT
  rw [if_neg]
  intro hh
  obtain ⟨k,h1,h2⟩:=List.any_eq_true.1 hh
  rw [h k (List.mem_range.1 h1)] at h2
  cases h2
 have hA:∀ k,sgA t k=(decide (tuF 6 t k=rt0 t) && decide (iat t k%2=0)):=fun k=>rfl
 have cT:=fun k (h:k<t.length)=>zdE 6 t k (hk k h).1
 have cS:=fun k (h:k<t.length)=>zci (tuF 6 t k) (rt0 t) (by have:=(hk k h).2.1; omega)
 clear hk h o1 o2
 generalize sgnT t=D at *
 generalize sgA t=G at *
 generalize rt0 t=z at *
 generalize tuF 6 t=U at *
 refine zab Tryz.mixed ⟨5,[],[1000000+314],[]⟩ Tryz.func315 ?_
 rw [Tryz.ntmps315]
 simp [go_sem]
 refine ⟨_,_,cR,?_⟩
 simp [go_sem]
 refine zac (2::4::List.range' 10 19) (fun k:Nat=>[(4,.int k)]) (fun k=>k<=t.length/\∀ j,j<k->G j=false) (fun k=>t.length-k) 0 ⟨by omega,fun j h=>by omega⟩ (by simp [go_sem]) (by simp [go_sem]) ?_
 rintro k ⟨k2,hn⟩
 by_cases hkl:k<t.length
 .have hki:(k:Int)<t.length:=by omega
  have cT:=cT k hkl
  have cS:=cS k hkl
  have hA:=hA k
  have dk:=zae hkl
  have bk:=bt _ (memD 0 hkl)
  have hyes:=yes k hkl
  have hno:G k=false->∀ j,j<k+1->G j=false:=fun h j h2=>by
   rcases Nat.lt_or_ge j k with h3 | h3
   .exact hn j h3
   .have:j=k:=by omega
    subst this; exact h
  have ei:iat t k=t[k]?.getD 0:=rfl
  rw [<- ei] at bk
  generalize G k=g at *
  generalize decide (U k=z)=b at *
  have eq1:iat t k%2=0->decide (iat t k%2=0)=true:=fun h=>decide_eq_true h
  have eq0:¬ iat t k%2=0->decide (iat t k%2=0)=false:=fun h=>decide_eq_false h
  generalize U k=u at *
  generalize iat t k=x at *
  cases b with
  | false =>
   rw [Bool.false_and] at hA
   have hA:=hno hA
   simp [go_sem,hki]
   refine CallVC.of (cT) ?_
   simp [go_sem]
   refine CallVC.of (cS) ?_
   simp [go_sem]
   exact ⟨⟨by omega,by omega⟩,k+1,⟨by omega,hA⟩,by omega,zaa _ _ _ (by simp),by omega⟩
  | true =>
   rw [Bool.true_and] at hA
   by_cases hx:x%2=0
   .have hm:x.tmod 2=0:=by rw [Int.tmod_eq_emod_of_nonneg bk.1]; exact hx
    rw [eq1 hx] at hA
    rw [hyes hA]
    simp [go_sem,hki]
    refine CallVC.of (cT) ?_
    simp [go_sem]
    refine CallVC.of (cS) ?_
    simp [go_sem]
    refine ⟨⟨hkl,ng⟩,?_⟩
    simp [go_sem,dk,hm]
    done
   .have hm:¬ x.tmod 2=0:=by rw [Int.tmod_eq_emod_of_nonneg bk.1]; exact hx
    rw [eq0 hx] at hA
    have hA:=hno hA
    simp [go_sem,hki]
    refine CallVC.of (cT) ?_
    simp [go_sem]
    refine CallVC.of (cS) ?_
    simp [go_sem]
    refine ⟨⟨hkl,ng⟩,?_⟩
    simp [go_sem,dk,hm]
    exact ⟨⟨by omega,by omega⟩,k+1,⟨by omega,hA⟩,by omega,zaa _ _ _ (by simp),by omega⟩
 .have e:k=t.length:=by omega
  subst e
  have hki:¬ (t.length:Int)<t.length:=by omega
  rw [no hn]
  simp [go_sem,hki]
def mkA (t:List Int):Int:=fdL (alF 6) (rt0 t) 0
def mkV (l:List Int) (t:List Int):Int:=if mkA t<0 then 0 else sgnT t*iat l (mkA t).toNat%10007
def mk12 (l:List Int):List Int:=0::(trN 6).map (mkV l)
theorem zvC:(trN 6).all (fun t=>decide (mkA t<10))=true:=by decide +kernel
theorem zsS (t:List Int):sgnT t=1\/sgnT t = -1:=by unfold sgnT; split <;> simp
theorem zr6 (l:List Int):N38 (mk12 l):=by
 have l6:=zaJ
 refine ⟨by unfold mk12; rw [List.length_cons,List.length_map,l6],fun x hx=>?_⟩
 unfold mk12 at hx
 rcases List.mem_cons.1 hx with rfl | hx
 .exact ⟨by decide,by decide⟩
 .obtain ⟨t,_,rfl⟩:=List.mem_map.1 hx
  unfold mkV
  split
  .exact ⟨by decide,by decide⟩
  .exact ⟨Int.emod_nonneg _ (by decide),Int.emod_lt_of_pos _ (by decide)⟩
theorem zf3 (l:List Int) (hl:l.length=10) (hN:Ns l):Con Tryz.prog 264 [.sl l.length (avs l)] (.own 2 38 (avs (mk12 l))):=by
 have cA:=zb4 6 (by omega)
 have l6:=zaJ
 have e6:((6:Nat):Int)=6:=rfl
 rw [e6,l6] at cA
 have cF:=zrB
 have a10:=zhj.2.1
 have aR:∀ r∈alF 6,r.length<=1048576:=fun r hr=>by have:=of_decide_eq_true (List.all_eq_true.1 zhj.2.2 r hr); omega
 have okT:=fun t h=>List.all_eq_true.1 zsR t h
 have ltT:=fun t h=>of_decide_eq_true (List.all_eq_true.1 zvC t h)
 have cD:=fun t=>zf7 (alF 6) (rt0 t) (by omega) aR
 have cS:=fun t (h:zhA t=true)=>znZ t h
 have ge:=fun t=>(zk4 (alF 6) (rt0 t) 0).1
 have eA:∀ t,fdL (alF 6) (rt0 t) 0=mkA t:=fun t=>rfl
 have cR:=fun t (h:zhA t=true)=>zeu h
 simp only [eA,a10] at cD ge
 have hV:∀ t,mkV l t=if mkA t<0 then 0 else sgnT t*iat l (mkA t).toNat%10007:=fun t=>rfl
 have sg:=zsS
 unfold mk12
 have rl:∀ t,zhA t=true->(rt0 t).length<=1000:=fun t h=>(zkC h).2.2.1
 generalize alF 6=F at *
 generalize mkA=MA at *
 generalize mkV l=V at *
 generalize sgnT=SG at *
 generalize rt0=Z at *
 generalize trN 6=L at *
 clear eA
 refine zab Tryz.mixed ⟨8,[8],[1000000+313,1000000+314],[]⟩ Tryz.func264 ?_
 rw [Tryz.ntmps264]
 simp [go_sem]
 refine CallVC.of (cA) ?_
 simp [go_sem]
 refine ⟨_,_,cF,?_⟩
 simp [go_sem]
 refine zac (5::6::7::List.range' 11 35) (fun i:Nat=>[(5,.own 2 (i+1) (avs (0::(L.map V).take i))),(6,.int i)]) (fun i=>i<=37) (fun i=>37-i) 0 (by simp) (by simp [go_sem,avs]) (by simp [go_sem]) ?_
 intro i hi
 by_cases hil:i<37
 .have hii:(i:Int)<37:=by omega
  have hL:i<L.length:=by omega
  have hm:=memD [] hL
  have ok:=okT _ hm
  have lt:=ltT _ hm
  have gt:=ge (L[i]?.getD [])
  have cD:=cD (L[i]?.getD [])
  have cS:=cS _ ok
  have hV:=hV (L[i]?.getD [])
  have sg:=sg (L[i]?.getD [])
  obtain ⟨m,c,Y,cR⟩:=cR _ ok
  have md:=zak hL
  have ne:¬ L=[]:=by rintro rfl; simp at hL
  have hM:i<(L.map V).length:=by rw [List.length_map]; exact hL
  have tk:(L.map V).take (i+1)=(L.map V).take i++[V (L[i]?.getD [])]:=by
   rw [List.take_succ_eq_append_getElem hM,List.getElem_map,List.getElem?_eq_getElem hL]; rfl
  have ll:((L.map V).take i).length=i:=by rw [List.length_take]; omega
  generalize V (L[i]?.getD [])=v at *
  generalize MA (L[i]?.getD [])=q at *
  generalize SG (L[i]?.getD [])=g at *
  generalize Z (L[i]?.getD [])=z at *
  generalize L[i]?.getD []=t at *
  by_cases hq:q<0
  .rw [if_pos hq] at hV
   subst hV
   simp [go_sem,hii,md]
   refine ⟨ne,?_⟩
   refine ⟨_,_,cR,?_⟩
   simp [go_sem]
   refine CallVC.of (cD) ?_
   simp [go_sem]
   simp [go_sem,hq]
   refine ⟨⟨by omega,by omega,by omega⟩,⟨by omega,by omega⟩,i+1,by omega,by omega,zaa _ _ _ (by simp),?_,by omega⟩
   rw [tk]
   refine ⟨by omega,?_⟩
   rw [<- List.cons_append,zal]
  .rw [if_neg hq] at hV
   obtain ⟨n,rfl⟩:∃ n:Nat,q=n:=⟨q.toNat,by omega⟩
   rw [Int.toNat_natCast] at hV
   have dl:=zae (a:=l) (v:=n) (by omega)
   have nl:isN (iat l n):=hN.get n
   have cM:=fun a b=>zcv (g*iat l n) a b
   rw [<- hV] at cM
   have nN:¬ l=[]:=by rintro rfl; simp at hl
   have lx:(n:Int)<l.length:=by omega
   have fm:fits (g*iat l n):=by
    obtain ⟨x0,x1⟩:=nl
    generalize iat l n=y at *
    rcases sg with rfl | rfl
    .exact ⟨by omega,by omega⟩
    .exact ⟨by omega,by omega⟩
   generalize iat l n=y at *
   simp [go_sem,hii,md]
   refine ⟨ne,?_⟩
   refine ⟨_,_,cR,?_⟩
   simp [go_sem]
   refine CallVC.of (cD) ?_
   simp [go_sem]
   simp [go_sem,hq]
   refine ⟨by kernel_rfl,?_⟩
   simp [go_sem,md]
   refine ⟨⟨by omega,ne⟩,?_⟩
   refine CallD.of (cS) ?_
   simp [go_sem]
   refine ⟨⟨by omega,nN⟩,?_⟩
   simp [go_sem,dl]
   refine ⟨⟨fm.1,fm.2⟩,?_⟩
   refine CallD.of ((cM fm.1 fm.2)) ?_
   simp [go_sem]
   refine ⟨⟨by omega,by omega,by omega⟩,?_⟩
   refine ⟨by kernel_rfl,?_⟩
   simp [go_sem]
   refine ⟨⟨by omega,by omega⟩,i+1,by omega,by omega,zaa _ _ _ (by simp),?_,by omega⟩
   rw [tk]
   refine ⟨by omega,?_⟩
   rw [<- List.cons_append,zal]
 .have e:i=37:=by omega
  subst e
  have tk:(L.map V).take 37=L.map V:=List.take_of_length_le (by rw [List.length_map]; omega)
  rw [tk]
  simp [go_sem]
end Go.Proofs.YthhdollpkieknaaGreat


namespace Go.Proofs.YthhdollpkieknaaGreat
open Go.Abs
end Go.Proofs.YthhdollpkieknaaGreat


namespace Go.Proofs.YthhdollpkieknaaGreat
open Go.Abs
end Go.Proofs.YthhdollpkieknaaGreat


namespace Go.Proofs.YthhdollpkieknaaGreat
open Go.Abs
theorem zg7 (c:List Int) (σ:Src) (hc:Byt c) (hs:SOk σ) :
  RCon Tryz.prog 263 [srcA c σ,.int 3] (fun r o=>∃ (τ:Src) (A:List (List Int)) (B:List Int),SOk τ/\o=[srcA c τ,.any]/\Tb8 A B/\r=.agg [.own 25 A.length (omat A),.own 2 B.length (avs B)]):=by
 have c1:=zan c σ 3 hc hs
 have s1:=zaI hc hs 3
 have b1:=zct hc σ (n:=3) (by omega)
 obtain ⟨N,hN⟩:∃ N:Nat,1+nx1 c σ 3=N:=⟨(1+nx1 c σ 3).toNat,by omega⟩
 generalize nx1 c σ 3=v at *
 generalize nx2 c σ 3=τ1 at *
 have N1:1<=N:=by omega
 have N8:N<=3:=by omega
 have c2:=zbR c τ1 N hc s1 (by omega)
 have L2:=zeI (f:=nbV c) (fun σ h=>zb2 hc h) N τ1 s1
 generalize lsV (nbV c) N τ1=r2 at *
 obtain ⟨B,τ2⟩:=r2
 simp only at L2 c2
 obtain ⟨lB,nB,s2⟩:=L2
 have hF:=zbB 1 2 ⟨by omega,by omega⟩ ⟨by omega,by omega⟩
 have nF:isN (1%10007*pw (2%10007) 10005%10007):=zai _
 generalize 1%10007*pw (2%10007) 10005%10007=h at *
 simp only [zaA] at c1 c2 |-
 refine zaD Tryz.mixed ⟨9,[],[1000000+183,1000000+221],[]⟩ [0] Tryz.func263 ?_
 rw [Tryz.ntmps263]
 simp [go_sem]
 refine ⟨_,_,c1,?_⟩
 simp [go_sem]
 refine ⟨⟨by omega,by omega⟩,?_⟩
 rw [hN]
 refine ⟨_,_,c2,?_⟩
 simp [go_sem]
 refine zac (5::6::7::8::List.range' 16 40) (fun A:List (List Int)=>[(5,.box 27 [ptM A,.own 2 N (avs B)]),(6,.int A.length)]) (fun A=>A.length<=N/\∀ r∈A,r.length=N/\Ns r) (fun A=>N-A.length) [] ⟨by simp,by simp⟩ (by simp [go_sem,zep]) (by simp [go_sem]) ?_
 rintro A ⟨h2,h3⟩
 by_cases hA:A.length<N
 .have hAi:(A.length:Int)<N:=by omega
  have z0:avs (List.replicate N 0)=List.replicate N (.int 0):=by simp [avs]
  simp [go_sem,hAi]
  refine ⟨⟨by omega,by omega⟩,?_⟩
  refine zac (7::8::List.range' 27 13) (fun x:List Int × Nat=>[(7,.own 2 N (avs x.1)),(8,.int x.2)]) (fun x=>x.1.length=N/\Ns x.1/\x.2<=A.length) (fun x=>A.length-x.2) (List.replicate N 0,0) ⟨by simp,fun x hx=>by rw [List.mem_replicate] at hx; rw [hx.2]; exact ⟨by omega,by omega⟩,by omega⟩ (by simp [go_sem,z0]) (by simp [go_sem]) ?_
  rintro ⟨row,k⟩ ⟨g1,g2,g3⟩
  simp only at g1 g2 g3
  by_cases hk:k<A.length
  .have hki:(k:Int)<A.length:=by omega
   have gB:=zbd (xs:=B) (k:=k) (by omega)
   have nb:=nB.get k
   have hS:=zaK row k (B[k]?.getD 0)
   generalize B[k]?.getD 0=y at *
   simp [go_sem,hki,gB]
   exact ⟨by omega,by omega,⟨by omega,by omega⟩,row.set k y,k+1,⟨by simpa using g1,Ns.set g2 k nb,by omega⟩,by omega,zaa _ _ _ (by simp),hS,by omega⟩
  .have e:k=A.length:=by omega
   subst e
   have hb:A.length<B.length:=by omega
   have gB:=zbd (xs:=B) (k:=A.length) hb
   have nb:=nB.get A.length
   have cM:=zaZ (B[A.length]?.getD 0) h (zaw nb nF)
   have nM:isN (B[A.length]?.getD 0*h%10007):=zai _
   generalize B[A.length]?.getD 0*h%10007=q at *
   have hS:=zaK row A.length q
   generalize B[A.length]?.getD 0=y at *
   simp [go_sem]
   refine ⟨by kernel_rfl,?_⟩
   simp [go_sem,gB]
   refine ⟨hA,?_⟩
   refine CallD.of (hF) ?_
   simp [go_sem]
   refine CallD.of (cM) ?_
   simp [go_sem]
   refine ⟨hA,by omega,?_⟩
   refine ⟨by kernel_rfl,?_⟩
   simp [go_sem]
   rw [hS]
   have g4:(row.set A.length q).length=N:=by simpa using g1
   have g5:=Ns.set g2 A.length nM
   generalize row.set A.length q=row at *
   have h3':∀ r∈A++[row],r.length=N/\Ns r:=fun r hr=>by
    rcases List.mem_append.1 hr with hr | hr
    .exact h3 r hr
    .simp at hr; subst hr; exact ⟨g4,g5⟩
   have os:omat (A++[row])=omat A++[.own 2 N (avs row)]:=by rw [zbf,zbg,g4]
   rcases A with _ | ⟨r0,A⟩
   .simp [go_sem,zep]
    refine ⟨[row],⟨by simp; omega,by simpa using h3'⟩,by simp; omega,(Off.reset (by intro x hx; simp at hx |-; omega) (by simp) (by simp [go_sem,zaa])),?_⟩
    simp [zc9,zbg,g4]
   .simp only [List.length_cons] at hA h2 hAi
    have e5:ptM (r0::A++[row])=.own 25 (A.length+1+1) (omat (r0::A)++[.own 2 N (avs row)]):=by
     show AV.own _ ((A++[row]).length+1) (omat (r0::A++[row]))=_
     rw [os,List.length_append]; rfl
    simp [go_sem,zc9]
    exact ⟨⟨by omega,by omega⟩,⟨by omega,by omega⟩,r0::A++[row],⟨by simp; omega,h3'⟩,by simp; omega,(Off.reset (by intro x hx; simp at hx |-; omega) (by simp) (by simp [go_sem,zaa])),e5.symm,by simp⟩
 .have e:A.length=N:=by omega
  have hpt:=zj9 (A:=A) (by omega)
  rw [hpt,e]
  simp [go_sem]
  exact ⟨τ2.1,τ2.2,s2,⟨rfl,rfl⟩,A,B,⟨by omega,by omega,by omega,nB,fun r hr=>by rw [lB]; exact h3 r hr⟩,⟨e.symm,rfl⟩,lB.symm,rfl⟩
theorem zfX (c:List Int) (σ:Src) (hc:Byt c) (hs:SOk σ) :
  RCon Tryz.prog 206 [srcA c σ] (fun r o=>∃ (τ:Src) (a:List Int),SOk τ/\o=[srcA c τ]/\N38 a/\r=.own 2 38 (avs a)):=by
 have c1:=zan c σ 3 hc hs
 have s1:=zaI hc hs 3
 generalize nx1 c σ 3=v at *
 generalize nx2 c σ 3=τ1 at *
 have cD:=zg7 c τ1 hc s1
 have c2:=zbR c τ1 10 hc s1 (by omega)
 have L2:=zeI (f:=nbV c) (fun σ h=>zb2 hc h) 10 τ1 s1
 have e10:((10:Nat):Int)=10:=rfl
 rw [e10] at c2
 generalize lsV (nbV c) 10 τ1=r2 at *
 obtain ⟨B,τ2⟩:=r2
 simp only at L2 c2
 obtain ⟨lB,nB,s2⟩:=L2
 have c3:=zan c τ2 2 hc s2
 have s3:=zaI hc s2 2
 have cC:=zig
 have h7:AV.sl 38 (AV.sl 0 []::fcF)=.sl 38 s7F:=rfl
 rw [h7] at cC
 have cE:=fun l=>zhM (mk12 l) (zr6 l)
 have lM:=fun l=>(zr6 l).1
 simp only [lM] at cE
 generalize s7F=FC at *
 generalize nx1 c τ2 2=u at *
 generalize nx2 c τ2 2=τ3 at *
 simp only [zaA] at *
 refine zaD Tryz.mixed ⟨5,[],[1000000+183,1000000+221,1000000+212,2000000+263],[]⟩ [0] Tryz.func206 ?_
 rw [Tryz.ntmps206]
 simp [go_sem]
 refine ⟨_,_,c1,?_⟩
 simp [go_sem]
 by_cases hv:v=0
 .simp [go_sem,hv]
  refine ⟨_,cD,?_⟩
  rintro _ _ ⟨τ,A,B',s9,rfl,hT,rfl⟩
  have cH:=zdl A B' hT
  have nH:=zrQ A B'
  generalize chr6 A B'=X at *
  simp [go_sem]
  refine CallVC.of (cH) ?_
  simp [go_sem]
  exact ⟨τ.1,τ.2,s9,⟨rfl,rfl⟩,nH⟩
 .simp [go_sem,hv]
  refine ⟨_,_,c2,?_⟩
  simp [go_sem]
  refine ⟨_,_,c3,?_⟩
  simp [go_sem]
  by_cases hu:u=0
  .simp [go_sem,hu]
   refine ⟨by omega,?_⟩
   have g0:(B.set 0 1).length=10/\Ns (B.set 0 1):=⟨by simpa using lB,Ns.set nB 0 ⟨by omega,by omega⟩⟩
   have hS:=zaK B 0 1
   rw [hS]
   generalize B.set 0 1=B0 at *
   refine zac (0::3::4::List.range' 18 14) (fun x:Src × List Int × Nat=>[(0,.box 162 [.sl c.length (bys c),.int x.1.1,.val (.int .u64 x.1.2)]),(3,.own 2 10 (avs x.2.1)),(4,.int x.2.2)]) (fun x=>SOk x.1/\(x.2.1.length=10/\Ns x.2.1)/\x.2.2<=10) (fun x=>10-x.2.2) (τ3,B0,1) ⟨s3,g0,by simp only; omega⟩ (by simp [go_sem]) (by simp [go_sem]) ?_
   rintro ⟨τ,l,k⟩ ⟨h1,⟨h2,h3⟩,h4⟩
   simp only at h1 h2 h3 h4
   by_cases hk:k<10
   .have hki:(k:Int)<10:=by omega
    have c6:=zan c τ 4 hc h1
    have s6:=zaI hc h1 4
    generalize nx1 c τ 4=w at *
    generalize nx2 c τ 4=τ6 at *
    simp only [zaA] at c6
    simp [go_sem,hki]
    refine ⟨_,_,c6,?_⟩
    simp [go_sem]
    have hS:=zaK l k 0
    by_cases hw:0<w
    .simp [go_sem,hw]
     exact ⟨by omega,by omega,⟨by omega,by omega⟩,τ6.1,τ6.2,l.set k 0,k+1,⟨s6,⟨by simpa using h2,Ns.set h3 k ⟨by omega,by omega⟩⟩,by omega⟩,by omega,zaa _ _ _ (by simp),⟨rfl,rfl⟩,hS,by omega⟩
    .have cM:=zf3 l h2 h3
     rw [h2] at cM
     simp [go_sem,hw]
     refine ⟨_,_,cC,?_⟩
     simp [go_sem]
     refine CallVC.of (cM) ?_
     simp [go_sem]
     refine CallVC.of ((cE l)) ?_
     simp [go_sem]
     exact ⟨τ6.1,τ6.2,s6,⟨rfl,rfl⟩,(zbi _).1⟩
   .have e:k=10:=by omega
    subst e
    have cM:=zf3 l h2 h3
    rw [h2] at cM
    simp [go_sem]
    refine ⟨_,_,cC,?_⟩
    simp [go_sem]
    refine CallVC.of (cM) ?_
    simp [go_sem]
    refine CallVC.of ((cE l)) ?_
    simp [go_sem]
    exact ⟨τ.1,τ.2,h1,⟨rfl,rfl⟩,(zbi _).1⟩
  .have cM:=zf3 B lB nB
   rw [lB] at cM
   simp [go_sem,hu]
   refine ⟨_,_,cC,?_⟩
   simp [go_sem]
   refine CallVC.of (cM) ?_
   simp [go_sem]
   refine CallVC.of ((cE B)) ?_
   simp [go_sem]
   exact ⟨τ3.1,τ3.2,s3,⟨rfl,rfl⟩,(zbi _).1⟩
theorem N38.dra {a:List Int} (h:N38 a):DrA a:=⟨by rw [h.1]; omega,by rw [h.1]; omega,fun x hx=>by
 have:=h.2 x hx
 exact ⟨by omega,by omega⟩⟩
theorem zmO (c:List Int) (σ:Src) (hc:Byt c) (hs:SOk σ) :
  RCon Tryz.prog 114 [srcA c σ] (fun r o=>∃ (τ:Src) (a:List Int),SOk τ/\o=[srcA c τ]/\DrA a/\(r=.sl a.length (avs a)\/r=.own 2 a.length (avs a))):=by
 have c1:=zan c σ 5 hc hs
 have s1:=zaI hc hs 5
 generalize nx1 c σ 5=v at *
 generalize nx2 c σ 5=τ1 at *
 have c2:=znb c τ1 4 hc s1 (by omega) (by omega)
 have c3:=zgu c τ1 hc s1
 have c4:=zfX c τ1 hc s1
 have c5:=zio c τ1 hc s1
 simp only [zaA] at *
 refine zaD Tryz.mixed ⟨3,[],[1000000+183,2000000+204,2000000+205,2000000+206,2000000+207],[]⟩ [0] Tryz.func114 ?_
 rw [Tryz.ntmps114]
 simp [go_sem]
 refine ⟨_,_,c1,?_⟩
 simp [go_sem]
 by_cases v0:v=0
 .simp [go_sem,v0]
  refine ⟨_,c2,?_⟩
  rintro _ _ ⟨τ,A,B,s9,rfl,hT,rfl⟩
  have cH:=zdl A B hT
  have nH:=zrQ A B
  generalize chr6 A B=X at *
  simp [go_sem]
  refine CallVC.of (cH) ?_
  simp [go_sem]
  exact ⟨τ.1,τ.2,s9,⟨rfl,rfl⟩,nH.dra,nH.1.symm⟩
 .by_cases v1:v=1
  .simp [go_sem,v0,v1]
   refine ⟨_,c3,?_⟩
   rintro _ _ ⟨τ,b,s9,rfl,d,rfl⟩
   have nE:=(zbi b).1
   simp [go_sem]
   exact ⟨τ.1,τ.2,s9,⟨rfl,rfl⟩,nE.dra,nE.1.symm⟩
  .by_cases v2:v=2
   .simp [go_sem,v0,v1,v2]
    refine ⟨_,c4,?_⟩
    rintro _ _ ⟨τ,b,s9,rfl,nE,rfl⟩
    simp [go_sem]
    exact ⟨τ.1,τ.2,s9,⟨rfl,rfl⟩,nE.dra,nE.1.symm⟩
   .simp [go_sem,v0,v1,v2]
    refine ⟨_,c5,?_⟩
    rintro _ _ ⟨τ,b,s9,rfl,nE,rfl | rfl⟩
    .simp [go_sem]
     exact ⟨τ.1,τ.2,s9,⟨rfl,rfl⟩,nE⟩
    .simp [go_sem]
     exact ⟨τ.1,τ.2,s9,⟨rfl,rfl⟩,nE⟩
theorem zee (c:List Int) (hc:Byt c) :
  RCon Tryz.prog 49 [.sl c.length (bys c)] (fun r o=>o=[.any]/\∃ a:List Int,DrA a/\(r=.sl a.length (avs a)\/r=.own 2 a.length (avs a))):=by
 have c0:=zoN c hc
 simp only [zaA] at *
 refine zaD Tryz.mixed ⟨2,[],[2000000+96,2000000+114],[]⟩ [] Tryz.func49 ?_
 rw [Tryz.ntmps49]
 simp [go_sem]
 refine ⟨_,c0,?_⟩
 rintro _ _ ⟨rfl,h,rfl⟩
 have s0:SOk ((0,h):Src):=by unfold SOk; simp
 have c1:=zmO c (0,h) hc s0
 simp only [zaA] at *
 simp [go_sem]
 refine ⟨_,c1,?_⟩
 rintro _ _ ⟨τ,a,s2,rfl,d,rfl | rfl⟩
 .simp [go_sem]
  exact d
 .simp [go_sem]
  exact d
theorem zea (c:List Int) (hc:Byt c) :
  RCon Tryz.prog 49 [.sl c.length (bys c)] (fun r o=>o=[.any]/\∃ a:List Int,DrA a/\r=.sl a.length (avs a)):=by
 refine (RCon.fz (zee c hc)).mono ?_
 rintro r o ⟨r0,⟨ho,a,h1,hr⟩,rfl⟩
 refine ⟨ho,a,h1,?_⟩
 rcases hr with rfl | rfl <;> simp [frz,frzL]
end Go.Proofs.YthhdollpkieknaaGreat


namespace Go.Proofs.YthhdollpkieknaaGreat
open Go.ChangeShapes Go.WideShapes Go.ChangeAt Go.RowKit Go.Abs Go.Deep
section
variable {H:Type} {enc:TypeId × Value->H} {w:World} {sp:Nat->Bool} {held:Bool} {base:Nat}
theorem kids:Kids Tryz.prog (·<Tryz.prog.types.size):=kids_rows (by kernel_rfl) (by kernel_rfl)
theorem full:∀ t e,t<Tryz.prog.types.size->Tryz.prog.underlying t=some (.slice e)->0<Tryz.prog.cellsOf e:=slices_full_of Tryz.prog (by kernel_rfl)
theorem zwN {α β:Type} (g:α->β):∀ qs:List α,qs.flatMap (fun a=>[g a])=qs.map g
 | []=>rfl
 | a::qs=>by rw [List.flatMap_cons,zwN g qs]; rfl
theorem zuw {F:Nat->Prop} {tm:Nat->Value} {oss:Nat->List Nat} {c:AV} {v:Value} (h:RepL Tryz.prog w F [c] [v] []):RepT Tryz.prog w F tm oss c v []:=.cell _ _ _ (RepL.one h)
theorem repV {F:Nat->Prop} {tm:Nat->Value} {oss:Nat->List Nat} {t e:TypeId} {v:Value} {c:AV} {r:Reach} {b0:Nat} (ht:Tryz.prog.underlying t=some (.slice e)) (hv:Value.okWide Tryz.prog w r b0 t v) (h:RepL Tryz.prog w F [c] v.cells.toList []) :
  RepT Tryz.prog w F tm oss c v []:=by
 have hc:v.cells.toList=[v]:=by
  simp only [Value.okWide,ht] at hv
  cases v <;> simp_all [Value.cells,Cell.okWide,Cell.ok]
 rw [hc] at h
 exact zuw h
end
end Go.Proofs.YthhdollpkieknaaGreat


namespace Go.Proofs.YthhdollpkieknaaGreat
open Go.Abs
open Go.ChangeShapes Go.WideShapes Go.ChangeAt Go.RowKit Go.Deep
theorem zxh (c:List Int) (hl:c.length<=9223372036854775807):Con Tryz.prog 8 [.sl c.length (bys c)] (.bool (decide (4096<c.length))):=by
 refine zab Tryz.mixed ⟨3,[],[],[]⟩ Tryz.func8 ?_
 rw [Tryz.ntmps8]
 simp [go_sem]
 omega
section
variable {H:Type} {enc:TypeId × Value->H} {w:World} {sp:Nat->Bool} {held:Bool} {base:Nat}
theorem zqH {n:Nat} {cs:List Value} {x:DataW H × List MemPlace} (h:DataW.trod enc Tryz.prog w base sp held n 22 cs=some x) :
  ∃ xs:List Int,(∀ z∈xs,0<=z/\z<=255)/\xs.length<=9223372036854775807/\RepL Tryz.prog w (fun b=>b<w.heap.size) [.sl xs.length (bys xs)] cs []/\cs.length=1:=by
 obtain ⟨qs,h1,h2,h3,h4⟩:=ztN (f:=fun z:Int=>[AV.val (.int .u8 z)]) (Good:=fun z=>(Lit.int .u8 z).wf=true) Tryz.underlying22 (s:=1) (by kernel_rfl) (by decide) (fun _=>rfl)
  (fun n cs y hy=>by obtain ⟨z,k1,k2,_⟩:=zvs Tryz.underlying5 hy; exact ⟨z,k1,k2⟩) h
 refine ⟨qs,fun z hz=>?_,h2,by rw [zwN] at h3; exact h3,h4⟩
 have:=h1 z hz
 simp [Lit.wf,IntKind.min,IntKind.max,IntKind.signed,IntKind.bits] at this
 omega
end
end Go.Proofs.YthhdollpkieknaaGreat


namespace Go.Proofs.YthhdollpkieknaaGreat
open Go.Abs
theorem zsQ {b a:List Int} (hb:Inf b) (ha:N38 a):smE b a=0:=by
 unfold smE
 rw [if_pos ⟨hb.1.mapB,ha.mapB⟩,if_pos hb.2]
theorem zv1 {b a:List Int} (hb:Inf b) (ha:N38 a):smX b a=sbS b a:=by
 unfold smX
 rw [if_pos (zsQ hb ha)]
def odG (b:List Int) (i:Nat):Bool:=decide (nd i%2=1) || decide (iat b i=0)
def odF (b:List Int) (n:Nat):Bool:=(List.range n).all (odG b)
theorem zqI (b:List Int) (n:Nat):odF b (n+1)=(odF b n && odG b n):=by
 unfold odF
 rw [List.range_succ,List.all_append]
 simp
theorem ztJ {a:List Int} (ha:Ch a):odF (logS a) 38=decide (invS (scS (-1) a)=a):=by
 have h:=ztD (ze7 a)
 rw [zhy ha] at h
 have k:odF (logS a) 38=true ↔ Sym a:=by
  rw [h]
  unfold odF odG
  simp only [List.all_eq_true,List.mem_range,Bool.or_eq_true,decide_eq_true_eq]
  constructor
  .intro g i hi he
   exact (g i hi).resolve_left (by omega)
  .intro g i hi
   by_cases he:nd i%2=0
   .exact .inr (g i hi he)
   .exact .inl (by omega)
 by_cases hs:invS (scS (-1) a)=a
 .rw [decide_eq_true hs]
  exact k.2 ((zna ha).1 hs)
 .rw [decide_eq_false hs]
  cases e:odF (logS a) 38 with
  | false=>rfl
  | true=>exact absurd ((zna ha).2 (k.1 e)) hs
theorem zeQ (c:List Int) (hl:c.length<=9223372036854775807) (hb:∀ x∈c,0<=x/\x<=255):Con Tryz.prog 7 [.sl c.length (bys c)] (.bool true):=by
 have cB:=zxh c hl
 by_cases hc4:4096<c.length
 .refine zab Tryz.mixed ⟨29,[],[2000000+49],[]⟩ Tryz.func7 ?_
  rw [Tryz.ntmps7]
  simp [go_sem]
  refine CallVC.of (cB) ?_
  simp [go_sem]
  simp [go_sem,hc4]
 .have hc:Byt c:=⟨by omega,hb⟩
  have cD:=zea c hc
  refine zab Tryz.mixed ⟨29,[],[2000000+49],[]⟩ Tryz.func7 ?_
  rw [Tryz.ntmps7]
  simp [go_sem]
  refine CallVC.of (cB) ?_
  simp [go_sem]
  simp [go_sem,hc4]
  refine ⟨_,cD,?_⟩
  rintro _ _ ⟨rfl,a,hDa,rfl⟩
  have la:=hDa.2.1
  have c2:=zgg a (by omega)
  generalize sfX7 a=SX at *
  by_cases hk:ckC a=0
  .have hA:=zse hk
   have hI:=ze7 a
   rw [hk] at c2
   have c1:=zhm a hA
   have c3:=zmh a hA
   have cE:=zmn
   have cZ:=zqZ
   have cL:=zp8 a hA
   have cS:=zcR (logS a) exaS (by rw [hI.1.1]; omega) (by rw [zaL.1.1]; omega)
   rw [zv1 hI zaL.1,zsQ hI zaL.1,zsu hI,zhy hA,hI.1.1,zaL.1.1,hA.1.1] at cS
   have cU:=zcb
   have eN:=zmu (logS a) suS (-1)
   have cP:=zs2 (dfS (logS a) suS (-1)) suS 1 eN zqG ⟨by omega,by omega⟩
   rw [zuz _ hI.1,eN.1,zqG.1] at cP
   have k1:=zeB (logS a) (logS a) (by rw [hI.1.1]; omega)
   rw [decide_eq_true rfl,hI.1.1] at k1
   have k2:=zeB a a (by rw [hA.1.1]; omega)
   rw [decide_eq_true rfl] at k2
   have k2':Con Tryz.prog 22 [.sl 38 (avs a),.sl a.length (avs a)] (.bool true):=by
    have h:=k2
    rw [hA.1.1] at h |-
    exact h
   have cY:=zgi a hA
   have cH:=zf9 (logS a) hI
   rw [<- zxA hI,zhy hA,hI.1.1] at cH
   have cI:=zeR a hA
   rw [<- ztJ hA] at cI
   have lB:=hI.1.1
   have lZ:szS.length=38:=(za8 _).1
   have szi:∀ i,i<38->(szS[i]?.getD 0:Int)=nd i:=fun i h=>zwE h
   have os:=zqI (logS a)
   have hG:∀ i,odG (logS a) i=(decide (nd i%2=1) || decide (iat (logS a) i=0)):=fun i=>rfl
   have o0:odF (logS a) 0=true:=rfl
   have lA:=hA.1.1
   have nA:=hA.1.ne
   have d1:=zae (a:=a) (v:=1) (by omega)
   rw [List.drop_one] at d1
   obtain ⟨oe,hoe⟩:∃ v,odF (logS a) 38=v:=⟨_,rfl⟩
   rw [hoe] at cI
   have oe:=hoe
   by_cases h1:iat a 1=0
   .have c4:=zgf a hA h1
    rw [h1] at d1
    generalize odF (logS a)=O at *
    generalize odG (logS a)=G at *
    generalize bpS (sycB a) gfT=nn at *
    generalize dfS (logS a) suS (-1)=EE at *
    generalize logS a=B at *
    generalize szS=Z at *
    generalize exaS=E at *
    generalize suS=U at *
    simp [go_sem]
    refine CallVC.of (c1) ?_
    simp [go_sem]
    refine CallVC.of (c2) ?_
    simp [go_sem]
    refine CallVC.of (c3) ?_
    simp [go_sem]
    refine CallVC.of (c4) ?_
    simp [go_sem]
    refine CallVC.of (cE) ?_
    simp [go_sem]
    refine CallVC.of (cZ) ?_
    simp [go_sem]
    refine CallVC.of (cL) ?_
    simp [go_sem]
    refine CallVC.of (cS) ?_
    simp [go_sem]
    refine CallVC.of (cU) ?_
    simp [go_sem]
    refine CallVC.of (cP) ?_
    simp -implicitDefEqProofs [go_sem]
    refine CallVC.of (k1) ?_
    simp -implicitDefEqProofs [go_sem]
    refine CallVC.of (k2') ?_
    simp -implicitDefEqProofs [go_sem]
    refine CallVC.of (k1) ?_
    simp -implicitDefEqProofs [go_sem,d1]
    refine ⟨⟨by omega,nA⟩,?_⟩
    refine CallVC.of (cY) ?_
    simp [go_sem]
    refine CallVC.of (cH) ?_
    simp [go_sem]
    refine CallVC.of (cI) ?_
    simp -implicitDefEqProofs [go_sem]
    refine zac (27::28::List.range' 176 22) (fun i:Nat=>[(27,.bool (O i)),(28,.int i)]) (fun i=>i<=38) (fun i=>38-i) 0 (by simp) (by simp [go_sem,o0]) (by simp [go_sem]) ?_
    intro i hi
    by_cases hil:i<38
    .have hii:(i:Int)<38:=by omega
     have o1:=os i
     have zi:=szi i hil
     have n6:=zdD hil
     have gB:(avs B)[i]?=some (.int (iat B i)):=zbd (by omega)
     have gZ:(avs Z)[i]?=some (.int (nd i)):=by rw [<- zi]; exact zbd (by omega)
     have eG:G i=(decide (nd i%2=1) || decide (iat B i=0)):=hG i
     generalize nd i=n at *
     generalize iat B i=x at *
     generalize O i=ob at *
     cases ob with
     | false =>
      rw [Bool.false_and] at o1
      simp -implicitDefEqProofs [go_sem,hii]
      exact ⟨⟨by omega,by omega⟩,i+1,by omega,by omega,zaa _ _ _ (by simp),by rw [o1],by omega⟩
     | true =>
      rw [Bool.true_and] at o1
      by_cases hn:n%2=1
      .have hm:(n:Int).tmod 2=1:=by rw [Int.tmod_eq_emod_of_nonneg (by omega)]; omega
       rw [decide_eq_true hn,Bool.true_or] at eG
       rw [eG] at o1
       simp -implicitDefEqProofs [go_sem,hii,gZ,hm]
       first | exact ⟨⟨by omega,by omega⟩,i+1,by omega,by omega,zaa _ _ _ (by simp),by rw [o1],by omega⟩ | exact ⟨by omega,⟨by omega,by omega⟩,i+1,by omega,by omega,zaa _ _ _ (by simp),by rw [o1],by omega⟩
      .have hm:¬ (n:Int).tmod 2=1:=by rw [Int.tmod_eq_emod_of_nonneg (by omega)]; omega
       rw [decide_eq_false hn,Bool.false_or] at eG
       by_cases hx:x=0
       .rw [decide_eq_true hx] at eG
        rw [eG] at o1
        simp -implicitDefEqProofs [go_sem,hii,gZ,hm,gB,hx]
        first | exact ⟨⟨by omega,by omega⟩,i+1,by omega,by omega,zaa _ _ _ (by simp),by rw [o1],by omega⟩ | exact ⟨by omega,⟨by omega,by omega⟩,i+1,by omega,by omega,zaa _ _ _ (by simp),by rw [o1],by omega⟩
       .rw [decide_eq_false hx] at eG
        rw [eG] at o1
        simp -implicitDefEqProofs [go_sem,hii,gZ,hm,gB,hx]
        first | exact ⟨⟨by omega,by omega⟩,i+1,by omega,by omega,zaa _ _ _ (by simp),by rw [o1],by omega⟩ | exact ⟨by omega,⟨by omega,by omega⟩,i+1,by omega,by omega,zaa _ _ _ (by simp),by rw [o1],by omega⟩
    .have e:i=38:=by omega
     subst e
     have hii:¬ (38:Int)<38:=by omega
     rw [oe]
     simp [go_sem,hii]
   .have c4:=zgj a hA h1
    have fI:=zg9 (pw (iat a 1) 10005) a exaS
    have hq:pw (iat a 1) 10005*iat a 1%10007=1:=by rw [Int.mul_comm]; exact zr1 (hA.1.Ns.get 1) h1
    have sf:=zrY (q:=pw (iat a 1) 10005) zaL.1 (zaL.2.trans hA.2.symm) hq
    have cS2:=zcR (fitS (pw (iat a 1) 10005) a exaS) a (by rw [fI.1.1]; omega) (by rw [hA.1.1]; omega)
    rw [zv1 fI hA.1,zsQ fI hA.1,sf,fI.1.1,zaL.1.1] at cS2
    have k3:=zeB exaS exaS (by rw [zaL.1.1]; omega)
    rw [decide_eq_true rfl,zaL.1.1] at k3
    clear sf hq fI
    generalize fitS (pw (iat a 1) 10005) a exaS=FF at *
    generalize odF (logS a)=O at *
    generalize odG (logS a)=G at *
    generalize bpS (sycB a) gfT=nn at *
    generalize dfS (logS a) suS (-1)=EE at *
    generalize logS a=B at *
    generalize szS=Z at *
    generalize exaS=E at *
    generalize suS=U at *
    simp [go_sem]
    refine CallVC.of (c1) ?_
    simp [go_sem]
    refine CallVC.of (c2) ?_
    simp [go_sem]
    refine CallVC.of (c3) ?_
    simp [go_sem]
    refine CallVC.of (c4) ?_
    simp [go_sem]
    refine CallVC.of (cE) ?_
    simp [go_sem]
    refine CallVC.of (cZ) ?_
    simp [go_sem]
    refine CallVC.of (cL) ?_
    simp [go_sem]
    refine CallVC.of (cS) ?_
    simp [go_sem]
    refine CallVC.of (cU) ?_
    simp [go_sem]
    refine CallVC.of (cP) ?_
    simp -implicitDefEqProofs [go_sem]
    refine CallVC.of (k1) ?_
    simp -implicitDefEqProofs [go_sem]
    refine CallVC.of (k2') ?_
    simp -implicitDefEqProofs [go_sem]
    refine CallVC.of (k1) ?_
    simp -implicitDefEqProofs [go_sem,d1,h1]
    refine ⟨⟨by omega,nA⟩,?_⟩
    refine CallVC.of (cS2) ?_
    simp -implicitDefEqProofs [go_sem]
    refine CallVC.of (k3) ?_
    simp -implicitDefEqProofs [go_sem]
    refine CallVC.of (cY) ?_
    simp [go_sem]
    refine CallVC.of (cH) ?_
    simp [go_sem]
    refine CallVC.of (cI) ?_
    simp -implicitDefEqProofs [go_sem]
    refine zac (27::28::List.range' 176 22) (fun i:Nat=>[(27,.bool (O i)),(28,.int i)]) (fun i=>i<=38) (fun i=>38-i) 0 (by simp) (by simp [go_sem,o0]) (by simp [go_sem]) ?_
    intro i hi
    by_cases hil:i<38
    .have hii:(i:Int)<38:=by omega
     have o1:=os i
     have zi:=szi i hil
     have n6:=zdD hil
     have gB:(avs B)[i]?=some (.int (iat B i)):=zbd (by omega)
     have gZ:(avs Z)[i]?=some (.int (nd i)):=by rw [<- zi]; exact zbd (by omega)
     have eG:G i=(decide (nd i%2=1) || decide (iat B i=0)):=hG i
     generalize nd i=n at *
     generalize iat B i=x at *
     generalize O i=ob at *
     cases ob with
     | false =>
      rw [Bool.false_and] at o1
      simp -implicitDefEqProofs [go_sem,hii]
      exact ⟨⟨by omega,by omega⟩,i+1,by omega,by omega,zaa _ _ _ (by simp),by rw [o1],by omega⟩
     | true =>
      rw [Bool.true_and] at o1
      by_cases hn:n%2=1
      .have hm:(n:Int).tmod 2=1:=by rw [Int.tmod_eq_emod_of_nonneg (by omega)]; omega
       rw [decide_eq_true hn,Bool.true_or] at eG
       rw [eG] at o1
       simp -implicitDefEqProofs [go_sem,hii,gZ,hm]
       first | exact ⟨⟨by omega,by omega⟩,i+1,by omega,by omega,zaa _ _ _ (by simp),by rw [o1],by omega⟩ | exact ⟨by omega,⟨by omega,by omega⟩,i+1,by omega,by omega,zaa _ _ _ (by simp),by rw [o1],by omega⟩
      .have hm:¬ (n:Int).tmod 2=1:=by rw [Int.tmod_eq_emod_of_nonneg (by omega)]; omega
       rw [decide_eq_false hn,Bool.false_or] at eG
       by_cases hx:x=0
       .rw [decide_eq_true hx] at eG
        rw [eG] at o1
        simp -implicitDefEqProofs [go_sem,hii,gZ,hm,gB,hx]
        first | exact ⟨⟨by omega,by omega⟩,i+1,by omega,by omega,zaa _ _ _ (by simp),by rw [o1],by omega⟩ | exact ⟨by omega,⟨by omega,by omega⟩,i+1,by omega,by omega,zaa _ _ _ (by simp),by rw [o1],by omega⟩
       .rw [decide_eq_false hx] at eG
        rw [eG] at o1
        simp -implicitDefEqProofs [go_sem,hii,gZ,hm,gB,hx]
        first | exact ⟨⟨by omega,by omega⟩,i+1,by omega,by omega,zaa _ _ _ (by simp),by rw [o1],by omega⟩ | exact ⟨by omega,⟨by omega,by omega⟩,i+1,by omega,by omega,zaa _ _ _ (by simp),by rw [o1],by omega⟩
    .have e:i=38:=by omega
     subst e
     have hii:¬ (38:Int)<38:=by omega
     rw [oe]
     simp [go_sem,hii]
  .have c1:=zhQ a (by omega) hk
   have c3:=zlP a (by omega) hk
   have c4:=zgp a (by omega) hk
   generalize ckC a=e at *
   simp [go_sem]
   refine CallVC.of (c1) ?_
   simp [go_sem]
   refine CallVC.of (c2) ?_
   simp [go_sem]
   refine CallVC.of (c3) ?_
   simp [go_sem]
   refine CallVC.of (c4) ?_
   simp [go_sem]
   simp [go_sem,hk]
end Go.Proofs.YthhdollpkieknaaGreat

