/- Texts of the own layer and contracts, part 6: Q22 Q23 Q24 Q25 Q26 Q30 Q31 Q32 Q33 C14 Q40 Q27 Q28 W0 E10 B0 B1 B10 B11 B12 B13 E8 B2 B3 C3 B4 B5 B6 B7 B8 B9 B14 B15 B16 R1 R2 R3 R7 R8 R9 E9 E3 E12 E27 Q36 Q35 Q37 Q38 E34 E35 E36 E0 E37 V0 Q42 V14 W31 V13 W32 W33 V15 W17 Q41 Q43 E11 N8 Q44 W34 E38 E39 E40. -/
import Derived.Test.YthhdollpkieknaaGreatM5
set_option linter.unusedSectionVars false
set_option linter.unusedVariables false
set_option linter.unusedSimpArgs false
set_option maxHeartbeats 4000000
set_option maxRecDepth 100000
namespace Go.Proofs.YthhdollpkieknaaGreat
open Go.Abs
theorem zly {p:List Mon} {L:List (List Int)} (hp:∀ m∈p,isN m.1/\m.2.length=L.length/\∀ k:Nat,0<=m.2[k]?.getD 0/\m.2[k]?.getD 0<=1000000) (hpl:p.length<=1000000000000) (hL:L.length<=3) (hr:∀ r∈L,r.length=7/\Ns r) :
  Con Tryz.prog 276 [.sl p.length (mons p),.sl L.length (mat L)] (.own 2 7 (avs (evS L p))):=by
 refine zab Tryz.mixed ⟨11,[],[],[]⟩ Tryz.func276 ?_
 rw [Tryz.ntmps276]
 simp [go_sem]
 refine zac (List.range' 6 48) (fun i:Nat=>[(6,.own 2 7 (avs (evS L (p.take i)))),(7,.int i)]) (fun i=>i<=p.length) (fun i=>p.length-i) 0 (by simp) (by simp [go_sem,zzC,avs]) (by simp [go_sem]) ?_
 intro i hi
 simp [go_sem]
 refine ⟨fun h=>?_,fun h=>?_⟩ <;> simp at h
 .have hif:=h
  have hx:p[i]?.getD (0,[])∈p:=by simp [h]
  have hv:=zwn (L:=L) h
  obtain ⟨mN,ml,mg⟩:=hp _ hx
  simp [go_sem]
  have cU:=zsa 7 0 (by omega) (by omega)
  generalize hM:p[i]?.getD (0,[])=m at *
  have cT:=zo5 (tb (fun i=>if i=0 then (1:Int) else 0) 7) m.1 (tb_N fun i _=>by split <;> exact ⟨by omega,by omega⟩) mN (by simp)
  rw [zwC,zqS _ mN] at cT
  refine ⟨by kernel_rfl,?_⟩
  refine CallD.of (cU) ?_
  simp [go_sem]
  simp [go_sem,zbu hif,hM]
  refine ⟨⟨hif,by rintro rfl; simp at hif⟩,?_⟩
  refine CallD.of (cT) ?_
  simp [go_sem]
  refine ⟨by kernel_rfl,?_⟩
  simp [go_sem]
  refine zac (8::9::10::List.range' 27 24) (fun k:Nat=>[(8,.own 2 7 (avs (teS L m.2 (unS m.1) k))),(9,.int k)]) (fun k=>k<=L.length) (fun k=>L.length-k) 0 (by simp) (by simp [go_sem,teS]) (by simp [go_sem]) ?_
  intro k hk
  simp [go_sem]
  refine ⟨fun h=>?_,fun h=>?_⟩ <;> simp at h
  .have hkL:=h
   have hkm:k<m.2.length:=by omega
   have hy:=hr (L[k]?.getD []) (by simp [hkL])
   have g:=mg k
   have hs:teS L m.2 (unS m.1) (k+1)=pwS (teS L m.2 (unS m.1) k) (L[k]?.getD []) (m.2[k]?.getD 0).toNat:=rfl
   have hteN:=zst (L:=L) (e:=m.2) (zvi mN) k
   have htl:=zfr L m.2 (unS m.1) k
   have hul:(unS m.1).length=7:=rfl
   rw [hul] at htl
   generalize teS L m.2 (unS m.1) k=te at *
   simp [go_sem]
   refine zac (8::10::List.range' 33 18) (fun t:Nat=>[(8,.own 2 7 (avs (pwS te (L[k]?.getD []) t))),(10,.int t)]) (fun t=>(t:Int)<=m.2[k]?.getD 0) (fun t=>(m.2[k]?.getD 0).toNat-t) 0 (by simp; omega) (by simp [go_sem,pwS]) (by simp [go_sem]) ?_
   intro t ht
   simp [go_sem,zbu hif,hM,zae hkm]
   refine ⟨⟨hif,by rintro rfl; simp at hif⟩,⟨hkm,by intro e; simp [e] at hkm⟩,?_⟩
   refine ⟨fun h=>?_,fun h=>?_⟩ <;> simp at h
   .have cT:=zt8 (pwS te (L[k]?.getD []) t) (L[k]?.getD []) (zxO hteN t) hy.2 (by rw [zcY]; omega) (by rw [zcY]; omega)
    rw [zcY,htl] at cT
    simp [go_sem,zag hkL]
    refine ⟨⟨hkL,by rintro rfl; simp at hkL⟩,?_⟩
    refine CallVC.of (cT) ?_
    simp [go_sem]
    exact ⟨⟨by omega,by omega⟩,t+1,by omega,by omega,zaa _ _ _ (by simp),rfl,by omega⟩
   .have e:(m.2[k]?.getD 0).toNat=t:=by omega
    rw [e] at hs
    simp [go_sem]
    exact ⟨by omega,k+1,by omega,by omega,(Off.reset (by intro x hx; simp at hx |-; omega) (by simp) (by simp [go_sem,zaa])),by rw [hs],by omega⟩
  .have e:k=L.length:=by omega
   subst e
   have hteN:=zst (L:=L) (e:=m.2) (zvi mN) L.length
   have htl:=zfr L m.2 (unS m.1) L.length
   have hul:(unS m.1).length=7:=rfl
   rw [hul] at htl
   have cP:=znu (evS L (p.take i)) (teS L m.2 (unS m.1) L.length) (zBo _ _) hteN (by simp) (by simp; omega)
   rw [ztq,htl,hv] at cP
   simp [go_sem]
   refine CallVC.of (cP) ?_
   simp [go_sem]
   exact ⟨by omega,i+1,by omega,by omega,(Off.reset (by intro x hx; simp at hx |-; omega) (by simp) (by simp [go_sem,zaa])),rfl,by omega⟩
 .have e:i=p.length:=by omega
  subst e
  simp [go_sem]
theorem zo6 {z:Int} {p:List Mon} {L:List (List Int)} (hz:z<=3) (hp:zbr z p=true) (hpl:p.length<=1048576) (hL:(L.length:Int)=z) (hr:∀ r∈L,r.length=7/\Ns r) :
  Con Tryz.prog 276 [.sl p.length (mons p),.sl L.length (mat L)] (.own 2 7 (avs (evS L p))) :=
 zly (fun m hm=>by
  have h:=zbQ hp hm
  have h1:=h.lo
  have h2:=h.hi
  have h3:=h.len
  exact ⟨⟨by omega,by omega⟩,by omega,fun k=>⟨(h.get k).1,by have:=(h.get k).2; omega⟩⟩) (by omega) (by omega) hr
theorem zpC {z:Int} {f:List (List Mon)} {L:List (List Int)} (hf:FieldOk z f) (hs:zcj f) (hL:(L.length:Int)=z) (hr:∀ r∈L,r.length=7/\Ns r) :
  Con Tryz.prog 230 [.agg [.int z,.sl f.length (prt f)],.sl L.length (mat L)] (.own 25 f.length (omat (fdS L f))):=by
 have fl:=hs.1
 have z3:=hf.hi
 refine zab Tryz.mixed ⟨7,[],[],[]⟩ Tryz.func230 ?_
 rw [Tryz.ntmps230]
 simp [go_sem]
 refine zac (5::6::List.range' 8 17) (fun i:Nat=>[(5,.own 25 i (omat (fdS L (f.take i)))),(6,.int i)]) (fun i=>i<=f.length) (fun i=>f.length-i) 0 (by simp) (by simp [go_sem,fdS,zba]) (by simp [go_sem]) ?_
 intro i hi
 simp [go_sem]
 refine ⟨fun h=>?_,fun h=>?_⟩ <;> simp at h
 .have hif:=h
  have hx:f[i]?.getD []∈f:=by simp [h]
  have hv:=zos (L:=L) h
  simp [go_sem,zd0 hif]
  refine ⟨⟨hif,by rintro rfl; simp at hif⟩,?_⟩
  refine CallVC.of (zo6 z3 (hf.part _ hx) (hs.2 _ hx).1 hL hr) ?_
  simp [go_sem]
  refine ⟨⟨by omega,by omega⟩,by omega,i+1,by omega,by omega,zaa _ _ _ (by simp),?_,by omega⟩
  rw [hv,zaZ,zbq]; simp
 .simp [go_sem]
  have e:i=f.length:=by omega
  subst e; simp
theorem ze0 {z:Int} {f:List (List Mon)} {L:List (List Int)} (hf:FieldOk z f) (hs:zcj f) (hL:(L.length:Int)=z) (hr:∀ r∈L,r.length=7/\Ns r) :
  Con Tryz.prog 173 [.sl f.length (zd7 f),.sl L.length (mat L)] (.own 25 f.length (omat (fdS L f))):=by
 have fl:=hs.1
 have z3:=hf.hi
 refine zab Tryz.mixed ⟨8,[],[],[]⟩ Tryz.func173 ?_
 rw [Tryz.ntmps173]
 simp [go_sem]
 refine zac (5::7::List.range' 11 11) (fun i:Nat=>[(5,.own 25 i (omat (fdS L (f.take i)))),(11,.int i)]) (fun i=>i<=f.length) (fun i=>f.length-i) 0 (by simp) (by simp [go_sem,fdS,zba]) (by simp [go_sem]) ?_
 intro i hi
 simp [go_sem]
 refine ⟨fun h=>?_,fun h=>?_⟩ <;> simp at h
 .have hif:=h
  have hx:f[i]?.getD []∈f:=by simp [h]
  have hv:=zos (L:=L) h
  simp [go_sem,zij hif]
  refine ⟨⟨hif,by rintro rfl; simp at hif⟩,?_⟩
  refine CallVC.of (zj0 z3 (hf.part _ hx) hL hr) ?_
  simp [go_sem]
  refine ⟨⟨by omega,by omega⟩,by omega,i+1,by omega,by omega,zaa _ _ _ (by simp),?_,by omega⟩
  rw [hv,zaZ,zbq]; simp
 .simp [go_sem]
  have e:i=f.length:=by omega
  subst e; simp
end Go.Proofs.YthhdollpkieknaaGreat


namespace Go.Proofs.YthhdollpkieknaaGreat
open Go.Abs
abbrev z7:List Int:=[0,0,0,0,0,0,0]
def sloS (A:List (List Int)) (f:List (List Mon)) (start:List (List Int)):Nat->List (List (List Int))
 | 0=>List.replicate A.length (List.replicate start.length z7)
 | n+1=>A.map fun row=>fdS (mvS start row (sloS A f start n) row.length) f
@[simp] theorem za1 (A:List (List Int)) (f:List (List Mon)) (start:List (List Int)):∀ n,(sloS A f start n).length=A.length
 | 0=>by simp [sloS]
 | n+1=>by simp [sloS]
theorem zeD {A:List (List Int)} {f:List (List Mon)} {start:List (List Int)} (hl:f.length=start.length):∀ n,∀ m∈sloS A f start n,m.length=start.length/\∀ r∈m,r.length=7/\Ns r
 | 0,m,hm=>by
  simp only [sloS,List.mem_replicate] at hm
  obtain ⟨_,rfl⟩:=hm
  refine ⟨by simp,fun r hr=>?_⟩
  obtain ⟨_,rfl⟩:=List.mem_replicate.1 hr
  refine ⟨rfl,fun x hx=>?_⟩
  simp at hx; subst hx; exact ⟨by omega,by omega⟩
 | n+1,m,hm=>by
  rw [sloS] at hm
  obtain ⟨row,_,rfl⟩:=List.mem_map.1 hm
  exact ⟨by simp [hl],zl2⟩
theorem zfc (n:Nat):omat (List.replicate (n+1) z7)=omat (List.replicate n z7)++[.own 2 7 (avs z7)]:=by
 rw [List.replicate_succ',zaZ,zbq]; rfl
theorem zd9 (n:Nat) (m:List (List Int)):zb2 (List.replicate (n+1) m)=zb2 (List.replicate n m)++[.own 25 m.length (omat m)]:=by
 rw [List.replicate_succ',zjZ,zsh]
theorem ze7:zb2 []=[]:=rfl
theorem zh4 (X:List (List (List Int))) (i:Nat) (h:i<X.length):zb2 (X.take (i+1))=zb2 (X.take i)++[.own 25 (X[i]?.getD []).length (omat (X[i]?.getD []))]:=by
 rw [List.take_add_one,List.getElem?_eq_getElem h,zjZ]; rfl
theorem zgZ {A:List (List Int)} (f:List (List Mon)) (start:List (List Int)) (n:Nat) {i:Nat} (h:i<A.length):(sloS A f start (n+1))[i]?.getD []=fdS (mvS start (A[i]?.getD []) (sloS A f start n) (A[i]?.getD []).length) f:=by
 simp [sloS,h]
theorem zvn {z:Int} (A:List (List Int)) (B:List Int) (f:List (List Mon)) (start:List (List Int)) (hT:Tab A B) (hf:FieldOk z f) (hs:zcj f) (hl:(start.length:Int)=z) (hr:∀ r∈start,r.length=7/\Ns r) :
  Con Tryz.prog 146 [.agg [.sl A.length (mat A),.sl B.length (avs B)],.sl f.length (zd7 f),.sl start.length (mat start)] (.own 24 A.length (zb2 (sloS A f start 7))):=by
 have fl:=hs.1
 have z3:=hf.hi
 have fz:=hf.len
 have b8:=hT.le
 have ab:=hT.len
 refine zab Tryz.mixed ⟨9,[],[],[]⟩ Tryz.func146 ?_
 rw [Tryz.ntmps146]
 simp [go_sem]
 refine zac (7::8::List.range' 16 17) (fun i:Nat=>[(7,.own 24 i (zb2 (List.replicate i (List.replicate start.length z7)))),(16,.int i)]) (fun i=>i<=B.length) (fun i=>B.length-i) 0 (by simp) (by simp [go_sem,ze7]) (by simp [go_sem]) ?_
 intro i hi
 simp [go_sem]
 refine ⟨fun h=>?_,fun h=>?_⟩ <;> simp at h
 .simp [go_sem]
  refine zac (8::List.range' 21 7) (fun j:Nat=>[(8,.own 25 j (omat (List.replicate j z7))),(21,.int j)]) (fun j=>j<=start.length) (fun j=>start.length-j) 0 (by simp) (by simp [go_sem,zba]) (by simp [go_sem]) ?_
  intro j hj
  simp [go_sem]
  refine ⟨fun h=>?_,fun h=>?_⟩ <;> simp at h
  .simp [go_sem]
   refine ⟨⟨by omega,by omega⟩,by omega,j+1,by omega,by omega,zaa _ _ _ (by simp),?_,by omega⟩
   rw [zfc]; exact ⟨rfl,rfl⟩
  .have e:j=start.length:=by omega
   subst e
   simp [go_sem]
   refine ⟨⟨by omega,by omega⟩,by omega,i+1,by omega,by omega,(Off.reset (by intro x hx; simp at hx |-; omega) (by simp) (by simp [go_sem,zaa])),?_,by omega⟩
   rw [zd9]; simp
 .have e:i=B.length:=by omega
  subst e
  simp [go_sem]
  refine zac (7::9::11::List.range' 33 22) (fun n:Nat=>[(7,.own 24 A.length (zb2 (sloS A f start n))),(33,.int n)]) (fun n=>n<=7) (fun n=>7-n) 0 (by simp) (by simp [go_sem,sloS,ab]) (by simp [go_sem]) ?_
  intro n hn
  simp [go_sem]
  refine ⟨fun h=>?_,fun h=>?_⟩ <;> simp at h
  .simp [go_sem]
   refine zac (9::11::List.range' 39 14) (fun i:Nat=>[(9,.own 24 i (zb2 ((sloS A f start (n+1)).take i))),(39,.int i)]) (fun i=>i<=A.length) (fun i=>A.length-i) 0 (by simp) (by simp [go_sem,ze7]) (by simp [go_sem]) ?_
   intro i hi
   simp [go_sem]
   refine ⟨fun h=>?_,fun h=>?_⟩ <;> simp at h
   .have hif:=h
    have hx:A[i]?.getD []∈A:=by simp [h]
    have hm:=hT.a _ hx
    have ht:=zh4 (sloS A f start (n+1)) i (by rw [za1]; exact hif)
    rw [zgZ f start n hif,zlo] at ht
    have cM:=zqv start (A[i]?.getD []) (sloS A f start n) 7 (by omega) (by omega) hr (by omega) (by have:=hm.1; omega) (by rw [za1]; have:=hm.1; omega) hm.2 (zeD (by omega) n) (by rw [za1]; omega)
    rw [za1] at cM
    have cF:=ze0 (L:=mvS start (A[i]?.getD []) (sloS A f start n) (A[i]?.getD []).length) hf hs (by rw [za9]; exact hl) (zdl hr _)
    rw [za9] at cF
    simp [go_sem,zag hif]
    refine ⟨⟨hif,by rintro rfl; simp at hif⟩,?_⟩
    refine CallVC.of (cM) ?_
    simp [go_sem]
    refine CallVC.of (cF) ?_
    simp [go_sem]
    refine ⟨⟨by omega,by omega⟩,by omega,i+1,by omega,by omega,zaa _ _ _ (by simp),?_,by omega⟩
    rw [ht]; exact ⟨rfl,rfl⟩
   .have e:i=A.length:=by omega
    subst e
    simp [go_sem]
    have hfin:(sloS A f start (n+1)).take A.length=sloS A f start (n+1):=List.take_of_length_le (by simp)
    exact ⟨by omega,n+1,by omega,by omega,(Off.reset (by intro x hx; simp at hx |-; omega) (by simp) (by simp [go_sem,zaa])),by rw [hfin],by omega⟩
  .have e:n=7:=by omega
   subst e
   simp [go_sem]
theorem zmq {z:Int} (A:List (List Int)) (B:List Int) (f:List (List Mon)) (start:List (List Int)) (hT:Tab A B) (hf:FieldOk z f) (hs:zcj f) (hl:(start.length:Int)=z) (hr:∀ r∈start,r.length=7/\Ns r) :
  Con Tryz.prog 153 [.agg [.sl A.length (mat A),.sl B.length (avs B)],.agg [.int z,.sl f.length (prt f)],.sl start.length (mat start)] (.own 24 A.length (zb2 (sloS A f start 7))):=by
 have fl:=hs.1
 have z3:=hf.hi
 have fz:=hf.len
 have b8:=hT.le
 have ab:=hT.len
 refine zab Tryz.mixed ⟨12,[],[],[]⟩ Tryz.func153 ?_
 rw [Tryz.ntmps153]
 simp [go_sem]
 refine zac (7::8::9::10::List.range' 15 22) (fun i:Nat=>[(7,.own 24 i (zb2 (List.replicate i (List.replicate start.length z7)))),(8,.int i)]) (fun i=>i<=B.length) (fun i=>B.length-i) 0 (by simp) (by simp [go_sem,ze7]) (by simp [go_sem]) ?_
 intro i hi
 simp [go_sem]
 refine ⟨fun h=>?_,fun h=>?_⟩ <;> simp at h
 .simp [go_sem]
  refine zac (9::10::List.range' 23 10) (fun j:Nat=>[(9,.own 25 j (omat (List.replicate j z7))),(10,.int j)]) (fun j=>j<=start.length) (fun j=>start.length-j) 0 (by simp) (by simp [go_sem,zba]) (by simp [go_sem]) ?_
  intro j hj
  simp [go_sem]
  refine ⟨fun h=>?_,fun h=>?_⟩ <;> simp at h
  .simp [go_sem]
   refine ⟨⟨by omega,by omega⟩,by omega,j+1,by omega,by omega,zaa _ _ _ (by simp),?_,by omega⟩
   rw [zfc]; exact ⟨rfl,rfl⟩
  .have e:j=start.length:=by omega
   subst e
   simp [go_sem]
   refine ⟨⟨by omega,by omega⟩,by omega,i+1,by omega,by omega,(Off.reset (by intro x hx; simp at hx |-; omega) (by simp) (by simp [go_sem,zaa])),?_,by omega⟩
   rw [zd9]; simp
 .have e:i=B.length:=by omega
  subst e
  simp [go_sem]
  refine zac (7::11::12::13::List.range' 37 26) (fun n:Nat=>[(7,.own 24 A.length (zb2 (sloS A f start n))),(11,.int n)]) (fun n=>n<=7) (fun n=>7-n) 0 (by simp) (by simp [go_sem,sloS,ab]) (by simp [go_sem]) ?_
  intro n hn
  simp [go_sem]
  refine ⟨fun h=>?_,fun h=>?_⟩ <;> simp at h
  .simp [go_sem]
   refine zac (12::13::List.range' 42 20) (fun i:Nat=>[(12,.own 24 i (zb2 ((sloS A f start (n+1)).take i))),(13,.int i)]) (fun i=>i<=A.length) (fun i=>A.length-i) 0 (by simp) (by simp [go_sem,ze7]) (by simp [go_sem]) ?_
   intro i hi
   simp [go_sem]
   refine ⟨fun h=>?_,fun h=>?_⟩ <;> simp at h
   .have hif:i<A.length:=by omega
    have hx:A[i]?.getD []∈A:=by simp [hif]
    have hm:=hT.a _ hx
    have ht:=zh4 (sloS A f start (n+1)) i (by rw [za1]; exact hif)
    rw [zgZ f start n hif,zlo] at ht
    have cM:=zoi start (A[i]?.getD []) (sloS A f start n) 7 (by omega) (by omega) hr (by omega) (by have:=hm.1; omega) (by rw [za1]; have:=hm.1; omega) hm.2 (zeD (by omega) n) (by rw [za1]; omega)
    rw [za1,show A.length=(A[i]?.getD []).length by have:=hm.1; omega] at cM
    have cF:=zpC (L:=mvS start (A[i]?.getD []) (sloS A f start n) (A[i]?.getD []).length) hf hs (by rw [za9]; exact hl) (zdl hr _)
    rw [za9] at cF
    have hel:(A[i]?.getD []).length=A.length:=by have:=hm.1; omega
    simp [go_sem,zag hif]
    refine ⟨by kernel_rfl,⟨hif,by rintro rfl; simp at hif⟩,?_⟩
    rw [<- hel]
    refine CallD.of (cM) ?_
    simp [go_sem]
    refine CallD.of (cF) ?_
    simp [go_sem]
    refine ⟨⟨by omega,by omega⟩,?_⟩
    refine ⟨by kernel_rfl,?_⟩
    simp [go_sem]
    refine ⟨by omega,i+1,by omega,by omega,zaa _ _ _ (by simp),?_,by omega⟩
    rw [ht]; exact ⟨rfl,rfl⟩
   .have e:i=A.length:=by omega
    subst e
    simp [go_sem]
    have hfin:(sloS A f start (n+1)).take A.length=sloS A f start (n+1):=List.take_of_length_le (by simp)
    exact ⟨by omega,n+1,by omega,by omega,(Off.reset (by intro x hx; simp at hx |-; omega) (by simp) (by simp [go_sem,zaa])),by rw [hfin],by omega⟩
  .have e:n=7:=by omega
   subst e
   simp [go_sem]
end Go.Proofs.YthhdollpkieknaaGreat


namespace Go.Proofs.YthhdollpkieknaaGreat
open Go.Abs
theorem zgr {α:Type} {l:List α} {i:Nat} (d:α) (h:i<l.length):l[i]?.getD d∈l:=by simp [h]
theorem zAO {a:List (List Int)} (h:∀ r∈a,Ns r) (k:Nat):Ns (colS a k):=tb_N fun i hi=>(h (a[i]?.getD []) (by simp [hi])).get k
theorem ze5 {n:Nat} {a:List (List Int)} (h7:a.length=n) (h:∀ r∈a,Ns r):∀ r∈zay a,r.length=n/\Ns r:=by
 intro r hr
 obtain ⟨k,_,rfl⟩:=List.mem_map.1 hr
 exact ⟨by rw [zje,h7],zAO h k⟩
def steS (A:List (List Int)) (B:List Int) (f:List (List Mon)) (start:List (List Int)):List (List Int):=mvS start B (sloS A f start 7) B.length
@[simp] theorem zcn (A:List (List Int)) (B:List Int) (f:List (List Mon)) (start:List (List Int)):(steS A B f start).length=start.length:=za9 _ _ _ _
theorem zd3 {A:List (List Int)} {B:List Int} {f:List (List Mon)} {start:List (List Int)} (hr:∀ r∈start,r.length=7/\Ns r):∀ r∈steS A B f start,r.length=7/\Ns r:=zdl hr _
theorem zjO {z:Int} (A:List (List Int)) (B:List Int) (f:List (List Mon)) (start:List (List Int)) (hT:Tab A B) (hf:FieldOk z f) (hs:zcj f) (hl:(start.length:Int)=z) (hr:∀ r∈start,r.length=7/\Ns r) :
  Con Tryz.prog 61 [.agg [.sl A.length (mat A),.sl B.length (avs B)],.sl f.length (zd7 f),.sl start.length (mat start)] (.own 25 start.length (omat (steS A B f start))):=by
 have fl:=hs.1
 have z3:=hf.hi
 have fz:=hf.len
 have b8:=hT.le
 have ab:=hT.len
 have cS:=zvn A B f start hT hf hs hl hr
 have cM:=zqv start B (sloS A f start 7) 7 (by omega) (by omega) hr (by omega) (by omega) (by rw [za1]; omega) hT.b (zeD (by omega) 7) (by rw [za1]; omega)
 rw [za1] at cM
 refine zab Tryz.mixed ⟨7,[],[],[]⟩ Tryz.func61 ?_
 rw [Tryz.ntmps61]
 simp [go_sem]
 refine ⟨by kernel_rfl,?_⟩
 refine CallD.of (cS) ?_
 simp [go_sem]
 refine CallD.of (cM) ?_
 simp [go_sem]
 refine ⟨by kernel_rfl,?_⟩
 simp [go_sem]
 rfl
theorem zsx {z:Int} (A:List (List Int)) (B:List Int) (f:List (List Mon)) (start:List (List Int)) (hT:Tab A B) (hf:FieldOk z f) (hs:zcj f) (h7:start.length=7) (hr:∀ r∈start,(r.length:Int)=z/\Ns r) :
  Con Tryz.prog 65 [.agg [.sl A.length (mat A),.sl B.length (avs B)],.agg [.int z,.sl f.length (prt f)],.sl start.length (mat start)] (.own 25 7 (omat (zay (steS A B f (zay start))))):=by
 have fl:=hs.1
 have z3:=hf.hi
 have z1:=hf.lo
 have fz:=hf.len
 have b8:=hT.le
 have ab:=hT.len
 have h0:(start[0]?.getD [])∈start:=by simp [show 0<start.length by omega]
 have hz:=(hr _ h0).1
 have tl:(zay start).length=(start[0]?.getD []).length:=za5 _
 have tr:∀ r∈zay start,r.length=7/\Ns r:=ze5 h7 (fun r h=>(hr r h).2)
 have cT:=zkP start (by omega) (by omega) (fun r h=>by have:=(hr r h).1; omega) (by omega)
 have cS:=zmq A B f (zay start) hT hf hs (by omega) tr
 have cM:=zoi (zay start) B (sloS A f (zay start) 7) 7 (by omega) (by omega) tr (by omega) (by omega) (by rw [za1]; omega) hT.b (zeD (by omega) 7) (by rw [za1]; omega)
 rw [za1] at cM
 have sl:=zcn A B f (zay start)
 have sr:=zd3 (A:=A) (B:=B) (f:=f) tr
 have s0:((steS A B f (zay start))[0]?.getD [])∈steS A B f (zay start):=zgr _ (by rw [zcn]; omega)
 have s7:=(sr _ s0).1
 have cE:=zkP (steS A B f (zay start)) (by omega) (by omega) (fun r h=>by have:=(sr r h).1; omega) (by omega)
 rw [za5,s7] at cE
 have hm:mvS (zay start) B (sloS A f (zay start) 7) A.length=steS A B f (zay start):=by unfold steS; rw [ab]
 rw [hm] at cM
 generalize steS A B f (zay start)=E at *
 rw [sl] at cE
 generalize zay start=U at *
 refine zab Tryz.mixed ⟨8,[],[],[]⟩ Tryz.func65 ?_
 rw [Tryz.ntmps65]
 simp [go_sem]
 refine CallVC.of (cT) ?_
 simp [go_sem]
 refine ⟨by kernel_rfl,?_⟩
 refine CallD.of (cS) ?_
 simp [go_sem]
 refine CallD.of (cM) ?_
 simp [go_sem]
 refine CallD.of (cE) ?_
 simp [go_sem]
 refine ⟨by kernel_rfl,?_⟩
 simp [go_sem]
end Go.Proofs.YthhdollpkieknaaGreat


namespace Go.Proofs.YthhdollpkieknaaGreat
open Go.Abs
end Go.Proofs.YthhdollpkieknaaGreat


namespace Go.Proofs.YthhdollpkieknaaGreat
open Go.Abs
def poS (y:List Int):List (List Int):=y.map unS
@[simp] theorem zcB (y:List Int):(poS y).length=y.length:=by simp [poS]
theorem zc6 {y:List Int} (h:Ns y):∀ r∈poS y,r.length=7/\Ns r:=by
 intro r hr
 obtain ⟨a,ha,rfl⟩:=List.mem_map.1 hr
 exact ⟨rfl,zvi (h a ha)⟩
theorem znn {y:List Int} {i:Nat} (h:i<y.length):omat (poS (y.take (i+1)))=omat (poS (y.take i))++[.own 2 7 (avs (unS (y[i]?.getD 0)))]:=by
 rw [List.take_add_one,List.getElem?_eq_getElem h]
 simp only [poS,List.map_append,zaZ]; rfl
def stV (y:List Int):List (List Int):=y::List.replicate 6 (List.replicate y.length 0)
@[simp] theorem ztL (y:List Int):(stV y).length=7:=by simp [stV]
theorem zyg {y:List Int} (h:Ns y):∀ r∈stV y,r.length=y.length/\Ns r:=by
 intro r hr
 rcases List.mem_cons.1 hr with rfl | hr
 .exact ⟨rfl,h⟩
 .obtain ⟨_,rfl⟩:=List.mem_replicate.1 hr
  refine ⟨by simp,fun x hx=>?_⟩
  obtain ⟨_,rfl⟩:=List.mem_replicate.1 hx
  exact ⟨by omega,by omega⟩
theorem zt3 (y:List Int):zay (stV y)=poS y:=by
 refine List.ext_getElem (by simp [stV]) fun k h1 h2=>?_
 have hk:k<y.length:=by simpa using h2
 have e:(y::List.replicate 6 (List.replicate y.length 0))[0]?.getD []=y:=rfl
 simp only [zay,List.getElem_map,List.getElem_range,poS,colS,stV]
 simp [tb,List.range,List.range.loop,unS,hk,List.replicate]
theorem zfV (y:List Int) (hy:y.length<=1048576):Con Tryz.prog 63 [.sl y.length (avs y)] (.own 25 y.length (omat (poS y))):=by
 refine zab Tryz.mixed ⟨7,[],[],[]⟩ Tryz.func63 ?_
 rw [Tryz.ntmps63]
 simp [go_sem]
 refine zac (3::5::6::List.range' 10 13) (fun i:Nat=>[(3,.own 25 i (omat (poS (y.take i)))),(10,.int i)]) (fun i=>i<=y.length) (fun i=>y.length-i) 0 (by simp) (by simp [go_sem,poS,zba]) (by simp [go_sem]) ?_
 intro i hi
 simp [go_sem]
 refine ⟨fun h=>?_,fun h=>?_⟩ <;> simp at h
 .have ht:=znn h
  simp [go_sem,zae h]
  refine ⟨⟨h,by rintro rfl; simp at h⟩,⟨by omega,by omega⟩,by omega,i+1,by omega,by omega,zaa _ _ _ (by simp),⟨rfl,?_⟩,by omega⟩
  rw [ht]; rfl
 .have e:i=y.length:=by omega
  subst e
  simp [go_sem]
theorem zpx (y:List Int) (hy:y.length<=1048576):Con Tryz.prog 66 [.sl y.length (avs y)] (.own 25 7 (omat (stV y))):=by
 refine zab Tryz.mixed ⟨4,[],[],[]⟩ Tryz.func66 ?_
 rw [Tryz.ntmps66]
 simp [go_sem]
 refine CallVC.of (zew y (by omega)) ?_
 simp [go_sem]
 have e0:∀ k,omat (y::List.replicate (k+1) (List.replicate y.length 0))=omat (y::List.replicate k (List.replicate y.length 0))++[.own 2 y.length (avs (List.replicate y.length 0))]:=fun k=>by
  rw [List.replicate_succ',<- List.cons_append,zaZ,zbq]; simp
 refine zac (3::List.range' 7 9) (fun i:Nat=>[(3,.own 25 (i+1) (omat (y::List.replicate i (List.replicate y.length 0))))]) (fun i=>i<=6) (fun i=>6-i) 0 (by simp) (by simp [go_sem,omat]) (by simp [go_sem]) ?_
 intro i hi
 simp [go_sem]
 refine ⟨fun h=>?_,fun h=>?_⟩ <;> simp at h
 .have ht:=e0 i
  simp [go_sem]
  refine ⟨⟨by omega,by omega⟩,⟨by omega,by omega⟩,i+1,by omega,by omega,zaa _ _ _ (by simp),⟨by omega,?_⟩⟩
  rw [ht,<- zc5]
 .have e:i=6:=by omega
  subst e
  simp [go_sem]
  rfl
def ssX (A:List (List Int)) (B:List Int) (z:Int) (f:List (List Mon)) (y:List Int):List (List Int):=if stE A B z f y=0 then zay (steS A B f (poS y)) else []
def ssR (A:List (List Int)) (B:List Int) (z:Int) (f:List (List Mon)) (y:List Int):AV:=.tup [.own 25 (ssX A B z f y).length (omat (ssX A B z f y)),.int (stE A B z f y)]
theorem zjY {A:List (List Int)} {B:List Int} {f:List (List Mon)} {y:List Int} (y1:1<=y.length) (hy:Ns y) :
  (zay (steS A B f (poS y))).length=7/\∀ r∈zay (steS A B f (poS y)),r.length=y.length/\Ns r:=by
 have sr:=zd3 (A:=A) (B:=B) (f:=f) (zc6 hy)
 have s0:((steS A B f (poS y))[0]?.getD [])∈steS A B f (poS y):=zgr _ (by rw [zcn,zcB]; omega)
 refine ⟨by rw [za5,(sr _ s0).1],fun r h=>?_⟩
 have:=ze5 (a:=steS A B f (poS y)) rfl (fun r h=>(sr r h).2) r h
 rw [zcn,zcB] at this
 exact this
theorem zkJ {A:List (List Int)} {B:List Int} {z:Int} {f:List (List Mon)} {y:List Int} (h:stE A B z f y=0):Tab A B/\FieldOk z f/\(y.length:Int)=z/\Ns y:=by
 obtain ⟨hT,hF,hV⟩:=zt0 h
 unfold vecB at hV
 simp only [Bool.and_eq_true,decide_eq_true_eq] at hV
 exact ⟨zf6.1 hT,zdX.1 hF,hV.1,zdH.1 hV.2⟩
theorem zB7 (A:List (List Int)) (B:List Int) (z:Int) (f:List (List Mon)) (y:List Int):(ssX A B z f y).length<=7/\∀ r∈ssX A B z f y,r.length<=3:=by
 unfold ssX
 split
 .rename_i h
  obtain ⟨hT,hF,hl,hy⟩:=zkJ h
  have z1:=hF.lo
  have z3:=hF.hi
  obtain ⟨e1,e2⟩:=zjY (A:=A) (B:=B) (f:=f) (by omega) hy
  exact ⟨by omega,fun r hr=>by have:=(e2 r hr).1; omega⟩
 .simp
theorem zkq (A:List (List Int)) (B:List Int) (z:Int) (f:List (List Mon)) (y:List Int) (hA:A.length<=1048576) (hB:B.length<=1048576) (hr:∀ r∈A,r.length<=1048576) (hs:zcj f) (hy:y.length<=1048576) :
  Con Tryz.prog 10 [.agg [.sl A.length (mat A),.sl B.length (avs B)],.agg [.int z,.sl f.length (prt f)],.sl y.length (avs y)] (ssR A B z f y):=by
 have c1:=zg9 A B z f y hA hB hr hs hy
 unfold ssR ssX
 have hz:=@zkJ A B z f y
 generalize stE A B z f y=e at *
 by_cases he:e=0
 .subst he
  obtain ⟨hT,hF,hl,hN⟩:=hz rfl
  have fl:=hs.1
  have z1:=hF.lo
  have z3:=hF.hi
  have cP:=zb3 z f hF hs
  have cU:=zfV y hy
  have cS:=zjO A B f (poS y) hT hF hs (by rw [zcB]; exact hl) (zc6 hN)
  have sl:=zcn A B f (poS y)
  have sr:=zd3 (A:=A) (B:=B) (f:=f) (zc6 hN)
  rw [zcB] at cS sl
  have cE:=zjl (steS A B f (poS y)) (by omega) (by omega) (fun r h=>by
   have s0:((steS A B f (poS y))[0]?.getD [])∈steS A B f (poS y):=zgr _ (by omega)
   have:=(sr r h).1; have:=(sr _ s0).1; omega) (by
   have s0:((steS A B f (poS y))[0]?.getD [])∈steS A B f (poS y):=zgr _ (by omega)
   have:=(sr _ s0).1; omega)
  rw [sl] at cE
  rw [if_pos rfl]
  generalize zay (steS A B f (poS y))=X at *
  generalize steS A B f (poS y)=E at *
  generalize poS y=U at *
  refine zab Tryz.mixed ⟨9,[],[],[]⟩ Tryz.func10 ?_
  rw [Tryz.ntmps10]
  simp [go_sem]
  refine CallVC.of (c1) ?_
  simp [go_sem]
  refine ⟨by kernel_rfl,?_⟩
  refine CallD.of (cP) ?_
  simp [go_sem]
  refine CallD.of (cU) ?_
  simp [go_sem]
  refine CallD.of (cS) ?_
  simp [go_sem]
  refine CallD.of (cE) ?_
  simp [go_sem]
  refine ⟨by kernel_rfl,?_⟩
  simp [go_sem]
 .rw [if_neg he]
  refine Con.n1 _ ?_
  refine zab Tryz.mixed ⟨9,[],[],[]⟩ Tryz.func10 ?_
  rw [Tryz.ntmps10]
  simp [go_sem]
  refine CallVC.of (c1) ?_
  simp [go_sem]
  simp [go_sem,he]
theorem zf0 (A:List (List Int)) (B:List Int) (z:Int) (f:List (List Mon)) (y:List Int) (hA:A.length<=1048576) (hB:B.length<=1048576) (hr:∀ r∈A,r.length<=1048576) (hs:zcj f) (hy:y.length<=1048576) :
  Con Tryz.prog 11 [.agg [.sl A.length (mat A),.sl B.length (avs B)],.agg [.int z,.sl f.length (prt f)],.sl y.length (avs y)] (ssR A B z f y):=by
 have c1:=zs4 A B z f y hA hB hr hs hy
 unfold ssR ssX
 have hz:=@zkJ A B z f y
 generalize stE A B z f y=e at *
 by_cases he:e=0
 .subst he
  obtain ⟨hT,hF,hl,hN⟩:=hz rfl
  have fl:=hs.1
  have z1:=hF.lo
  have z3:=hF.hi
  have cU:=zpx y hy
  have cS:=zsx A B f (stV y) hT hF hs (ztL y) (fun r h=>by rw [<- hl]; have:=zyg hN r h; exact ⟨by omega,this.2⟩)
  rw [ztL,zt3] at cS
  obtain ⟨e1,e2⟩:=zjY (A:=A) (B:=B) (f:=f) (by omega) hN
  rw [if_pos rfl,e1]
  generalize zay (steS A B f (poS y))=X at *
  generalize stV y=U at *
  refine zab Tryz.mixed ⟨9,[],[],[]⟩ Tryz.func11 ?_
  rw [Tryz.ntmps11]
  simp [go_sem]
  refine CallVC.of (c1) ?_
  simp [go_sem]
  refine ⟨by kernel_rfl,?_⟩
  refine CallD.of (cU) ?_
  simp [go_sem]
  refine CallD.of (cS) ?_
  simp [go_sem]
  refine ⟨by kernel_rfl,?_⟩
  simp [go_sem]
 .rw [if_neg he]
  refine Con.n1 _ ?_
  refine zab Tryz.mixed ⟨9,[],[],[]⟩ Tryz.func11 ?_
  rw [Tryz.ntmps11]
  simp [go_sem]
  refine CallVC.of (c1) ?_
  simp [go_sem]
  simp [go_sem,he]
end Go.Proofs.YthhdollpkieknaaGreat


namespace Go.Proofs.YthhdollpkieknaaGreat
open Go.Abs
def floS (f:List (List Mon)) (y:List Int):Nat->List (List Int)
 | 0=>poS y
 | n+1=>(List.range y.length).map fun i=>((floS f y n)[i]?.getD []).set (n+1) (((fdS (floS f y n) f)[i]?.getD [])[n]?.getD 0*pw ((n:Int)+1) 10005%10007)
@[simp] theorem za2 (f:List (List Mon)) (y:List Int):∀ n,(floS f y n).length=y.length
 | 0=>by simp [floS]
 | n+1=>by simp [floS]
theorem zDn {a:List Int} (h:Ns a) {i:Nat} {x:Int} (hx:isN x):Ns (a.set i x):=by
 intro z hz
 rcases List.mem_or_eq_of_mem_set hz with hz | rfl
 .exact h z hz
 .exact hx
theorem zc8 {f:List (List Mon)} {y:List Int} (hy:Ns y):∀ n,∀ r∈floS f y n,r.length=7/\Ns r
 | 0=>zc6 hy
 | n+1=>by
  intro r hr
  obtain ⟨i,hi,rfl⟩:=List.mem_map.1 hr
  have h:=zc8 hy n _ (memD [] (show i<(floS f y n).length by rw [za2]; simpa using hi))
  exact ⟨by simp [h.1],zDn h.2 (zaf _)⟩
theorem zwS {z:Int} (f:List (List Mon)) (y:List Int) (hf:FieldOk z f) (hs:zcj f) (hl:(y.length:Int)=z) (hy:Ns y) :
  Con Tryz.prog 87 [.sl f.length (zd7 f),.sl y.length (avs y)] (.own 25 y.length (omat (floS f y 6))):=by
 have fl:=hs.1
 have z3:=hf.hi
 have fz:=hf.len
 refine zab Tryz.mixed ⟨12,[],[],[]⟩ Tryz.func87 ?_
 rw [Tryz.ntmps87]
 simp [go_sem]
 refine zac (5::7::8::List.range' 15 13) (fun i:Nat=>[(5,.own 25 i (omat (poS (y.take i)))),(15,.int i)]) (fun i=>i<=y.length) (fun i=>y.length-i) 0 (by simp) (by simp [go_sem,poS,zba]) (by simp [go_sem]) ?_
 intro i hi
 simp [go_sem]
 refine ⟨fun h=>?_,fun h=>?_⟩ <;> simp at h
 .have ht:=znn h
  simp [go_sem,zae h]
  refine ⟨⟨h,by rintro rfl; simp at h⟩,⟨by omega,by omega⟩,by omega,i+1,by omega,by omega,zaa _ _ _ (by simp),⟨rfl,?_⟩,by omega⟩
  rw [ht]; rfl
 .have e:i=y.length:=by omega
  subst e
  simp [go_sem]
  refine zac (5::9::10::11::List.range' 28 31) (fun k:Nat=>[(5,.own 25 y.length (omat (floS f y k))),(9,.int ((k+1:Nat):Int))]) (fun k=>k<=6) (fun k=>7-k) 0 (by simp) (by simp [go_sem,floS]) (by simp [go_sem]) ?_
  intro k hk
  simp [go_sem]
  refine ⟨fun h=>?_,fun h=>?_⟩ <;> simp at h
  .have fr:=zc8 (f:=f) hy k
   have cF:=ze0 (L:=floS f y k) hf hs (by rw [za2]; exact hl) fr
   rw [za2] at cF
   simp [go_sem]
   refine CallVC.of (cF) ?_
   simp [go_sem]
   refine zac (5::11::List.range' 37 22) (fun j:Nat=>[(5,.own 25 y.length (omat (mxS (floS f y k) (floS f y (k+1)) j))),(37,.int j)]) (fun j=>j<=y.length) (fun j=>y.length-j) 0 (by simp) (by simp [go_sem,zi1]) (by simp [go_sem]) ?_
   intro j hj
   simp [go_sem]
   refine ⟨fun h=>?_,fun h=>?_⟩ <;> simp at h
   .have hjy:=h
    have hM:j<(mxS (floS f y k) (floS f y (k+1)) j).length:=by rw [zmh,za2]; exact hjy
    have hj2:j<(floS f y k).length:=by rw [za2]; exact hjy
    have hg:=zbz hM
    rw [zmn hj2] at hg
    have hr:=fr _ (memD [] hj2)
    have hV:j<(fdS (floS f y k) f).length:=by rw [zlo]; omega
    have hgv:=zbz hV
    have hv:=zl2 (L:=floS f y k) (f:=f) _ (memD [] hV)
    have hset:=zdK (mxS (floS f y k) (floS f y (k+1)) j) j ((floS f y (k+1))[j]?.getD [])
    have hnext:(floS f y (k+1))[j]?.getD []=((floS f y k)[j]?.getD []).set (k+1) (((fdS (floS f y k) f)[j]?.getD [])[k]?.getD 0*pw ((k:Int)+1) 10005%10007):=by simp [floS,hjy]
    rw [zlM hj2] at hset
    have m1:fits (((fdS (floS f y k) f)[j]?.getD [])[k]?.getD 0*pw ((k:Int)+1) 10005):=zax (hv.2.get k) (zaf _)
    have hk7:k<((fdS (floS f y k) f)[j]?.getD []).length:=by omega
    have hk8:k+1<((floS f y k)[j]?.getD []).length:=by omega
    generalize mxS (floS f y k) (floS f y (k+1)) j=M at *
    generalize (floS f y (k+1))[j]?.getD []=new at *
    generalize (floS f y k)[j]?.getD []=old at *
    generalize (fdS (floS f y k) f)[j]?.getD []=vs at *
    simp [go_sem,hg,hgv,zbL hk7,zae hk7]
    refine ⟨by kernel_rfl,hjy,by omega,by omega,hk7,?_⟩
    refine CallD.of (zpp _ ⟨by omega,by omega⟩) ?_
    simp [go_sem]
    refine ⟨m1,?_⟩
    refine CallD.of (za3 _ m1.1 m1.2) ?_
    simp [go_sem]
    simp [go_sem,hg]
    refine ⟨⟨by omega,by omega⟩,hk8,?_⟩
    refine ⟨by kernel_rfl,?_⟩
    simp [go_sem]
    refine ⟨by omega,j+1,by omega,by omega,zaa _ _ _ (by simp),?_,by omega⟩
    rw [<- hset,hnext,List.length_set,za0]
   .have e:j=y.length:=by omega
    have hall:=zli (A:=floS f y k) (C:=floS f y (k+1)) (by rw [za2,za2])
    rw [za2] at hall
    subst e
    simp [go_sem]
    exact ⟨by omega,k+1,by omega,by omega,(Off.reset (by intro x hx; simp at hx |-; omega) (by simp) (by simp [go_sem,zaa])),by rw [hall],by omega⟩
  .have e:k=6:=by omega
   subst e
   simp [go_sem]
theorem FieldOk.wok {z:Int} {f:List (List Mon)} (hf:FieldOk z f):∀ F∈f,∀ m∈F,WOk f.length 3 m:=fun F hF m hm=>by
 have h:=zbQ (hf.part F hF) hm
 have h1:=h.lo
 have h2:=h.hi
 have h3:=h.len
 have h4:=hf.len
 exact ⟨⟨by omega,by omega⟩,by omega,h.pw⟩
end Go.Proofs.YthhdollpkieknaaGreat


namespace Go.Proofs.YthhdollpkieknaaGreat
open Go.Abs
end Go.Proofs.YthhdollpkieknaaGreat


namespace Go.Proofs.YthhdollpkieknaaGreat
open Go.Abs CR
def toS (a:List Int):Ser Int:=fun n=>a[n]?.getD 0
def csum (A B:Nat->Int) (n:Nat):Nat->Int
 | 0=>0
 | m+1=>csum A B n m+A m*B (n-m)
theorem ziA (A B:Nat->Int) (n:Nat):∀ m,csum A B (n+1) (m+1)=A 0*B (n+1)+csum (sh A) B n m
 | 0=>by simp [csum]
 | m+1=>by
  rw [csum,ziA A B n m,csum]
  have:n+1-(m+1)=n-m:=by omega
  rw [this,Int.add_assoc]; rfl
theorem zmP:∀ (n:Nat) (A B:Nat->Int),csum A B n (n+1)=cmul n A B
 | 0,A,B=>by simp [csum,cmul]
 | n+1,A,B=>by rw [ziA,zmP n,cmul]
theorem zsA (a b:List Int) (n:Nat):∀ m,cv a b n m=csum (toS a) (toS b) n m
 | 0=>rfl
 | m+1=>by rw [cv,zsA a b n m]; rfl
abbrev c7:Cg (Ser Int):=cgS cgI 7
theorem zuq {a b:List Int} (ha:a.length=7):c7.r (toS (mulS a b)) (toS a*toS b):=by
 intro n hn
 show (toS (mulS a b) n)%10007=(cmul n (toS a) (toS b))%10007
 rw [<- zmP,<- zsA]
 have e:=zaP (fun n=>cv a b n (n+1)%10007) (show n<a.length by omega)
 have e2:toS (mulS a b) n=cv a b n (n+1)%10007:=e
 rw [e2,Int.emod_emod_of_dvd _ (Int.dvd_refl _)]
theorem zsp {s x:List Int} (hs:s.length=7):∀ n,c7.r (toS (pwS s x n)) (toS s*pwr (toS x) n)
 | 0=>c7.eq (mul1 _).symm
 | n+1=>by
  refine c7.trans (zuq (by rw [zcY,hs])) ?_
  refine c7.trans (c7.mul (zsp hs n) (c7.refl _)) (c7.eq ?_)
  rw [pwr,mulA]
def toU (L:List (List Int)):Nat->Ser Int:=fun k=>toS (L[k]?.getD [])
theorem zq9 {L:List (List Int)} {e s:List Int} (hs:s.length=7):∀ d,c7.r (toS (teS L e s d)) (toS s*mon (toU L) (ex e) d)
 | 0=>c7.eq (mul1 _).symm
 | d+1=>by
  refine c7.trans (zsp (by rw [zfr,hs]) _) ?_
  refine c7.trans (c7.mul (zq9 hs d) (c7.refl _)) (c7.eq ?_)
  rw [mon,mulA]; rfl
theorem zxP (a:Int):toS (unS a)=ofI a:=funext fun n=>by
 show ([a,0,0,0,0,0,0]:List Int)[n]?.getD 0=if n=0 then a else 0
 match n with
 | 0=>rfl
 | 1=>rfl
 | 2=>rfl
 | 3=>rfl
 | 4=>rfl
 | 5=>rfl
 | 6=>rfl
 | n+7=>simp
theorem zmA (L:List (List Int)):∀ p:List Mon,c7.r (fun n=>voS L n p) (evM L.length (toU L) p)
 | []=>fun n hn=>by
  show (0:Int)%10007=(evM L.length (toU L) [] n)%10007
  rw [zdr]
  cases n <;> rfl
 | m::p=>by
  rw [zaU,<- zxP]
  have h1:=zq9 (L:=L) (e:=m.2) (s:=unS m.1) rfl L.length
  exact c7.add h1 (zmA L p)
theorem zyf (L:List (List Int)) (p:List Mon):c7.r (toS (evS L p)) (evM L.length (toU L) p):=by
 refine c7.trans (fun n hn=>?_) (zmA L p)
 have e:=zaP (fun n=>voS L n p%10007) hn
 have e2:toS (evS L p) n=voS L n p%10007:=e
 show toS (evS L p) n%10007=voS L n p%10007
 rw [e2,Int.emod_emod_of_dvd _ (Int.dvd_refl _)]
section
variable {α:Type} [CR α]
theorem Cg.evM (c:Cg α) {d:Nat} {U V:Nat->α} (h:∀ k,k<d->c.r (U k) (V k)) (L:List Mon):c.r (evM d U L) (evM d V L):=c.ev h _
theorem zod (U:Nat->α) {e:Nat->Nat}:∀ {d:Nat},(∀ j,j<d->e j=0)->mon U e d=ofI 1
 | 0,_=>rfl
 | d+1,h=>by rw [mon,zod U (fun j hj=>h j (by omega)),h d (by omega),pwr,mul1]
theorem zqm (c:Int):∀ n,pwr (ofI c:α) n=ofI (pwr c n)
 | 0=>rfl
 | n+1=>by rw [pwr,zqm c n,pwr,<- ofMul]
theorem zwy (U:Nat->Int) (e:Nat->Nat):∀ d,mon (fun k=>(ofI (U k):α)) e d=ofI (mon U e d)
 | 0=>rfl
 | d+1=>by rw [mon,zwy U e d,zqm,mon,<- ofMul]
theorem zw4 (U:Nat->Int) (d:Nat):∀ L:List Mon,evM d (fun k=>(ofI (U k):α)) L=ofI (evM d U L)
 | []=>rfl
 | m::L=>by
  rw [zaU,zw4 U d L,zwy,zaU,ofAdd,ofMul]; rfl
end
theorem FieldOk.lok {z:Int} {f:List (List Mon)} (hf:FieldOk z f):∀ F∈f,LOk f.length F:=fun F hF m hm=>⟨(hf.wok F hF m hm).len,fun x hx=>((hf.wok F hF m hm).pw x hx).1⟩
theorem zxo:∀ n:Nat,n<6->((n+1:Nat):Int)*pw ((n:Int)+1) 10005%10007=1:=by
 have h:∀ n∈List.range 6,((n+1:Nat):Int)*pw ((n:Int)+1) 10005%10007=1:=by decide +kernel
 exact fun n hn=>h n (by simpa using hn)
def ift:Nat->Int
 | 0=>1
 | n+1=>ift n*pw ((n:Int)+1) 10005
theorem zrv:∀ n:Nat,n<=6->ift n*fct n%10007=1
 | 0,_=>by decide
 | n+1,h=>by
  have h1:=zrv n (by omega)
  have h2:=zxo n (by omega)
  have e:ift (n+1)*fct (n+1)=(ift n*fct n)*(((n+1:Nat):Int)*pw ((n:Int)+1) 10005):=by
   rw [ift,fct,show ((n+1:Nat):Int)=(n:Int)+1 by omega]
   generalize pw ((n:Int)+1) 10005=w
   ac_rfl
  rw [e,Int.mul_emod,h1,h2]; rfl
theorem zpR {f:List (List Mon)} {y:List Int} (n:Nat) {k:Nat} (hk:k<y.length):(floS f y (n+1))[k]?.getD []=((floS f y n)[k]?.getD []).set (n+1) (((fdS (floS f y n) f)[k]?.getD [])[n]?.getD 0*pw ((n:Int)+1) 10005%10007):=by
 simp [floS,hk]
theorem zcJ {f:List (List Mon)} {y:List Int} {k j:Nat} (hk:k<y.length) (n:Nat) (hj:j<=n):∀ m,((floS f y (n+m))[k]?.getD [])[j]?.getD 0=((floS f y n)[k]?.getD [])[j]?.getD 0
 | 0=>rfl
 | m+1=>by
  rw [<- Nat.add_assoc,zpR (n+m) hk,List.getElem?_set_ne (by omega),zcJ hk n hj m]
theorem zwo {f:List (List Mon)} {y:List Int} {n k:Nat} (hy:Ns y) (hk:k<y.length) (hf:k<f.length) (hn:n<6):((floS f y (n+1))[k]?.getD [])[n+1]?.getD 0=(evS (floS f y n) (f[k]?.getD []))[n]?.getD 0*pw ((n:Int)+1) 10005%10007:=by
 have hr:=(zc8 (f:=f) hy n _ (memD [] (show k<(floS f y n).length by rw [za2]; exact hk))).1
 have e:(fdS (floS f y n) f)[k]?.getD []=evS (floS f y n) (f[k]?.getD []):=by simp [fdS,hf]
 rw [zpR n hk,e,List.getElem?_set_self (by omega)]; rfl
theorem zu0 {z:Int} {f:List (List Mon)} {y:List Int} (hf:FieldOk z f) (hl:y.length=f.length) (hy:Ns y):∀ k,k<f.length->∀ n,n<6->cgI.r (ofI ((n+1:Nat):Int)*toU (floS f y 6) k (n+1)) (evM f.length (toU (floS f y 6)) (f[k]?.getD []) n):=by
 intro k hk n hn
 have hky:k<y.length:=by omega
 have e1:toU (floS f y 6) k (n+1)=(evS (floS f y n) (f[k]?.getD []))[n]?.getD 0*pw ((n:Int)+1) 10005%10007:=by
  rw [<- zwo hy hky hk hn]
  have:=zcJ (f:=f) hky (n+1) (Nat.le_refl _) (6-(n+1))
  rw [show n+1+(6-(n+1))=6 by omega] at this
  exact this
 have e2:cgI.r ((evS (floS f y n) (f[k]?.getD []))[n]?.getD 0) (evM f.length (toU (floS f y 6)) (f[k]?.getD []) n):=by
  have h1:=zyf (floS f y n) (f[k]?.getD []) n (by omega)
  rw [za2,hl] at h1
  refine cgI.trans h1 ?_
  refine (cgS cgI (n+1)).evM (U:=toU (floS f y n)) (V:=toU (floS f y 6)) (fun j hj i hi=>?_) (f[k]?.getD []) n (by omega)
  have:=zcJ (f:=f) (show j<y.length by omega) n (show i<=n by omega) (6-n)
  rw [show n+(6-n)=6 by omega] at this
  exact cgI.eq this.symm
 rw [e1]
 refine cgI.trans ?_ e2
 have h3:=zxo n hn
 generalize (evS (floS f y n) (f[k]?.getD []))[n]?.getD 0=v at *
 generalize pw ((n:Int)+1) 10005=w at *
 show (((n+1:Nat):Int)*(v*w%10007))%10007=v%10007
 have e:((n+1:Nat):Int)*(v*w)=v*(((n+1:Nat):Int)*w):=by ac_rfl
 rw [Int.mul_emod,Int.emod_emod_of_dvd _ (Int.dvd_refl _),<- Int.mul_emod,e,Int.mul_emod,h3,Int.mul_one,Int.emod_emod_of_dvd _ (Int.dvd_refl _)]
theorem zfT {y:List Int} {k:Nat} (hk:k<y.length):(poS y)[k]?.getD []=unS (y[k]?.getD 0):=by simp [poS,hk]
end Go.Proofs.YthhdollpkieknaaGreat


namespace Go.Proofs.YthhdollpkieknaaGreat
open Go.Abs
def fpE (z:Int) (f:List (List Mon)) (y:List Int):Int:=if zaM z f=true then if vecB z y=true then 0 else 2 else 1
theorem zCr {z:Int} {f:List (List Mon)} {y:List Int} (h:fpE z f y=0):FieldOk z f/\(y.length:Int)=z/\Ns y:=by
 unfold fpE at h
 split at h
 .rename_i hF
  split at h
  .rename_i hV
   unfold vecB at hV
   simp only [Bool.and_eq_true,decide_eq_true_eq] at hV
   exact ⟨zdX.1 hF,hV.1,zdH.1 hV.2⟩
  .simp at h
 .simp at h
theorem zyb (z:Int) (f:List (List Mon)) (y:List Int):chk z f [y]=fpE z f y:=by
 unfold chk fpE
 cases hV:vecB z y <;> simp [hV]
def fsX (z:Int) (f:List (List Mon)) (y:List Int):List (List Int):=if fpE z f y=0 then zay (floS f y 6) else []
def fsR (z:Int) (f:List (List Mon)) (y:List Int):AV:=.tup [.own 25 (fsX z f y).length (omat (fsX z f y)),.int (fpE z f y)]
theorem zur {f:List (List Mon)} {y:List Int} (y1:1<=y.length) (hy:Ns y) (n:Nat):(zay (floS f y n)).length=7/\∀ r∈zay (floS f y n),r.length=y.length/\Ns r:=by
 have sr:=zc8 (f:=f) hy n
 have s0:=memD (i:=0) [] (l:=floS f y n) (by rw [za2]; omega)
 refine ⟨by rw [za5,(sr _ s0).1],fun r h=>?_⟩
 have:=ze5 rfl (fun r h=>(sr r h).2) r h
 rw [za2] at this
 exact this
theorem zkt (z:Int) (f:List (List Mon)) (y:List Int) (hs:zcj f) (hy:y.length<=1048576) :
  Con Tryz.prog 17 [.agg [.int z,.sl f.length (prt f)],.sl y.length (avs y)] (fsR z f y):=by
 have cK:=zhQ z f [y] hs (by simp) (by simp; omega)
 have e1:mat [y]=[.sl y.length (avs y)]:=rfl
 have e2:([y]:List (List Int)).length=1:=rfl
 rw [e1,e2,zyb] at cK
 unfold fsR fsX
 have hz:=@zCr z f y
 generalize fpE z f y=e at *
 by_cases he:e=0
 .subst he
  obtain ⟨hF,hl,hN⟩:=hz rfl
  have z1:=hF.lo
  have z3:=hF.hi
  have zl:=hF.len
  have cP:=zb3 z f hF hs
  have cL:=zwS f y hF hs hl hN
  obtain ⟨t1,t2⟩:=zur (f:=f) (by omega) hN 6
  have sl:=za2 f y 6
  have sr:=zc8 (f:=f) hN 6
  have s0:=memD (i:=0) [] (l:=floS f y 6) (by omega)
  have s7:=(sr _ s0).1
  have cE:=zjl (floS f y 6) (by omega) (by omega) (fun r h=>by have:=(sr r h).1; omega) (by omega)
  rw [sl] at cE
  rw [if_pos rfl]
  generalize zay (floS f y 6)=X at *
  generalize floS f y 6=E at *
  refine zab Tryz.mixed ⟨7,[],[],[]⟩ Tryz.func17 ?_
  rw [Tryz.ntmps17]
  simp [go_sem]
  refine CallVC.of (cK) ?_
  simp [go_sem]
  refine CallVC.of (cP) ?_
  simp [go_sem]
  refine CallVC.of (cL) ?_
  simp [go_sem]
  refine CallVC.of (cE) ?_
  simp [go_sem]
 .rw [if_neg he]
  refine Con.n1 _ ?_
  refine zab Tryz.mixed ⟨7,[],[],[]⟩ Tryz.func17 ?_
  rw [Tryz.ntmps17]
  simp [go_sem]
  refine CallVC.of (cK) ?_
  simp [go_sem]
  simp [go_sem,he]
end Go.Proofs.YthhdollpkieknaaGreat


namespace Go.Proofs.YthhdollpkieknaaGreat
open Go.Abs
def ordN (xs ys:List Int):Nat->Nat->Nat
 | 0,p=>p
 | f+1,p=>if xs[p+1]?.getD 0=ys[p+1]?.getD 0 then ordN xs ys f (p+1) else p
theorem zp7 {xs ys:List Int}:∀ (f p q:Nat),q<=p->p<=q+f->(∀ j,q<j->j<=p->xs[j]?.getD 0=ys[j]?.getD 0)->(p=q+f\/xs[p+1]?.getD 0≠ys[p+1]?.getD 0)->ordN xs ys f q=p
 | 0,p,q,h1,h2,_,_=>by simp [ordN]; omega
 | f+1,p,q,h1,h2,h3,h4=>by
  rw [ordN]
  by_cases hp:q=p
  .subst hp
   rcases h4 with h4 | h4
   .omega
   .rw [if_neg h4]
  .rw [if_pos (h3 (q+1) (by omega) (by omega))]
   exact zp7 f p (q+1) (by omega) (by omega) (fun j a b=>h3 j (by omega) b) (by rcases h4 with h4 | h4; exact .inl (by omega); exact .inr h4)
end Go.Proofs.YthhdollpkieknaaGreat


namespace Go.Proofs.YthhdollpkieknaaGreat
open Go.Abs
def leS (A:List (List Int)) (B:List Int) (f:List (List Mon)) (y:List Int):List (List Int):=(List.range y.length).map fun i=>za6 ((steS A B f (poS y))[i]?.getD []) ((floS f y 6)[i]?.getD []) (-1)
@[simp] theorem zeq (A:List (List Int)) (B:List Int) (f:List (List Mon)) (y:List Int):(leS A B f y).length=y.length:=by simp [leS]
theorem zqV {A:List (List Int)} {B:List Int} {f:List (List Mon)} {y:List Int} {i:Nat} (h:i<y.length):(leS A B f y)[i]?.getD []=za6 ((steS A B f (poS y))[i]?.getD []) ((floS f y 6)[i]?.getD []) (-1):=by simp [leS,h]
theorem zgL {A:List (List Int)} {B:List Int} {f:List (List Mon)} {y:List Int} (hy:Ns y):∀ r∈leS A B f y,r.length=7/\Ns r:=by
 intro r hr
 obtain ⟨i,hi,rfl⟩:=List.mem_map.1 hr
 have hi:i<y.length:=by simpa using hi
 have h:=(zd3 (A:=A) (B:=B) (f:=f) (zc6 hy) _ (memD [] (show i<(steS A B f (poS y)).length by rw [zcn,zcB]; exact hi))).1
 exact ⟨by rw [zbv,h],zfh _ _ _⟩
theorem zyH {A:List (List Int)} {B:List Int} {f:List (List Mon)} {y:List Int} (y1:1<=y.length) (hy:Ns y):(zay (leS A B f y)).length=7/\∀ r∈zay (leS A B f y),r.length=y.length/\Ns r:=by
 have sr:=zgL (A:=A) (B:=B) (f:=f) hy
 have s0:=memD (i:=0) [] (l:=leS A B f y) (by rw [zeq]; omega)
 refine ⟨by rw [za5,(sr _ s0).1],fun r h=>?_⟩
 have:=ze5 rfl (fun r h=>(sr r h).2) r h
 rw [zeq] at this
 exact this
theorem zul {A:List (List Int)} {B:List Int} {f:List (List Mon)} {y:List Int} {i:Nat} (h:i<y.length) (hy:Ns y):omat ((leS A B f y).take (i+1))=omat ((leS A B f y).take i)++[.own 2 7 (avs (za6 ((steS A B f (poS y))[i]?.getD []) ((floS f y 6)[i]?.getD []) (-1)))]:=by
 have h2:i<(leS A B f y).length:=by rw [zeq]; exact h
 have h3:=(zgL (A:=A) (B:=B) (f:=f) hy _ (memD [] h2)).1
 rw [zeU _ _ h2,h3,zqV h]
theorem zkb {z:Int} (A:List (List Int)) (B:List Int) (f:List (List Mon)) (y:List Int) (hT:Tab A B) (hf:FieldOk z f) (hs:zcj f) (hl:(y.length:Int)=z) (hy:Ns y) :
  Con Tryz.prog 74 [.agg [.sl A.length (mat A),.sl B.length (avs B)],.agg [.int z,.sl f.length (prt f)],.sl y.length (avs y)] (.own 25 7 (omat (zay (leS A B f y)))):=by
 have fl:=hs.1
 have z1:=hf.lo
 have z3:=hf.hi
 have zl:=hf.len
 have cP:=zb3 z f hf hs
 have cF:=zwS f y hf hs hl hy
 have cU:=zfV y (by omega)
 have cS:=zjO A B f (poS y) hT hf hs (by rw [zcB]; exact hl) (zc6 hy)
 rw [zcB] at cS
 have sr:=zd3 (A:=A) (B:=B) (f:=f) (zc6 hy)
 have fr:=zc8 (f:=f) hy 6
 have sl:(steS A B f (poS y)).length=y.length:=by rw [zcn,zcB]
 have fll:=za2 f y 6
 have lr:=zgL (A:=A) (B:=B) (f:=f) hy
 have ll:=zeq A B f y
 have l0:=memD (i:=0) [] (l:=leS A B f y) (by omega)
 have l7:=(lr _ l0).1
 have cE:=zjl (leS A B f y) (by omega) (by omega) (fun r h=>by have:=(lr r h).1; omega) (by omega)
 rw [za5,l7,ll] at cE
 have ht:=fun (i:Nat) (h:i<y.length)=>zul (A:=A) (B:=B) (f:=f) h hy
 generalize zay (leS A B f y)=X at *
 generalize leS A B f y=L at *
 generalize steS A B f (poS y)=E at *
 generalize floS f y 6=F at *
 refine zab Tryz.mixed ⟨12,[13,22],[],[]⟩ Tryz.func74 ?_
 rw [Tryz.ntmps74]
 simp [go_sem]
 refine CallVC.of (cP) ?_
 simp [go_sem]
 refine CallVC.of (cF) ?_
 simp [go_sem]
 refine ⟨by kernel_rfl,?_⟩
 refine CallD.of (cU) ?_
 simp [go_sem]
 refine CallD.of (cS) ?_
 simp [go_sem]
 refine ⟨by kernel_rfl,?_⟩
 simp [go_sem]
 refine zac (8::10::11::List.range' 24 15) (fun i:Nat=>[(8,.own 25 i (omat (L.take i))),(24,.int i)]) (fun i=>i<=y.length) (fun i=>y.length-i) 0 (by simp) (by simp [go_sem,zba]) (by simp [go_sem]) ?_
 intro i hi
 simp [go_sem]
 refine ⟨fun h=>?_,fun h=>?_⟩ <;> simp at h
 .have hE:i<E.length:=by omega
  have hF:i<F.length:=by omega
  have gF:=zbz hF
  have rE:=sr _ (memD [] hE)
  have rF:=fr _ (memD [] hF)
  have ht:=ht i (by omega)
  have cA:=ziv (E[i]?.getD []) (F[i]?.getD []) (-1) rE.2 rF.2 ⟨by omega,by omega⟩ (by omega) (by omega)
  have e7:=rE.1
  rw [e7] at cA
  have ml:=zag hE
  rw [e7] at ml
  simp [go_sem,ml,gF]
  refine ⟨⟨by omega,by rintro rfl; simp at hE⟩,by omega,?_⟩
  refine CallVC.of (cA) ?_
  simp [go_sem]
  refine ⟨⟨by omega,by omega⟩,by omega,i+1,by omega,by omega,zaa _ _ _ (by simp),?_,by omega⟩
  rw [ht]; trivial
 .have e:i=y.length:=by omega
  subst e
  rw [List.take_of_length_le (by omega)]
  simp [go_sem]
  refine CallVC.of (cE) ?_
  simp [go_sem]
theorem zlV {a:List (List Int)} {k i:Nat} (h:i<a.length):(colS a k)[i]?.getD 0=(a[i]?.getD [])[k]?.getD 0:=zaP _ h
theorem zjf {a:List (List Int)} {k:Nat} (h:k<(a[0]?.getD []).length):(zay a)[k]?.getD []=colS a k:=by simp [zay,h]
def zfg:List Int->Nat
 | []=>0
 | x::a=>if x=0 then zfg a+1 else 0
theorem znm:∀ a:List Int,zfg a<=a.length
 | []=>by simp [zfg]
 | x::a=>by have:=znm a; rw [zfg]; split <;> simp; omega
theorem znv:∀ a:List Int,zfg a<a.length ↔ a≠List.replicate a.length 0
 | []=>by simp [zfg]
 | x::a=>by
  have:=znv a
  rw [zfg]
  by_cases h:x=0
  .subst h
   simp only [if_true,List.length_cons,List.replicate_succ,ne_eq,List.cons.injEq,true_and]
   rw [Nat.add_lt_add_iff_right,this]
  .simp [h,List.replicate_succ]
theorem zAw (a:List Int) (hl:a.length<=1048576):Con Tryz.prog 75 [.sl a.length (avs a)] (.int (zfg a)):=by
 refine zab Tryz.mixed ⟨4,[],[],[]⟩ Tryz.func75 ?_
 rw [Tryz.ntmps75]
 simp [go_sem]
 refine zac (3::List.range' 4 13) (fun i:Nat=>[(3,.int i)]) (fun i=>i<=a.length/\i+zfg (a.drop i)=zfg a) (fun i=>a.length-i) 0 (by simp) (by simp [go_sem]) (by simp [go_sem]) ?_
 rintro i ⟨hi,he⟩
 by_cases h:i<a.length
 .have hd:a.drop i=a[i]?.getD 0::a.drop (i+1):=by rw [List.drop_eq_getElem_cons h]; simp [h]
  rw [hd,zfg] at he
  have h':(i:Int)<a.length:=by omega
  have n0:¬ a=[]:=by rintro rfl; simp at h
  by_cases hz:a[i]?.getD 0=0
  .rw [if_pos hz] at he
   have hz2:a[i]=0:=by simpa [h] using hz
   simp [go_sem,h',h,zae h,hz2]
   exact ⟨n0,by omega,i+1,⟨by omega,by omega⟩,by omega,zaa _ _ _ (by simp),by omega⟩
  .rw [if_neg hz] at he
   have hz2:¬ a[i]=0:=by simpa [h] using hz
   simp [go_sem,h',h,zae h,hz2]
   exact ⟨n0,by omega⟩
 .have h':¬ (i:Int)<a.length:=by omega
  rw [List.drop_eq_nil_of_le (by omega),zfg] at he
  simp [go_sem,h',h]
  omega
def indL (X:List (List Int)) (z:Nat):List Int:=X.map fun r=>if r=List.replicate z 0 then 0 else 1
theorem zrN {X:List (List Int)} {z i:Nat} (h:i<X.length):(indL X z)[i]?.getD 0=0 ↔ X[i]?.getD []=List.replicate z 0:=by
 simp only [indL,List.getElem?_map,List.getElem?_eq_getElem h,Option.map_some,Option.getD_some]
 split <;> simp_all
def loS (X:List (List Int)) (z:Nat):Nat:=ordN (indL X z) [] 6 0
theorem zti {X:List (List Int)} {z p:Nat} (h7:X.length=7) (hp:p<=6) (h1:∀ j,1<=j->j<=p->X[j]?.getD []=List.replicate z 0) (h2:p=6\/X[p+1]?.getD []≠List.replicate z 0):loS X z=p:=by
 refine zp7 6 p 0 (by omega) (by omega) (fun j a b=>?_) ?_
 .rw [(zrN (by omega)).2 (h1 j (by omega) b)]; simp
 .rcases h2 with h2 | h2
  .exact .inl (by omega)
  .by_cases h6:p=6
   .exact .inl (by omega)
   .refine .inr (fun e=>h2 ((zrN (by omega)).1 ?_))
    rw [e]; simp
theorem zgW {start:List (List Int)} {c:List Int} {L:List (List (List Int))} (hs:∀ r∈start,r.length=7/\Ns r):∀ i k,k<start.length->((mvS start c L i)[k]?.getD [])[0]?.getD 0=(start[k]?.getD [])[0]?.getD 0
 | 0,_,_=>rfl
 | i+1,k,hk=>by
  have ih:=zgW (c:=c) (L:=L) hs i k hk
  have hm:=zdl (c:=c) (L:=L) hs i _ (memD [] (show k<(mvS start c L i).length by rw [za9]; exact hk))
  have e:(mvS start c L (i+1))[k]?.getD []=za6 ((mvS start c L i)[k]?.getD []) (raiS ((L[i]?.getD [])[k]?.getD [])) (c[i]?.getD 0):=by simp [mvS,hk]
  have e2:(raiS ((L[i]?.getD [])[k]?.getD []))[0]?.getD 0=0:=by
   unfold raiS
   rcases Nat.lt_or_ge 0 ((L[i]?.getD [])[k]?.getD []).length with h | h
   .rw [zaP _ h]; rfl
   .rw [List.getElem?_eq_none (by simpa using h)]; rfl
  have h3:=zaP (fun j=>(((mvS start c L i)[k]?.getD [])[j]?.getD 0+c[i]?.getD 0%10007*(raiS ((L[i]?.getD [])[k]?.getD []))[j]?.getD 0)%10007) (show 0<((mvS start c L i)[k]?.getD []).length by omega)
  have hn:=hm.2.get 0
  rw [e]
  unfold za6
  rw [h3,e2,Int.mul_zero,Int.add_zero,Int.emod_eq_of_lt hn.1 (by have:=hn.2; omega),ih]
theorem zud {A:List (List Int)} {B:List Int} {f:List (List Mon)} {y:List Int} (y1:1<=y.length) (hy:Ns y):(zay (leS A B f y))[0]?.getD []=List.replicate y.length 0:=by
 have s2:=(zgL (A:=A) (B:=B) (f:=f) hy _ (memD (i:=0) [] (show 0<(leS A B f y).length by rw [zeq]; omega))).1
 rw [zjf (by omega)]
 refine List.ext_getElem (by simp) fun i h1 h2=>?_
 have hi:i<y.length:=by simpa using h2
 have e:=zlV (a:=leS A B f y) (k:=0) (i:=i) (by rw [zeq]; exact hi)
 rw [zqV hi] at e
 have k1:((steS A B f (poS y))[i]?.getD [])[0]?.getD 0=y[i]?.getD 0:=by
  unfold steS
  rw [zgW (zc6 hy) _ i (by rw [zcB]; exact hi),zfT hi]; rfl
 have k2:((floS f y 6)[i]?.getD [])[0]?.getD 0=y[i]?.getD 0:=by
  have:=zcJ (f:=f) hi 0 (Nat.le_refl 0) 6
  rw [Nat.zero_add] at this
  rw [this,floS,zfT hi]; rfl
 have r7:=(zd3 (A:=A) (B:=B) (f:=f) (zc6 hy) _ (memD [] (show i<(steS A B f (poS y)).length by rw [zcn,zcB]; exact hi))).1
 have h4:=zaP (fun j=>(((steS A B f (poS y))[i]?.getD [])[j]?.getD 0 + -1%10007*((floS f y 6)[i]?.getD [])[j]?.getD 0)%10007) (show 0<((steS A B f (poS y))[i]?.getD []).length by omega)
 unfold za6 at e
 rw [h4,k1,k2,show (-1:Int)%10007=10006 by decide] at e
 rw [List.getElem?_eq_getElem h1,Option.getD_some] at e
 rw [e]
 simp
 omega
def loX (A:List (List Int)) (B:List Int) (z:Int) (f:List (List Mon)) (y:List Int):Int:=if stE A B z f y=0 then (loS (zay (leS A B f y)) y.length:Int) else 0
def loR (A:List (List Int)) (B:List Int) (z:Int) (f:List (List Mon)) (y:List Int):AV:=.tup [.int (loX A B z f y),.int (stE A B z f y)]
theorem zjK (A:List (List Int)) (B:List Int) (z:Int) (f:List (List Mon)) (y:List Int) (hA:A.length<=1048576) (hB:B.length<=1048576) (hr:∀ r∈A,r.length<=1048576) (hs:zcj f) (hy:y.length<=1048576) :
  Con Tryz.prog 15 [.agg [.sl A.length (mat A),.sl B.length (avs B)],.agg [.int z,.sl f.length (prt f)],.sl y.length (avs y)] (loR A B z f y):=by
 have c1:=zg9 A B z f y hA hB hr hs hy
 unfold loR loX
 have hz:=@zkJ A B z f y
 generalize stE A B z f y=e at *
 by_cases he:e=0
 .subst he
  obtain ⟨hT,hF,hl,hN⟩:=hz rfl
  have z1:=hF.lo
  have z3:=hF.hi
  have cE:=zkb A B f y hT hF hs hl hN
  have hX:=zyH (A:=A) (B:=B) (f:=f) (show 1<=y.length by omega) hN
  have x0:=zud (A:=A) (B:=B) (f:=f) (show 1<=y.length by omega) hN
  rw [if_pos rfl]
  generalize zay (leS A B f y)=X at *
  have xl:=hX.1
  refine zab Tryz.mixed ⟨11,[21],[],[]⟩ Tryz.func15 ?_
  rw [Tryz.ntmps15]
  simp [go_sem]
  refine CallVC.of (c1) ?_
  simp [go_sem]
  refine CallVC.of (cE) ?_
  simp [go_sem]
  refine zac (6::7::9::10::List.range' 23 13) (fun n:Nat=>[(23,.int n)]) (fun n=>n<=7/\∀ j,j<n->X[j]?.getD []=List.replicate y.length 0) (fun n=>7-n) 0 (by simp) (by simp [go_sem]) (by simp [go_sem]) ?_
  rintro n ⟨hn,hq⟩
  simp [go_sem]
  refine ⟨fun h=>?_,fun h=>?_⟩ <;> simp at h
  .have hnX:n<X.length:=by omega
   have rX:=hX.2 _ (memD [] hnX)
   have cL:=zAw (X[n]?.getD []) (by omega)
   have h1:=znm (X[n]?.getD [])
   have h2:=znv (X[n]?.getD [])
   rw [rX.1] at h1 h2
   have ml:=zag hnX
   rw [rX.1] at ml cL
   simp [go_sem,ml]
   refine ⟨⟨by omega,by rintro rfl; simp at hnX⟩,?_⟩
   refine CallVC.of (cL) ?_
   simp [go_sem]
   by_cases h3:zfg (X[n]?.getD [])<y.length
   .have n0:n≠0:=by
     rintro rfl
     exact (h2.1 h3) x0
    have hlo:loS X y.length=n-1:=zti xl (by omega) (fun j a b=>hq j (by omega)) (.inr (by rw [show n-1+1=n by omega]; exact h2.1 h3))
    simp [go_sem,h3]
    exact ⟨⟨by omega,by omega⟩,by omega⟩
   .simp [go_sem,h3]
    refine ⟨by omega,n+1,⟨by omega,fun j hj=>?_⟩,by omega,zaa _ _ _ (by simp),by omega⟩
    by_cases e:j=n
    .rw [e]
     exact Classical.byContradiction (fun h4=>h3 (h2.2 h4))
    .exact hq j (by omega)
  .have e:n=7:=by omega
   subst e
   have hlo:loS X y.length=6:=zti xl (by omega) (fun j a b=>hq j (by omega)) (.inl rfl)
   simp [go_sem,hlo]
 .rw [if_neg he]
  refine zab Tryz.mixed ⟨11,[],[],[]⟩ Tryz.func15 ?_
  rw [Tryz.ntmps15]
  simp [go_sem]
  refine CallVC.of (c1) ?_
  simp [go_sem]
  simp [go_sem,he]
end Go.Proofs.YthhdollpkieknaaGreat


namespace Go.Proofs.YthhdollpkieknaaGreat
open Go.Abs
end Go.Proofs.YthhdollpkieknaaGreat


namespace Go.Proofs.YthhdollpkieknaaGreat
open Go.Abs
end Go.Proofs.YthhdollpkieknaaGreat


namespace Go.Proofs.YthhdollpkieknaaGreat
open Go.Abs
def bys (c:List Int):List AV:=c.map fun x=>.val (.int .u8 x)
@[simp] theorem zDF (c:List Int):(bys c).length=c.length:=by simp [bys]
theorem zmZ {c:List Int} {k:Nat} (h:k<c.length):(bys c).drop k=.val (.int .u8 (c[k]?.getD 0))::bys (c.drop (k+1)):=by
 rw [bys,<- List.map_drop,List.drop_eq_getElem_cons h,List.map_cons]; simp [h,bys]
def Byt (c:List Int):Prop:=c.length<=4096/\∀ x∈c,0<=x/\x<=255
theorem Byt.get {c:List Int} (h:Byt c) (k:Nat):0<=c[k]?.getD 0/\c[k]?.getD 0<=255:=by
 rcases Nat.lt_or_ge k c.length with hk | hk
 .simp [hk]; exact h.2 _ (List.getElem_mem hk)
 .simp [hk]
abbrev Src:=Nat × Int
def srcA (c:List Int) (σ:Src):AV:=.box 162 [.sl c.length (bys c),.int σ.1,.val (.int .u64 σ.2)]
theorem zaC (c:List Int) (σ:Src):srcA c σ=.box 162 [.sl c.length (bys c),.int σ.1,.val (.int .u64 σ.2)]:=rfl
def nxH (h:Int):Int:=IntKind.u64.wrap (IntKind.u64.wrap (h*6364136223846793005)+1442695040888963407)
def nxX (h:Int):Int:=andI IntKind.u64 (shrI IntKind.u64 (nxH h) 33) 16777215
def byV (c:List Int) (k:Nat):Int:=if k<c.length then c[k]?.getD 0 else 0
def nx1 (c:List Int) (σ:Src) (n:Int):Int:=if n<1 then 0 else (nxX σ.2+byV c σ.1).tmod n
def nx2 (c:List Int) (σ:Src) (n:Int):Src:=if n<1 then σ else (if σ.1<c.length then σ.1+1 else σ.1,nxH σ.2)
def SOk (σ:Src):Prop:=σ.1<=4096
theorem zaS {c:List Int} (hc:Byt c) {σ:Src} (h:SOk σ) (n:Int):SOk (nx2 c σ n):=by
 unfold SOk nx2 at *
 have:=hc.1
 split
 .exact h
 .simp only; split <;> omega
theorem zBz (h:Int):0<=nxX h/\nxX h<=16777215:=by
 unfold nxX andI
 generalize shrI IntKind.u64 (nxH h) 33=y
 have h1:(BitVec.ofInt IntKind.u64.bits y &&& BitVec.ofInt IntKind.u64.bits 16777215).toNat<=16777215:=by
  rw [BitVec.toNat_and]
  exact Nat.le_trans Nat.and_le_right (by decide)
 generalize (BitVec.ofInt IntKind.u64.bits y &&& BitVec.ofInt IntKind.u64.bits 16777215).toNat=m at *
 simp [IntKind.wrap,IntKind.signed,IntKind.bits]
 omega
theorem zB9 {c:List Int} (hc:Byt c) (k:Nat):0<=byV c k/\byV c k<=255:=by
 unfold byV
 split
 .exact hc.get k
 .omega
theorem zhi {c:List Int} (hc:Byt c) (σ:Src) {n:Int} (hn:1<=n):0<=nx1 c σ n/\nx1 c σ n<n:=by
 have h1:=zBz σ.2
 have h2:=zB9 hc σ.1
 unfold nx1
 rw [if_neg (by omega),Int.tmod_eq_emod_of_nonneg (by omega)]
 exact ⟨Int.emod_nonneg _ (by omega),Int.emod_lt_of_pos _ (by omega)⟩
theorem zaA (c:List Int) (σ:Src) (n:Int) (hc:Byt c) (hs:SOk σ):GCon Tryz.prog 183 [srcA c σ,.int n] (.int (nx1 c σ n)) [srcA c (nx2 c σ n),.any]:=by
 have hx:=zBz σ.2
 have hy:=zB9 hc σ.1
 have hcl:=hc.1
 unfold SOk at hs
 unfold nx1 nx2
 by_cases h0:n<1
 .rw [if_pos h0,if_pos h0]
  unfold srcA
  refine zap Tryz.mixed ⟨6,[],[],[]⟩ [0] Tryz.func183 ?_
  rw [Tryz.ntmps183]
  simp [go_sem]
  simp [go_sem,h0]
 .rw [if_neg h0,if_neg h0]
  unfold srcA
  have e1:nxH σ.2=IntKind.u64.wrap (IntKind.u64.wrap (σ.2*6364136223846793005)+1442695040888963407):=rfl
  have e2:nxX σ.2=andI IntKind.u64 (shrI IntKind.u64 (nxH σ.2) 33) 16777215:=rfl
  generalize nxX σ.2=x at *
  generalize nxH σ.2=h' at *
  have n0:¬ n=0:=by omega
  by_cases hk:σ.1<c.length
  .have hb:byV c σ.1=c[σ.1]?.getD 0:=by unfold byV; rw [if_pos hk]
   have hne:¬ c=[]:=by rintro rfl; simp at hk
   rw [if_pos hk]
   rw [hb] at hy |-
   refine zap Tryz.mixed ⟨6,[],[],[]⟩ [0] Tryz.func183 ?_
   rw [Tryz.ntmps183]
   simp [go_sem]
   simp [go_sem,h0,<- e1,<- e2]
   refine ⟨⟨by omega,by omega⟩,by kernel_rfl,?_⟩
   refine ⟨by kernel_rfl,?_⟩
   simp [go_sem]
   have hD:=zmZ hk
   generalize c[σ.1]?.getD 0=b at *
   simp [go_sem,hk,hD]
   refine ⟨by kernel_rfl,by intro e; exact hne (by simpa [bys] using e),⟨by omega,by omega⟩,⟨by omega,by omega⟩,?_⟩
   refine ⟨by kernel_rfl,?_⟩
   simp [go_sem]
   exact ⟨⟨by omega,by omega⟩,n0⟩
  .have hb:byV c σ.1=0:=by unfold byV; rw [if_neg hk]
   rw [if_neg hk]
   rw [hb] at hy |-
   refine zap Tryz.mixed ⟨6,[],[],[]⟩ [0] Tryz.func183 ?_
   rw [Tryz.ntmps183]
   simp [go_sem]
   simp [go_sem,h0,<- e1,<- e2]
   refine ⟨⟨by omega,by omega⟩,by kernel_rfl,?_⟩
   refine ⟨by kernel_rfl,?_⟩
   simp [go_sem]
   simp [go_sem,hk]
   exact n0
theorem getI {xs:List Int} {v:Int} (h0:0<=v) (h1:v<xs.length):∃ k:Nat,v=k/\k<xs.length/\v.toNat=k:=⟨v.toNat,by omega,by omega,rfl⟩
def pk (c:List Int) (σ:Src) (xs:List Int):Int:=xs[(nx1 c σ xs.length).toNat]?.getD 0
theorem zsg (c:List Int) (hc:Byt c) (σ:Src) {xs:List Int} (hx:0<xs.length):pk c σ xs∈xs:=by
 have h:=zhi hc σ (n:=xs.length) (by omega)
 unfold pk
 have hk:(nx1 c σ xs.length).toNat<xs.length:=by omega
 simp [hk]
theorem zb5 (c:List Int) (σ:Src) (xs:List Int) (hc:Byt c) (hs:SOk σ) (hx:0<xs.length) (hxl:xs.length<=1000) :
  GCon Tryz.prog 98 [srcA c σ,.own 2 xs.length (avs xs)] (.int (pk c σ xs)) [srcA c (nx2 c σ xs.length),.any]:=by
 have cN:=zaA c σ xs.length hc hs
 have hb:=zhi hc σ (n:=xs.length) (by omega)
 unfold pk
 obtain ⟨k,hk,hkl,hkt⟩:=getI hb.1 hb.2
 rw [hkt]
 rw [hk] at cN
 unfold srcA at *
 refine zap Tryz.mixed ⟨5,[],[1000000+183],[]⟩ [0] Tryz.func98 ?_
 rw [Tryz.ntmps98]
 simp [go_sem]
 refine ⟨_,_,cN,?_⟩
 simp [go_sem]
 have hA:=zbL hkl
 simp [go_sem,hA]
 exact hkl
theorem zdn (p q:Int) (hp:fits p) (hq:fits q):Con Tryz.prog 209 [.int p,.int q] (.int (p%10007*pw (q%10007) 10005%10007)):=by
 have hf:fits (p%10007*pw (q%10007) 10005):=zax (zaf _) (zaf _)
 refine zab Tryz.mixed ⟨5,[],[],[]⟩ Tryz.func209 ?_
 rw [Tryz.ntmps209]
 simp [go_sem]
 refine CallVC.of (ze9 p hp.1 hp.2) ?_
 simp [go_sem]
 refine CallVC.of (ze9 q hq.1 hq.2) ?_
 simp [go_sem]
 refine CallVC.of (ztW _ (zaf q)) ?_
 simp [go_sem]
 refine CallVC.of (zcm _ _ hf) ?_
 simp [go_sem]
def nbV (c:List Int) (σ:Src):Int × Src :=
 if nx1 c σ 5=0 then (nx1 c (nx2 c σ 5) 10007,nx2 c (nx2 c σ 5) 10007)
 else if nx1 c σ 5=1 then (pk c (nx2 c σ 5) [0,1,0,1,10006,2],nx2 c (nx2 c σ 5) 6)
 else ((nx1 c (nx2 c σ 5) 15-7)%10007*pw ((1+nx1 c (nx2 c (nx2 c σ 5) 15) 12)%10007) 10005%10007,nx2 c (nx2 c (nx2 c σ 5) 15) 12)
theorem zeK {c:List Int} (hc:Byt c) {σ:Src} (hs:SOk σ):isN (nbV c σ).1/\SOk (nbV c σ).2:=by
 have s1:=zaS hc hs 5
 unfold nbV
 split
 .exact ⟨zhi hc (nx2 c σ 5) (n:=10007) (by omega),zaS hc s1 _⟩
 .split
  .refine ⟨?_,zaS hc s1 _⟩
   have:=zsg c hc (nx2 c σ 5) (xs:=[0,1,0,1,10006,2]) (by simp)
   simp at this
   simp only
   constructor <;> omega
  .exact ⟨zaf _,zaS hc (zaS hc s1 _) _⟩
theorem zgQ (c:List Int) (σ:Src) (hc:Byt c) (hs:SOk σ):GCon Tryz.prog 184 [srcA c σ] (.int (nbV c σ).1) [srcA c (nbV c σ).2]:=by
 have s1:=zaS hc hs 5
 have s2:=zaS hc s1 15
 have c1:=zaA c σ 5 hc hs
 have c2:=zaA c (nx2 c σ 5) 10007 hc s1
 have c3:=zb5 c (nx2 c σ 5) [0,1,0,1,10006,2] hc s1 (by simp) (by simp)
 have c4:=zaA c (nx2 c σ 5) 15 hc s1
 have c5:=zaA c (nx2 c (nx2 c σ 5) 15) 12 hc s2
 have b4:=zhi hc (nx2 c σ 5) (n:=15) (by omega)
 have b5:=zhi hc (nx2 c (nx2 c σ 5) 15) (n:=12) (by omega)
 have c6:=zdn (nx1 c (nx2 c σ 5) 15-7) (1+nx1 c (nx2 c (nx2 c σ 5) 15) 12) ⟨by omega,by omega⟩ ⟨by omega,by omega⟩
 unfold nbV
 have e3:(([0,1,0,1,10006,2]:List Int).length:Int)=6:=rfl
 rw [e3] at c3
 generalize pk c (nx2 c σ 5) [0,1,0,1,10006,2]=pv at *
 generalize nx1 c (nx2 c (nx2 c σ 5) 15) 12=v5 at *
 generalize nx2 c (nx2 c (nx2 c σ 5) 15) 12=t5 at *
 generalize nx1 c (nx2 c σ 5) 15=v4 at *
 generalize nx2 c (nx2 c σ 5) 15=t4 at *
 generalize nx2 c (nx2 c σ 5) 6=t3 at *
 generalize nx1 c (nx2 c σ 5) 10007=v2 at *
 generalize nx2 c (nx2 c σ 5) 10007=t2 at *
 generalize nx1 c σ 5=v1 at *
 generalize nx2 c σ 5=t1 at *
 unfold srcA at *
 by_cases h0:v1=0
 .rw [if_pos h0]
  refine zap Tryz.mixed ⟨3,[],[1000000+183,1000000+98],[]⟩ [0] Tryz.func184 ?_
  rw [Tryz.ntmps184]
  simp [go_sem]
  refine ⟨_,_,c1,?_⟩
  simp [go_sem]
  simp [go_sem,h0]
  refine ⟨_,_,c2,?_⟩
  simp [go_sem]
 .rw [if_neg h0]
  by_cases h1:v1=1
  .rw [if_pos h1]
   refine zap Tryz.mixed ⟨3,[],[1000000+183,1000000+98],[]⟩ [0] Tryz.func184 ?_
   rw [Tryz.ntmps184]
   simp [go_sem]
   refine ⟨_,_,c1,?_⟩
   simp [go_sem]
   simp [go_sem,h0,h1]
   refine ⟨_,_,c3,?_⟩
   simp [go_sem]
  .rw [if_neg h1]
   refine zap Tryz.mixed ⟨3,[],[1000000+183,1000000+98],[]⟩ [0] Tryz.func184 ?_
   rw [Tryz.ntmps184]
   simp [go_sem]
   refine ⟨_,_,c1,?_⟩
   simp [go_sem]
   simp [go_sem,h0,h1]
   refine ⟨_,_,c4,?_⟩
   simp [go_sem]
   refine ⟨⟨by omega,by omega⟩,?_⟩
   refine ⟨_,_,c5,?_⟩
   simp [go_sem]
   refine ⟨⟨by omega,by omega⟩,?_⟩
   refine CallVC.of (c6) ?_
   simp [go_sem]
def lsV (f:Src->Int × Src):Nat->Src->List Int × Src
 | 0,σ=>([],σ)
 | n+1,σ=>((f σ).1::(lsV f n (f σ).2).1,(lsV f n (f σ).2).2)
theorem zfU {f:Src->Int × Src} (hf:∀ σ,SOk σ->isN (f σ).1/\SOk (f σ).2):∀ (n:Nat) (σ:Src),SOk σ->(lsV f n σ).1.length=n/\Ns (lsV f n σ).1/\SOk (lsV f n σ).2
 | 0,σ,h=>⟨rfl,by simp [lsV,Ns],h⟩
 | n+1,σ,h=>by
  have h1:=hf σ h
  have h2:=zfU hf n _ h1.2
  refine ⟨by simp [lsV,h2.1],fun x hx=>?_,h2.2.2⟩
  rcases List.mem_cons.1 hx with rfl | hx
  .exact h1.1
  .exact h2.2.1 x hx
theorem zdG (c:List Int) (σ:Src) (n:Nat) (hc:Byt c) (hs:SOk σ) (hn:n<=100000) :
  GCon Tryz.prog 221 [srcA c σ,.int n] (.own 2 n (avs (lsV (nbV c) n σ).1)) [srcA c (lsV (nbV c) n σ).2,.any]:=by
 unfold srcA
 refine zap Tryz.mixed ⟨6,[],[1000000+184],[]⟩ [0] Tryz.func221 ?_
 rw [Tryz.ntmps221]
 simp [go_sem]
 refine zac (0::1::5::List.range' 7 9) (fun x:List Int × Src × Nat=>[(0,.box 162 [.sl c.length (bys c),.int x.2.1.1,.val (.int .u64 x.2.1.2)]),(1,.int x.2.2),(5,.own 2 x.1.length (avs x.1))]) (fun x=>SOk x.2.1/\x.1.length+x.2.2=n/\x.1++(lsV (nbV c) x.2.2 x.2.1).1=(lsV (nbV c) n σ).1/\(lsV (nbV c) x.2.2 x.2.1).2=(lsV (nbV c) n σ).2) (fun x=>x.2.2) ([],σ,n) ⟨hs,by simp,rfl,rfl⟩ (by simp [go_sem,avs]) (by simp [go_sem]) ?_
 rintro ⟨acc,τ,k⟩ ⟨h1,h2,h3,h4⟩
 simp only at h1 h2 h3 h4
 simp [go_sem]
 refine ⟨fun h=>?_,fun h=>?_⟩ <;> simp at h
 .obtain ⟨j,rfl⟩:∃ j,k=j+1:=⟨k-1,by omega⟩
  have cN:=zgQ c τ hc h1
  have hok:=zeK hc h1
  unfold srcA at cN
  simp only [lsV] at h3 h4
  generalize nbV c τ=r at *
  simp [go_sem]
  refine ⟨_,_,cN,?_⟩
  simp [go_sem]
  refine ⟨⟨by omega,by omega⟩,by omega,acc++[r.1],r.2.1,r.2.2,j,⟨hok.2,by simp; omega,by simpa using h3,h4⟩,by omega,zaa _ _ _ (by simp),?_⟩
  simp [avs]
 .have e:k=0:=by omega
  subst e
  simp only [lsV,List.append_nil] at h3 h4
  simp [go_sem]
  rw [<- h3,<- h4]
  simp at h2
  simp [h2]
theorem zr4 (c:List Int) (hc:Byt c):RCon Tryz.prog 96 [.sl c.length (bys c)] (fun r o=>o=[.any]/\∃ h,r=srcA c (0,h)):=by
 have hcl:=hc.1
 unfold srcA
 refine zaF Tryz.mixed ⟨5,[],[],[]⟩ [] Tryz.func96 ?_
 rw [Tryz.ntmps96]
 simp [go_sem]
 refine zac (3::4::List.range' 12 25) (fun x:Nat × Int=>[(3,.box 162 [.sl c.length (bys c),.int 0,.val (.int .u64 x.2)]),(4,.int x.1)]) (fun x=>x.1<=c.length) (fun x=>c.length-x.1) (0,IntKind.u64.wrap (5381+IntKind.u64.wrap c.length)) (by simp) (by simp [go_sem]) (by simp [go_sem]) ?_
 rintro ⟨i,h⟩ hi
 simp only at hi
 by_cases hic:i<c.length
 .have h4:(i:Int)<4096:=by omega
  have hne:¬ c=[]:=by rintro rfl; simp at hic
  have hD:=zmZ hic
  have hb:=hc.get i
  generalize c[i]?.getD 0=b at *
  simp [go_sem,hic,h4,hD]
  refine ⟨by kernel_rfl,by intro e; exact hne (by simpa [bys] using e),?_⟩
  refine ⟨by kernel_rfl,?_⟩
  simp [go_sem]
  exact ⟨⟨by omega,by omega⟩,i+1,by omega,by omega,zaa _ _ _ (by simp),by omega⟩
 .simp [go_sem,hic]
theorem zcP (a b:List Int) (ha:a.length<=9223372036854775807):Con Tryz.prog 22 [.sl a.length (avs a),.sl b.length (avs b)] (.bool (decide (a=b))):=by
 by_cases hl:a.length=b.length
 .refine zab Tryz.mixed ⟨6,[],[],[]⟩ Tryz.func22 ?_
  rw [Tryz.ntmps22]
  simp [go_sem]
  simp [go_sem,hl]
  refine zac (4::5::List.range' 11 15) (fun i:Nat=>[(5,.int i)]) (fun i=>i<=a.length/\∀ j,j<i->a[j]?.getD 0=b[j]?.getD 0) (fun i=>a.length-i) 0 (by simp) (by simp [go_sem]) (by simp [go_sem]) ?_
  rintro i ⟨hi,hj⟩
  simp [go_sem]
  refine ⟨fun h=>?_,fun h=>?_⟩ <;> simp at h
  .have hia:i<a.length:=by omega
   have hib:i<b.length:=by omega
   have na:¬ a=[]:=by rintro rfl; simp at hia
   have nb:¬ b=[]:=by rintro rfl; simp at hib
   simp [go_sem,zae hia,zae hib]
   refine ⟨by kernel_rfl,⟨hib,na⟩,⟨hib,nb⟩,?_⟩
   refine ⟨by kernel_rfl,?_⟩
   simp [go_sem]
   refine ⟨fun h2=>?_,fun h2=>?_⟩ <;> simp at h2
   .have e:¬ a=b:=fun e=>h2 (by rw [e])
    simp [go_sem,e]
   .simp [go_sem]
    refine ⟨by omega,i+1,⟨by omega,fun j hj2=>?_⟩,by omega,zaa _ _ _ (by simp),by omega⟩
    rcases Nat.lt_or_ge j i with h3 | h3
    .exact hj j h3
    .have:j=i:=by omega
     subst this
     exact h2
  .have e:a=b:=by
    refine List.ext_getElem hl fun k h1 h2=>?_
    have:=hj k (by omega)
    simpa [h1,h2] using this
   simp [go_sem,e]
 .have e:¬ a=b:=fun e=>hl (by rw [e])
  have hl2:¬ (a.length:Int)=b.length:=by omega
  refine zab Tryz.mixed ⟨6,[],[],[]⟩ Tryz.func22 ?_
  rw [Tryz.ntmps22]
  simp [go_sem]
  simp [go_sem,hl2,e]
end Go.Proofs.YthhdollpkieknaaGreat


namespace Go.Proofs.YthhdollpkieknaaGreat
open Go.Abs
end Go.Proofs.YthhdollpkieknaaGreat


namespace Go.Proofs.YthhdollpkieknaaGreat
abbrev Mx:=Nat->Nat->Int
def sgd (i:Nat):Int:=if i%2=0 then 1 else -1
theorem zuX (i:Nat):sgd (i+1) =-sgd i:=by
 unfold sgd
 by_cases h:i%2=0
 .rw [if_pos h,if_neg (by omega)]
 .rw [if_neg h,if_pos (by omega)]; rfl
def dsum (f:Nat->Int):Nat->Int
 | 0=>0
 | n+1=>dsum f n+f n
theorem za7 {f g:Nat->Int}:∀ {n:Nat},(∀ i,i<n->f i=g i)->dsum f n=dsum g n
 | 0,_=>rfl
 | n+1,h=>by rw [dsum,dsum,za7 (fun i hi=>h i (by omega)),h n (by omega)]
theorem zeJ (f g:Nat->Int) (k:Int):∀ n:Nat,dsum (fun i=>f i+k*g i) n=dsum f n+k*dsum g n
 | 0=>by simp [dsum]
 | n+1=>by rw [dsum,dsum,dsum,zeJ f g k n,Int.mul_add]; omega
theorem zeB {f:Nat->Int}:∀ {n:Nat},(∀ i,i<n->f i=0)->dsum f n=0
 | 0,_=>rfl
 | n+1,h=>by rw [dsum,zeB (fun i hi=>h i (by omega)),h n (by omega)]; rfl
theorem zfb {f:Nat->Int} {k:Nat}:∀ {n:Nat},k<n->(∀ i,i<n->i≠k->f i=0)->dsum f n=f k
 | 0,h,_=>by omega
 | n+1,h,hz=>by
  rw [dsum]
  by_cases e:k=n
  .subst e
   rw [zeB (fun i hi=>hz i (by omega) (by omega)),Int.zero_add]
  .rw [zfb (n:=n) (by omega) (fun i hi hne=>hz i (by omega) hne),hz n (by omega) (by omega),Int.add_zero]
theorem zob {f:Nat->Int} {k:Nat}:∀ {n:Nat},k+1<n->(∀ i,i<n->i≠k->i≠k+1->f i=0)->dsum f n=f k+f (k+1)
 | 0,h,_=>by omega
 | n+1,h,hz=>by
  rw [dsum]
  by_cases e:k+1=n
  .subst e
   rw [zfb (k:=k) (by omega) (fun i hi hne=>hz i (by omega) hne (by omega))]
  .rw [zob (n:=n) (by omega) (fun i hi h1 h2=>hz i (by omega) h1 h2),hz n (by omega) (by omega) (by omega),Int.add_zero]
def mnr (M:Mx) (i:Nat):Mx:=fun r c=>M (if r<i then r else r+1) (c+1)
def det:Nat->Mx->Int
 | 0,_=>1
 | n+1,M=>dsum (fun i=>sgd i*M i 0*det n (mnr M i)) (n+1)
def updR (M:Mx) (i:Nat) (w:Nat->Int):Mx:=fun r=>if r=i then w else M r
theorem zbP (M:Mx) (i:Nat):updR M i (M i)=M:=funext fun r=>by
 unfold updR; split
 .rename_i h; rw [h]
 .rfl
theorem zb7 (M:Mx) (i:Nat) (w:Nat->Int):updR M i w i=w:=by simp [updR]
theorem zcb (M:Mx) {i r:Nat} (w:Nat->Int) (h:r≠i):updR M i w r=M r:=by simp [updR,h]
theorem zwi (M:Mx) (i:Nat) (v w:Nat->Int):updR (updR M i v) i w=updR M i w:=funext fun r=>by
 unfold updR; split <;> rfl
theorem zbn (M:Mx) {i j:Nat} (h:i≠j) (v w:Nat->Int):updR (updR M i v) j w=updR (updR M j w) i v:=funext fun r=>by
 unfold updR
 by_cases h1:r=i
 .subst h1; rw [if_neg h,if_pos rfl,if_pos rfl]
 .rw [if_neg h1,if_neg h1]
theorem zv6 (M:Mx) (i:Nat) (w:Nat->Int):mnr (updR M i w) i=mnr M i:=funext fun r=>funext fun c=>by
 unfold mnr updR
 rw [if_neg (by split <;> omega)]
theorem zBI (M:Mx) {i j:Nat} (w:Nat->Int) (h:j≠i):mnr (updR M i w) j=updR (mnr M j) (if i<j then i else i-1) (fun c=>w (c+1)):=funext fun r=>funext fun c=>by
 unfold mnr updR
 by_cases h1:(if r<j then r else r+1)=i
 .have h2:r=if i<j then i else i-1:=by
   split at h1 <;> split <;> omega
  rw [if_pos h1,if_pos h2]
 .have h2:¬ r=if i<j then i else i-1:=by
   split at h1 <;> split <;> omega
  rw [if_neg h1,if_neg h2]
theorem zgd {p:Int}:∀ {n:Nat} {M N:Mx},(∀ r c,r<n->c<n->M r c%p=N r c%p)->det n M%p=det n N%p
 | 0,_,_,_=>rfl
 | n+1,M,N,h=>by
  rw [det,det]
  have gen:∀ m:Nat,m<=n+1->dsum (fun i=>sgd i*M i 0*det n (mnr M i)) m%p=dsum (fun i=>sgd i*N i 0*det n (mnr N i)) m%p:=by
   intro m
   induction m with
   | zero=>intro _; rfl
   | succ m ih =>
    intro hm
    rw [dsum,dsum,Int.add_emod,ih (by omega),Int.add_emod (dsum (fun i=>sgd i*N i 0*det n (mnr N i)) m)]
    have e1:=h m 0 (by omega) (by omega)
    have e2:=zgd (p:=p) (n:=n) (M:=mnr M m) (N:=mnr N m) (fun r c hr hc=>h _ _ (by split <;> omega) (by omega))
    have e3:(sgd m*M m 0*det n (mnr M m))%p=(sgd m*N m 0*det n (mnr N m))%p:=by
     rw [Int.mul_emod,Int.mul_emod (sgd m),e1,e2,<- Int.mul_emod (sgd m),<- Int.mul_emod]
    rw [e3]
  exact gen _ (Nat.le_refl _)
theorem zcD:∀ {n:Nat} (M:Mx) {i:Nat} (u v:Nat->Int) (k:Int),i<n->det n (updR M i (fun c=>u c+k*v c))=det n (updR M i u)+k*det n (updR M i v)
 | 0,_,_,_,_,_,h=>by omega
 | n+1,M,i,u,v,k,h=>by
  rw [det,det,det,<- zeJ]
  refine za7 fun j hj=>?_
  by_cases e:j=i
  .subst e
   simp only [zv6,zb7]
   generalize det n (mnr M j)=d
   rw [Int.mul_add,Int.add_mul]
   congr 1
   ac_rfl
  .simp only [zBI M _ e,zcb M _ e]
   rw [zcD (n:=n) (mnr M j) (fun c=>u (c+1)) (fun c=>v (c+1)) k (by split <;> omega),Int.mul_add]
   congr 1
   ac_rfl
theorem ziJ:∀ {n:Nat} (M:Mx) {i:Nat},i+1<n->M i=M (i+1)->det n M=0
 | 0,_,_,h,_=>by omega
 | n+1,M,i,h,he=>by
  rw [det,zob (k:=i) h]
  .have hm:mnr M (i+1)=mnr M i:=funext fun r=>funext fun c=>by
    unfold mnr
    by_cases h1:r<i
    .rw [if_pos (by omega),if_pos h1]
    .by_cases h2:r=i
     .subst h2; rw [if_pos (by omega),if_neg (by omega),he]
     .rw [if_neg (by omega),if_neg (by omega)]
   rw [hm,<- he,zuX,Int.neg_mul,Int.neg_mul]
   omega
  .intro j hj h1 h2
   have hz:det n (mnr M j)=0:=by
    by_cases hlt:i<j
    .refine ziJ (mnr M j) (i:=i) (by omega) (funext fun c=>?_)
     unfold mnr
     rw [if_pos hlt,if_pos (by omega),he]
    .obtain ⟨i',rfl⟩:∃ i',i=i'+1:=⟨i-1,by omega⟩
     refine ziJ (mnr M j) (i:=i') (by omega) (funext fun c=>?_)
     unfold mnr
     rw [if_neg (by omega),if_neg (by omega),he]
   rw [hz,Int.mul_zero]
theorem ztj {n:Nat} (M:Mx) {i:Nat} (h:i+1<n) (u v:Nat->Int):det n (updR (updR M i u) (i+1) v) =-det n (updR (updR M i v) (i+1) u):=by
 have hne:i≠i+1:=by omega
 have z:=fun w:Nat->Int=>ziJ (n:=n) (updR (updR M i w) (i+1) w) h (by rw [zb7,zcb _ _ hne,zb7])
 have s:=z (fun c=>u c+1*v c)
 rw [zcD _ u v 1 h,zbn _ hne,zbn _ hne,zcD _ u v 1 (by omega),zcD _ u v 1 (by omega)] at s
 have zu:=z u
 have zv:=z v
 rw [zbn _ hne] at zu zv
 rw [zbn _ hne,zbn (M) hne v u]
 omega
theorem zrt:∀ {n:Nat} (k:Nat) (M:Mx) {i:Nat},i+k+1<n->M i=M (i+k+1)->det n M=0
 | n,0,M,i,h,he=>ziJ M h he
 | n,k+1,M,i,h,he=>by
  have hne:i+k+1≠i+(k+1)+1:=by omega
  have e0:M=updR (updR M (i+k+1) (M (i+k+1))) (i+k+1+1) (M (i+k+1+1)):=by rw [zbP,zbP]
  rw [e0,ztj M (i:=i+k+1) (by omega)]
  have:=zrt k (updR (updR M (i+k+1) (M (i+k+1+1))) (i+k+1+1) (M (i+k+1))) (i:=i) (n:=n) (by omega) (by
   rw [zcb _ _ (show i≠i+k+1+1 by omega),zcb _ _ (show i≠i+k+1 by omega),zcb _ _ (show i+k+1≠i+k+1+1 by omega),zb7]
   exact he)
  rw [this]; rfl
theorem zmG {n:Nat} (M:Mx) {i j:Nat} (hi:i<n) (hj:j<n) (hne:i≠j) (he:M i=M j):det n M=0:=by
 by_cases h:i<j
 .have e:j=i+(j-i-1)+1:=by omega
  rw [e] at he
  exact zrt (j-i-1) M (by omega) he
 .have e:i=j+(i-j-1)+1:=by omega
  rw [e] at he
  exact zrt (i-j-1) M (by omega) he.symm
theorem zxr {n:Nat} (M:Mx) {i j:Nat} (hi:i<n) (hj:j<n) (hne:i≠j) (k:Int):det n (updR M i (fun c=>M i c+k*M j c))=det n M:=by
 rw [zcD M (M i) (M j) k hi,zbP,zmG (updR M i (M j)) hi hj hne (by rw [zb7,zcb _ _ (fun e=>hne e.symm)]),Int.mul_zero,Int.add_zero]
theorem zqW {n:Nat} (M:Mx) {i:Nat} (hi:i<n) (hz:∀ c,M i c=0):det n M=0:=by
 have:=zcD M (M i) (M i) 1 hi
 have e:(fun c=>M i c+1*M i c)=M i:=funext fun c=>by rw [hz c]; rfl
 rw [e,zbP] at this
 omega
theorem zqG {n:Nat} (M:Mx) {i:Nat} (hi:i<n) (k:Int):det n (updR M i (fun c=>k*M i c))=k*det n M:=by
 have:=zcD M (fun _=>0) (M i) k hi
 simp only [Int.zero_add] at this
 rw [this,zbP,zqW (updR M i (fun _=>0)) hi (fun c=>by rw [zb7]),Int.zero_add]
theorem zuN {n:Nat} (M:Mx) {i j:Nat} (hi:i<n) (hj:j<n) (hne:i≠j) (u v:Nat->Int):det n (updR (updR M i u) j v) =-det n (updR (updR M i v) j u):=by
 have z:=fun w:Nat->Int=>zmG (n:=n) (updR (updR M i w) j w) hi hj hne (by rw [zb7,zcb _ _ hne,zb7])
 have s:=z (fun c=>u c+1*v c)
 rw [zcD _ u v 1 hj,zbn _ hne,zbn _ hne,zcD _ u v 1 hi,zcD _ u v 1 hi] at s
 have zu:=z u
 have zv:=z v
 rw [zbn _ hne] at zu zv
 rw [zbn _ hne,zbn (M) hne v u]
 omega
def idM:Mx:=fun r c=>if r=c then 1 else 0
theorem zBu:mnr idM 0=idM:=funext fun r=>funext fun c=>by simp [mnr,idM]
theorem zlE:∀ n:Nat,det n idM=1
 | 0=>rfl
 | n+1=>by
  rw [det,zfb (k:=0) (by omega) (fun i hi hne=>by simp [idM,hne]),zBu,zlE n]
  simp [sgd,idM]
def updC (M:Mx) (k:Nat) (b:Nat->Int):Mx:=fun r c=>if c=k then b r else M r c
theorem zqP:∀ {n k:Nat} (b:Nat->Int),k<n->det n (updC idM k b)=b k
 | 0,_,_,h=>by omega
 | n+1,0,b,_=>by
  rw [det,zfb (k:=0) (by omega)]
  .have e:mnr (updC idM 0 b) 0=idM:=funext fun r=>funext fun c=>by simp [mnr,updC,idM]
   rw [e,zlE]
   simp [sgd,updC]
  .intro i hi hne
   rw [zqW (mnr (updC idM 0 b) i) (i:=0) (by omega) (fun c=>by
    have:(0:Nat)<i:=by omega
    simp [mnr,updC,idM,this]),Int.mul_zero]
 | n+1,k+1,b,h=>by
  rw [det,zfb (k:=0) (by omega)]
  .have e:mnr (updC idM (k+1) b) 0=updC idM k (fun r=>b (r+1)):=funext fun r=>funext fun c=>by simp [mnr,updC,idM]
   rw [e,zqP _ (by omega)]
   simp [sgd,updC,idM]
  .intro i hi hne
   have:updC idM (k+1) b i 0=0:=by simp [updC,idM,hne]
   rw [this]; simp
end Go.Proofs.YthhdollpkieknaaGreat


namespace Go.Proofs.YthhdollpkieknaaGreat
theorem zcT (f:Nat->Int):∀ n,dsum f (n+1)=f 0+dsum (fun i=>f (i+1)) n
 | 0=>by simp [dsum]
 | n+1=>by rw [dsum,zcT f n,dsum]; omega
theorem zcX (k:Int) (f:Nat->Int):∀ n,k*dsum f n=dsum (fun i=>k*f i) n
 | 0=>by simp [dsum]
 | n+1=>by rw [dsum,dsum,Int.mul_add,zcX k f n]
theorem zhk (f g:Nat->Int):∀ n,dsum (fun i=>f i+g i) n=dsum f n+dsum g n
 | 0=>by simp [dsum]
 | n+1=>by rw [dsum,dsum,dsum,zhk f g n]; omega
def clr (M:Mx) (i:Nat) (w:Nat->Int) (t:Nat):Mx:=fun r=>if r<t/\r≠i then fun c=>M r c+w r*M i c else M r
theorem zvv (M:Mx) (i:Nat) (w:Nat->Int):clr M i w 0=M:=funext fun r=>by unfold clr; rw [if_neg (by omega)]
theorem ztJ {n:Nat} (M:Mx) {i:Nat} (hi:i<n) (w:Nat->Int):∀ t,t<=n->det n (clr M i w t)=det n M
 | 0,_=>by rw [zvv]
 | t+1,ht=>by
  rw [<- ztJ M hi w t (by omega)]
  by_cases e:t=i
  .have:clr M i w (t+1)=clr M i w t:=funext fun r=>by
    unfold clr
    by_cases h:r<t/\r≠i
    .rw [if_pos h,if_pos ⟨by omega,h.2⟩]
    .rw [if_neg h,if_neg (by omega)]
   rw [this]
  .have hi2:clr M i w t i=M i:=by unfold clr; rw [if_neg (by omega)]
   have ht2:clr M i w t t=M t:=by unfold clr; rw [if_neg (by omega)]
   have:clr M i w (t+1)=updR (clr M i w t) t (fun c=>clr M i w t t c+w t*clr M i w t i c):=funext fun r=>by
    rw [hi2,ht2]
    unfold updR
    by_cases h:r=t
    .subst h; rw [if_pos rfl]; unfold clr; rw [if_pos ⟨by omega,e⟩]
    .rw [if_neg h]
     unfold clr
     by_cases h2:r<t/\r≠i
     .rw [if_pos h2,if_pos ⟨by omega,h2.2⟩]
     .rw [if_neg h2,if_neg (by omega)]
   rw [this,zxr _ (by omega) hi e]
theorem zdo {p:Int} {f g:Nat->Int}:∀ {n:Nat},(∀ i,i<n->f i%p=g i%p)->dsum f n%p=dsum g n%p
 | 0,_=>rfl
 | n+1,h=>by rw [dsum,dsum,Int.add_emod,zdo (fun i hi=>h i (by omega)),h n (by omega),<- Int.add_emod]
end Go.Proofs.YthhdollpkieknaaGreat


namespace Go.Proofs.YthhdollpkieknaaGreat
open Go.Abs CR
section
variable {α:Type}
def mnR (M:Nat->Nat->α) (i:Nat):Nat->Nat->α:=fun r c=>M (if r<i then r else r+1) (c+1)
end
section
variable {α:Type} [CR α]
def dR (f:Nat->α):Nat->α
 | 0=>ofI 0
 | n+1=>dR f n+f n
def dtR:Nat->(Nat->Nat->α)->α
 | 0,_=>ofI 1
 | n+1,M=>dR (fun i=>ofI (sgd i)*M i 0*dtR n (mnR M i)) (n+1)
end
end Go.Proofs.YthhdollpkieknaaGreat


namespace Go.Proofs.YthhdollpkieknaaGreat
open Go.Abs CR
section
variable {α:Type} [CR α]
end
end Go.Proofs.YthhdollpkieknaaGreat


namespace Go.Proofs.YthhdollpkieknaaGreat
open Go.Abs CR
section
variable {α:Type} [CR α]
end
end Go.Proofs.YthhdollpkieknaaGreat


namespace Go.Proofs.YthhdollpkieknaaGreat
open Go.Abs CR
theorem zmU (b:Ser Int):∀ (k:Nat) (a:Ser Int),(∀ i,a i=0)->cmul k a b=0
 | 0,a,h=>by show a 0*b 0=0; rw [h 0,Int.zero_mul]
 | k+1,a,h=>by
  show a 0*b (k+1)+cmul k (sh a) b=0
  rw [h 0,zmU b k (sh a) (fun i=>h (i+1)),Int.zero_mul]; rfl
theorem zv0 {a:Ser Int} (h:∀ i,a (i+2)=0) (b:Ser Int) (k:Nat):cmul (k+1) a b=a 0*b (k+1)+a 1*b k:=by
 show a 0*b (k+1)+cmul k (sh a) b=_
 congr 1
 cases k with
 | zero=>rfl
 | succ k =>
  show sh a 0*b (k+1)+cmul k (sh (sh a)) b=_
  rw [zmU b k (sh (sh a)) (fun i=>h i),Int.add_zero]; rfl
def Ev (z:Int) (d:Nat) (f:Ser Int) (v:Int):Prop:=(∀ k,d<k->f k=0)/\dsum (fun k=>f k*z ^ k) (d+1)=v
theorem Ev.zero (z:Int) (d:Nat):Ev z d (ofI 0) 0:=by
 have h0:∀ k,(ofI 0:Ser Int) k=0:=fun k=>by cases k <;> rfl
 exact ⟨fun k _=>h0 k,zeB fun k _=>by rw [h0,Int.zero_mul]⟩
theorem Ev.add {z:Int} {d:Nat} {f g:Ser Int} {v w:Int} (h:Ev z d f v) (k:Ev z d g w):Ev z d (f+g) (v+w):=by
 refine ⟨fun i hi=>by rw [zfz,h.1 i hi,k.1 i hi]; rfl,?_⟩
 rw [<- h.2,<- k.2,<- zhk]
 exact za7 fun i hi=>by rw [zfz,Int.add_mul]
theorem Ev.lin {z:Int} {d:Nat} {f g:Ser Int} {w:Int} (hf:∀ i,f (i+2)=0) (k:Ev z d g w):Ev z (d+1) (f*g) ((f 0+f 1*z)*w):=by
 have at1:∀ i,(f*g) (i+1)=f 0*g (i+1)+f 1*g i:=fun i=>zv0 hf g i
 have at0:(f*g) 0=f 0*g 0:=rfl
 refine ⟨fun i hi=>?_,?_⟩
 .obtain ⟨j,rfl⟩:∃ j,i=j+1:=⟨i-1,by omega⟩
  rw [at1,k.1 (j+1) (by omega),k.1 j (by omega)]; omega
 .have e1:dsum (fun i=>(f*g) (i+1)*z ^ (i+1)) (d+1)=dsum (fun i=>f 0*(g (i+1)*z ^ (i+1))+(f 1*z)*(g i*z ^ i)) (d+1) :=
   za7 fun i hi=>by
    rw [at1,Int.add_mul,Int.pow_succ]
    congr 1
    .rw [Int.mul_assoc]
    .rw [Int.mul_assoc,Int.mul_assoc]
     congr 1
     rw [<- Int.mul_assoc,Int.mul_comm]
  have e2:dsum (fun i=>g i*z ^ i) (d+1+1)=w:=by
   show dsum (fun i=>g i*z ^ i) (d+1)+g (d+1)*z ^ (d+1)=w
   rw [k.2,k.1 (d+1) (by omega),Int.zero_mul,Int.add_zero]
  rw [zcT] at e2
  rw [zcT,e1,zeJ,at0,<- zcX,k.2,Int.add_mul]
  have e3:f 0*w=f 0*(g 0*z ^ 0)+f 0*dsum (fun i=>g (i+1)*z ^ (i+1)) (d+1):=by rw [<- Int.mul_add,e2]
  rw [e3,Int.mul_assoc (f 0) (g 0),Int.add_assoc]
theorem Ev.dR {z:Int} {d:Nat} {f:Nat->Ser Int} {v:Nat->Int}:∀ {n:Nat},(∀ i,i<n->Ev z d (f i) (v i))->Ev z d (dR f n) (dsum v n)
 | 0,_=>Ev.zero z d
 | n+1,h=>Ev.add (Ev.dR (n:=n) (fun i hi=>h i (by omega))) (h n (by omega))
theorem Ev.det {z:Int}:∀ (n:Nat) (A:Nat->Nat->Ser Int),(∀ r c i,A r c (i+2)=0)->Ev z n (dtR n A) (det n (fun r c=>A r c 0+A r c 1*z))
 | 0,A,_=>by
  refine ⟨fun k hk=>?_,?_⟩
  .obtain ⟨j,rfl⟩:∃ j,k=j+1:=⟨k-1,by omega⟩
   rfl
  .show (0:Int)+1*z ^ 0=1
   rw [Int.pow_zero]; rfl
 | n+1,A,h=>by
  rw [dtR,Go.Proofs.YthhdollpkieknaaGreat.det]
  refine Ev.dR fun i hi=>?_
  have q:=Ev.lin (f:=ofI (sgd i)*A i 0) (fun t=>by
   show cmul (t+2) (sOf (sgd i)) (A i 0)=0
   rw [zcM,zfy,h,Int.zero_mul]) (Ev.det (z:=z) n (mnR A i) (fun r c t=>h _ _ _))
  have e:∀ t,(ofI (sgd i)*A i 0) t=sgd i*A i 0 t:=fun t=>by
   show cmul t (sOf (sgd i)) (A i 0)=_
   rw [zcM,zfy]; exact Int.mul_comm _ _
  rw [e,e,Int.mul_assoc,<- Int.mul_add] at q
  exact q
end Go.Proofs.YthhdollpkieknaaGreat


namespace Go.Proofs.YthhdollpkieknaaGreat
open Go.Abs CR
section
variable {α:Type} [CR α]
end
def serEq (a b:Ser Int):Prop:=∀ k,a k%10007=b k%10007
theorem zaD {a b c d:Int} (h:a%10007=b%10007) (k:c%10007=d%10007):(a*c)%10007=(b*d)%10007:=by
 rw [Int.mul_emod,h,k,<- Int.mul_emod]
theorem zc7 {a b c d:Int} (h:a%10007=b%10007) (k:c%10007=d%10007):(a+c)%10007=(b+d)%10007:=by
 rw [Int.add_emod,h,k,<- Int.add_emod]
theorem zus (n:Nat):∀ {a b c d:Ser Int},(∀ i,i<=n->a i%10007=b i%10007)->(∀ i,i<=n->c i%10007=d i%10007)->cmul n a c%10007=cmul n b d%10007:=by
 induction n with
 | zero=>intro a b c d h k; exact zaD (h 0 (Nat.le_refl _)) (k 0 (Nat.le_refl _))
 | succ n ih =>
  intro a b c d h k
  rw [cmul,cmul]
  exact zc7 (zaD (h 0 (by omega)) (k (n+1) (by omega))) (ih (fun i hi=>h (i+1) (by omega)) (fun i hi=>k i (by omega)))
end Go.Proofs.YthhdollpkieknaaGreat


namespace Go.Proofs.YthhdollpkieknaaGreat
def sel (W:Mx) (g:Nat->Nat):Mx:=fun r c=>W r (g c)
theorem zlk (W:Mx) (i:Nat) (w:Nat->Int) (g:Nat->Nat):sel (updR W i w) g=updR (sel W g) i (fun c=>w (g c)):=funext fun r=>funext fun c=>by
 unfold sel updR; split <;> rfl
theorem zxK (W:Mx) (i:Nat) (w:Nat->Int) (t:Nat) (g:Nat->Nat):sel (clr W i w t) g=clr (sel W g) i w t:=funext fun r=>funext fun c=>by
 unfold sel clr; split <;> rfl
def RowEq (n w:Nat) (W W':Mx):Prop:=∃ s t:Int,s*t%10007=1/\∀ g:Nat->Nat,(∀ c,c<n->g c<w)->det n (sel W g)*s%10007=det n (sel W' g)%10007
theorem RowEq.refl (n w:Nat) (W:Mx):RowEq n w W W:=⟨1,1,rfl,fun g hg=>by rw [Int.mul_one]⟩
theorem zcd (a b:Int):a%10007*b%10007=a*b%10007:=by rw [Int.mul_emod,Int.emod_emod_of_dvd _ (Int.dvd_refl _),<- Int.mul_emod]
theorem zdA (a b:Int):a*(b%10007)%10007=a*b%10007:=by rw [Int.mul_emod,Int.emod_emod_of_dvd _ (Int.dvd_refl _),<- Int.mul_emod]
theorem RowEq.trans {n w:Nat} {W X Y:Mx} (h:RowEq n w W X) (k:RowEq n w X Y):RowEq n w W Y:=by
 obtain ⟨s,t,h1,h2⟩:=h
 obtain ⟨s',t',k1,k2⟩:=k
 refine ⟨s*s',t*t',?_,fun g hg=>?_⟩
 .have e:s*s'*(t*t')=(s*t)*(s'*t'):=by ac_rfl
  rw [e,Int.mul_emod,h1,k1]; rfl
 .rw [<- k2 g hg,<- Int.mul_assoc,<- zcd,h2 g hg,zcd]
theorem RowEq.cong {n w:Nat} {W W':Mx} (h:∀ r c,r<n->c<w->W r c%10007=W' r c%10007):RowEq n w W W' :=
 ⟨1,1,rfl,fun g hg=>by rw [Int.mul_one]; exact zgd fun r c hr hc=>h r (g c) hr (hg c hc)⟩
theorem RowEq.clr {n w:Nat} (W:Mx) {i:Nat} (hi:i<n) (u:Nat->Int):RowEq n w W (clr W i u n) :=
 ⟨1,1,rfl,fun g hg=>by rw [Int.mul_one,zxK,ztJ _ hi u n (Nat.le_refl _)]⟩
theorem RowEq.scale {n w:Nat} (W:Mx) {i:Nat} (hi:i<n) {k k':Int} (hk:k*k'%10007=1):RowEq n w W (updR W i (fun c=>k*W i c)) :=
 ⟨k,k',hk,fun g hg=>by
  rw [zlk]
  have:=zqG (sel W g) hi k
  have e:(fun c=>k*sel W g i c)=fun c=>k*W i (g c):=rfl
  rw [e] at this
  rw [this,Int.mul_comm]⟩
theorem RowEq.swap {n w:Nat} (W:Mx) {i j:Nat} (hi:i<n) (hj:j<n) (hne:i≠j):RowEq n w W (updR (updR W i (W j)) j (W i)) :=
 ⟨-1,-1,rfl,fun g hg=>by
  rw [zlk,zlk]
  have e:sel W g=updR (updR (sel W g) i (fun c=>W i (g c))) j (fun c=>W j (g c)):=by
   have e1:(fun c=>W i (g c))=sel W g i:=rfl
   have e2:(fun c=>W j (g c))=sel W g j:=rfl
   rw [e1,e2,zbP,zbP]
  have h:=zuN (sel W g) hi hj hne (fun c=>W j (g c)) (fun c=>W i (g c))
  rw [h,<- e]
  congr 1
  omega⟩
theorem RowEq.full {n:Nat} {W W':Mx} (h:RowEq n (n+1) W W') (hid:∀ r c,r<n->c<n->W' r c%10007=idM r c%10007) :
  ∃ s:Int,det n W*s%10007=1/\∀ k,k<n->W' k n%10007=det n (updC W k (fun r=>W r n))*s%10007:=by
 obtain ⟨s,t,h1,h2⟩:=h
 refine ⟨s,?_,fun k hk=>?_⟩
 .have:=h2 id (fun c hc=>by show c<n+1; omega)
  have e:∀ X:Mx,sel X id=X:=fun X=>rfl
  rw [e,e,zgd (p:=10007) (N:=idM) hid,zlE] at this
  exact this
 .have:=h2 (fun c=>if c=k then n else c) (fun c hc=>by show (if c=k then n else c)<n+1; split <;> omega)
  have e:sel W (fun c=>if c=k then n else c)=updC W k (fun r=>W r n):=funext fun r=>funext fun c=>by
   by_cases hc:c=k
   .simp [sel,updC,hc]
   .simp [sel,updC,hc]
  rw [e] at this
  rw [this,zgd (p:=10007) (N:=updC idM k (fun r=>W' r n)),zqP _ hk]
  intro r c hr hc
  by_cases hck:c=k
  .simp [sel,updC,hck]
  .simp [sel,updC,hck]; exact hid r c hr hc
end Go.Proofs.YthhdollpkieknaaGreat


namespace Go.Proofs.YthhdollpkieknaaGreat
open Go.Abs
def mx (m:List (List Int)):Mx:=fun r c=>(m[r]?.getD [])[c]?.getD 0
def swp (m:List (List Int)) (i d:Nat):List (List Int):=if i=d then m else (m.set i (m[d]?.getD [])).set d (m[i]?.getD [])
def scl (m:List (List Int)) (d k:Nat):List (List Int):=m.set d (zbA (m[d]?.getD []) (pw (mx m d k) 10005))
def elD (m:List (List Int)) (d k:Nat):List (List Int):=(List.range m.length).map fun r=>if r=d then m[d]?.getD [] else za6 (m[r]?.getD []) (m[d]?.getD []) (- mx m r k)
def Rws (w:Nat) (m:List (List Int)):Prop:=∀ r∈m,r.length=w/\Ns r
theorem Rws.at {w:Nat} {m:List (List Int)} (h:Rws w m) {i:Nat} (hi:i<m.length):(m[i]?.getD []).length=w/\Ns (m[i]?.getD []):=h _ (by simp [hi])
theorem Rws.set {w:Nat} {m:List (List Int)} (h:Rws w m) {i:Nat} {r:List Int} (hr:r.length=w/\Ns r):Rws w (m.set i r):=fun x hx=>by
 rcases List.mem_or_eq_of_mem_set hx with hx | rfl
 .exact h x hx
 .exact hr
@[simp] theorem zxV (m:List (List Int)) (i d:Nat):(swp m i d).length=m.length:=by unfold swp; split <;> simp
@[simp] theorem zx1 (m:List (List Int)) (d k:Nat):(scl m d k).length=m.length:=by simp [scl]
@[simp] theorem zyS (m:List (List Int)) (d k:Nat):(elD m d k).length=m.length:=by simp [elD]
theorem zBy {w:Nat} {m:List (List Int)} (h:Rws w m) {i d:Nat} (hi:i<m.length) (hd:d<m.length):Rws w (swp m i d):=by
 unfold swp
 split
 .exact h
 .exact (h.set (h.at hd)).set (h.at hi)
theorem zAD {w:Nat} {m:List (List Int)} (h:Rws w m) {d k:Nat} (hd:d<m.length):Rws w (scl m d k):=h.set ⟨by rw [zaV]; exact (h.at hd).1,zfI _ _⟩
theorem zCv {w:Nat} {m:List (List Int)} (h:Rws w m) {d k:Nat} (hd:d<m.length):Rws w (elD m d k):=fun x hx=>by
 obtain ⟨r,hr,rfl⟩:=List.mem_map.1 hx
 have hr2:r<m.length:=by simpa using hr
 split
 .exact h.at hd
 .exact ⟨by rw [zbv]; exact (h.at hr2).1,zfh _ _ _⟩
theorem zxg {m:List (List Int)} {i d:Nat} (hi:i<m.length) (hd:d<m.length):mx (swp m i d)=updR (updR (mx m) i (mx m d)) d (mx m i):=funext fun r=>funext fun c=>by
 unfold swp
 split
 .rename_i e; subst e; rw [zwi,zbP]
 .rename_i e
  unfold mx updR
  by_cases h1:r=d
  .subst h1
   rw [List.getElem?_set_self (by simpa using hd),if_pos rfl]; rfl
  .rw [List.getElem?_set_ne (fun x=>h1 x.symm),if_neg h1]
   by_cases h2:r=i
   .subst h2; rw [List.getElem?_set_self hi,if_pos rfl]; rfl
   .rw [List.getElem?_set_ne (fun x=>h2 x.symm),if_neg h2]
theorem zq4 {w:Nat} {m:List (List Int)} (h:Rws w m) {d k:Nat} (hd:d<m.length) {r c:Nat} (hc:c<w):mx (scl m d k) r c=if r=d then mx m d c*(pw (mx m d k) 10005%10007)%10007 else mx m r c:=by
 unfold scl
 show ((m.set d (zbA (m[d]?.getD []) (pw (mx m d k) 10005)))[r]?.getD [])[c]?.getD 0=_
 by_cases e:r=d
 .subst e
  rw [List.getElem?_set_self hd,if_pos rfl]
  exact zaP (fun i=>(m[r]?.getD [])[i]?.getD 0*(pw (mx m r k) 10005%10007)%10007) (by rw [(h.at hd).1]; exact hc)
 .rw [List.getElem?_set_ne (fun x=>e x.symm),if_neg e]; rfl
theorem ztD {w:Nat} {m:List (List Int)} (h:Rws w m) {d k:Nat} {r c:Nat} (hr:r<m.length) (hc:c<w):mx (elD m d k) r c=if r=d then mx m d c else (mx m r c+(- mx m r k)%10007*mx m d c)%10007:=by
 have e0:(elD m d k)[r]?.getD []=if r=d then m[d]?.getD [] else za6 (m[r]?.getD []) (m[d]?.getD []) (- mx m r k):=by simp [elD,hr]
 show ((elD m d k)[r]?.getD [])[c]?.getD 0=_
 rw [e0]
 by_cases e:r=d
 .rw [if_pos e,if_pos e]; rfl
 .rw [if_neg e,if_neg e]
  exact zaP (fun i=>((m[r]?.getD [])[i]?.getD 0+(- mx m r k)%10007*(m[d]?.getD [])[i]?.getD 0)%10007) (by rw [(h.at hr).1]; exact hc)
end Go.Proofs.YthhdollpkieknaaGreat


namespace Go.Proofs.YthhdollpkieknaaGreat
open Go.Abs
theorem pw_N (a k:Int):isN (pw a k):=zaf _
end Go.Proofs.YthhdollpkieknaaGreat


namespace Go.Proofs.YthhdollpkieknaaGreat
def fp:Nat->Nat->Nat->Nat
 | 0,_,_=>1
 | f+1,a,n=>Nat.rec (1%10007) (fun _ _=>Nat.rec (fp f (Nat.mod (Nat.mul a a) 10007) (Nat.div n 2)) (fun _ _=>Nat.mod (Nat.mul a (fp f (Nat.mod (Nat.mul a a) 10007) (Nat.div n 2))) 10007) (Nat.mod n 2)) n
def chB (g:Nat->Nat):Nat->Nat->Bool
 | 0,lo=>Nat.beq (g lo) 1
 | d+1,lo=>and (chB g d lo) (chB g d (lo+2 ^ d))
def ivN (a:Nat):Nat:=a*fp 15 a 10005%10007
theorem zAE:∀ (f a n:Nat),n<2 ^ f->fp f a n=a ^ n%10007
 | 0,a,n,h=>by
  have:n=0:=by simp at h; exact h
  subst this; rfl
 | f+1,a,0,_=>by show 1%10007=a ^ 0%10007; rw [Nat.pow_zero]
 | f+1,a,n+1,h=>by
  have hh:(n+1) / 2<2 ^ f:=by rw [Nat.pow_succ] at h; omega
  have ih:=zAE f (a*a%10007) ((n+1) / 2) hh
  have sq:(a*a%10007) ^ ((n+1) / 2)%10007=a ^ (2*((n+1) / 2))%10007:=by
   rw [<- Nat.pow_mod,Nat.pow_mul,Nat.pow_two]
  rw [sq] at ih
  have e0:fp (f+1) a (n+1)=Nat.rec (fp f (a*a%10007) ((n+1) / 2)) (fun _ _=>a*fp f (a*a%10007) ((n+1) / 2)%10007) ((n+1)%2):=rfl
  rw [e0,ih]
  rcases Nat.mod_two_eq_zero_or_one (n+1) with h2 | h2
  .rw [h2]
   show a ^ (2*((n+1) / 2))%10007=a ^ (n+1)%10007
   rw [show 2*((n+1) / 2)=n+1 by omega]
  .rw [h2]
   show a*(a ^ (2*((n+1) / 2))%10007)%10007=a ^ (n+1)%10007
   rw [show n+1=2*((n+1) / 2)+1 by omega,Nat.pow_succ,Nat.mul_mod,Nat.mod_mod,<- Nat.mul_mod,Nat.mul_comm]
   rw [show (2*((n+1) / 2)+1) / 2=(n+1) / 2 by omega]
theorem zhH (g:Nat->Nat):∀ (d lo:Nat),chB g d lo=true->∀ a,lo<=a->a<lo+2 ^ d->g a=1
 | 0,lo,h,a,h1,h2=>by
  have:a=lo:=by simp at h2; omega
  subst this
  rw [chB] at h
  exact Nat.eq_of_beq_eq_true h
 | d+1,lo,h,a,h1,h2=>by
  rw [chB,Bool.and_eq_true] at h
  rw [Nat.pow_succ] at h2
  by_cases hl:a<lo+2 ^ d
  .exact zhH g d lo h.1 a h1 hl
  .exact zhH g d (lo+2 ^ d) h.2 a (by omega) (by omega)
theorem zDs:chB ivN 13 1=true:=by decide +kernel
theorem zEk:chB ivN 10 8193=true:=by decide +kernel
theorem zDV:chB ivN 9 9217=true:=by decide +kernel
theorem zDA:chB ivN 8 9495=true:=by decide +kernel
theorem zEl:chB ivN 8 9751=true:=by decide +kernel
theorem zzS {a:Nat} (h0:a≠0) (h:a<10007):ivN a=1:=by
 by_cases h1:a<8193
 .exact zhH ivN 13 1 zDs a (by omega) (by omega)
 by_cases h2:a<9217
 .exact zhH ivN 10 8193 zEk a (by omega) (by omega)
 by_cases h3:a<9729
 .exact zhH ivN 9 9217 zDV a (by omega) (by omega)
 by_cases h4:a<9751
 .exact zhH ivN 8 9495 zDA a (by omega) (by omega)
 .exact zhH ivN 8 9751 zEl a (by omega) (by omega)
theorem zBC (n e:Nat) (he:e<2 ^ 15):((fp 15 n e:Nat):Int)=pw (n:Int) (e:Int):=by
 rw [zAE 15 n e he]
 unfold pw
 rw [Int.toNat_natCast,Int.natCast_emod,Int.natCast_pow]; rfl
theorem zpf (n:Nat):((fp 15 n 10005:Nat):Int)=pw (n:Int) 10005:=zBC n 10005 (by decide)
theorem zCh {a:Int} (h:isN a) (h0:a≠0):a*pw a 10005%10007=1:=by
 obtain ⟨n,rfl⟩:∃ n:Nat,a=n:=⟨a.toNat,by have:=h.1; omega⟩
 have hn:n<10007:=by have:=h.2; omega
 have hv:=zzS (a:=n) (by omega) hn
 rw [<- zpf,<- Int.natCast_mul]
 unfold ivN at hv
 generalize n*fp 15 n 10005=z at *
 omega
end Go.Proofs.YthhdollpkieknaaGreat


namespace Go.Proofs.YthhdollpkieknaaGreat
open Go.Abs
structure GI (n w:Nat) (W0:Mx) (m:List (List Int)) (done k:Nat):Prop where
 len:m.length=n
 rws:Rws w m
 eqv:RowEq n w W0 (mx m)
 dle:done<=n
 piv:∃ piv:Nat->Nat,(∀ j,j<done->piv j<k/\∀ r,r<n->mx m r (piv j)=if r=j then 1 else 0)/\(∀ j,j+1<done->piv j<piv (j+1))/\(∀ j,j<done->∀ c,c<piv j->mx m j c=0)
 low:∀ r,done<=r->r<n->∀ c,c<k->mx m r c=0
theorem GI.start {n w:Nat} {m:List (List Int)} (hl:m.length=n) (hr:Rws w m):GI n w (mx m) m 0 0 :=
 ⟨hl,hr,RowEq.refl n w _,by omega,⟨fun _=>0,fun j hj=>by omega,fun j hj=>by omega,fun j hj=>by omega⟩,fun r _ _ c hc=>by omega⟩
theorem GI.skip {n w:Nat} {W0:Mx} {m:List (List Int)} {done k:Nat} (h:GI n w W0 m done k) (hz:∀ r,done<=r->r<n->mx m r k=0):GI n w W0 m done (k+1):=by
 obtain ⟨h1,h2,h3,h4,⟨p,p1,p2,p3⟩,h6⟩:=h
 refine ⟨h1,h2,h3,h4,⟨p,fun j hj=>⟨by have:=(p1 j hj).1; omega,(p1 j hj).2⟩,p2,p3⟩,fun r hr hn c hc=>?_⟩
 by_cases e:c=k
 .subst e; exact hz r hr hn
 .exact h6 r hr hn c (by omega)
theorem mx_N {w:Nat} {m:List (List Int)} (h:Rws w m) {r:Nat} (hr:r<m.length) (c:Nat):isN (mx m r c):=(h.at hr).2.get c
theorem GI.step {n w:Nat} {W0:Mx} {m:List (List Int)} {done k i:Nat} (h:GI n w W0 m done k) (hk:k<w) (hd:done<n) (h1:done<=i) (h2:i<n) (hne:mx m i k≠0) :
  GI n w W0 (elD (scl (swp m i done) done k) done k) (done+1) (k+1):=by
 obtain ⟨hl,hr,he,hdl,⟨p,p1,p2,p3⟩,hlow⟩:=h
 have il:i<m.length:=by omega
 have dl:done<m.length:=by omega
 have sm:=zxg il dl
 have sr:=zBy hr il dl
 have sl:=zxV m i done
 have se:RowEq n w W0 (mx (swp m i done)):=by
  by_cases e:i=done
  .have:swp m i done=m:=by unfold swp; rw [if_pos e]
   rw [this]; exact he
  .rw [sm]; exact he.trans (RowEq.swap _ h2 hd e)
 have sd:∀ c,mx (swp m i done) done c=mx m i c:=fun c=>by rw [sm,zb7]
 have slow:∀ r,done<=r->r<n->∀ c,c<k->mx (swp m i done) r c=0:=fun r hr1 hr2 c hc=>by
  rw [sm]
  unfold updR
  by_cases a1:r=done
  .rw [if_pos a1]; exact hlow i h1 h2 c hc
  .rw [if_neg a1]
   by_cases a2:r=i
   .rw [if_pos a2]; exact hlow done (Nat.le_refl _) hd c hc
   .rw [if_neg a2]; exact hlow r hr1 hr2 c hc
 have sup:∀ r,r<done->mx (swp m i done) r=mx m r:=fun r hr1=>by
  rw [sm,zcb _ _ (by omega),zcb _ _ (by omega)]
 have snz:mx (swp m i done) done k≠0:=by rw [sd]; exact hne
 generalize swp m i done=a at *
 have al:a.length=n:=by omega
 have ad:done<a.length:=by omega
 have cr:=zAD (k:=k) sr ad
 have cl:=zx1 a done k
 have cat:=fun r c (hc:c<w)=>zq4 (k:=k) sr ad (r:=r) hc
 have iv:=zCh (mx_N sr ad k) snz
 have ce:RowEq n w (mx a) (mx (scl a done k)):=by
  refine (RowEq.scale (mx a) hd (k:=pw (mx a done k) 10005) (k':=mx a done k) (by rw [Int.mul_comm]; exact iv)).trans (RowEq.cong fun r c hr1 hc=>?_)
  rw [cat r c hc]
  unfold updR
  by_cases e:r=done
  .subst e
   rw [if_pos rfl,if_pos rfl,zdA,Int.emod_emod_of_dvd _ (Int.dvd_refl _),Int.mul_comm]
  .rw [if_neg e,if_neg e]
 have ck:mx (scl a done k) done k=1:=by rw [cat _ _ hk,if_pos rfl,zdA]; exact iv
 have cz:∀ c,c<k->mx (scl a done k) done c=0:=fun c hc=>by
  rw [cat _ _ (by omega),if_pos rfl,slow done (Nat.le_refl _) hd c hc]; simp
 have co:∀ r c,r≠done->c<w->mx (scl a done k) r c=mx a r c:=fun r c hr1 hc=>by rw [cat _ _ hc,if_neg hr1]
 generalize scl a done k=b at *
 have bl:b.length=n:=by omega
 have bd:done<b.length:=by omega
 have er:=zCv (k:=k) cr bd
 have el:=zyS b done k
 have eat:=fun r c (hr1:r<n) (hc:c<w)=>ztD (d:=done) (k:=k) cr (r:=r) (c:=c) (by omega) hc
 have ee:RowEq n w (mx b) (mx (elD b done k)):=by
  refine (RowEq.clr (mx b) hd (fun r =>-mx b r k)).trans (RowEq.cong fun r c hr1 hc=>?_)
  rw [eat r c hr1 hc]
  unfold clr
  by_cases e:r=done
  .subst e; rw [if_neg (by omega),if_pos rfl]
  .rw [if_pos ⟨hr1,e⟩,if_neg e,Int.emod_emod_of_dvd _ (Int.dvd_refl _),Int.add_emod,Int.add_emod (mx b r c),zcd]
 have keep:∀ r c,r<n->c<w->mx b done c=0->mx (elD b done k) r c=mx b r c:=fun r c hr1 hc hz=>by
  rw [eat r c hr1 hc]
  by_cases e:r=done
  .rw [if_pos e,e]
  .rw [if_neg e,hz,Int.mul_zero,Int.add_zero]
   have:=mx_N cr (show r<b.length by omega) c
   exact Int.emod_eq_of_lt this.1 (by have:=this.2; omega)
 have fin:∀ r,r<n->mx (elD b done k) r k=if r=done then 1 else 0:=fun r hr1=>by
  rw [eat r k hr1 hk,ck]
  by_cases e:r=done
  .rw [if_pos e,if_pos e]
  .rw [if_neg e,if_neg e,Int.mul_one]; omega
 refine ⟨by omega,er,(se.trans ce).trans ee,by omega,⟨fun j=>if j=done then k else p j,fun j hj=>?_,fun j hj=>?_,fun j hj c hc=>?_⟩,fun r hr1 hr2 c hc=>?_⟩
 .by_cases e:j=done
  .subst e
   simp only [if_true]
   exact ⟨by omega,fin⟩
  .have hjd:j<done:=by omega
   have q:=p1 j hjd
   simp only [if_neg e]
   refine ⟨by omega,fun r hr1=>?_⟩
   rw [keep r (p j) hr1 (by omega) (cz _ q.1)]
   by_cases e2:r=done
   .subst e2; rw [cz _ q.1,if_neg (by omega)]
   .rw [co r (p j) e2 (by omega)]
    by_cases e3:r<done
    .rw [sup r e3]; exact q.2 r hr1
    .rw [slow r (by omega) hr1 (p j) q.1,if_neg (by omega)]
 .by_cases e:j+1=done
  .have q:=p1 j (by omega)
   simp only [if_pos e,if_neg (show ¬ j=done by omega)]
   exact q.1
  .simp only [if_neg e,if_neg (show ¬ j=done by omega)]
   exact p2 j (by omega)
 .by_cases e:j=done
  .subst e
   simp only [if_true] at hc
   rw [keep j c (by omega) (by omega) (cz c hc),cz c hc]
  .have hjd:j<done:=by omega
   have q:=p1 j hjd
   simp only [if_neg e] at hc
   rw [keep j c (by omega) (by omega) (cz c (by omega)),co j c e (by omega),sup j hjd]
   exact p3 j hjd c hc
 .by_cases e:c=k
  .subst e; rw [fin r hr2,if_neg (by omega)]
  .rw [keep r c hr2 (by omega) (cz c (by omega)),co r c (by omega) (by omega)]
   exact slow r (by omega) hr2 c (by omega)
end Go.Proofs.YthhdollpkieknaaGreat


namespace Go.Proofs.YthhdollpkieknaaGreat
open Go.Abs
def ldF (r:List Int):Nat->Nat->Nat
 | 0,i=>i
 | f+1,i=>if r[i]?.getD 0=0 then ldF r f (i+1) else i
theorem zwP (r:List Int):∀ f i,i<=ldF r f i/\ldF r f i<=i+f
 | 0,i=>by simp [ldF]
 | f+1,i=>by
  rw [ldF]
  split
  .have:=zwP r f (i+1); omega
  .omega
theorem zoA (r:List Int):∀ f i j,i<=j->j<ldF r f i->r[j]?.getD 0=0
 | 0,i,j,h1,h2=>by rw [ldF] at h2; omega
 | f+1,i,j,h1,h2=>by
  rw [ldF] at h2
  split at h2
  .rename_i h
   by_cases e:j=i
   .subst e; exact h
   .exact zoA r f (i+1) j (by omega) h2
  .omega
theorem zqH (r:List Int):∀ f i,ldF r f i<i+f->r[ldF r f i]?.getD 0≠0
 | 0,i,h=>by rw [ldF] at h; omega
 | f+1,i,h=>by
  rw [ldF] at h |-
  split
  .rename_i hz
   rw [if_pos hz] at h
   exact zqH r f (i+1) (by omega)
  .rename_i hz; exact hz
def zyA (r:List Int):Nat:=ldF r r.length 0
def oneB (n:Nat) (m:List (List Int)) (done:Nat):Bool:=decide (done=n) && decide (zyA (m[n-1]?.getD [])=n-1)
theorem zsV {p:Nat->Nat} {n:Nat} (h:∀ j,j+1<n->p j<p (j+1)):∀ j,j<n->j<=p j
 | 0,_=>by omega
 | j+1,hj=>by have:=zsV h j (by omega); have:=h j hj; omega
theorem zwO {p:Nat->Nat} {n:Nat} (h:∀ j,j+1<n->p j<p (j+1)):∀ t j,j+t+1=n->p j+t<=p (n-1)
 | 0,j,hj=>by rw [show n-1=j by omega]; omega
 | t+1,j,hj=>by have:=zwO h t (j+1) (by omega); have:=h j (by omega); omega
theorem GI.one {n:Nat} {W0:Mx} {m:List (List Int)} {done k:Nat} (h:GI n (n+1) W0 m done k) (hn:0<n) (hk:k<=n+1) (ho:oneB n m done=true):∀ r c,r<n->c<n->mx m r c=idM r c:=by
 unfold oneB at ho
 simp only [Bool.and_eq_true,decide_eq_true_eq] at ho
 obtain ⟨hd,hl⟩:=ho
 subst hd
 obtain ⟨p,p1,p2,p3⟩:=h.piv
 have rl:=(h.rws.at (i:=done-1) (by rw [h.len]; omega)).1
 have hne:=zqH (m[done-1]?.getD []) (m[done-1]?.getD []).length 0 (by
  have:ldF (m[done-1]?.getD []) (m[done-1]?.getD []).length 0=done-1:=hl
  omega)
 have hl2:ldF (m[done-1]?.getD []) (m[done-1]?.getD []).length 0=done-1:=hl
 rw [hl2] at hne
 have hp:p (done-1)<=done-1:=by
  rcases Nat.lt_or_ge (done-1) (p (done-1)) with hlt | hge
  .exact (hne (p3 (done-1) (by omega) (done-1) hlt)).elim
  .exact hge
 intro r c hr hc
 have g1:=zsV p2 c hc
 have g2:=zwO p2 (done-1-c) c (by omega)
 have e:p c=c:=by omega
 have:=(p1 c hc).2 r hr
 rw [e] at this
 exact this
theorem GI.none {n:Nat} {W0:Mx} {m:List (List Int)} {done k:Nat} (h:GI n (n+1) W0 m done k) (hn:0<n) (hk:k<=n+1) (hf:k=n+1\/done=n) (ho:oneB n m done=false):∃ i,i<n/\∀ c,c<n->mx m i c=0:=by
 refine ⟨n-1,by omega,fun c hc=>?_⟩
 have hdl:=h.dle
 by_cases hd:done=n
 .subst hd
  obtain ⟨p,p1,p2,p3⟩:=h.piv
  have rl:=(h.rws.at (i:=done-1) (by rw [h.len]; omega)).1
  have g1:=zsV p2 (done-1) (by omega)
  have q:=p1 (done-1) (by omega)
  by_cases e:p (done-1)=done-1
  .have e1:mx m (done-1) (done-1)=1:=by
    have:=q.2 (done-1) (by omega)
    rw [e,if_pos rfl] at this
    exact this
   have l1:=zwP (m[done-1]?.getD []) (m[done-1]?.getD []).length 0
   have hl:zyA (m[done-1]?.getD [])=done-1:=by
    unfold zyA
    rcases Nat.lt_trichotomy (ldF (m[done-1]?.getD []) (m[done-1]?.getD []).length 0) (done-1) with hlt | heq | hgt
    .have:=zqH (m[done-1]?.getD []) (m[done-1]?.getD []).length 0 (by omega)
     exact (this (p3 (done-1) (by omega) _ (by omega))).elim
    .exact heq
    .have:=zoA (m[done-1]?.getD []) (m[done-1]?.getD []).length 0 (done-1) (by omega) hgt
     have e2:mx m (done-1) (done-1)=0:=this
     rw [e1] at e2; omega
   unfold oneB at ho
   rw [hl] at ho
   simp at ho
  .exact p3 (done-1) (by omega) c (by omega)
 .exact h.low (n-1) (by omega) (by omega) c (by omega)
end Go.Proofs.YthhdollpkieknaaGreat


namespace Go.Proofs.YthhdollpkieknaaGreat
open Go.Abs
end Go.Proofs.YthhdollpkieknaaGreat


namespace Go.Proofs.YthhdollpkieknaaGreat
open Go.Abs
end Go.Proofs.YthhdollpkieknaaGreat


namespace Go.Proofs.YthhdollpkieknaaGreat
open Go.Abs
end Go.Proofs.YthhdollpkieknaaGreat


namespace Go.Proofs.YthhdollpkieknaaGreat
open Go.Abs
def Nul (n w:Nat) (m:List (List Int)) (x:Nat->Int):Prop:=∀ r,r<n->dsum (fun c=>mx m r c*x c) w%10007=0
theorem Nul.swp {n w:Nat} {m:List (List Int)} {x:Nat->Int} (h:Nul n w m x) (hl:m.length=n) {i d:Nat} (hi:i<n) (hd:d<n):Nul n w (swp m i d) x:=by
 intro r hr
 rw [zxg (by omega) (by omega)]
 by_cases e1:r=d
 .subst e1; rw [zb7]; exact h i hi
 .rw [zcb _ _ e1]
  by_cases e2:r=i
  .subst e2; rw [zb7]; exact h d hd
  .rw [zcb _ _ e2]; exact h r hr
theorem Nul.scl {n w:Nat} {m:List (List Int)} {x:Nat->Int} (h:Nul n w m x) (hl:m.length=n) (hr:Rws w m) {d k:Nat} (hd:d<n):Nul n w (scl m d k) x:=by
 intro r hrn
 by_cases e:r=d
 .subst e
  have e1:dsum (fun c=>mx (Go.Proofs.YthhdollpkieknaaGreat.scl m r k) r c*x c) w%10007=dsum (fun c=>(pw (mx m r k) 10005%10007)*(mx m r c*x c)) w%10007:=zdo fun c hc=>by
   rw [zq4 hr (by omega) hc,if_pos rfl,zcd]
   congr 1
   rw [Int.mul_comm (mx m r c),Int.mul_assoc]
  rw [e1,<- zcX,<- zdA,h r hrn]; simp
 .have e1:dsum (fun c=>mx (Go.Proofs.YthhdollpkieknaaGreat.scl m d k) r c*x c) w%10007=dsum (fun c=>mx m r c*x c) w%10007:=zdo fun c hc=>by
   rw [zq4 hr (by omega) hc,if_neg e]
  rw [e1]; exact h r hrn
theorem Nul.elD {n w:Nat} {m:List (List Int)} {x:Nat->Int} (h:Nul n w m x) (hl:m.length=n) (hr:Rws w m) {d k:Nat} (hd:d<n):Nul n w (elD m d k) x:=by
 intro r hrn
 by_cases e:r=d
 .have e1:dsum (fun c=>mx (Go.Proofs.YthhdollpkieknaaGreat.elD m d k) r c*x c) w%10007=dsum (fun c=>mx m d c*x c) w%10007:=zdo fun c hc=>by
   rw [ztD hr (by omega) hc,if_pos e]
  rw [e1]; exact h d hd
 .have e1:dsum (fun c=>mx (Go.Proofs.YthhdollpkieknaaGreat.elD m d k) r c*x c) w%10007=dsum (fun c=>mx m r c*x c+((- mx m r k)%10007)*(mx m d c*x c)) w%10007:=zdo fun c hc=>by
   rw [ztD hr (by omega) hc,if_neg e,zcd,Int.add_mul,Int.mul_assoc]
  rw [e1,zeJ,Int.add_emod,h r hrn,<- zdA,h d hd]; simp
end Go.Proofs.YthhdollpkieknaaGreat


namespace Go.Proofs.YthhdollpkieknaaGreat
open Go.Abs
end Go.Proofs.YthhdollpkieknaaGreat


namespace Go.Proofs.YthhdollpkieknaaGreat
open Go.Abs
theorem ze4:∀ (xs ys:List Int) (n:Nat),xs.length=n->ys.length=n->dotI xs ys=dsum (fun c=>xs[c]?.getD 0*ys[c]?.getD 0) n
 | [],ys,n,h,h2=>by simp at h; subst h; rfl
 | x::xs,[],n,h,h2=>by simp at h h2; omega
 | x::xs,y::ys,n,h,h2=>by
  obtain ⟨m,rfl⟩:∃ m,n=m+1:=⟨n-1,by simp at h; omega⟩
  rw [zcT,dotI,ze4 xs ys m (by simpa using h) (by simpa using h2)]
  rfl
end Go.Proofs.YthhdollpkieknaaGreat


namespace Go.Proofs.YthhdollpkieknaaGreat
open Go.Abs
end Go.Proofs.YthhdollpkieknaaGreat


namespace Go.Proofs.YthhdollpkieknaaGreat
open Go.Abs
end Go.Proofs.YthhdollpkieknaaGreat


namespace Go.Proofs.YthhdollpkieknaaGreat
open Go.Abs
end Go.Proofs.YthhdollpkieknaaGreat


namespace Go.Proofs.YthhdollpkieknaaGreat
open Go.Abs
end Go.Proofs.YthhdollpkieknaaGreat


namespace Go.Proofs.YthhdollpkieknaaGreat
open Go.Abs
end Go.Proofs.YthhdollpkieknaaGreat


namespace Go.Proofs.YthhdollpkieknaaGreat
open Go.Abs
def lesM (A:List (List Int)) (B:List Int):List (List Int):=(List.range A.length).map fun i=>za6 (A[i]?.getD []) B (-1)
theorem Tab.rws {A:List (List Int)} {B:List Int} (h:Tab A B):Rws B.length A:=h.a
theorem zyU {A:List (List Int)} {B:List Int} (h:Tab A B):(lesM A B).length=B.length/\Rws B.length (lesM A B):=by
 refine ⟨by simp [lesM,h.len],fun x hx=>?_⟩
 obtain ⟨i,hi,rfl⟩:=List.mem_map.1 hx
 exact ⟨by rw [zbv]; exact (h.rws.at (show i<A.length by simpa using hi)).1,zfh _ _ _⟩
end Go.Proofs.YthhdollpkieknaaGreat


namespace Go.Proofs.YthhdollpkieknaaGreat
open Go.Abs CR
theorem zb1 {f g:Nat->Int}:∀ {n:Nat},(∀ i,i<n->f i%10007=g i%10007)->dsum f n%10007=dsum g n%10007
 | 0,_=>rfl
 | n+1,h=>zc7 (zb1 (n:=n) (fun i hi=>h i (by omega))) (h n (by omega))
end Go.Proofs.YthhdollpkieknaaGreat


namespace Go.Proofs.YthhdollpkieknaaGreat
open Go.Abs
end Go.Proofs.YthhdollpkieknaaGreat


namespace Go.Proofs.YthhdollpkieknaaGreat
open Go.Abs
end Go.Proofs.YthhdollpkieknaaGreat


namespace Go.Proofs.YthhdollpkieknaaGreat
open Go.Abs CR
def en (X:List (List Int)) (k j:Nat):Int:=(X[k]?.getD [])[j]?.getD 0
def R7 (n:Nat) (X:List (List Int)):Prop:=X.length=n/\∀ r∈X,r.length=7/\Ns r
theorem R7.row {n:Nat} {X:List (List Int)} (h:R7 n X) {k:Nat} (hk:k<n):(X[k]?.getD []).length=7/\Ns (X[k]?.getD []):=h.2 _ (memD [] (by rw [h.1]; exact hk))
theorem R7.ext {n:Nat} {X Y:List (List Int)} (hX:R7 n X) (hY:R7 n Y) (h:∀ k,k<n->∀ j,j<7->en X k j%10007=en Y k j%10007):X=Y:=by
 refine List.ext_getElem (by rw [hX.1,hY.1]) fun k h1 h2=>?_
 have hk:k<n:=by rw [<- hX.1]; exact h1
 have x1:=hX.row hk
 have y1:=hY.row hk
 have e:=h k hk
 unfold en at e
 rw [List.getElem?_eq_getElem h1,Option.getD_some] at x1 e
 rw [List.getElem?_eq_getElem h2,Option.getD_some] at y1 e
 refine List.ext_getElem (by rw [x1.1,y1.1]) fun j j1 j2=>?_
 have ej:=e j (by omega)
 have n1:=x1.2.get j
 have n2:=y1.2.get j
 rw [Int.emod_eq_of_lt n1.1 (by have:=n1.2; omega),Int.emod_eq_of_lt n2.1 (by have:=n2.2; omega),List.getElem?_eq_getElem j1,List.getElem?_eq_getElem j2] at ej
 exact ej
theorem ztz {n:Nat} {start:List (List Int)} (hs:R7 n start) (c:List Int) (L:List (List (List Int))) (i:Nat):R7 n (mvS start c L i) :=
 ⟨by rw [za9,hs.1],zdl hs.2 i⟩
theorem zn8 {n:Nat} {start:List (List Int)} (hs:R7 n start) (c:List Int) (L:List (List (List Int))) (i:Nat) {k:Nat} (hk:k<n):en (mvS start c L i) k 0=en start k 0 :=
 zgW hs.2 i k (by rw [hs.1]; exact hk)
theorem zj3 {n:Nat} {start:List (List Int)} (hs:R7 n start) (c:List Int) {L:List (List (List Int))} {k:Nat} (hk:k<n) {j:Nat} (hj:j<6):∀ i,(∀ q,q<i->R7 n (L[q]?.getD [])) ->
  en (mvS start c L i) k (j+1)%10007=(en start k (j+1)+dsum (fun q=>c[q]?.getD 0*en (L[q]?.getD []) k j) i)%10007
 | 0,_=>by show _=(en start k (j+1)+0)%10007; rw [Int.add_zero]; rfl
 | i+1,hL=>by
  have ih:=zj3 hs c hk hj i (fun q hq=>hL q (by omega))
  have hk2:k<start.length:=by rw [hs.1]; exact hk
  have hm:=(ztz hs c L i).row hk
  have l7:=((hL i (by omega)).row hk).1
  have e:(mvS start c L (i+1))[k]?.getD []=za6 ((mvS start c L i)[k]?.getD []) (raiS ((L[i]?.getD [])[k]?.getD [])) (c[i]?.getD 0):=by
   simp only [mvS]
   simp [hk2]
  have e2:(raiS ((L[i]?.getD [])[k]?.getD []))[j+1]?.getD 0=en (L[i]?.getD []) k j:=by
   unfold raiS
   rw [zaP _ (by omega),if_neg (by omega)]; rfl
  show ((mvS start c L (i+1))[k]?.getD [])[j+1]?.getD 0%10007=(en start k (j+1)+(dsum _ i+c[i]?.getD 0*en (L[i]?.getD []) k j))%10007
  rw [e]
  unfold za6
  rw [zaP _ (by omega),e2,Int.emod_emod_of_dvd _ (Int.dvd_refl _),<- Int.add_assoc]
  refine zc7 ih ?_
  rw [Int.mul_emod,Int.emod_emod_of_dvd _ (Int.dvd_refl _),<- Int.mul_emod]
theorem zy8 {M:List (List Int)} {f:List (List Mon)} {k j:Nat} (hk:k<f.length) (hj:j<7):en (fdS M f) k j%10007=(evM M.length (toU M) (f[k]?.getD []):Ser Int) j%10007:=by
 have e1:(fdS M f)[k]?.getD []=evS M (f[k]?.getD []):=by simp [fdS,hk]
 unfold en
 rw [e1]
 unfold evS
 rw [zaP _ hj,Int.emod_emod_of_dvd _ (Int.dvd_refl _)]
 exact zmA M (f[k]?.getD []) j hj
theorem zz2 {n m:Nat} {M M':List (List Int)} (hM:M.length=n) (hM':M'.length=n) {f:List (List Mon)} (hm:m<=7) (h:∀ k,k<n->∀ j,j<m->en M k j%10007=en M' k j%10007) {k j:Nat} (hk:k<f.length) (hj:j<m) :
  en (fdS M f) k j%10007=en (fdS M' f) k j%10007:=by
 rw [zy8 hk (by omega),zy8 hk (by omega),hM,hM']
 exact Cg.evM (cgS cgI m) (fun q hq i hi=>h q hq i hi) (f[k]?.getD []) j hj
theorem zDx (M:List (List Int)) (f:List (List Mon)):R7 f.length (fdS M f):=⟨by simp,zl2⟩
def Fix (A:List (List Int)) (f:List (List Mon)) (start:List (List Int)) (K:List (List (List Int))):Prop:=K.length=A.length/\∀ i,i<A.length->K[i]?.getD []=fdS (mvS start (A[i]?.getD []) K (A[i]?.getD []).length) f
section
variable {A:List (List Int)} {B:List Int} {f:List (List Mon)} {start:List (List Int)} {n:Nat}
theorem Fix.R7 {K:List (List (List Int))} (hf:f.length=n) (h:Fix A f start K) {i:Nat} (hi:i<A.length):R7 n (K[i]?.getD []):=by
 rw [h.2 i hi,<- hf]; exact zDx _ _
theorem zne (hf:f.length=n) (hs:R7 n start) (t:Nat) {i:Nat} (hi:i<A.length):R7 n ((sloS A f start t)[i]?.getD []):=by
 have h:=zeD (A:=A) (f:=f) (start:=start) (by rw [hf,hs.1]) t _ (memD [] (show i<(sloS A f start t).length by rw [za1]; exact hi))
 exact ⟨by rw [h.1,hs.1],h.2⟩
theorem zto (hf:f.length=n) (hs:R7 n start) (hrow:∀ i,i<A.length->(A[i]?.getD []).length=A.length) {K K':List (List (List Int))} (g:∀ i,i<A.length->R7 n (K[i]?.getD [])) (g':∀ i,i<A.length->R7 n (K'[i]?.getD [])) {t:Nat} (ht:t<7)
  (h:∀ i,i<A.length->∀ k,k<n->∀ j,j<t->en (K[i]?.getD []) k j%10007=en (K'[i]?.getD []) k j%10007) {i:Nat} (hi:i<A.length) {k:Nat} (hk:k<n) {j:Nat} (hj:j<t+1) :
  en (fdS (mvS start (A[i]?.getD []) K (A[i]?.getD []).length) f) k j%10007=en (fdS (mvS start (A[i]?.getD []) K' (A[i]?.getD []).length) f) k j%10007:=by
 refine zz2 (ztz hs _ _ _).1 (ztz hs _ _ _).1 (by omega) (fun q hq m hm=>?_) (by rw [hf]; exact hk) hj
 cases m with
 | zero=>rw [zn8 hs _ _ _ hq,zn8 hs _ _ _ hq]
 | succ m =>
  rw [zj3 hs _ hq (by omega) _ (fun q hq=>g q (by rw [<- hrow i hi]; exact hq)),zj3 hs _ hq (by omega) _ (fun q hq=>g' q (by rw [<- hrow i hi]; exact hq))]
  refine zc7 rfl (zb1 fun r hr=>zaD rfl (h r (by rw [<- hrow i hi]; exact hr) q hq m (by omega)))
theorem zim (hf:f.length=n) (hs:R7 n start) (hrow:∀ i,i<A.length->(A[i]?.getD []).length=A.length):∀ t,t<=7->∀ i,i<A.length->∀ k,k<n->∀ j,j<t ->
  en ((sloS A f start t)[i]?.getD []) k j%10007=en ((sloS A f start (t+1))[i]?.getD []) k j%10007
 | 0,_,_,_,_,_,j,hj=>by omega
 | t+1,ht,i,hi,k,hk,j,hj=>by
  rw [zgZ f start t hi,zgZ f start (t+1) hi]
  exact zto hf hs hrow (fun i hi=>zne hf hs t hi) (fun i hi=>zne hf hs (t+1) hi) (by omega) (zim hf hs hrow t (by omega)) hi hk hj
theorem zk7 (hs:R7 n start):R7 n (steS A B f start):=ztz hs _ _ _
end
end Go.Proofs.YthhdollpkieknaaGreat


namespace Go.Proofs.YthhdollpkieknaaGreat
open Go.Abs
theorem at0 {A:List (List Int)} (h:0<A.length):mat A=.sl (A[0]?.getD []).length (avs (A[0]?.getD []))::mat A.tail:=by cases A with | nil=>simp at h | cons x l=>simp [mat]
end Go.Proofs.YthhdollpkieknaaGreat


namespace Go.Proofs.YthhdollpkieknaaGreat
open Go.Abs
end Go.Proofs.YthhdollpkieknaaGreat


namespace Go.Proofs.YthhdollpkieknaaGreat
open Go.Abs
theorem znp (k:Int) (K:Key):∀ (q p:List Mon),cfL (zhO p k q) K%10007=(cfL p K+k*cfL q K)%10007
 | [],p=>by simp [zhO,cfL,coef,sumI]
 | m::q,p=>by
  rw [zhO,znp k K q,zgt,Int.add_emod,zmw,Int.mul_add]
  by_cases h:K=zaw m.2
  .simp only [h,if_true]; omega
  .simp only [h,if_false]; omega
def pcf (p q:List Mon) (K:Key):Int:=sumI (fun a=>sumI (fun b=>if K=zaw (addE a.2 b.2) then a.1*b.1 else 0) q) p
theorem zik (a:Mon) (K:Key):∀ (q acc:List Mon),cfL (zc3 a acc q) K%10007=(cfL acc K+sumI (fun b=>if K=zaw (addE a.2 b.2) then a.1*b.1 else 0) q)%10007
 | [],acc=>by simp [zc3,sumI]
 | b::q,acc=>by
  rw [zc3,zik a K q,Int.add_emod,zmw]
  simp only [sumI]
  by_cases h:K=zaw (addE a.2 b.2)
  .simp only [h,if_true]; omega
  .simp only [h,if_false]; omega
theorem zjN (q:List Mon) (K:Key):∀ (p acc:List Mon),cfL (zeA acc q p) K%10007=(cfL acc K+pcf p q K)%10007
 | [],acc=>by simp [zeA,pcf,sumI]
 | a::p,acc=>by
  rw [zeA,zjN q K p,Int.add_emod,zik]
  simp only [pcf,sumI]
  omega
theorem zvV (p q:List Mon) (K:Key):cfL (zln p q) K%10007=pcf p q K%10007:=by
 unfold zln
 rw [zjN]; simp [cfL,coef,sumI]
end Go.Proofs.YthhdollpkieknaaGreat


namespace Go.Proofs.YthhdollpkieknaaGreat
open Go.Abs
section
variable {q:List (List Int)} {f:List (List Mon)} {n:Nat}
end
end Go.Proofs.YthhdollpkieknaaGreat


namespace Go.Proofs.YthhdollpkieknaaGreat
open Go.Abs CR
section
variable {α:Type} [CR α] {Q:Nat->Nat->Int} {n:Nat}
theorem zB4 (f:Nat->Ser α) (j:Nat):∀ n,(sT f n) j=sT (fun k=>f k j) n
 | 0=>by
  cases j <;> rfl
 | n+1=>by rw [sT,zfz,zB4 f j n,sT]
end
section
variable {α:Type} [CR α] {q:List (List Int)} {f:List (List Mon)} {n:Nat}
end
section
variable {q L:List (List Int)}
end
section
variable {q:List (List Int)} {f:List (List Mon)} {y:List Int} {n:Nat}
def zz:Ser Int:=fun n=>if n=1 then 1 else 0
theorem zAR (a:Ser Int):∀ j,(zz*a:Ser Int) j=if j=0 then 0 else a (j-1)
 | 0=>by
  show zz 0*a 0=0
  show 0*a 0=0
  exact Int.zero_mul _
 | j+1=>by
  rw [if_neg (by omega)]
  show cmul (j+1) zz a=a j
  rw [cmul]
  have e:sh zz=ofI 1:=funext fun k=>by
   show (if k+1=1 then (1:Int) else 0)=if k=0 then 1 else 0
   by_cases h:k=0
   .subst h; rfl
   .rw [if_neg (by omega),if_neg h]
  rw [e]
  have e2:cmul j (ofI 1) a=a j:=by
   have:=congrFun (omul a) j
   exact this
  rw [e2]
  show (0:Int)*a (j+1)+a j=a j
  omega
theorem zme (hy:Ns y):R7 y.length (poS y):=⟨by simp [poS],fun r hr=>by
 obtain ⟨x,hx,rfl⟩:=List.mem_map.1 hr
 refine ⟨rfl,fun v hv=>?_⟩
 have:v=x\/v=0:=by
  unfold unS at hv
  simp at hv
  exact hv
 rcases this with rfl | rfl
 .exact hy _ hx
 .exact ⟨by decide,by decide⟩⟩
end
end Go.Proofs.YthhdollpkieknaaGreat


namespace Go.Proofs.YthhdollpkieknaaGreat
open Go.Abs CR
section
variable {α:Type} [CR α]
def phi (z:α) (N:Nat) (s:Ser α):α:=sT (fun n=>s n*pwr z n) N
theorem zoq (f:Nat->α) (m:Nat):∀ k,sT f (m+k)=sT f m+sT (fun j=>f (m+j)) k
 | 0=>by show sT f m=sT f m+ofI 0; rw [add0]
 | k+1=>by rw [<- Nat.add_assoc,sT,zoq f m k,sT,addA]
theorem zAe (z:α) (N:Nat) (a b:Ser α):phi z N (a+b)=phi z N a+phi z N b:=by
 unfold phi
 rw [<- zoI]
 exact zbp fun n _=>by rw [zfz,Dmul]
theorem znF (z:α) (N:Nat) (k:Int):phi z (N+1) (ofI k)=ofI k:=by
 unfold phi
 rw [zcr,zbp (g:=fun _=>(ofI 0:α)) (fun n _=>by rw [zxR,zmul]),zgT,add0,zqB]
 exact mul1 _
theorem zov (z:α) (b:Ser α):∀ (N:Nat) (a:Ser α),sT (fun n=>cmul n a b*pwr z n) N=sT (fun i=>(a i*pwr z i)*sT (fun j=>b j*pwr z j) (N-i)) N
 | 0,a=>rfl
 | N+1,a=>by
  rw [zcr,zcr (fun i=>(a i*pwr z i)*sT (fun j=>b j*pwr z j) (N+1-i))]
  have e1:sT (fun k=>cmul (k+1) a b*pwr z (k+1)) N=a 0*sT (fun k=>b (k+1)*pwr z (k+1)) N+z*sT (fun n=>cmul n (sh a) b*pwr z n) N:=by
   rw [<- zfJ,<- zfJ,<- zoI]
   refine zbp fun n _=>?_
   show (a 0*b (n+1)+cmul n (sh a) b)*(pwr z n*z)=a 0*(b (n+1)*(pwr z n*z))+z*(cmul n (sh a) b*pwr z n)
   rw [Dmul]
   congr 1
   .ac_rfl
   .ac_rfl
  rw [e1,zov z b N (sh a)]
  have e2:sT (fun k=>(a (k+1)*pwr z (k+1))*sT (fun j=>b j*pwr z j) (N+1-(k+1))) N=z*sT (fun i=>(sh a i*pwr z i)*sT (fun j=>b j*pwr z j) (N-i)) N:=by
   rw [<- zfJ]
   refine zbp fun i _=>?_
   rw [show N+1-(i+1)=N-i by omega]
   show (a (i+1)*(pwr z i*z))*_=z*((a (i+1)*pwr z i)*_)
   ac_rfl
  rw [e2,Nat.sub_zero,zcr (fun j=>b j*pwr z j) N]
  show a 0*b 0*ofI 1+_=(a 0*ofI 1)*(b 0*ofI 1+_)+_
  rw [mul1,mul1,mul1,mulD,addA]
theorem zlj (c:Cg α) {z:α} {N:Nat} (hz:c.r (pwr z N) (ofI 0)) (a b:Ser α):c.r (phi z N (a*b)) (phi z N a*phi z N b):=by
 have e1:phi z N (a*b)=sT (fun i=>(a i*pwr z i)*sT (fun j=>b j*pwr z j) (N-i)) N:=zov z b N a
 rw [e1]
 unfold phi
 rw [mulC (sT _ N),<- zfJ]
 refine c.sT fun i hi=>?_
 have e2:sT (fun n=>b n*pwr z n) N=sT (fun n=>b n*pwr z n) (N-i)+sT (fun j=>b (N-i+j)*pwr z (N-i+j)) i:=by
  rw [<- zoq (fun n=>b n*pwr z n) (N-i) i]
  rw [show N-i+i=N by omega]
 rw [e2,Dmul]
 have e3:c.r (sT (fun j=>b (N-i+j)*pwr z (N-i+j)) i*(a i*pwr z i)) (ofI 0):=by
  rw [mulC,<- zfJ]
  refine c.trans (c.sT (g:=fun _=>ofI 0) fun j hj=>?_) (c.eq (zgT i))
  have e4:pwr z i*pwr z (N-i+j)=pwr z N*pwr z j:=by
   rw [<- zhg,<- zhg]; congr 1; omega
  have e5:(a i*pwr z i)*(b (N-i+j)*pwr z (N-i+j))=(a i*b (N-i+j))*(pwr z N*pwr z j):=by
   rw [<- e4]; ac_rfl
  rw [e5]
  refine c.trans (c.mul (c.refl _) (c.mul hz (c.refl _))) (c.eq ?_)
  rw [zmul,mul0]
 refine c.symm (c.trans (c.add (c.refl _) e3) (c.eq ?_))
 rw [add0,mulC]
theorem zp5 (c:Cg α) {z:α} {N:Nat} (hz:c.r (pwr z (N+1)) (ofI 0)) (a:Ser α):∀ e,c.r (phi z (N+1) (pwr a e)) (pwr (phi z (N+1) a) e)
 | 0=>c.eq (znF z N 1)
 | e+1=>c.trans (zlj c hz (pwr a e) a) (c.mul (zp5 c hz a e) (c.refl _))
theorem zrD (c:Cg α) {z:α} {N:Nat} (hz:c.r (pwr z (N+1)) (ofI 0)) (U:Nat->Ser α) (e:Nat->Nat):∀ d,c.r (phi z (N+1) (mon U e d)) (mon (fun k=>phi z (N+1) (U k)) e d)
 | 0=>c.eq (znF z N 1)
 | d+1=>c.trans (zlj c hz _ _) (c.mul (zrD c hz U e d) (zp5 c hz _ _))
theorem zwZ (c:Cg α) {z:α} {N:Nat} (hz:c.r (pwr z (N+1)) (ofI 0)) (U:Nat->Ser α) (d:Nat):∀ L:List Mon,c.r (phi z (N+1) (evM d U L)) (evM d (fun k=>phi z (N+1) (U k)) L)
 | []=>c.eq (znF z N 0)
 | m::L=>by
  rw [zaU,zaU,zAe]
  refine c.add (c.trans (zlj c hz _ _) (c.mul (c.eq (znF z N _)) (zrD c hz U _ d))) (zwZ c hz U d L)
def cstF (v:Nat->Int) (d:Nat):List (List Mon):=(List.range d).map fun k=>[(v k,List.replicate d 0)]
theorem ze2 (v:Nat->Int) (d:Nat):(cstF v d).length=d:=by simp [cstF]
theorem zy5 {v:Nat->Int} {d k:Nat} (h:k<d):(cstF v d)[k]?.getD []=[(v k,List.replicate d 0)]:=by simp [cstF,h]
theorem znC (v:Nat->Int) (d:Nat):∀ F∈cstF v d,LOk d F:=fun F hF m hm=>by
 obtain ⟨k,hk,rfl⟩:=List.mem_map.1 hF
 simp at hm
 subst hm
 exact ⟨by simp,fun x hx=>by have:=(List.mem_replicate.1 hx).2; omega⟩
theorem zxZ (d j:Nat):ex (List.replicate d 0) j=0:=by
 unfold ex
 by_cases h:j<d
 .simp [h]
 .rw [List.getElem?_eq_none (by simp; omega)]; rfl
theorem zAa (v:Nat->Int) {d k:Nat} (U:Nat->α) (h:k<d):evM d U ((cstF v d)[k]?.getD [])=ofI (v k):=by
 rw [zy5 h,zaU,zdr,add0,zod U (fun j _=>zxZ d j),mul1]
theorem zxt (c:Cg α) {z:α} (hz:c.r (pwr z 7) (ofI 0)) (u:Nat->α) (v:Nat->Int) {d:Nat} {L:List Mon} (hL:LOk d L) :
  c.r (evM d (fun k=>u k+ofI (v k)*z) L) (sT (fun n=>(ofI (ift n)*evM d u (Nat.repeat (zca (cstF v d)) n L))*pwr z n) 7):=by
 let U:Nat->Ser α:=fun k n=>if n=0 then u k else if n=1 then ofI (v k) else ofI 0
 have hU:∀ k,k<d->∀ n,n<7->c.r (ofI ((n+1:Nat):Int)*U k (n+1)) (evM d U ((cstF v d)[k]?.getD []) n):=fun k hk n hn=>by
  rw [zAa v U hk]
  refine c.eq ?_
  cases n with
  | zero =>
   show ofI ((0+1:Nat):Int)*ofI (v k)=ofI (v k)
   exact omul _
  | succ n =>
   show ofI ((n+1+1:Nat):Int)*ofI 0=ofI 0
   exact mul0 _
 have fl:=fun n hn=>zz8 c (ze2 v d) (znC v d) hU n L hn hL
 have e1:∀ k,phi z 7 (U k)=u k+ofI (v k)*z:=fun k=>by
  unfold phi
  rw [show (7:Nat)=5+1+1 from rfl,zcr,zcr,zbp (g:=fun _=>(ofI 0:α)) (fun n _=>by
   show ofI 0*_=ofI 0
   exact zmul _),zgT,add0]
  show u k*ofI 1+ofI (v k)*(ofI 1*z)=_
  rw [mul1,omul]
 have e2:(fun k=>u k+ofI (v k)*z)=fun k=>phi z 7 (U k):=funext fun k=>(e1 k).symm
 rw [e2]
 refine c.trans (c.symm (zwZ c (N:=6) hz U d L)) ?_
 refine c.sT fun n hn=>c.mul ?_ (c.refl _)
 have f1:=fl n (by omega)
 have i1:c.r (ofI (ift n)*ofI (fct n):α) (ofI 1):=by
  rw [<- ofMul]
  exact c.of (by rw [zrv n (by omega)]; rfl)
 have e3:evM d U L n=ofI 1*evM d U L n:=(omul _).symm
 rw [e3]
 refine c.trans (c.mul (c.symm i1) (c.refl _)) ?_
 rw [mulA]
 exact c.mul (c.refl _) f1
end
end Go.Proofs.YthhdollpkieknaaGreat


namespace Go.Proofs.YthhdollpkieknaaGreat
open Go.Abs CR
section
variable {α:Type} [CR α]
theorem zri (a b:α):∀ n,pwr (a*b) n=pwr a n*pwr b n
 | 0=>(mul1 _).symm
 | n+1=>by rw [pwr,pwr,pwr,zri a b n]; ac_rfl
theorem zr2 (a:α) (m:Nat):∀ n,pwr (pwr a m) n=pwr a (m*n)
 | 0=>rfl
 | n+1=>by rw [pwr,zr2 a m n,Nat.mul_succ,zhg]
end
theorem znL (a:Ser Int):∀ (w j:Nat),(pwr zz w*a:Ser Int) j=if w<=j then a (j-w) else 0
 | 0,j=>by
  rw [if_pos (Nat.zero_le _)]
  show (ofI 1*a:Ser Int) j=_
  rw [omul]; rfl
 | w+1,j=>by
  have e:(pwr zz (w+1)*a:Ser Int)=zz*(pwr zz w*a):=by rw [pwr]; ac_rfl
  rw [e,zAR]
  cases j with
  | zero=>rw [if_pos rfl,if_neg (by omega)]
  | succ j =>
   rw [if_neg (by omega),Nat.add_sub_cancel,znL a w j]
   by_cases h:w<=j
   .rw [if_pos h,if_pos (by omega),show j+1-(w+1)=j-w by omega]
   .rw [if_neg h,if_neg (by omega)]
theorem zm5 (k:Int) (a:Ser Int) (j:Nat):(ofI k*a:Ser Int) j=k*a j:=by
 rw [mulC]
 show cmul j a (sOf k)=_
 rw [zfy]
 exact Int.mul_comm _ _
theorem zu7 (k:Int) (j:Nat):(ofI k:Ser Int) j=if j=0 then k else 0:=rfl
def zT (C:List Int->Int) (t:List Int):Ser Int:=ofI (C t)*pwr zz t.length
theorem zwu (C:List Int->Int) (t:List Int) (n:Nat):pwr (zT C t) n=ofI (pwr (C t) n)*pwr zz (t.length*n):=by
 unfold zT
 rw [zri,zqm,zr2]
theorem zBk {C:List Int->Int} {t:List Int} (h:0<t.length):c7.r (pwr (zT C t) 7) (ofI 0):=fun j hj=>by
 rw [zwu,zm5]
 have e:(pwr zz (t.length*7):Ser Int) j=0:=by
  have:=znL (ofI 1) (t.length*7) j
  rw [mul1] at this
  rw [this,if_neg (by omega)]
 rw [e,zu7]
 split <;> (simp; exact cgI.refl _)
def uT (y:Nat->Int) (C:List Int->Int) (F:List Int->List Int):List (List Int)->Nat->Ser Int
 | [],k=>ofI (y k)
 | t::ts,k=>uT y C F ts k+ofI ((F t)[k]?.getD 0)*zT C t
def DerL (d:Nat):List (List Int)->List Mon->List Mon
 | [],L=>L
 | v::vs,L=>DerL d vs (zca (cstF (fun k=>v[k]?.getD 0) d) L)
theorem zkp {α:Type} (f:α->α):∀ (n:Nat) (a:α),Nat.repeat f (n+1) a=Nat.repeat f n (f a)
 | 0,a=>rfl
 | n+1,a=>by rw [Nat.repeat,zkp f n a]; rfl
theorem zmB (d:Nat) (v:List Int) (vs:List (List Int)):∀ (n:Nat) (L:List Mon),DerL d (List.replicate n v++vs) L=DerL d vs (Nat.repeat (zca (cstF (fun k=>v[k]?.getD 0) d)) n L)
 | 0,L=>rfl
 | n+1,L=>by
  rw [List.replicate_succ,List.cons_append,DerL,zmB d v vs n,zkp]
def zaH (C:List Int->Int):List (List Int)->Int
 | []=>1
 | b::bs=>C b*zaH C bs
theorem zkA (C:List Int->Int) (b:List Int) (bs:List (List Int)):∀ n,zaH C (List.replicate n b++bs)=pwr (C b) n*zaH C bs
 | 0=>by show zaH C bs=1*zaH C bs; rw [Int.one_mul]
 | n+1=>by
  rw [List.replicate_succ,List.cons_append,zaH,zkA C b bs n,pwr]
  rw [<- Int.mul_assoc,Int.mul_comm (C b)]
def ifq (n:Nat):Int:=([1,1,5004,1668,417,8089,3016]:List Int)[n]?.getD 0
theorem zxs:∀ n,n<7->ift n%10007=ifq n%10007:=by
 have h:((List.range 7).all fun n=>decide (ift n%10007=ifq n%10007))=true:=by decide +kernel
 intro n hn
 simpa using List.all_eq_true.1 h n (by simpa using hn)
def enT:List (List Int)->Nat->List (List (List Int) × Int)
 | [],j=>if j=0 then [([],1)] else []
 | t::ts,j=>(List.range 7).flatMap fun n=>if t.length*n<=j then (enT ts (j-t.length*n)).map (fun x=>(List.replicate n t++x.1,ifq n*x.2)) else []
def zas {β:Type} (f:β->Int):List β->Int
 | []=>0
 | b::l=>f b+zas f l
theorem zhz {β:Type} (f:β->Int) (l r:List β):zas f (l++r)=zas f l+zas f r:=by
 induction l with
 | nil=>simp [zas]
 | cons b l ih=>rw [List.cons_append,zas,ih,zas,Int.add_assoc]
theorem zgR {β γ:Type} (f:γ->Int) (g:β->γ) (l:List β):zas f (l.map g)=zas (fun b=>f (g b)) l:=by
 induction l with
 | nil=>rfl
 | cons b l ih=>rw [List.map_cons,zas,ih,zas]
theorem zg8 {β:Type} (k:Int) (f:β->Int) (l:List β):zas (fun b=>k*f b) l=k*zas f l:=by
 induction l with
 | nil=>simp [zas]
 | cons b l ih=>rw [zas,ih,zas,Int.mul_add]
theorem zbf {β:Type} {f g:β->Int} {l:List β} (h:∀ b∈l,f b=g b):zas f l=zas g l:=by
 induction l with
 | nil=>rfl
 | cons b l ih=>rw [zas,zas,h b (by simp),ih (fun c hc=>h c (by simp [hc]))]
theorem zcK {β:Type} {f g:β->Int} {l:List β} (h:∀ b∈l,f b%10007=g b%10007):zas f l%10007=zas g l%10007:=by
 induction l with
 | nil=>rfl
 | cons b l ih =>
  rw [zas,zas]
  exact zc7 (h b (by simp)) (ih (fun c hc=>h c (by simp [hc])))
theorem zfi {β:Type} (f:β->Int) {l r:List β} (h:l.Perm r):zas f l=zas f r:=by
 induction h with
 | nil=>rfl
 | cons b _ ih=>rw [zas,zas,ih]
 | swap a b l=>rw [zas,zas,zas,zas]; omega
 | trans _ _ i1 i2=>rw [i1,i2]
theorem zhn (f:Nat->Int):∀ n,zas f (List.range n)=dsum f n
 | 0=>rfl
 | n+1=>by rw [List.range_succ,zhz,zhn f n]; simp [zas,dsum]
theorem zpB {β:Type} (f:β->Int) (g:Nat->List β) (l:List Nat):zas f (l.flatMap g)=zas (fun n=>zas f (g n)) l:=by
 induction l with
 | nil=>rfl
 | cons b l ih=>rw [List.flatMap_cons,zhz,ih,zas]
def EE (d:Nat) (y:Nat->Int) (C:List Int->Int) (F:List Int->List Int) (ts:List (List Int)) (L:List Mon) (j:Nat):Int :=
 zas (fun x=>x.2*zaH C x.1*evM d y (DerL d (x.1.map F) L)) (enT ts j)
theorem zxd (f:Nat->Int):∀ n,sT f n=dsum f n
 | 0=>rfl
 | n+1=>by rw [sT,zxd f n]; rfl
theorem zpY {d:Nat} {v:Nat->Int}:∀ (n:Nat) {L:List Mon},LOk d L->LOk d (Nat.repeat (zca (cstF v d)) n L)
 | 0,_,h=>h
 | n+1,L,h=>zhZ (zpY n h) (znC v d) (by rw [ze2]; exact Nat.le_refl _)
theorem tay (d:Nat) (y:Nat->Int) (C:List Int->Int) (F:List Int->List Int):∀ (ts:List (List Int)),(∀ t∈ts,0<t.length)->∀ (L:List Mon),LOk d L->∀ j,j<7->(evM d (uT y C F ts) L:Ser Int) j%10007=EE d y C F ts L j%10007
 | [],_,L,hL,j,hj=>by
  have e:evM d (uT y C F []) L=(ofI (evM d y L):Ser Int):=zw4 y d L
  rw [e,zu7]
  unfold EE enT
  by_cases h:j=0
  .rw [if_pos h,if_pos h]
   show evM d y L%10007=(1*zaH C []*evM d y (DerL d [] L)+0)%10007
   rw [Int.add_zero]
   show _=(1*1*evM d y L)%10007
   rw [Int.one_mul,Int.one_mul]
  .rw [if_neg h,if_neg h]; rfl
 | t::ts,ht,L,hL,j,hj=>by
  have ih:=fun n i hi=>tay d y C F ts (fun s hs=>ht s (by simp [hs])) (Nat.repeat (zca (cstF (fun k=>(F t)[k]?.getD 0) d)) n L) (zpY n hL) i hi
  have h1:=zxt c7 (zBk (C:=C) (ht t (by simp))) (uT y C F ts) (fun k=>(F t)[k]?.getD 0) hL j hj
  refine h1.trans ?_
  rw [zB4,zxd]
  unfold EE
  rw [enT,zpB,zhn]
  refine zb1 fun n hn=>?_
  have e1:((ofI (ift n)*evM d (uT y C F ts) (Nat.repeat (zca (cstF (fun k=>(F t)[k]?.getD 0) d)) n L))*pwr (zT C t) n:Ser Int) j
    = ift n*pwr (C t) n*(if t.length*n<=j then (evM d (uT y C F ts) (Nat.repeat (zca (cstF (fun k=>(F t)[k]?.getD 0) d)) n L):Ser Int) (j-t.length*n) else 0):=by
   rw [zwu]
   generalize (evM d (uT y C F ts) (Nat.repeat (zca (cstF (fun k=>(F t)[k]?.getD 0) d)) n L):Ser Int)=X
   have e2:((ofI (ift n)*X)*(ofI (pwr (C t) n)*pwr zz (t.length*n)):Ser Int)=ofI (ift n*pwr (C t) n)*(pwr zz (t.length*n)*X):=by
    rw [ofMul]; ac_rfl
   rw [e2,zm5,znL]
  rw [e1]
  by_cases h:t.length*n<=j
  .rw [if_pos h,if_pos h,zgR]
   rw [zaD (b:=ifq n*pwr (C t) n) (zaD (zxs n hn) rfl) (ih n (j-t.length*n) (by omega))]
   refine congrArg (·%10007) ?_
   unfold EE
   rw [<- zg8]
   refine zbf fun x _=>?_
   rw [zkA,List.map_append,List.map_replicate,zmB]
   show ifq n*pwr (C t) n*(x.2*zaH C x.1*_)=ifq n*x.2*(pwr (C t) n*zaH C x.1)*_
   ac_rfl
  .rw [if_neg h,if_neg h,Int.mul_zero]; rfl
end Go.Proofs.YthhdollpkieknaaGreat


namespace Go.Proofs.YthhdollpkieknaaGreat
open Go.Abs
theorem zy2 {n:Nat} {p:List Mon} {y:List Int} (hn:n<=3) (hl:y.length=n) (hp:zbr (n:Int) p=true) (vs:List (List Int)):drvP y n vs p=Val (yat y) (Dv n vs (cfL p))%10007:=by
 have e:gv (polF p)=cfL p:=funext (zlR (zfm (by omega) hp))
 rw [<- zsc hn hl hp vs,zgF _ (zoa n vs (polF p)),e]
end Go.Proofs.YthhdollpkieknaaGreat


namespace Go.Proofs.YthhdollpkieknaaGreat
open Go.Abs CR
theorem zjh (a:Int):∀ n,pwr a n=a ^ n
 | 0=>by rw [Int.pow_zero]; rfl
 | n+1=>by rw [pwr,zjh a n,Int.pow_succ]
theorem zyc {d:Nat} (hd:d<=3) (y:Nat->Int) {e:List Int} (he:e.length=d):mon y (ex e) d=trm y (zaw e):=by
 have one:∀ a:Int,CR.ofI 1*a=a:=fun a=>Int.one_mul a
 match d,e,he with
 | 0,[],_=>(simp [mon,trm,zaw]; rfl)
 | 1,[a],_=>simp [mon,ex,zaw,trm,zjh,one]
 | 2,[a,b],_=>simp [mon,ex,zaw,trm,zjh,one]
 | 3,[a,b,c],_=>simp [mon,ex,zaw,trm,zjh,one,Int.mul_assoc]
 | d+4,_,_=>omega
theorem zBm {d:Nat} (hd:d<=3) (y:Nat->Int) {L:List Mon} (hL:∀ m∈L,VOk d m):evM d y L=Val y (cfL L):=by
 unfold cfL
 rw [zgb y _ _ L (fun m hm=>((hL m hm).kok hd).1)]
 induction L with
 | nil=>rfl
 | cons m L ih =>
  rw [zaU,ih (fun x hx=>hL x (by simp [hx])),zyc hd y (hL m (by simp)).len]
  rfl
theorem ztB {d:Nat} {b:List Int} (h:b.length=d):addE (List.replicate d 0) b=b:=by
 unfold addE
 refine List.ext_getElem (by simp; omega) fun i h1 h2=>?_
 simp
theorem zBv (c:Int) {d:Nat} {q:List Mon} (hq:∀ m∈q,m.2.length=d) (K:Key):cfL (zln [(c,List.replicate d 0)] q) K%10007=c*cfL q K%10007:=by
 rw [zvV]
 have e:pcf [(c,List.replicate d 0)] q K=c*cfL q K:=by
  show sumI (fun b=>if K=zaw (addE (List.replicate d 0) b.2) then c*b.1 else 0) q+0=c*sumI (fun m:Mon=>if K=zaw m.2 then m.1 else 0) q
  rw [Int.add_zero,<- zjB]
  refine zcH fun b hb=>?_
  rw [ztB (hq b hb)]
  by_cases h:K=zaw b.2
  .rw [if_pos h,if_pos h]
  .rw [if_neg h,if_neg h,Int.mul_zero]
 rw [e]
theorem zvw (v:Nat->Int) {d m:Nat} (h:m<d):(cstF v d).take (m+1)=(cstF v d).take m++[[(v m,List.replicate d 0)]]:=by
 have hl:m<(cstF v d).length:=by rw [ze2]; exact h
 rw [List.take_succ_eq_append_getElem hl]
 simp [cstF]
def alP (v:Nat->Int) (d:Nat) (p:List Mon) (m:Nat):List Mon:=zbC [] p 0 ((cstF v d).take m)
theorem zm4 (v:Nat->Int) {d m:Nat} (p:List Mon) (h:m<d):alP v d p (m+1)=zhO (alP v d p m) 1 (zln [(v m,List.replicate d 0)] (derL m p)):=by
 unfold alP
 rw [zvw v h,zlU,zbC,zbC]
 have e:((cstF v d).take m).length=m:=by rw [List.length_take,ze2]; omega
 rw [e,Nat.zero_add]
theorem zrB (v:Nat->Int) (d:Nat) (p:List Mon):alP v d p d=zca (cstF v d) p:=by
 unfold alP zca
 rw [List.take_of_length_le (by rw [ze2]; exact Nat.le_refl _)]
theorem VOk.w {n:Nat} {m:Mon} (h:WOk n 3 m):VOk n m:=⟨h.num,h.len,h.pw⟩
theorem zxe {v:Nat->Int} {d:Nat} (hv:∀ k,k<d->isN (v k)) {p:List Mon} (hp:∀ m∈p,VOk d m):∀ m,m<=d->∀ x∈alP v d p m,WOk d 3 x
 | 0,_,x,hx=>by simp [alP,zbC] at hx
 | m+1,h,x,hx=>by
  rw [zm4 v p (by omega)] at hx
  have hc:∀ m'∈[((v m,List.replicate d 0):Mon)],WOk d 0 m':=fun m' hm=>by
   simp at hm; subst hm
   exact ⟨hv m (by omega),by simp,fun y hy=>by have:=(List.mem_replicate.1 hy).2; omega⟩
  have hd:=zn1 (n:=d) (i:=m) (B:=3) (by omega) (p:=p) (fun m hm=>(hp m hm).wok)
  exact zkI _ _ (fun a ha=>(zth hc hd a ha).le (by omega)) (zxe hv hp m (by omega)) x hx
theorem zwr {v:Nat->Int} {d:Nat} (hd:d<=3) {p:List Mon} (hp:∀ m∈p,VOk d m):∀ m,m<=d->Eqv (cfL (alP v d p m)) (alo v (cfL p) m)
 | 0,_=>fun k _=>rfl
 | m+1,h=>fun k hk=>by
  rw [zm4 v p (by omega),znp]
  show _=(alo v (cfL p) m k+v m*der m (cfL p) k)%10007
  have h1:=zwr (v:=v) hd hp m (by omega) k hk
  have h2:=zBv (v m) (fun x hx=>(zn1 (n:=d) (i:=m) (B:=3) (by omega) (p:=p) (fun m hm=>(hp m hm).wok) x hx).len) k
  have h3:=zon (n:=d) (i:=m) (by omega) hd hp k hk
  rw [Int.one_mul]
  refine zc7 h1 ?_
  rw [h2]
  exact zaD rfl h3
theorem zmL {d:Nat} (hd:d<=3) (y:Nat->Int):∀ (vs:List (List Int)) {L:List Mon},(∀ v∈vs,Ns v)->(∀ m∈L,VOk d m)->evM d y (DerL d vs L)%10007=Val y (Dv d vs (cfL L))%10007
 | [],L,_,h=>by rw [DerL,zBm hd y h]; rfl
 | v::vs,L,hv,h=>by
  have h2:∀ m∈zca (cstF (fun k=>v[k]?.getD 0) d) L,VOk d m:=fun m hm=>by
   rw [<- zrB] at hm
   exact VOk.w (zxe (v:=fun k=>v[k]?.getD 0) (fun k _=>(hv v (by simp)).get k) h d (Nat.le_refl _) m hm)
  rw [DerL,zmL hd y vs (fun w hw=>hv w (by simp [hw])) h2]
  refine zgF y ?_
  show Eqv _ (Dv d vs (alo (yat v) (cfL L) d))
  refine znM d vs ?_
  have:=zwr (v:=fun k=>v[k]?.getD 0) hd h d (Nat.le_refl _)
  rw [zrB] at this
  exact this
theorem zsM {n:Nat} {p:List Mon} (h:zbr (n:Int) p=true):∀ m∈p,VOk n m:=fun m hm=>(zbQ h hm).vok
theorem ztQ {n:Nat} {p:List Mon} {y:List Int} (hn:n<=3) (hl:y.length=n) (hp:zbr (n:Int) p=true) {vs:List (List Int)} (hv:∀ v∈vs,Ns v) :
  evM n (fun k=>y[k]?.getD 0) (DerL n vs p)%10007=drvP y n vs p:=by
 rw [zy2 hn hl hp,zmL hn _ vs hv (zsM hp)]
 rfl
end Go.Proofs.YthhdollpkieknaaGreat


namespace Go.Proofs.YthhdollpkieknaaGreat
open Go.Abs Go.Shelf Go.Sort
theorem ziO:∀ {a b:List Int},a≠b->ltL a b=false->ltL b a=true
 | [],[],h,_=>absurd rfl h
 | [],y::b,_,h=>by simp [ltL] at h
 | x::a,[],_,_=>by simp [ltL]
 | x::a,y::b,h,h2=>by
  simp only [ltL] at h2 |-
  by_cases e:x=y
  .subst e
   simp only [if_true] at h2 |-
   exact ziO (fun e=>h (by rw [e])) h2
  .rw [if_neg e] at h2
   rw [if_neg (fun x=>e x.symm)]
   simp at h2 |-
   omega
theorem zdJ (a b:List Int):decide (cmpL a b<0)=ltL a b:=by
 have h:=zlC a b
 cases hl:ltL a b <;> rw [hl] at h <;> simp at h |- <;> omega
end Go.Proofs.YthhdollpkieknaaGreat


namespace Go.Proofs.YthhdollpkieknaaGreat
open Go.Abs
theorem zdz {α:Type} {P:List α->Prop} (h0:P []) (h1:∀ l a,P l->P (l++[a])) (l:List α):P l:=by
 rw [<- List.reverse_reverse l]
 induction l.reverse with
 | nil=>exact h0
 | cons a l ih=>rw [List.reverse_cons]; exact h1 _ _ ih
def atL (p:List Int):List (List Int)->Nat
 | []=>0
 | s::S=>if ltL s p=true then 0 else atL p S+1
theorem zw7 (p:List Int):∀ S,atL p S<=S.length
 | []=>by simp [atL]
 | s::S=>by have:=zw7 p S; rw [atL]; split <;> simp; omega
def insL (p:List Int) (S:List (List Int)):List (List Int):=S.take (atL p S)++p::S.drop (atL p S)
@[simp] theorem zCH (p:List Int) (S:List (List Int)):(insL p S).length=S.length+1:=by have:=zw7 p S; simp [insL]; omega
theorem znA {p x:List Int} {S:List (List Int)} (h:x∈insL p S):x=p\/x∈S:=by
 rcases List.mem_append.1 h with h | h
 .exact .inr (List.mem_of_mem_take h)
 .rcases List.mem_cons.1 h with h | h
  .exact .inl h
  .exact .inr (List.mem_of_mem_drop h)
theorem zua (p:List Int) (S:List (List Int)):sumL (insL p S)=sumL S+p.length:=by
 have h:=congrArg sumL (List.take_append_drop (atL p S) S)
 rw [zgq] at h
 rw [insL,zgq,sumL]
 omega
def zaQ (S:List (List Int)):List Int:=0::S.flatMap fun b=>b.map (·+1)
theorem zkH (S:List (List Int)):(zaQ S).length=sumL S+1:=by
 have:∀ S:List (List Int),(S.flatMap fun b=>b.map (·+1)).length=sumL S:=by
  intro S
  induction S with
  | nil=>rfl
  | cons b S ih=>simp [sumL,ih]
 rw [zaQ,List.length_cons,this]
def canF:Nat->List Int->List Int
 | 0,_=>[]
 | n+1,t=>zaQ ((brs t).foldl (fun S b=>insL (canF n b) S) [])
def insA (n:Nat) (bs:List (List Int)):List (List Int):=bs.foldl (fun S b=>insL (canF n b) S) []
theorem zff (n:Nat) (bs:List (List Int)) (b:List Int):insA n (bs++[b])=insL (canF n b) (insA n bs):=by simp [insA]
theorem znB {n:Nat} {bs:List (List Int)}:∀ {x:List Int},x∈insA n bs->∃ b∈bs,x=canF n b:=by
 refine zdz (P:=fun bs=>∀ {x:List Int},x∈insA n bs->∃ b∈bs,x=canF n b) ?_ ?_ bs
 .intro x hx; simp [insA] at hx
 .intro l b ih x hx
  rw [zff] at hx
  rcases znA hx with h | h
  .exact ⟨b,by simp,h⟩
  .obtain ⟨c,hc,e⟩:=ih h
   exact ⟨c,by simp [hc],e⟩
theorem zuO (n:Nat):∀ (t:List Int),∀ x∈canF n t,0<=x/\x<=n:=by
 induction n with
 | zero=>intro t x hx; simp [canF] at hx
 | succ n ih =>
  intro t x hx
  rw [canF] at hx
  rcases List.mem_cons.1 hx with rfl | hx
  .omega
  .obtain ⟨b,hb,hx⟩:=List.mem_flatMap.1 hx
   obtain ⟨y,hy,rfl⟩:=List.mem_map.1 hx
   obtain ⟨c,hc,rfl⟩:=znB (n:=n) (bs:=brs t) hb
   have:=ih c y hy
   omega
theorem zuV {A:List (List Int)} {k:Nat} (h:k<A.length) (v:List Int):sumL (A.set k v)+(A[k]?.getD []).length=sumL A+v.length:=by
 induction A generalizing k with
 | nil=>simp at h
 | cons r A ih =>
  cases k with
  | zero=>simp [sumL]; omega
  | succ k=>have:=ih (k:=k) (by simpa using h); simp [sumL] at this |-; omega
theorem zif {out:List (List Int)} {x:Int} (h:out≠[]\/x=1):sumL (zcU out x)=sumL out+1:=by
 unfold zcU
 simp only
 have ho:(if x=1 then out++[[]] else out)≠[]:=by
  split
  .simp
  .rcases h with h | h
   .exact h
   .contradiction
 have hs:sumL (if x=1 then out++[[]] else out)=sumL out:=by
  split
  .rw [zgq]; simp [sumL]
  .rfl
 generalize (if x=1 then out++[[]] else out)=o at *
 have hl:o.length-1<o.length:=by have:=List.length_pos_iff.2 ho; omega
 have:=zuV hl (o[o.length-1]?.getD []++[x-1])
 simp at this
 omega
theorem zrQ {t:List Int} (h:Lv t):∀ i,1<=i->i<=t.length->sumL (brs (t.take i))+1=i/\(2<=i->brs (t.take i)≠[])
 | 0,h1,_=>by omega
 | 1,_,_=>by
  have:brs (t.take 1)=[]:=by
   unfold brs
   rw [List.drop_eq_nil_of_le (by simp; omega)]; rfl
  rw [this]
  exact ⟨rfl,by omega⟩
 | i+2,h1,h2=>by
  have ih:=zrQ h (i+1) (by omega) (by omega)
  rw [ziX (by omega) (by omega)]
  have hne:brs (t.take (i+1))≠[]\/t[i+1]?.getD 0=1:=by
   by_cases e:i=0
   .subst e
    have h3:=h.2.2 1 (by omega) (by omega)
    rw [show 1-1=0 by omega,h.2.1] at h3
    exact .inr (by show t[1]?.getD 0=1; omega)
   .exact .inl (ih.2 (by omega))
  rw [zif hne]
  refine ⟨by omega,fun _ e=>?_⟩
  have:=zif hne
  rw [e] at this
  simp [sumL] at this
theorem zrM {t:List Int} (h:Lv t):sumL (brs t)+1=t.length:=by
 have:=(zrQ h t.length h.1 (Nat.le_refl _)).1
 rwa [List.take_length] at this
theorem zbZ:∀ (n:Nat) (t:List Int),Lv t->t.length<=n->(canF n t).length=t.length
 | 0,t,h,hl=>by have:=h.1; omega
 | n+1,t,h,hl=>by
  have gen:∀ bs:List (List Int),(∀ b∈bs,(canF n b).length=b.length)->sumL (insA n bs)=sumL bs:=by
   intro bs
   refine zdz (P:=fun bs=>(∀ b∈bs,(canF n b).length=b.length)->sumL (insA n bs)=sumL bs) (fun _=>rfl) ?_ bs
   intro l b ih hb
   rw [zff,zua,zgq,ih (fun c hc=>hb c (by simp [hc])),hb b (by simp)]
   simp [sumL]
  have e:(brs t).foldl (fun S b=>insL (canF n b) S) []=insA n (brs t):=rfl
  rw [canF,zkH,e,gen (brs t) (fun b hb=>by
   have:=zcO h hb
   exact zbZ n b this.1 (by have:=this.2; omega)),zrM h]
end Go.Proofs.YthhdollpkieknaaGreat


namespace Go.Proofs.YthhdollpkieknaaGreat
open Go.Abs Go.Shelf Go.Sort
theorem zvy {a b:List Int} (h:ltL a b=true):ltL b a=false:=by
 cases h2:ltL b a with
 | false=>rfl
 | true=>have:=zbN h h2; rw [zg2] at this; simp at this
theorem zqt (p:List Int) (S:List (List Int)):(insL p S).Perm (p::S):=by
 unfold insL
 exact List.perm_middle.trans (by rw [List.take_append_drop])
theorem zpT (p s:List Int) (S:List (List Int)):insL p (s::S)=if ltL s p=true then p::s::S else s::insL p S:=by
 unfold insL
 rw [atL]
 split <;> simp
theorem zng (p:List Int):∀ {S:List (List Int)},S.Pairwise (fun a b=>ltL a b=false)->(insL p S).Pairwise (fun a b=>ltL a b=false)
 | [],_=>by simp [insL,atL]
 | s::S,h=>by
  obtain ⟨h1,h2⟩:=List.pairwise_cons.1 h
  rw [zpT]
  split
  .rename_i hs
   refine List.pairwise_cons.2 ⟨fun y hy=>?_,h⟩
   rcases List.mem_cons.1 hy with rfl | hy
   .exact zvy hs
   .cases hp:ltL p y with
    | false=>rfl
    | true=>have:=h1 y hy; rw [zbN hs hp] at this; exact this
  .rename_i hs
   refine List.pairwise_cons.2 ⟨fun y hy=>?_,zng p h2⟩
   rcases znA hy with rfl | hy
   .simpa using hs
   .exact h1 y hy
theorem zub (n:Nat) (bs:List (List Int)):(insA n bs).Pairwise (fun a b=>ltL a b=false) :=
 zdz (P:=fun bs=>(insA n bs).Pairwise (fun a b=>ltL a b=false)) List.Pairwise.nil (fun l a h=>by rw [zff]; exact zng _ h) bs
theorem zkw (n:Nat) (bs:List (List Int)):(insA n bs).Perm (bs.map (canF n)) :=
 zdz (P:=fun bs=>(insA n bs).Perm (bs.map (canF n))) (List.Perm.refl _) (fun l a h=>by
  rw [zff,List.map_append]
  refine (zqt _ _).trans ((h.cons _).trans ?_)
  exact (List.perm_append_comm (l₁:=[canF n a]) (l₂:=l.map (canF n)))) bs
theorem zpa {X L:List (List Int)} (hp:X.Perm L) (hX:X.Pairwise (fun a b=>ltL a b=false)) (hL:L.Pairwise (fun a b=>ltL a b=false)):X=L :=
 hp.eq_of_pairwise (fun a b _ _ h1 h2=>by
  by_cases e:a=b
  .exact e
  .have:=ziO e h1; rw [h2] at this; simp at this) hX hL
theorem zkz [DrawK] (a b:List Int) (ha:a.length<=1000000) (hb:b.length<=1000000):Con Tryz.prog 197 [.sl a.length (avs a),.sl b.length (avs b)] (.int (cmpL b a)):=by
 refine zab Tryz.mixed ⟨5,[],[],[]⟩ Tryz.func197 ?_
 rw [Tryz.ntmps197]
 simp [go_sem]
 refine CallVC.of (zgX b a (by omega) (by omega)) ?_
 simp [go_sem]
theorem zAc:SWO (Go.Proofs.ltOf fun a b:List Int=>cmpL b a):=by
 have e:(Go.Proofs.ltOf fun a b:List Int=>cmpL b a)=fun a b=>ltL b a:=by
  funext a b; exact zdJ _ _
 rw [e]
 refine ⟨fun m=>zg2 _,fun x y z h1 h2=>zbN h2 h1,fun x y z h1 h2=>?_⟩
 cases h3:ltL z x with
 | false=>rfl
 | true =>
  by_cases e:x=y
  .rw [e] at h3; rw [h3] at h2; exact h2
  .have h4:=ziO (fun x=>e x.symm) h1
   have:=zbN h3 h4
   rw [this] at h2; exact h2
theorem zcL (X:List (List Int)):(X.flatMap fun x=>[AV.own 2 x.length (avs x)])=omat X:=by
 induction X with
 | nil=>rfl
 | cons x X ih=>simp only [List.flatMap_cons,ih,omat,List.map_cons,List.singleton_append]
theorem zmu (X L:List (List Int)) (hX:X.Perm L) (hS:L.Pairwise (fun a b=>ltL a b=false)) (hl:∀ m∈L,m.length<=1000000) (hn:L.length<=1048576) :
  MCon Tryz.prog 196 [.own 25 X.length (omat X),.val (.func (.func 197) #[] #[])] (.tup []) [.own 25 X.length (omat L),.any]:=by
 have hxl:=hX.length_eq
 have hm:∀ m∈X,m.length<=1000000:=fun m hm=>hl m (hX.mem_iff.1 hm)
 obtain ⟨ys,h1,h2,h3⟩:=zo1 Tryz.sortTrees ⟨_,Tryz.func196,by decide,rfl⟩ (fun m:List Int=>.own 2 m.length (avs m)) (fun m n=>cmpL n m) zAc 197 25 (by kernel_rfl) X (by rw [zcL]; exact zic X)
  (fun x hx y hy=>by simpa [frz] using @zkz ⟨1⟩ x y (hm x hx) (hm y hy)) (by omega)
 have e:ys=L:=zpa (h1.trans hX) (h2.imp fun {a b} h=>by
  have:=zdJ a b
  rw [<- this]; simpa using h) hS
 subst e
 rw [zcL,zcL] at h3
 exact h3
theorem zf7 (S:List (List Int)) (hl:S.length<=1000) (hr:∀ b∈S,b.length<=1000/\∀ x∈b,0<=x/\x<=1000):Con Tryz.prog 198 [.sl S.length (mat S)] (.own 2 (zaQ S).length (avs (zaQ S))):=by
 have bl:∀ i,(zaQ (S.take i)).length<=1+i*1000:=fun i=>by
  rw [zkH]
  have:∀ T:List (List Int),(∀ b∈T,b.length<=1000)->sumL T<=T.length*1000:=by
   intro T
   induction T with
   | nil=>intro _; simp [sumL]
   | cons b T ih=>intro h; have:=h b (by simp); have:=ih (fun c hc=>h c (by simp [hc])); simp only [sumL,List.length_cons]; omega
  have h1:=this (S.take i) (fun b hb=>(hr b (List.mem_of_mem_take hb)).1)
  have h2:(S.take i).length<=i:=by rw [List.length_take]; omega
  have:=Nat.mul_le_mul_right 1000 h2
  omega
 refine zab Tryz.mixed ⟨8,[],[],[]⟩ Tryz.func198 ?_
 rw [Tryz.ntmps198]
 simp [go_sem]
 refine zac (3::5::7::List.range' 11 17) (fun i:Nat=>[(3,.own 2 (zaQ (S.take i)).length (avs (zaQ (S.take i)))),(11,.int i)]) (fun i=>i<=S.length) (fun i=>S.length-i) 0 (by simp) (by simp [go_sem,zaQ,avs]) (by simp [go_sem]) ?_
 intro i hi
 by_cases hiS:i<S.length
 .have hii:(i:Int)<S.length:=by omega
  have ne:¬ S=[]:=by rintro rfl; simp at hiS
  have md:=zag hiS
  obtain ⟨b1,b2⟩:=hr _ (show S[i]?.getD []∈S by simp [hiS])
  have sn:zaQ (S.take (i+1))=zaQ (S.take i)++(S[i]?.getD []).map (·+1):=by
   unfold zaQ
   rw [List.take_add_one,List.flatMap_append,List.getElem?_eq_getElem hiS]; simp
  have bli:=bl i
  generalize S[i]?.getD []=b at *
  generalize zaQ (S.take i)=R at *
  simp [go_sem,hii,md]
  refine ⟨ne,?_⟩
  refine zac (3::7::List.range' 17 10) (fun k:Nat=>[(3,.own 2 (R.length+k) (avs (R++(b.map (·+1)).take k))),(17,.int k)]) (fun k=>k<=b.length) (fun k=>b.length-k) 0 (by simp) (by simp [go_sem]) (by simp [go_sem]) ?_
  intro k hk
  by_cases hkb:k<b.length
  .have hki:(k:Int)<b.length:=by omega
   have nb:¬ b=[]:=by rintro rfl; simp at hkb
   have ad:=zae hkb
   have bx:=b2 _ (show b[k]?.getD 0∈b by simp [hkb])
   have tk:(b.map (·+1)).take (k+1)=(b.map (·+1)).take k++[b[k]?.getD 0+1]:=by
    rw [List.take_add_one]; simp [hkb]
   rw [List.getD_eq_getElem?_getD] at ad
   generalize b[k]?.getD 0=x at *
   simp [go_sem,hki,ad]
   exact ⟨nb,⟨by omega,by omega⟩,⟨by omega,by omega,by omega⟩,⟨by omega,by omega⟩,k+1,by omega,by omega,zaa _ _ _ (by simp),⟨by omega,by rw [tk,<- List.append_assoc,zam]⟩,by omega⟩
  .have e:k=b.length:=by omega
   subst e
   have hki:¬ (b.length:Int)<b.length:=by omega
   have tk:(b.map (·+1)).take b.length=b.map (·+1):=List.take_of_length_le (by simp)
   simp [go_sem,hki,tk]
   exact ⟨⟨by omega,by omega⟩,i+1,by omega,by omega,(Off.reset (by intro x hx; simp at hx |-; omega) (by simp) (by simp [go_sem,zaa])),by rw [sn]; simp,by omega⟩
 .have e:i=S.length:=by omega
  subst e
  have hii:¬ (S.length:Int)<S.length:=by omega
  rw [List.take_length]
  simp [go_sem,hii]
def cnB (n:Nat) (bs:List (List Int)) (i:Nat):List (List Int):=(bs.take i).map (canF n)++bs.drop i
theorem zvm (n:Nat) (bs:List (List Int)):cnB n bs 0=bs:=by simp [cnB]
theorem zx5 (n:Nat) (bs:List (List Int)):cnB n bs bs.length=bs.map (canF n):=by simp [cnB]
theorem zkv {A:List (List Int)} {k:Nat} (h:k<A.length):(omat A)[k]?=some (.own 2 (A[k]?.getD []).length (avs (A[k]?.getD []))):=by simp [omat,h]
theorem zB5 (n:Nat) {bs:List (List Int)} {i:Nat} (hi:i<bs.length):(omat (cnB n bs i))[i]?=some (.own 2 (bs[i]?.getD []).length (avs (bs[i]?.getD []))):=by
 have h1:i<(cnB n bs i).length:=by simp [cnB]; omega
 rw [zkv h1]
 have e:(cnB n bs i)[i]?.getD []=bs[i]?.getD []:=by
  unfold cnB
  rw [List.getElem?_append_right (by simp; omega)]; simp [Nat.min_eq_left (Nat.le_of_lt hi)]
 rw [e]
theorem zyR (n:Nat) {bs:List (List Int)} {i:Nat} (hi:i<bs.length) (hc:(canF n (bs[i]?.getD [])).length=(bs[i]?.getD []).length) :
  (omat (cnB n bs i)).set i (.own 2 (bs[i]?.getD []).length (avs (canF n (bs[i]?.getD []))))=omat (cnB n bs (i+1)):=by
 have h:=zdK (cnB n bs i) i (canF n (bs[i]?.getD []))
 rw [hc] at h
 rw [h]
 congr 1
 unfold cnB
 have e1:bs.drop i=bs[i]?.getD []::bs.drop (i+1):=by rw [List.drop_eq_getElem_cons hi]; simp [hi]
 have e2:bs.take (i+1)=bs.take i++[bs[i]?.getD []]:=by rw [List.take_add_one]; simp [hi]
 rw [e1,e2,List.map_append,List.set_append_right _ _ (by simp; omega)]
 simp [Nat.min_eq_left (Nat.le_of_lt hi)]
theorem zbE:∀ (n:Nat) (t:List Int),n<=100->Lv t->t.length<=n->Con Tryz.prog 106 [.sl t.length (avs t)] (.own 2 t.length (avs (canF n t))):=by
 intro n
 induction n with
 | zero=>intro t _ h1 h2; have:=h1.1; omega
 | succ n ih =>
  intro t hn hLv hl
  have cB:=zbe t (by omega) hLv
  have cn:=zi7 hLv
  have bo:=fun (b:List Int) hb=>zcO hLv (b:=b) hb
  have cI:=fun (b:List Int) (hb:b∈brs t)=>ih b (by omega) (bo b hb).1 (by have:=(bo b hb).2; omega)
  have cl:=fun (b:List Int) (hb:b∈brs t)=>zbZ n b (bo b hb).1 (by have:=(bo b hb).2; omega)
  have im:=fun x (hx:x∈insA n (brs t))=>znB hx
  have il:(insA n (brs t)).length=(brs t).length:=by have:=(zkw n (brs t)).length_eq; simpa using this
  have xl:∀ x∈insA n (brs t),x.length<=100/\∀ y∈x,0<=y/\y<=1000:=fun x hx=>by
   obtain ⟨b,hb,rfl⟩:=im x hx
   have:=(bo b hb).2
   exact ⟨by rw [cl b hb]; omega,fun y hy=>by have:=zuO n b y hy; omega⟩
  have cS:=zmu ((brs t).map (canF n)) (insA n (brs t)) (zkw n (brs t)).symm (zub n _) (fun x hx=>by have:=(xl x hx).1; omega) (by omega)
  have cR:=zf7 (insA n (brs t)) (by omega) (fun b hb=>⟨by have:=(xl b hb).1; omega,(xl b hb).2⟩)
  have rl:(zaQ (insA n (brs t))).length=t.length:=zbZ (n+1) t hLv hl
  have e1:canF (n+1) t=zaQ (insA n (brs t)):=rfl
  rw [e1]
  rw [rl,il] at cR
  rw [List.length_map] at cS
  clear rl e1 xl im
  generalize insA n (brs t)=S at *
  refine zab Tryz.mixed ⟨6,[],[196],[]⟩ Tryz.func106 ?_
  rw [Tryz.ntmps106]
  simp [go_sem]
  refine CallVC.of (cB) ?_
  simp [go_sem]
  generalize brs t=bs at *
  refine zfa (3::4::5::8::List.range' 10 11) (4::5::List.range' 11 10) (fun i:Nat=>[(3,.own 25 bs.length (omat (cnB n bs i))),(8,.bor 3 []),(10,.int i)]) (fun i=>i<=bs.length) (fun i=>bs.length-i) 0 (by intro x i h1 h2; have:i=3\/i=8\/i=10:=(by simp at h1 h2; omega); rcases this with rfl | rfl | rfl <;> rfl) (by intro i h; simp at h |-; omega) (by simp) (by simp [go_sem,zvm]) (by simp [go_sem,kl]) ?_
  intro i hi
  by_cases hib:i<bs.length
  .have hii:(i:Int)<bs.length:=by omega
   have gt:=zB5 n hib
   have st:=zyR n hib (cl _ (by simp [hib]))
   have cc:=cI (bs[i]?.getD []) (by simp [hib])
   generalize bs[i]?.getD []=b at *
   simp [go_sem,hii,gt]
   have cbl:i<(cnB n bs i).length:=by simp [cnB]; omega
   refine CallVC.of (cc) ?_
   simp [go_sem]
   exact ⟨hib,cbl,⟨by omega,by omega⟩,i+1,by omega,by omega,zaa _ _ _ (by simp),by first | exact ⟨st,by omega⟩ | exact st | (refine ⟨?_⟩; exact st) | (simp; exact st),by simp [kl]⟩
  .have e:i=bs.length:=by omega
   subst e
   have hii:¬ (bs.length:Int)<bs.length:=by omega
   rw [zx5]
   simp [go_sem,hii]
   refine ⟨_,_,cS,?_⟩
   simp [go_sem]
   refine CallVC.of (cR) ?_
   simp [go_sem]
end Go.Proofs.YthhdollpkieknaaGreat


namespace Go.Proofs.YthhdollpkieknaaGreat
open Go.Abs Go.Shelf Go.Sort
def ltT (s t:List Int):Bool:=if s.length=t.length then ltL t s else decide (s.length<t.length)
def cmpT (s t:List Int):Int:=if s.length=t.length then cmpL t s else (s.length:Int)-t.length
theorem znD (s t:List Int):decide (cmpT s t<0)=ltT s t:=by
 unfold cmpT ltT
 split
 .exact zdJ t s
 .congr 1; exact propext ⟨fun h=>by omega,fun h=>by omega⟩
theorem zpP (s:List Int):ltT s s=false:=by unfold ltT; rw [if_pos rfl]; exact zg2 s
theorem zfe {a b c:List Int} (h1:ltT a b=true) (h2:ltT b c=true):ltT a c=true:=by
 unfold ltT at *
 split at h1 <;> split at h2
 .rw [if_pos (by omega)]; exact zbN h2 h1
 .simp at h2; rw [if_neg (by omega)]; simp; omega
 .simp at h1; rw [if_neg (by omega)]; simp; omega
 .simp at h1 h2; rw [if_neg (by omega)]; simp; omega
theorem zrl {a b:List Int} (e:a≠b) (h:ltT a b=false):ltT b a=true:=by
 unfold ltT at *
 split at h
 .rename_i hl
  rw [if_pos hl.symm]; exact ziO (fun x=>e x.symm) h
 .rename_i hl
  simp at h; rw [if_neg (fun x=>hl x.symm)]; simp; omega
theorem zvM {a b:List Int} (h:ltT a b=true):ltT b a=false:=by
 cases h2:ltT b a with
 | false=>rfl
 | true=>have:=zfe h h2; rw [zpP] at this; simp at this
def atT (p:List Int):List (List Int)->Nat
 | []=>0
 | s::S=>if ltT p s=true then 0 else atT p S+1
theorem zwp (p:List Int):∀ S,atT p S<=S.length
 | []=>by simp [atT]
 | s::S=>by have:=zwp p S; rw [atT]; split <;> simp; omega
def insT (p:List Int) (S:List (List Int)):List (List Int):=S.take (atT p S)++p::S.drop (atT p S)
@[simp] theorem zCK (p:List Int) (S:List (List Int)):(insT p S).length=S.length+1:=by have:=zwp p S; simp [insT]; omega
theorem zt2 {p x:List Int} {S:List (List Int)} (h:x∈insT p S):x=p\/x∈S:=by
 rcases List.mem_append.1 h with h | h
 .exact .inr (List.mem_of_mem_take h)
 .rcases List.mem_cons.1 h with h | h
  .exact .inl h
  .exact .inr (List.mem_of_mem_drop h)
theorem zrP (p:List Int) (S:List (List Int)):(insT p S).Perm (p::S):=by
 unfold insT
 exact List.perm_middle.trans (by rw [List.take_append_drop])
theorem zsI (p s:List Int) (S:List (List Int)):insT p (s::S)=if ltT p s=true then p::s::S else s::insT p S:=by
 unfold insT
 rw [atT]
 split <;> simp
theorem znc (p:List Int):∀ {S:List (List Int)},S.Pairwise (fun a b=>ltT b a=false)->(insT p S).Pairwise (fun a b=>ltT b a=false)
 | [],_=>by simp [insT,atT]
 | s::S,h=>by
  obtain ⟨h1,h2⟩:=List.pairwise_cons.1 h
  rw [zsI]
  split
  .rename_i hs
   refine List.pairwise_cons.2 ⟨fun y hy=>?_,h⟩
   rcases List.mem_cons.1 hy with rfl | hy
   .exact zvM hs
   .cases hp:ltT y p with
    | false=>rfl
    | true=>have:=h1 y hy; rw [zfe hp hs] at this; exact this
  .rename_i hs
   refine List.pairwise_cons.2 ⟨fun y hy=>?_,znc p h2⟩
   rcases zt2 hy with rfl | hy
   .simpa using hs
   .exact h1 y hy
def srtT (bs:List (List Int)):List (List Int):=bs.foldl (fun S b=>insT b S) []
theorem zj2 (bs:List (List Int)) (b:List Int):srtT (bs++[b])=insT b (srtT bs):=by simp [srtT]
theorem zup (bs:List (List Int)):(srtT bs).Pairwise (fun a b=>ltT b a=false) :=
 zdz (P:=fun bs=>(srtT bs).Pairwise (fun a b=>ltT b a=false)) List.Pairwise.nil (fun l a h=>by rw [zj2]; exact znc _ h) bs
theorem zbR (bs:List (List Int)):(srtT bs).Perm bs :=
 zdz (P:=fun bs=>(srtT bs).Perm bs) (List.Perm.refl _) (fun l a h=>by
  rw [zj2]
  refine (zrP _ _).trans ((h.cons _).trans ?_)
  exact (List.perm_append_comm (l₁:=[a]) (l₂:=l))) bs
@[simp] theorem znW (bs:List (List Int)):(srtT bs).length=bs.length:=(zbR bs).length_eq
theorem zo9 {X L:List (List Int)} (hp:X.Perm L) (hX:X.Pairwise (fun a b=>ltT b a=false)) (hL:L.Pairwise (fun a b=>ltT b a=false)):X=L :=
 hp.eq_of_pairwise (fun a b _ _ h1 h2=>by
  by_cases e:a=b
  .exact e
  .have:=zrl e h2; rw [h1] at this; simp at this) hX hL
theorem zxw:SWO (Go.Proofs.ltOf cmpT):=by
 have e:(Go.Proofs.ltOf cmpT)=ltT:=by
  funext a b; exact znD _ _
 rw [e]
 refine ⟨fun m=>zpP _,fun x y z h1 h2=>zfe h1 h2,fun x y z h1 h2=>?_⟩
 cases h3:ltT x z with
 | false=>rfl
 | true =>
  by_cases e:x=y
  .rw [e] at h3; rw [h3] at h2; exact h2
  .have h4:=zrl e h1
   have:=zfe h4 h3
   rw [this] at h2; exact h2
theorem zbo [DrawK] (a b:List Int) (ha:a.length<=1000000) (hb:b.length<=1000000):Con Tryz.prog 195 [.sl a.length (avs a),.sl b.length (avs b)] (.int (cmpT a b)):=by
 unfold cmpT
 by_cases h:a.length=b.length
 .have hi:(a.length:Int)=b.length:=by omega
  rw [if_pos h]
  have c:=zgX b a (by omega) (by omega)
  refine zab Tryz.mixed ⟨5,[],[],[]⟩ Tryz.func195 ?_
  rw [Tryz.ntmps195]
  simp [go_sem,hi]
  refine CallVC.of (c) ?_
  simp [go_sem]
 .have hi:¬ (a.length:Int)=b.length:=by omega
  rw [if_neg h]
  refine zab Tryz.mixed ⟨5,[],[],[]⟩ Tryz.func195 ?_
  rw [Tryz.ntmps195]
  simp [go_sem,hi]
  omega
theorem zpv (X:List (List Int)) (hl:∀ m∈X,m.length<=1000000) (hn:X.length<=1048576) :
  MCon Tryz.prog 294 [.own 25 X.length (omat X),.int 0,.int X.length,.val (.func (.func 195) #[] #[])] (.tup []) [.own 25 X.length (omat (srtT X)),.any,.any,.any]:=by
 obtain ⟨ys,h1,h2,h3⟩:=zjn Tryz.insTrees ⟨_,Tryz.func294,by decide,rfl⟩ (fun m:List Int=>.own 2 m.length (avs m)) cmpT zxw 195 25 (by kernel_rfl) X (by rw [zcL]; exact zic X)
  (fun x hx y hy=>by simpa [frz] using @zbo ⟨1⟩ x y (hl x hx) (hl y hy)) (by omega)
 have e:ys=srtT X:=zo9 (h1.trans (zbR X).symm) (h2.imp fun {a b} h=>by
  have:=znD b a
  rw [<- this]; simpa using h) (zup X)
 subst e
 rw [zcL,zcL] at h3
 exact h3
theorem zvx (X:List (List Int)) (hl:∀ m∈X,m.length<=1000000) (hn:X.length<=19) :
  MCon Tryz.prog 287 [.own 25 X.length (omat X),.int X.length,.val (.func (.func 195) #[] #[])] (.tup []) [.own 25 X.length (omat (srtT X)),.any,.any]:=by
 have cI:=zpv X hl (by omega)
 have h1:¬ (20:Int)<=X.length:=by omega
 have h2:¬ (20:Int)<X.length:=by omega
 refine zdU Tryz.mixed ⟨10,[],[294],[]⟩ [0] Tryz.func287 ?_
 rw [Tryz.ntmps287]
 simp [go_sem]
 refine zac (7::8::List.range' 11 12) (fun _:Nat=>[(7,.int 0),(8,.int 20)]) (fun _=>True) (fun _=>0) 0 trivial (by simp [go_sem]) (by simp [go_sem]) ?_
 intro _ _
 simp [go_sem,h1]
 refine ⟨_,_,cI,?_⟩
 simp [go_sem]
 refine zac ([6,7,8,9]++List.range' 28 35) (fun _:Nat=>[(6,.int 20)]) (fun _=>True) (fun _=>0) 0 trivial (by simp [go_sem]) (by simp [go_sem]) ?_
 intro _ _
 simp [go_sem,h2]
theorem zkU (X:List (List Int)) (hl:∀ m∈X,m.length<=1000000) (hn:X.length<=19) :
  MCon Tryz.prog 240 [.own 25 X.length (omat X),.val (.func (.func 195) #[] #[])] (.tup []) [.own 25 X.length (omat (srtT X)),.any]:=by
 have cI:=zvx X hl hn
 refine zdU Tryz.mixed ⟨4,[],[287],[]⟩ [0] Tryz.func240 ?_
 rw [Tryz.ntmps240]
 simp [go_sem]
 refine ⟨_,_,cI,?_⟩
 simp [go_sem]
theorem zd4 (X:List (List Int)) (hl:∀ m∈X,m.length<=1000000) (hn:X.length<=19) :
  Con Tryz.prog 169 [.sl X.length (mat X)] (.own 25 X.length (omat (srtT X))):=by
 have cC:=zgS X (by omega) (fun r h=>by have:=hl r h; omega)
 have cI:=zkU X hl hn
 refine zab Tryz.mixed ⟨4,[],[240],[]⟩ Tryz.func169 ?_
 rw [Tryz.ntmps169]
 simp [go_sem]
 refine CallVC.of (cC) ?_
 simp [go_sem]
 refine ⟨_,_,cI,?_⟩
 simp [go_sem]
end Go.Proofs.YthhdollpkieknaaGreat


namespace Go.Proofs.YthhdollpkieknaaGreat
open Go.Abs
theorem zsZ (a b:List Int) (ha:a.length<=9223372036854775807):Con Tryz.prog 131 [.sl a.length (avs a),.sl b.length (avs b)] (.bool (decide (a=b))):=by
 by_cases hl:a.length=b.length
 .have hi:(a.length:Int)=b.length:=by omega
  refine zab Tryz.mixed ⟨7,[],[],[]⟩ Tryz.func131 ?_
  rw [Tryz.ntmps131]
  simp [go_sem,hi]
  refine zac (4::5::List.range' 13 13) (fun i:Nat=>[(13,.int i)]) (fun i=>i<=b.length/\a.take i=b.take i) (fun i=>b.length-i) 0 (by simp) (by simp [go_sem]) (by simp [go_sem]) ?_
  intro i hi
  simp [go_sem]
  refine ⟨fun h=>?_,fun h=>?_⟩ <;> simp at h
  .have h2:i<a.length:=by omega
   simp [go_sem,zae h,zae h2]
   refine ⟨by kernel_rfl,⟨h2,by rintro rfl; simp at h2⟩,⟨h,by rintro rfl; simp at h⟩,?_⟩
   refine ⟨by kernel_rfl,?_⟩
   simp [go_sem]
   refine ⟨fun h3=>?_,fun h3=>?_⟩ <;> simp at h3 <;> simp [go_sem]
   .rintro rfl; exact h3 rfl
   .refine ⟨by omega,i+1,⟨by omega,?_⟩,by omega,zaa _ _ _ (by simp),by omega⟩
    rw [List.take_add_one,List.take_add_one,hi.2]
    rw [List.getElem?_eq_getElem h,List.getElem?_eq_getElem h2] at h3 |-
    simp only [Option.getD_some] at h3
    rw [h3]
  .simp [go_sem]
   have e:i=b.length:=by omega
   subst e
   have:=hi.2
   rw [List.take_length,<- hl,List.take_length] at this
   exact this
 .have e:decide (a=b)=false:=by
   rw [decide_eq_false_iff_not]; intro h; exact hl (by rw [h])
  rw [e]
  have hi:¬ (a.length:Int)=b.length:=by omega
  refine zab Tryz.mixed ⟨7,[],[],[]⟩ Tryz.func131 ?_
  rw [Tryz.ntmps131]
  simp [go_sem,hi]
end Go.Proofs.YthhdollpkieknaaGreat


namespace Go.Proofs.YthhdollpkieknaaGreat
open Go.Abs
def runT (l:List (List Int)) (i:Nat) (s:Int):Int:=if 0<i/\l[i-1]?.getD []≠l[i]?.getD [] then 1 else s+1
def symP (g:List Int->Int) (l:List (List Int)):Nat->Int × Int
 | 0=>(1,0)
 | i+1=>((symP g l i).1*(runT l i (symP g l i).2*g (l[i]?.getD [])),runT l i (symP g l i).2)
def symF:Nat->List Int->Int
 | 0,_=>1
 | n+1,t=>(symP (symF n) (srtT (brs (canF (n+1) t))) (srtT (brs (canF (n+1) t))).length).1
def okS:Nat->List Int->Bool
 | 0,_=>false
 | n+1,t=>lv0 t && decide (t.length<=n+1) && lv0 (canF (n+1) t) && decide ((srtT (brs (canF (n+1) t))).length<=19) &&
   (srtT (brs (canF (n+1) t))).all (fun b=>okS n b && decide (0<=symF n b/\symF n b<=1000000)) &&
   (List.range ((srtT (brs (canF (n+1) t))).length+1)).all fun i=>decide (0<=(symP (symF n) (srtT (brs (canF (n+1) t))) i).1/\(symP (symF n) (srtT (brs (canF (n+1) t))) i).1<=1000000/\0<=(symP (symF n) (srtT (brs (canF (n+1) t))) i).2/\(symP (symF n) (srtT (brs (canF (n+1) t))) i).2<=100)
theorem zjA {n:Nat} {t:List Int} (h:okS (n+1) t=true):Lv t/\t.length<=n+1/\Lv (canF (n+1) t)/\(srtT (brs (canF (n+1) t))).length<=19 /\
  (∀ b∈srtT (brs (canF (n+1) t)),okS n b=true/\0<=symF n b/\symF n b<=1000000) /\
  ∀ i,i<=(srtT (brs (canF (n+1) t))).length->0<=(symP (symF n) (srtT (brs (canF (n+1) t))) i).1/\(symP (symF n) (srtT (brs (canF (n+1) t))) i).1<=1000000/\0<=(symP (symF n) (srtT (brs (canF (n+1) t))) i).2/\(symP (symF n) (srtT (brs (canF (n+1) t))) i).2<=100:=by
 unfold okS at h
 simp only [Bool.and_eq_true,decide_eq_true_eq,List.all_eq_true] at h
 obtain ⟨⟨⟨⟨⟨h1,h2⟩,h3⟩,h4⟩,h5⟩,h6⟩:=h
 exact ⟨zxc h1,h2,zxc h3,h4,fun b hb=>h5 b hb,fun i hi=>h6 i (by simpa using Nat.lt_succ_of_le hi)⟩
theorem zzw:∀ {n:Nat} {t:List Int},okS n t=true->t.length<=n
 | 0,t,h=>by simp [okS] at h
 | n+1,t,h=>(zjA h).2.1
theorem ziD:∀ (n:Nat) (t:List Int),n<=100->okS n t=true->Con Tryz.prog 83 [.sl t.length (avs t)] (.int (symF n t))
 | 0,t,_,h=>by simp [okS] at h
 | n+1,t,hn,h=>by
  obtain ⟨hLv,hl,hcv,hk,hb,hp⟩:=zjA h
  have ih:=fun b (h:b∈srtT (brs (canF (n+1) t)))=>ziD n b (by omega) (hb b h).1
  have hlen:=fun b (h:b∈srtT (brs (canF (n+1) t)))=>zzw (hb b h).1
  have cC:=zbE (n+1) t hn hLv hl
  have cl:=zbZ (n+1) t hLv hl
  have cB:=zbe (canF (n+1) t) (by omega) hcv
  rw [cl] at cB
  have cF:=zd4 (brs (canF (n+1) t)) (fun m hm=>by have:=hlen m ((zbR _).mem_iff.2 hm); omega) (by have:=hk; rw [znW] at this; exact this)
  have sl:=znW (brs (canF (n+1) t))
  rw [<- sl] at cF cB
  have e1:symF (n+1) t=(symP (symF n) (srtT (brs (canF (n+1) t))) (srtT (brs (canF (n+1) t))).length).1:=rfl
  rw [e1]
  clear e1 sl cl
  generalize canF (n+1) t=u at *
  generalize srtT (brs u)=l at *
  refine zab Tryz.mixed ⟨8,[11],[],[]⟩ Tryz.func83 ?_
  rw [Tryz.ntmps83]
  simp [go_sem]
  refine CallVC.of (cC) ?_
  simp [go_sem]
  refine CallVC.of (cB) ?_
  simp [go_sem]
  refine CallVC.of (cF) ?_
  simp [go_sem]
  refine zac ([3,5,6,7]++List.range' 14 26) (fun i:Nat=>[(3,.int (symP (symF n) l i).1),(5,.int (symP (symF n) l i).2),(14,.int i)]) (fun i=>i<=l.length) (fun i=>l.length-i) 0 (by simp) (by simp [go_sem,symP]) (by simp [go_sem]) ?_
  intro i hi
  simp [go_sem]
  refine ⟨fun h=>?_,fun h=>?_⟩ <;> simp at h
  .have h0:=hp i hi
   have h1:=hp (i+1) (by omega)
   have hm:l[i]?.getD []∈l:=by simp [h]
   have cS:=ih _ hm
   have lS:=hlen _ hm
   have gS:=(hb _ hm).2
   have s1:(symP (symF n) l (i+1)).1=(symP (symF n) l i).1*(runT l i (symP (symF n) l i).2*symF n (l[i]?.getD [])):=rfl
   have s2:(symP (symF n) l (i+1)).2=runT l i (symP (symF n) l i).2:=rfl
   rw [s1,s2] at h1
   have hd:=zag h
   rw [s1.symm.trans rfl] at h1
   have pr:∀ r g:Int,0<=r->r<=100->0<=g->g<=1000000->0<=r*g/\r*g<=100000000:=fun r g a1 a2 a3 a4=>⟨Int.mul_nonneg a1 a3,by have:=Int.mul_le_mul a2 a4 a3 (by omega); omega⟩
   have q:=pr _ _ h1.2.2.1 h1.2.2.2 gS.1 gS.2
   by_cases h00:i=0
   .subst h00
    have e:runT l 0 (symP (symF n) l 0).2=(symP (symF n) l 0).2+1:=by unfold runT; rw [if_neg (by omega)]
    rw [e] at s1 s2 h1 q
    rw [s1] at h1
    generalize hO:(symP (symF n) l (0+1)).1=o2 at *
    generalize hS:(symP (symF n) l (0+1)).2=s2' at *
    generalize (symP (symF n) l 0).1=o at *
    generalize (symP (symF n) l 0).2=s at *
    generalize symF n (l[0]?.getD [])=g at *
    generalize l[0]?.getD []=b at *
    have ne:¬ l=[]:=by rintro rfl; simp at h
    simp [go_sem,hd]
    refine ⟨⟨by omega,ne⟩,⟨by omega,by omega⟩,?_⟩
    refine CallVC.of (cS) ?_
    simp [go_sem]
    refine ⟨⟨by omega,by omega⟩,⟨by omega,by omega⟩,0+1,by omega,by omega,zaa _ _ _ (by simp),?_⟩
    rw [hO,hS,s1,s2]
    exact ⟨rfl,rfl,by omega⟩
   .obtain ⟨j,rfl⟩:∃ j,i=j+1:=⟨i-1,by omega⟩
    have hj:j<l.length:=by omega
    have hdj:=zag hj
    have hmj:l[j]?.getD []∈l:=by simp [hj]
    have lSj:=hlen _ hmj
    have cE:=zsZ (l[j]?.getD []) (l[j+1]?.getD []) (by omega)
    have e:runT l (j+1) (symP (symF n) l (j+1)).2=if l[j]?.getD []=l[j+1]?.getD [] then (symP (symF n) l (j+1)).2+1 else 1:=by
     unfold runT
     rw [show j+1-1=j by omega]
     by_cases x:l[j]?.getD []=l[j+1]?.getD []
     .rw [if_neg (by simp [x]),if_pos x]
     .rw [if_pos ⟨by omega,x⟩,if_neg x]
    rw [e] at s1 s2 h1 q
    rw [s1] at h1
    generalize hO:(symP (symF n) l (j+1+1)).1=o2 at *
    generalize hS:(symP (symF n) l (j+1+1)).2=s2' at *
    generalize (symP (symF n) l (j+1)).1=o at *
    generalize (symP (symF n) l (j+1)).2=s at *
    generalize symF n (l[j+1]?.getD [])=g at *
    generalize l[j+1]?.getD []=b at *
    generalize l[j]?.getD []=b0 at *
    have hj1:(0:Int)<j+1:=by omega
    have ne:¬ l=[]:=by rintro rfl; simp at h
    by_cases x:b0=b
    .rw [decide_eq_true x] at cE
     rw [if_pos x] at s1 s2 h1 q
     simp [go_sem,hd,hdj,hj1]
     refine ⟨⟨by omega,by omega,ne⟩,⟨by omega,by omega⟩,by omega,⟨hj,ne⟩,?_⟩
     refine CallVC.of (cE) ?_
     simp [go_sem]
     refine CallVC.of (cS) ?_
     simp [go_sem]
     refine ⟨⟨by omega,by omega⟩,⟨by omega,by omega⟩,⟨by omega,by omega⟩,j+1+1,by omega,by omega,zaa _ _ _ (by simp),?_⟩
     rw [hO,hS,s1,s2]
     exact ⟨rfl,rfl,by omega⟩
    .rw [decide_eq_false x] at cE
     rw [if_neg x] at s1 s2 h1 q
     rw [Int.one_mul] at s1 h1 q
     simp [go_sem,hd,hdj,hj1]
     refine ⟨⟨by omega,by omega,ne⟩,⟨by omega,by omega⟩,by omega,⟨hj,ne⟩,?_⟩
     refine CallVC.of (cE) ?_
     simp [go_sem]
     refine CallVC.of (cS) ?_
     simp [go_sem]
     refine ⟨⟨by omega,by omega⟩,⟨by omega,by omega⟩,⟨by omega,by omega⟩,j+1+1,by omega,by omega,zaa _ _ _ (by simp),?_⟩
     rw [hO,hS,s1,s2]
     exact ⟨rfl,rfl,by omega⟩
  .have e:i=l.length:=by omega
   subst e
   simp [go_sem]
end Go.Proofs.YthhdollpkieknaaGreat


namespace Go.Proofs.YthhdollpkieknaaGreat
open Go.Abs
end Go.Proofs.YthhdollpkieknaaGreat


namespace Go.Proofs.YthhdollpkieknaaGreat
open Go.Abs
def mapB (a:List Int):Bool:=decide (a.length=38) && zbS a
theorem zfs (a:List Int) (ha:a.length<=9223372036854775807):Con Tryz.prog 77 [.sl a.length (avs a)] (.bool (mapB a)):=by
 have cN:=zcl a ha
 unfold mapB
 by_cases h:a.length=38
 .have hi:(a.length:Int)=38:=by omega
  rw [decide_eq_true h]
  refine zab Tryz.mixed ⟨3,[],[],[]⟩ Tryz.func77 ?_
  rw [Tryz.ntmps77]
  simp [go_sem,hi]
  refine CallVC.of (cN) ?_
  simp [go_sem]
 .have hi:¬ (a.length:Int)=38:=by omega
  rw [decide_eq_false h]
  refine zab Tryz.mixed ⟨3,[],[],[]⟩ Tryz.func77 ?_
  rw [Tryz.ntmps77]
  simp [go_sem,hi]
end Go.Proofs.YthhdollpkieknaaGreat


namespace Go.Proofs.YthhdollpkieknaaGreat
open Go.Abs
def hadS (s:Nat) (a v:List Int):List Int:=tb (fun j=>a[j]?.getD 0*v[j]?.getD 0%10007) s
@[simp] theorem zvJ (s:Nat) (a v:List Int):(hadS s a v).length=s:=by simp [hadS]
theorem zA9 (s:Nat) (a v:List Int):Ns (hadS s a v):=tb_N fun j _=>zaf _
def hadL (s:Nat) (a:List Int):List (List Int)->List Int
 | []=>a
 | v::l=>hadL s (hadS s a v) l
theorem ztX (s:Nat) (l r:List (List Int)):∀ a,hadL s a (l++r)=hadL s (hadL s a l) r:=by
 induction l with
 | nil=>intro a; rfl
 | cons v l ih=>intro a; exact ih _
theorem zqC {s:Nat} {a:List Int} {l:List (List Int)} {i:Nat} (h:i<l.length):hadL s a (l.take (i+1))=hadS s (hadL s a (l.take i)) (l[i]?.getD []):=by
 rw [List.take_add_one,List.getElem?_eq_getElem h,Option.toList_some,ztX]; rfl
theorem zsE {s:Nat} {a:List Int} (h:a.length=s/\Ns a) (l:List (List Int)):(hadL s a l).length=s/\Ns (hadL s a l):=by
 induction l generalizing a with
 | nil=>exact h
 | cons v l ih=>exact ih ⟨zvJ _ _ _,zA9 _ _ _⟩
def stwF (A:List (List Int)) (s:Nat):Nat->List Int->List Int
 | 0,_=>List.replicate s 1
 | m+1,t=>hadL s (List.replicate s 1) ((brs t).map fun b=>tim A (stwF A s m b))
theorem zmg (s:Nat):(List.replicate s (1:Int)).length=s/\Ns (List.replicate s (1:Int)):=⟨by simp,fun x hx=>by
 rw [List.mem_replicate] at hx
 rw [hx.2]; exact ⟨by omega,by omega⟩⟩
theorem zg7 (A:List (List Int)) (s:Nat):∀ n t,(stwF A s n t).length=s/\Ns (stwF A s n t)
 | 0,t=>zmg s
 | n+1,t=>zsE (zmg s) _
def tlL (k:Nat):List Int:=tb (fun i=>(i:Int)) k
@[simp] theorem zzN (k:Nat):(tlL k).length=k:=by simp [tlL]
def ovL (new old:List Int) (s j:Nat):List Int:=tb (fun k=>if k<j then new[k]?.getD 0 else old[k]?.getD 0) s
@[simp] theorem zDZ (new old:List Int) (s j:Nat):(ovL new old s j).length=s:=by simp [ovL]
theorem zxQ {new old:List Int} {s j:Nat} (h:j<s):(ovL new old s j)[j]?.getD 0=old[j]?.getD 0:=by
 unfold ovL; rw [zaP _ h,if_neg (by omega)]
theorem zvh {new old:List Int} {s:Nat} (h:old.length=s):ovL new old s 0=old:=by
 refine List.ext_getElem (by simp [h]) fun k h1 h2=>?_
 simp [ovL,tb,h2]
theorem zxH {new old:List Int} {s:Nat} (h:new.length=s):ovL new old s s=new:=by
 refine List.ext_getElem (by simp [h]) fun k h1 h2=>?_
 have:k<s:=by omega
 simp [ovL,tb,h2,this]
theorem zxz {new old:List Int} {s j:Nat} (h:j<s):(ovL new old s j).set j (new[j]?.getD 0)=ovL new old s (j+1):=by
 refine List.ext_getElem (by simp) fun k h1 h2=>?_
 have hk:k<s:=by simpa using h2
 rw [List.getElem_set]
 by_cases e:j=k
 .subst e
  rw [if_pos rfl]
  simp [ovL,tb]
 .rw [if_neg e]
  have:k<j+1 ↔ k<j:=by omega
  simp [ovL,tb,this]
theorem zea (A:List (List Int)) (B:List Int) (hT:Tab A B) :
  ∀ (n:Nat) (t:List Int),Lv t->t.length<=n->t.length<=1048576->Con Tryz.prog 235 [.agg [.sl A.length (mat A),.sl B.length (avs B)],.sl t.length (avs t)] (.own 2 B.length (avs (stwF A B.length n t)))
 | 0,t,hL,hn,_=>by have:=hL.1; omega
 | n+1,t,hL,hn,hl=>by
  have hp:=hT.pos
  have hle:=hT.le
  have hAB:=hT.len
  have cB:=zbe t hl hL
  have ih:=fun b (hb:b∈brs t)=>zea A B hT n b (zcO hL hb).1 (by have:=(zcO hL hb).2; omega) (by have:=(zcO hL hb).2; omega)
  have hcnt:(brs t).length<t.length:=by
   have h:=zjg hL (i:=t.length) hL.1 (Nat.le_refl _)
   rwa [List.take_of_length_le (Nat.le_refl _)] at h
  have hd:stwF A B.length (n+1) t=hadL B.length (List.replicate B.length 1) ((brs t).map fun b=>tim A (stwF A B.length n b)):=rfl
  rw [hd]
  refine zab Tryz.mixed ⟨10,[],[],[]⟩ Tryz.func235 ?_
  rw [Tryz.ntmps235]
  simp [go_sem]
  refine CallVC.of (zDP _ _ _ _) ?_
  simp [go_sem]
  refine CallVC.of (zvz 1 B.length hp (by omega)) ?_
  simp [go_sem]
  refine CallVC.of (cB) ?_
  simp [go_sem]
  generalize brs t=L at *
  refine zac ([5,7,8,9,15]++List.range' 17 27) (fun i:Nat=>[(5,.own 2 B.length (avs (hadL B.length (List.replicate B.length 1) ((L.map fun b=>tim A (stwF A B.length n b)).take i)))),(15,.own 25 L.length (omat L)),(17,.int i)]) (fun i=>i<=L.length) (fun i=>L.length-i) 0 (by simp) (by simp [go_sem,hadL]) (by simp [go_sem]) ?_
  intro i hi
  by_cases hiL:i<L.length
  .have hii:(i:Int)<L.length:=by omega
   have hb:L[i]?.getD []∈L:=by simp [hiL]
   have cS:=ih _ hb
   have ok:=zg7 A B.length n (L[i]?.getD [])
   have cA:=ztv A B (stwF A B.length n (L[i]?.getD [])) (by rw [ok.1]; exact hT.a) (by omega) (by omega) ok.2
   rw [ok.1] at cA
   have hm:i<(L.map fun b=>tim A (stwF A B.length n b)).length:=by simpa using hiL
   have ht:=zqC (s:=B.length) (a:=List.replicate B.length 1) hm
   have hg:(L.map fun b=>tim A (stwF A B.length n b))[i]?.getD []=tim A (stwF A B.length n (L[i]?.getD [])):=by simp [hiL]
   rw [hg] at ht
   have o1:=zsE (zmg B.length) ((L.map fun b=>tim A (stwF A B.length n b)).take i)
   have o2:(tim A (stwF A B.length n (L[i]?.getD []))).length=B.length/\Ns (tim A (stwF A B.length n (L[i]?.getD []))):=⟨by simp [hAB],zEj _ _⟩
   have hgt:=zbz hiL
   generalize tim A (stwF A B.length n (L[i]?.getD []))=w at *
   generalize stwF A B.length n (L[i]?.getD [])=u at *
   generalize hadL B.length (List.replicate B.length 1) ((L.map fun b=>tim A (stwF A B.length n b)).take i)=old at *
   generalize hnw:hadL B.length (List.replicate B.length 1) ((L.map fun b=>tim A (stwF A B.length n b)).take (i+1))=new at *
   have hw:w.length=A.length:=by omega
   simp [go_sem,hii,hgt]
   refine ⟨by kernel_rfl,?_⟩
   refine CallD.of (cS) ?_
   simp [go_sem]
   refine CallD.of (cA) ?_
   simp [go_sem]
   refine ⟨by kernel_rfl,?_⟩
   simp [go_sem]
   refine zac ([5,8,9]++List.range' 27 16) (fun j:Nat=>[(5,.own 2 B.length (avs (ovL new old B.length j))),(27,.int j)]) (fun j=>j<=B.length) (fun j=>B.length-j) 0 (by simp) (by simp [go_sem,zvh o1.1]) (by simp [go_sem]) ?_
   intro j hj
   by_cases hjs:j<B.length
   .have hji:(j:Int)<A.length:=by omega
    have hjw:j<w.length:=by omega
    have hjo:j<(ovL new old B.length j).length:=by simpa using hjs
    have g1:=zbL hjo
    have g2:=zbL hjw
    rw [zxQ hjs] at g1
    have n1:=o1.2.get j
    have n2:=o2.2.get j
    have hs:=zxz (new:=new) (old:=old) hjs
    have hnew:new[j]?.getD 0=old[j]?.getD 0*w[j]?.getD 0%10007:=by rw [ht]; exact zaP _ hjs
    have fm:=zax n1 n2
    have cN:=za3 _ fm.1 fm.2
    rw [<- hnew] at cN
    have hset:=za0 (ovL new old B.length j) j (new[j]?.getD 0)
    rw [hs] at hset
    generalize old[j]?.getD 0=x at *
    generalize w[j]?.getD 0=y at *
    generalize new[j]?.getD 0=z at *
    generalize ovL new old B.length j=O at *
    simp [go_sem,hji,g1,g2]
    refine ⟨by omega,fm,?_⟩
    refine CallVC.of (cN) ?_
    simp [go_sem]
    exact ⟨by omega,by omega,⟨by omega,by omega⟩,j+1,by omega,by omega,zaa _ _ _ (by simp),hset,by omega⟩
   .have e:j=B.length:=by omega
    have hji:¬ (j:Int)<A.length:=by omega
    have nl:new.length=B.length:=by rw [ht]; simp
    rw [e] at hji
    rw [e,zxH nl]
    simp [go_sem,hji]
    exact ⟨⟨by omega,by omega⟩,i+1,by omega,by omega,(Off.reset (by intro x hx; simp at hx |-; omega) (by simp) (by simp [go_sem,zaa])),hnw.symm,by omega⟩
  .have e:i=L.length:=by omega
   have e2:(L.map fun b=>tim A (stwF A B.length n b)).take i=L.map fun b=>tim A (stwF A B.length n b):=List.take_of_length_le (by simp; omega)
   rw [e2]
   simp [go_sem,e]
theorem zmQ (A:List (List Int)) (B:List Int) (hT:Tab A B) (n:Nat) (t:List Int) (hL:Lv t) (hn:t.length<=n) (hl:t.length<=1048576) :
  Con Tryz.prog 159 [.agg [.sl A.length (mat A),.sl B.length (avs B)],.sl t.length (avs t)] (.int (dotI B (stwF A B.length n t)%10007)):=by
 have cS:=zea A B hT n t hL hn hl
 have ok:=zg7 A B.length n t
 have hle:=hT.le
 have cD:=zCf B (stwF A B.length n t) (by omega) (by omega) hT.b ok.2
 rw [ok.1] at cD
 refine zab Tryz.mixed ⟨5,[],[],[]⟩ Tryz.func159 ?_
 rw [Tryz.ntmps159]
 simp [go_sem]
 refine ⟨by kernel_rfl,?_⟩
 refine CallD.of (cS) ?_
 simp [go_sem]
 refine CallD.of (cD) ?_
 simp [go_sem]
 refine ⟨by kernel_rfl,?_⟩
 simp [go_sem]
end Go.Proofs.YthhdollpkieknaaGreat


namespace Go.Proofs.YthhdollpkieknaaGreat
open Go.Abs
def pF (t:List Int):Nat->Option Nat
 | 0=>none
 | j+1=>if t[j]?.getD 0<=1 then pF t j else some j
def qF (t:List Int) (v:Int):Nat->Option Nat
 | 0=>none
 | j+1=>if t[j]?.getD 0=v then some j else qF t v j
def fiS (t:List Int) (d p:Nat):Nat->List Int
 | 0=>t
 | k+1=>(fiS t d p k).set (p+k) ((fiS t d p k)[p+k-d]?.getD 0)
@[simp] theorem zlO (t:List Int) (d p:Nat):∀ k,(fiS t d p k).length=t.length
 | 0=>rfl
 | k+1=>by simp [fiS,zlO t d p k]
def genT:Nat->List Int->List (List Int)
 | 0,_=>[]
 | k+1,t=>t::match pF t t.length with
  | none=>[]
  | some p=>match qF t (t[p]?.getD 0-1) p with
   | none=>[]
   | some q=>genT k (fiS t (p-q) p (t.length-p))
def chkT:Nat->List Int->Bool
 | 0,_=>false
 | k+1,t=>t.all (fun x=>decide (0<=x/\x<=100)) && match pF t t.length with
  | none=>true
  | some p=>match qF t (t[p]?.getD 0-1) p with
   | none=>false
   | some q=>chkT k (fiS t (p-q) p (t.length-p))
theorem zA1 {t:List Int} {v:Int}:∀ {j q:Nat},qF t v j=some q->q<j/\t[q]?.getD 0=v
 | j+1,q,h=>by
  rw [qF] at h
  split at h
  .injection h with h; subst h; exact ⟨by omega,by assumption⟩
  .have:=zA1 h; exact ⟨by omega,this.2⟩
theorem zqh (n F:Nat) (hn:n<=1000) (hF:F<=1000000) (hc:chkT F (upTo n)=true):Con Tryz.prog 168 [.int n] (.own 25 (genT F (upTo n)).length (omat (genT F (upTo n)))):=by
 refine zab Tryz.mixed ⟨9,[],[],[]⟩ Tryz.func168 ?_
 rw [Tryz.ntmps168]
 simp [go_sem]
 refine zac (3::5::List.range' 12 8) (fun i:Nat=>[(3,.own 2 i (avs (upTo i))),(12,.int i)]) (fun i=>i<=n) (fun i=>n-i) 0 (by simp) (by simp [go_sem,upTo]) (by simp [go_sem]) ?_
 intro i hi
 simp [go_sem]
 refine ⟨fun h=>?_,fun h=>?_⟩ <;> simp at h
 .simp [go_sem]
  refine ⟨⟨by omega,by omega⟩,by omega,i+1,by omega,by omega,zaa _ _ _ (by simp),by rw [zqM,zam]; exact ⟨rfl,rfl⟩,by omega⟩
 .have e:i=n:=by omega
  subst e
  simp [go_sem]
  refine zac (2::3::4::6::7::8::List.range' 20 52) (fun x:Nat × List Int × List (List Int)=>[(3,.own 2 i (avs x.2.1)),(4,.own 25 x.2.2.length (omat x.2.2))]) (fun x=>x.2.2++genT x.1 x.2.1=genT F (upTo i)/\chkT x.1 x.2.1=true/\x.2.1.length=i/\x.2.2.length+x.1<=F) (fun x=>x.1) (F,upTo i,[]) ⟨by simp,hc,by simp,by simp⟩ (by simp [go_sem,zba]) (by simp [go_sem]) ?_
  rintro ⟨k,t,done⟩ ⟨hg,hk,hl,hdl⟩
  simp only at hg hk hl hdl
  cases k with
  | zero=>simp [chkT] at hk
  | succ k =>
   rw [chkT] at hk
   rw [genT] at hg
   simp only [Bool.and_eq_true] at hk
   obtain ⟨hb,hk⟩:=hk
   have hb2:∀ j:Nat,0<=t[j]?.getD 0/\t[j]?.getD 0<=100:=fun j=>by
    rcases Nat.lt_or_ge j t.length with hj | hj
    .have:=(List.all_eq_true.1 hb) _ (List.getElem_mem hj)
     simp only [decide_eq_true_eq] at this
     simpa [hj] using this
    .simp [List.getElem?_eq_none hj]
   have cC:=zr1 t (by omega)
   rw [hl] at cC hk hg
   simp [go_sem]
   refine CallVC.of (cC) ?_
   simp [go_sem]
   refine ⟨⟨by omega,by omega⟩,⟨by omega,by omega⟩,?_⟩
   refine zac (6::List.range' 27 11) (fun j:Nat=>[(6,.int ((j:Int)-1))]) (fun j=>j<=i/\pF t i=pF t j) (fun j=>j) i ⟨by omega,rfl⟩ (by simp [go_sem]) (by simp [go_sem]) ?_
   rintro j ⟨hj,hpj⟩
   rcases j with _ | j
   .rw [hpj,pF] at hg
    simp [go_sem]
    rw [<- hg,zaZ,zbq,hl]
    exact ⟨by simp,rfl⟩
   .have hjt:j<t.length:=by omega
    have ej:((j+1:Nat):Int)-1=j:=by omega
    have j0:(0:Int)<=j:=by omega
    by_cases ht:t[j]?.getD 0<=1
    .rw [pF,if_pos ht] at hpj
     simp [go_sem,ej,j0,zbL hjt,ht]
     exact ⟨by omega,⟨by omega,by omega⟩,j,⟨by omega,hpj⟩,by omega,zaa _ _ _ (by simp),by omega⟩
    .rw [pF,if_neg ht] at hpj
     rw [hpj] at hg hk
     simp only at hg hk
     have jn:¬ (j:Int)<0:=by omega
     cases hq:qF t (t[j]?.getD 0-1) j with
     | none=>rw [hq] at hk; simp at hk
     | some q =>
      rw [hq] at hg hk
      simp only at hg hk
      have hql:=zA1 hq
      have b1:=hb2 j
      simp [go_sem,ej,j0,zbL hjt,ht,jn]
      refine ⟨by omega,⟨by omega,by omega⟩,?_⟩
      refine zac (7::List.range' 43 12) (fun r:Nat=>[(7,.int ((r:Int)-1))]) (fun r=>r<=j/\qF t (t[j]?.getD 0-1) r=some q) (fun r=>r) j ⟨by omega,hq⟩ (by simp [go_sem]) (by simp [go_sem]) ?_
      rintro r ⟨hr,hqr⟩
      rcases r with _ | r
      .simp [qF] at hqr
      .have hrt:r<t.length:=by omega
       have er:((r+1:Nat):Int)-1=r:=by omega
       by_cases hv:t[r]?.getD 0=t[j]?.getD 0-1
       .rw [qF,if_pos hv] at hqr
        injection hqr with hqr
        subst hqr
        simp [go_sem,er,zbL hrt,zbL hjt,hv]
        refine ⟨by kernel_rfl,by omega,by omega,⟨by omega,by omega⟩,?_⟩
        refine ⟨by kernel_rfl,?_⟩
        simp [go_sem]
        refine zac (3::8::List.range' 56 16) (fun e:Nat=>[(3,.own 2 i (avs (fiS t (j-r) j e))),(8,.int ((j+e:Nat):Int))]) (fun e=>j+e<=i) (fun e=>i-e) 0 (by omega) (by simp [go_sem,fiS]) (by simp [go_sem]) ?_
        intro e he
        simp [go_sem]
        refine ⟨fun h=>?_,fun h=>?_⟩ <;> simp at h
        .have hlf:=zlO t (j-r) j e
         have k1:j+e-(j-r)<(fiS t (j-r) j e).length:=by omega
         have k2:j+e<(fiS t (j-r) j e).length:=by omega
         have ix:((j:Int)+e-(j-r))=((j+e-(j-r):Nat):Int):=by omega
         have hs:fiS t (j-r) j (e+1)=(fiS t (j-r) j e).set (j+e) ((fiS t (j-r) j e)[j+e-(j-r)]?.getD 0):=rfl
         generalize hF1:fiS t (j-r) j (e+1)=F1 at *
         generalize fiS t (j-r) j e=F0 at *
         have ix2:((j:Int)+e-(j-r)).toNat=j+e-(j-r):=by omega
         have ij2:((j:Int)+e).toNat=j+e:=by omega
         simp [go_sem,ix2,zbL k1,ij2]
         refine ⟨⟨by omega,by omega⟩,⟨by omega,by omega⟩,⟨by omega,by omega⟩,⟨by omega,by omega⟩,k2,⟨by omega,by omega⟩,e+1,by omega,by omega,zaa _ _ _ (by simp),?_,by omega⟩
         rw [hF1,hs,za0]
        .have en:e=i-j:=by omega
         subst en
         have h1:done++[t]++genT k (fiS t (j-r) j (i-j))=genT F (upTo i):=by rw [<- hg]; simp
         simp [go_sem]
         refine ⟨k,fiS t (j-r) j (i-j),done++[t],⟨h1,hk,by rw [zlO]; exact hl,by simp; omega⟩,by omega,(by repeat (first | exact zaa _ _ _ (by simp) | (refine Off.reset (by intro x hx; simp at hx |-; omega) (by simp) ?_; simp -failIfUnchanged [go_sem,zaa]))),rfl,?_⟩
         rw [zaZ,zbq,hl]
         exact ⟨by simp,rfl⟩
       .rw [qF,if_neg hv] at hqr
        simp [go_sem,er,zbL hrt,zbL hjt,hv]
        refine ⟨by kernel_rfl,by omega,by omega,⟨by omega,by omega⟩,?_⟩
        refine ⟨by kernel_rfl,?_⟩
        simp [go_sem]
        exact ⟨⟨by omega,by omega⟩,r,⟨by omega,hqr⟩,by omega,zaa _ _ _ (by simp),by omega⟩
end Go.Proofs.YthhdollpkieknaaGreat


namespace Go.Proofs.YthhdollpkieknaaGreat
open Go.Abs
def grwL:Nat->List Int->List (List Int)->List (List Int)
 | 0,t,L=>if canF t.length t=t then L++[t] else L
 | k+1,t,L=>(List.range (t[t.length-1]?.getD 0+1).toNat).foldl (fun (L:List (List Int)) (i:Nat)=>grwL k (t++[t[t.length-1]?.getD 0+1-(i:Int)]) L) L
theorem zo4:∀ n:Nat,1<=n->n<=6->chkT 200 (upTo n)=true/\genT 200 (upTo n)=grwL (n-1) [0] []/\(genT 200 (upTo n)).all lvB=true:=by
 have h:∀ n∈[1,2,3,4,5,6],(chkT 200 (upTo n) && decide (genT 200 (upTo n)=grwL (n-1) [0] []) && (genT 200 (upTo n)).all lvB)=true:=by decide +kernel
 intro n h1 h6
 have:=h n (by simp; omega)
 simp only [Bool.and_eq_true,decide_eq_true_eq] at this
 exact ⟨this.1.1,this.1.2,this.2⟩
end Go.Proofs.YthhdollpkieknaaGreat


namespace Go.Proofs.YthhdollpkieknaaGreat
open Go.Abs CR
theorem zjd (f:Nat->Int):∀ n,dsum (fun i=>f (n-1-i)) n=dsum f n
 | 0=>rfl
 | n+1=>by
  rw [zcT]
  have e:dsum (fun i=>f (n+1-1-(i+1))) n=dsum (fun i=>f (n-1-i)) n:=za7 fun i hi=>by congr 1; omega
  rw [e,zjd f n,dsum]
  show f n+dsum f n=dsum f n+f n
  omega
structure Adj (A:List (List Int)) (B:List Int) (A':List (List Int)) (B':List Int):Prop where
 tab:Tab A' B'
 len:B'.length=B.length
 a:∀ r c,r<B.length->c<B.length->mx A' r c%10007=(B[B.length-1-c]?.getD 0-mx A (B.length-1-r) (B.length-1-c))%10007
 b:∀ r,r<B.length->B'[r]?.getD 0%10007=B[B.length-1-r]?.getD 0%10007
theorem serEq.mul {a b c d:Ser Int} (h:serEq a b) (k:serEq c d):serEq (a*c) (b*d):=fun i=>zus i (fun j _=>h j) (fun j _=>k j)
theorem serEq.eq {a b c:Ser Int} (h:serEq a b) (k:b=c):serEq a c:=k ▸ h
end Go.Proofs.YthhdollpkieknaaGreat


namespace Go.Proofs.YthhdollpkieknaaGreat
open Go.Abs
def denF:Nat->List Int->Int
 | 0,_=>0
 | n+1,t=>(brs t).foldl (fun o b=>o*denF n b) t.length
def denK (n:Nat) (t:List Int) (j:Nat):Int:=((brs t).take j).foldl (fun o b=>o*denF n b) t.length
def zl3:Nat->List Int->Bool
 | 0,_=>false
 | n+1,t=>(brs t).all (zl3 n) && (List.range ((brs t).length+1)).all fun j=>decide (0<=denK n t j/\denK n t j<=1000000)
theorem zr5 (n:Nat) {t:List Int} {j:Nat} (h:j<(brs t).length):denK n t (j+1)=denK n t j*denF n ((brs t)[j]?.getD []):=by
 unfold denK
 rw [List.take_add_one,List.foldl_append]
 simp [h]
theorem zhr:∀ (n:Nat) (t:List Int),Lv t->t.length<=1048576->zl3 n t=true->Con Tryz.prog 164 [.sl t.length (avs t)] (.int (denF n t))
 | 0,t,hL,hl,hd=>by simp [zl3] at hd
 | n+1,t,hL,hl,hd=>by
  have cL:=zdL t.length (avs t) (by omega)
  have cB:=zbe t hl hL
  rw [zl3,Bool.and_eq_true] at hd
  obtain ⟨hd1,hd2⟩:=hd
  have ih:=fun b (hb:b∈brs t)=>zhr n b (zcO hL hb).1 (by have:=(zcO hL hb).2; omega) (List.all_eq_true.1 hd1 b hb)
  have bd:∀ j,j<=(brs t).length->0<=denK n t j/\denK n t j<=1000000:=fun j hj=>by
   have:=List.all_eq_true.1 hd2 j (by simp; omega)
   simpa using this
  have hs:=fun j (h:j<(brs t).length)=>zr5 n h
  have k0:denK n t 0=t.length:=by simp [denK]
  have ke:denK n t (brs t).length=denF (n+1) t:=by rw [denK,List.take_length,denF]
  have hcnt:(brs t).length<t.length:=zi7 hL
  rw [<- ke]
  generalize denK n t=K at *
  generalize brs t=L at *
  refine zab Tryz.mixed ⟨6,[],[],[]⟩ Tryz.func164 ?_
  rw [Tryz.ntmps164]
  simp [go_sem]
  refine CallVC.of (cL) ?_
  simp [go_sem]
  refine CallVC.of (cB) ?_
  simp [go_sem]
  refine zac ([3,5]++List.range' 11 9) (fun i:Nat=>[(3,.int (K i)),(11,.int i)]) (fun i=>i<=L.length) (fun i=>L.length-i) 0 (by simp) (by simp [go_sem,k0]) (by simp [go_sem]) ?_
  intro i hi
  by_cases hiL:i<L.length
  .have hii:(i:Int)<L.length:=by omega
   have hb:L[i]?.getD []∈L:=by simp [hiL]
   have cD:=ih _ hb
   have hg:=zbz hiL
   have b0:=bd i hi
   have b1:=bd (i+1) hiL
   have h1:=hs i hiL
   generalize denF n (L[i]?.getD [])=d at *
   generalize hk1:K (i+1)=k1 at *
   generalize K i=k at *
   simp [go_sem,hii,hg]
   refine CallVC.of (cD) ?_
   simp [go_sem]
   rw [<- h1]
   exact ⟨⟨by omega,by omega⟩,⟨by omega,by omega⟩,i+1,by omega,by omega,zaa _ _ _ (by simp),hk1.symm,by omega⟩
  .have e:i=L.length:=by omega
   subst e
   have hii:¬ (L.length:Int)<L.length:=by omega
   simp [go_sem,hii]
def trN (k:Nat):List (List Int):=(List.range k).flatMap fun i=>genT 200 (upTo (i+1))
theorem zuo (k:Nat):trN (k+1)=trN k++genT 200 (upTo (k+1)):=by simp [trN,List.range_succ]
theorem zrz:∀ k,k<=6->(trN k).length<=100:=by decide +kernel
theorem zaI:(trN 6).length=37:=by decide +kernel
def lvC (t:List Int):Bool:=decide (0<t.length) && decide (t[0]?.getD 0=0) && (List.range t.length).all fun j=>decide (j=0) || decide (1<=t[j]?.getD 0/\t[j]?.getD 0<=t[j-1]?.getD 0+1)
theorem ziE {t:List Int} (h:lvC t=true):Lv t:=by
 unfold lvC at h
 simp only [Bool.and_eq_true,decide_eq_true_eq,List.all_eq_true,Bool.or_eq_true,List.mem_range] at h
 exact ⟨h.1.1,h.1.2,fun j h1 h2=>(h.2 j h2).resolve_left (by omega)⟩
theorem zyu:(trN 6).all (fun t=>lvC t && decide (t.length<=6) && zl3 8 t)=true:=by decide +kernel
theorem zcy {t:List Int} (h:t∈trN 6):Lv t/\t.length<=6/\zl3 8 t=true:=by
 have:=List.all_eq_true.1 zyu t h
 simp only [Bool.and_eq_true,decide_eq_true_eq] at this
 exact ⟨ziE this.1.1,this.1.2,this.2⟩
theorem zeH (n:Nat) (hn:n<=6):Con Tryz.prog 80 [.int n] (.own 25 (trN n).length (omat (trN n))):=by
 refine zab Tryz.mixed ⟨5,[],[],[]⟩ Tryz.func80 ?_
 rw [Tryz.ntmps80]
 simp [go_sem]
 refine zac ([3,4]++List.range' 6 9) (fun i:Nat=>[(3,.own 25 (trN i).length (omat (trN i))),(4,.int (i+1))]) (fun i=>i<=n) (fun i=>n-i) 0 (by simp) (by simp [go_sem,trN,omat]) (by simp [go_sem]) ?_
 intro i hi
 have l0:=zrz i (by omega)
 by_cases hin:i<n
 .have hii:(i:Int)+1<=n:=by omega
  have cT:=zqh (i+1) 200 (by omega) (by omega) (zo4 (i+1) (by omega) (by omega)).1
  have l1:=zrz (i+1) (by omega)
  have ts:=zuo i
  have tl:=congrArg List.length ts
  rw [List.length_append] at tl
  have ot:omat (trN (i+1))=omat (trN i)++omat (genT 200 (upTo (i+1))):=by rw [ts]; simp [omat]
  have ec:((i+1:Nat):Int)=(i:Int)+1:=by omega
  rw [ec] at cT
  generalize genT 200 (upTo (i+1))=G at *
  simp [go_sem,hii]
  refine CallVC.of (cT) ?_
  simp [go_sem]
  exact ⟨⟨by omega,by omega⟩,⟨by omega,by omega⟩,i+1,by omega,by omega,zaa _ _ _ (by simp),by rw [tl,ot]; exact ⟨rfl,rfl⟩,by omega⟩
 .have e:i=n:=by omega
  subst e
  have hii:¬ (i:Int)+1<=i:=by omega
  simp [go_sem,hii]
def lacF (A:List (List Int)) (B:List Int) (t:List Int):Int:=(dotI B (stwF A B.length t.length t)%10007-pw (denF 8 t%10007) 10005)%10007
theorem zq1 (A:List (List Int)) (B:List Int) (hT:Tab A B) (t:List Int) (ht:t∈trN 6) :
  Con Tryz.prog 160 [.agg [.sl A.length (mat A),.sl B.length (avs B)],.sl t.length (avs t)] (.int (lacF A B t)):=by
 obtain ⟨hL,h6,hd⟩:=zcy ht
 have cW:=zmQ A B hT t.length t hL (Nat.le_refl _) (by omega)
 have cD:=zhr 8 t hL (by omega) hd
 have db:0<=denF 8 t/\denF 8 t<=1000000:=by
  rw [zl3,Bool.and_eq_true] at hd
  have:=List.all_eq_true.1 hd.2 (brs t).length (by simp)
  rw [denK,List.take_length] at this
  have e:denF 8 t=(brs t).foldl (fun o b=>o*denF 7 b) t.length:=rfl
  rw [e]
  simpa using this
 have cV:=zpp (denF 8 t%10007) (zaf _)
 have wN:isN (dotI B (stwF A B.length t.length t)%10007):=zaf _
 have pN:isN (pw (denF 8 t%10007) 10005):=zaf _
 have hl:lacF A B t=(dotI B (stwF A B.length t.length t)%10007-pw (denF 8 t%10007) 10005)%10007:=rfl
 rw [hl]
 generalize dotI B (stwF A B.length t.length t)%10007=w at *
 generalize denF 8 t=d at *
 generalize pw (d%10007) 10005=v at *
 have w1:=wN.1
 have w2:=wN.2
 have v1:=pN.1
 have v2:=pN.2
 refine zab Tryz.mixed ⟨5,[],[],[]⟩ Tryz.func160 ?_
 rw [Tryz.ntmps160]
 simp [go_sem]
 refine CallVC.of (cW) ?_
 simp [go_sem]
 refine CallVC.of (cD) ?_
 simp [go_sem]
 refine CallVC.of (za3 d (by omega) (by omega)) ?_
 simp [go_sem]
 refine CallVC.of (cV) ?_
 simp [go_sem]
 refine ⟨⟨by omega,by omega⟩,?_⟩
 refine CallVC.of (za3 (w-v) (by omega) (by omega)) ?_
 simp [go_sem]
def orT (A:List (List Int)) (B:List Int):List (List Int)->Int
 | []=>6
 | t::l=>if lacF A B t=0 then orT A B l else (t.length:Int)-1
theorem zzt (A:List (List Int)) (B:List Int) (hT:Tab A B):Con Tryz.prog 69 [.agg [.sl A.length (mat A),.sl B.length (avs B)]] (.int (orT A B (trN 6))):=by
 have cT:=zeH 6 (by omega)
 have l6:=zaI
 have lc:=fun t h=>zq1 A B hT t h
 have at6:=fun t h=>(zcy (t:=t) h).2.1
 have e6:((6:Nat):Int)=6:=rfl
 rw [e6] at cT
 generalize trN 6=L at *
 refine zab Tryz.mixed ⟨5,[],[],[]⟩ Tryz.func69 ?_
 rw [Tryz.ntmps69]
 simp [go_sem]
 refine CallVC.of (cT) ?_
 simp [go_sem]
 refine zac ([2,4]++List.range' 7 12) (fun i:Nat=>[(7,.int i)]) (fun i=>i<=L.length/\orT A B (L.drop i)=orT A B L) (fun i=>L.length-i) 0 (by simp) (by simp [go_sem]) (by simp [go_sem]) ?_
 rintro i ⟨hi,ho⟩
 by_cases hiL:i<L.length
 .have hii:(i:Int)<L.length:=by omega
  have hb:L[i]?.getD []∈L:=by simp [hiL]
  have cK:=lc _ hb
  have l7:=at6 _ hb
  have hg:=zbz hiL
  have hd:L.drop i=L[i]?.getD []::L.drop (i+1):=by
   rw [List.getElem?_eq_getElem hiL,Option.getD_some]
   exact List.drop_eq_getElem_cons hiL
  rw [hd,orT] at ho
  have cL:=zdL (L[i]?.getD []).length (avs (L[i]?.getD [])) (by omega)
  generalize L[i]?.getD []=t at *
  generalize lacF A B t=z at *
  by_cases h0:z=0
  .rw [if_pos h0] at ho
   simp [go_sem,hii,hg]
   refine CallVC.of (cK) ?_
   simp [go_sem]
   simp [go_sem,h0]
   exact ⟨⟨by omega,by omega⟩,i+1,⟨by omega,ho⟩,by omega,zaa _ _ _ (by simp),by omega⟩
  .rw [if_neg h0] at ho
   simp [go_sem,hii,hg]
   refine CallVC.of (cK) ?_
   simp [go_sem]
   simp [go_sem,h0,hg]
   refine CallVC.of (cL) ?_
   simp [go_sem]
   rw [<- ho]
   exact ⟨⟨by omega,by omega⟩,rfl⟩
 .have e:i=L.length:=by omega
  subst e
  have hii:¬ (L.length:Int)<L.length:=by omega
  rw [List.drop_length,orT] at ho
  rw [<- ho]
  simp [go_sem,hii]
theorem zrg (A:List (List Int)) (B:List Int) (hT:Tab A B):Con Tryz.prog 13 [.agg [.sl A.length (mat A),.sl B.length (avs B)]] (.tup [.int (orT A B (trN 6)),.int 0]):=by
 have hle:=hT.le
 have hAB:=hT.len
 have cI:=zc0 A B (by omega) (by omega) (fun r hr=>by have:=(hT.a r hr).1; omega)
 rw [zf6.2 hT] at cI
 have cO:=zzt A B hT
 refine zab Tryz.mixed ⟨4,[],[],[]⟩ Tryz.func13 ?_
 rw [Tryz.ntmps13]
 simp [go_sem]
 refine CallVC.of (cI) ?_
 simp [go_sem]
 refine CallVC.of (cO) ?_
 simp [go_sem]
theorem zsl {A:List (List Int)} {B:List Int}:∀ {L:List (List Int)},L.Pairwise (fun s t=>s.length<=t.length)->(∀ t∈L,0<t.length/\t.length<=6)->0<=orT A B L/\orT A B L<=6/\∀ t∈L,(t.length:Int)<=orT A B L->lacF A B t=0
 | [],_,_=>⟨by simp [orT],by simp [orT],fun t ht=>by simp at ht⟩
 | s::L,hp,hb=>by
  have ih:=zsl (A:=A) (B:=B) (List.pairwise_cons.1 hp).2 (fun t ht=>hb t (by simp [ht]))
  have hs:=hb s (by simp)
  rw [orT]
  by_cases h0:lacF A B s=0
  .rw [if_pos h0]
   refine ⟨ih.1,ih.2.1,fun t ht hl=>?_⟩
   rcases List.mem_cons.1 ht with rfl | ht
   .exact h0
   .exact ih.2.2 t ht hl
  .rw [if_neg h0]
   refine ⟨by omega,by omega,fun t ht hl=>?_⟩
   exfalso
   rcases List.mem_cons.1 ht with rfl | ht
   .omega
   .have:=(List.pairwise_cons.1 hp).1 t ht
    omega
def srtB:List (List Int)->Bool
 | []=>true
 | s::L=>L.all (fun t=>decide (s.length<=t.length)) && srtB L
theorem zlI:∀ {L:List (List Int)},srtB L=true->L.Pairwise (fun s t=>s.length<=t.length)
 | [],_=>.nil
 | s::L,h=>by
  rw [srtB,Bool.and_eq_true] at h
  exact .cons (fun t ht=>by simpa using List.all_eq_true.1 h.1 t ht) (zlI h.2)
theorem zsH:srtB (trN 6)=true:=by decide +kernel
end Go.Proofs.YthhdollpkieknaaGreat


namespace Go.Proofs.YthhdollpkieknaaGreat
open Go.Abs
end Go.Proofs.YthhdollpkieknaaGreat


namespace Go.Proofs.YthhdollpkieknaaGreat
open Go.Abs
theorem zz4:(trN 6).all (fun t=>okS 6 t)=true:=by decide +kernel
theorem zzv {i:Nat} (h:i<37):okS 6 ((trN 6)[i]?.getD [])=true :=
 List.all_eq_true.1 zz4 _ (memD [] (by rw [zaI]; exact h))
theorem zqR {j:Nat} (h:j<37):((trN 6)[j]?.getD []).length≠0/\((trN 6)[j]?.getD []).length<=6/\Lv ((trN 6)[j]?.getD []):=by
 have h1:=zcy (memD [] (show j<(trN 6).length by rw [zaI]; exact h))
 have:=h1.1.1
 exact ⟨by omega,h1.2.1,h1.1⟩
theorem zyx {n:Nat} {t:List Int} (h:okS (n+1) t=true):0<=symF (n+1) t/\symF (n+1) t<=1000000:=by
 have:=(zjA h).2.2.2.2.2 _ (Nat.le_refl _)
 exact ⟨this.1,this.2.1⟩
def facT (a:List Int) (i:Nat):Int:=a[i+1]?.getD 0*pw (symF 6 ((trN 6)[i]?.getD [])%10007) 10005%10007
theorem zAB (a:List Int) (i:Nat):isN (facT a i):=zaf _
def rowT (f:List (List Mon)) (y a:List Int) (n:Nat):Nat->List Int
 | 0=>if n=0 then zbA y (a[0]?.getD 0) else List.replicate y.length 0
 | i+1=>if ((trN 6)[i]?.getD []).length=n then za6 (rowT f y a n i) (edF f y 6 ((trN 6)[i]?.getD [])) (facT a i) else rowT f y a n i
theorem zdN (f:List (List Mon)) (y a:List Int) (n:Nat):∀ i,(rowT f y a n i).length=y.length
 | 0=>by rw [rowT]; split <;> simp
 | i+1=>by rw [rowT]; split <;> simp [zdN f y a n i]
theorem zqJ (f:List (List Mon)) (y a:List Int) (n:Nat):∀ i,Ns (rowT f y a n i)
 | 0=>by
  rw [rowT]; split
  .exact zfI _ _
  .intro x hx
   obtain ⟨_,rfl⟩:=List.mem_replicate.1 hx
   exact ⟨by omega,by omega⟩
 | i+1=>by
  rw [rowT]; split
  .exact zfh _ _ _
  .exact zqJ f y a n i
theorem zj9 (f:List (List Mon)) (y a:List Int) (n i:Nat):∀ k,(∀ j,i<=j->j<i+k->((trN 6)[j]?.getD []).length≠n)->rowT f y a n (i+k)=rowT f y a n i
 | 0,_=>rfl
 | k+1,h=>by
  rw [<- Nat.add_assoc,rowT,if_neg (h (i+k) (by omega) (by omega)),zj9 f y a n i k (fun j h1 h2=>h j h1 (by omega))]
def tsX (f:List (List Mon)) (y a:List Int) (k i:Nat):List (List Int):=(List.range k).map fun n=>rowT f y a n i
@[simp] theorem zl4 (f:List (List Mon)) (y a:List Int) (k i:Nat):(tsX f y a k i).length=k:=by simp [tsX]
theorem zve (f:List (List Mon)) (y a:List Int) (k i:Nat):tsX f y a (k+1) i=tsX f y a k i++[rowT f y a k i]:=by simp [tsX,List.range_succ]
theorem zs5 (f:List (List Mon)) (y a:List Int) {k n:Nat} (i:Nat) (h:n<k):(tsX f y a k i)[n]?.getD []=rowT f y a n i:=by simp [tsX,h]
end Go.Proofs.YthhdollpkieknaaGreat


namespace Go.Proofs.YthhdollpkieknaaGreat
open Go.Abs CR
def isgT (t:List Int):Int:=((fp 15 (symF 6 t%10007).toNat 10005:Nat):Int)
def geL:List Int->List Int->Bool
 | _,[]=>true
 | [],_::_=>false
 | a::l,b::m=>if a=b then geL l m else decide (b<a)
def insD (t:List Int):List (List Int)->List (List Int)
 | []=>[t]
 | s::l=>if geL t s=true then t::s::l else s::insD t l
def srtD:List (List Int)->List (List Int)
 | []=>[]
 | t::l=>insD t (srtD l)
def tsD:List (List Int):=srtD (trN 5)
def rtB (bs:List (List Int)):List Int:=0::bs.flatMap (fun b=>b.map (·+1))
def genN (j:Nat):List (List Int):=genT 200 (upTo j)
def forB (j:Nat):Bool:=((enT tsD j).map (fun x=>x.1)).isPerm ((genN (j+1)).map brs) && ((enT tsD j).all (fun x=>decide (x.2*zaH isgT x.1%10007=isgT (rtB x.1))) && (genN (j+1)).all (fun t=>decide (rtB (brs t)=t)))
theorem zAC:(List.range 6).all forB=true:=by decide +kernel
theorem zB2 {j:Nat} (h:j<6):((enT tsD j).map (fun x=>x.1)).Perm ((genN (j+1)).map brs)/\(∀ x∈enT tsD j,x.2*zaH isgT x.1%10007=isgT (rtB x.1))/\∀ t∈genN (j+1),rtB (brs t)=t:=by
 have h1:=List.all_eq_true.1 zAC j (by simpa using h)
 unfold forB at h1
 simp only [Bool.and_eq_true,List.all_eq_true,decide_eq_true_eq] at h1
 exact ⟨List.isPerm_iff.1 h1.1,h1.2.1,h1.2.2⟩
def memB (j:Nat):Bool:=(genN (j+1)).all (fun t=>lvC t && decide (t.length=j+1)) && (((trN 6).filter (fun t=>decide (t.length=j+1))).isPerm (genN (j+1)) && (decide (5<=j) || (tsD.filter (fun t=>decide (t.length=j+1))).isPerm (genN (j+1))))
theorem zCm:(List.range 6).all memB=true:=by decide +kernel
theorem zjL {j:Nat} (h:j<6):(∀ t∈genN (j+1),Lv t/\t.length=j+1)/\((trN 6).filter (fun t=>decide (t.length=j+1))).Perm (genN (j+1))/\(j<5->(tsD.filter (fun t=>decide (t.length=j+1))).Perm (genN (j+1))):=by
 have h1:=List.all_eq_true.1 zCm j (by simpa using h)
 unfold memB at h1
 simp only [Bool.and_eq_true,Bool.or_eq_true,List.all_eq_true,decide_eq_true_eq] at h1
 refine ⟨fun t ht=>⟨ziE (h1.1 t ht).1,(h1.1 t ht).2⟩,List.isPerm_iff.1 h1.2.1,fun h5=>?_⟩
 rcases h1.2.2 with h2 | h2
 .omega
 .exact List.isPerm_iff.1 h2
theorem zBS:tsD.all (fun t=>lvC t && decide (t.length<=5))=true:=by decide +kernel
theorem zwY {t:List Int} (h:t∈tsD):Lv t/\t.length<=5:=by
 have:=List.all_eq_true.1 zBS t h
 simp only [Bool.and_eq_true,decide_eq_true_eq] at this
 exact ⟨ziE this.1,this.2⟩
theorem zjT (g h:List Int->Int):∀ bs,zaH (fun b=>g b*h b) bs=zaH g bs*zaH h bs
 | []=>rfl
 | b::bs=>by rw [zaH,zaH,zaH,zjT g h bs]; ac_rfl
theorem zk3 {g h:List Int->Int}:∀ {bs:List (List Int)},(∀ b∈bs,g b%10007=h b%10007)->zaH g bs%10007=zaH h bs%10007
 | [],_=>rfl
 | b::bs,hb=>zaD (hb b (by simp)) (zk3 fun c hc=>hb c (by simp [hc]))
theorem zcu {β:Type} (p:β->Bool) (f:β->Int):∀ l:List β,zas f (l.filter p)=zas (fun b=>if p b=true then f b else 0) l
 | []=>rfl
 | b::l=>by
  rw [List.filter_cons]
  by_cases h:p b=true
  .rw [if_pos h,zas,zcu p f l,zas,if_pos h]
  .rw [if_neg h,zcu p f l,zas,if_neg h,Int.zero_add]
theorem zig {β:Type} (f:β->Nat->Int) (n:Nat):∀ l:List β,dsum (fun q=>zas (fun b=>f b q) l) n=zas (fun b=>dsum (f b) n) l
 | []=>by
  show dsum (fun _=>(0:Int)) n=0
  exact zeB fun _ _=>rfl
 | b::l=>by
  rw [zas,<- zig f n l,<- zhk]
  rfl
def FT (f:List (List Mon)) (y:List Int) (t:List Int):List Int:=edF f y 6 t
theorem zn9 (f:List (List Mon)) (y:List Int):∀ (m k:Nat) (t:List Int),Lv t->t.length<=m->m<=k->edF f y k t=edF f y m t
 | 0,k,t,ht,h0,_=>by have:=ht.1; omega
 | m+1,k,t,ht,h,hk=>by
  obtain ⟨k',rfl⟩:∃ k',k=k'+1:=⟨k-1,by omega⟩
  rw [edF,edF]
  congr 1
  refine List.map_congr_left fun b hb=>?_
  obtain ⟨h1,h2⟩:=zcO ht hb
  exact zn9 f y m k' b h1 (by omega) (by omega)
section
variable {f:List (List Mon)} {y:List Int} {z:Int} {n:Nat}
theorem FT_N (t:List Int):Ns (FT f y t):=zy1 t
theorem zDJ (hy:y.length=n) {t:List Int} (ht:Lv t) (h6:t.length<=6) {k:Nat} (hk:k<f.length):(FT f y t)[k]?.getD 0=drvP y n ((brs t).map (FT f y)) (f[k]?.getD []):=by
 have e:(brs t).map (edF f y 5)=(brs t).map (FT f y):=List.map_congr_left fun b hb=>by
  obtain ⟨h1,h2⟩:=zcO ht hb
  exact (zn9 f y 5 6 b h1 (by omega) (by omega)).symm
 unfold FT
 rw [edF,e,hy]
 unfold drvL
 rw [List.getElem?_map,List.getElem?_eq_getElem hk]
 rfl
theorem zBT (w m:Nat):(pwr zz w:Ser Int) m=if m=w then 1 else 0:=by
 have:=znL (ofI 1) w m
 rw [mul1] at this
 rw [this]
 by_cases h:w<=m
 .rw [if_pos h,zu7]
  by_cases e:m=w
  .rw [if_pos e,if_pos (by omega)]
  .rw [if_neg e,if_neg (by omega)]
 .rw [if_neg h,if_neg (by omega)]
theorem zyM (Y:Nat->Int) (C:List Int->Int) (F:List Int->List Int) (k m:Nat):∀ ts,(uT Y C F ts k:Ser Int) m=(if m=0 then Y k else 0)+zas (fun t=>if t.length=m then (F t)[k]?.getD 0*C t else 0) ts
 | []=>by
  show (ofI (Y k):Ser Int) m=_+0
  rw [zu7,Int.add_zero]
 | t::ts=>by
  show (uT Y C F ts k+ofI ((F t)[k]?.getD 0)*zT C t:Ser Int) m=_
  rw [zfz,zyM Y C F k m ts,zm5]
  have e:zT C t m=if t.length=m then C t else 0:=by
   unfold zT
   rw [zm5,zBT]
   by_cases h:t.length=m
   .rw [if_pos h,if_pos h.symm,Int.mul_one]
   .rw [if_neg h,if_neg (fun x=>h x.symm),Int.mul_zero]
  rw [e,zas]
  by_cases h:t.length=m
  .rw [if_pos h,if_pos h]; omega
  .rw [if_neg h,if_neg h,Int.mul_zero]; omega
theorem zwx (Y:Nat->Int) (C:List Int->Int) (F:List Int->List Int) (k:Nat) {m:Nat} (h:m<5):(uT Y C F tsD k:Ser Int) (m+1)=zas (fun t=>(F t)[k]?.getD 0*C t) (genN (m+1)):=by
 rw [zyM,if_neg (by omega),Int.zero_add,<- zfi _ ((zjL (show m<6 by omega)).2.2 h),zcu]
 refine zbf fun t _=>?_
 by_cases e:t.length=m+1
 .rw [if_pos e,if_pos (by simpa using e)]
 .rw [if_neg e,if_neg (by simpa using e)]
theorem zqY (Y:Nat->Int) (C:List Int->Int) (F:List Int->List Int) (k:Nat):(uT Y C F tsD k:Ser Int) 0=Y k:=by
 rw [zyM,if_pos rfl]
 have e:zas (fun t=>if t.length=0 then (F t)[k]?.getD 0*C t else 0) tsD=0:=by
  have h:∀ l:List (List Int),(∀ t∈l,0<t.length)->zas (fun t=>if t.length=0 then (F t)[k]?.getD 0*C t else 0) l=0:=fun l=>by
   induction l with
   | nil=>intro _; rfl
   | cons t l ih =>
    intro h
    have:=h t (by simp)
    rw [zas,if_neg (by omega),ih (fun s hs=>h s (by simp [hs]))]; rfl
  exact h tsD fun t ht=>(zwY ht).1.1
 rw [e,Int.add_zero]
theorem zx4 {E:List (List (List Int) × Int)} {G:List (List Int)} (f1:(E.map (fun x=>x.1)).Perm (G.map brs)) (f2:∀ x∈E,x.2*zaH isgT x.1%10007=isgT (rtB x.1)) (f3:∀ t∈G,rtB (brs t)=t)
  (D:List (List Int)->Int) (g:List Int->Int):zas (fun x=>x.2*zaH (fun b=>g b*isgT b) x.1*D x.1) E%10007=zas (fun t=>isgT t*zaH g (brs t)*D (brs t)) G%10007:=by
 have e1:zas (fun x=>x.2*zaH (fun b=>g b*isgT b) x.1*D x.1) E%10007=zas (fun x:List (List Int) × Int=>isgT (rtB x.1)*zaH g x.1*D x.1) E%10007:=by
  refine zcK fun x hx=>?_
  refine zaD ?_ rfl
  rw [zjT]
  have e:x.2*(zaH g x.1*zaH isgT x.1)=x.2*zaH isgT x.1*zaH g x.1:=by ac_rfl
  rw [e]
  refine zaD ?_ rfl
  rw [<- f2 x hx,Int.emod_emod_of_dvd _ (Int.dvd_refl _)]
 rw [e1]
 have e2:zas (fun x:List (List Int) × Int=>isgT (rtB x.1)*zaH g x.1*D x.1) E=zas (fun bs=>isgT (rtB bs)*zaH g bs*D bs) (E.map (fun x=>x.1)):=(zgR (fun bs=>isgT (rtB bs)*zaH g bs*D bs) (fun x:List (List Int) × Int=>x.1) E).symm
 rw [e2,zfi _ f1,zgR]
 exact congrArg (·%10007) (zbf fun t ht=>by rw [f3 t ht])
theorem zmC (hf:FieldOk (n:Int) f) (hy:y.length=n) (hfl:f.length=n) (g:List Int->Int) {j k:Nat} (hj:j<6) (hk:k<n) :
  (evM n (uT (fun k=>y[k]?.getD 0) (fun b=>g b*isgT b) (FT f y) tsD) (f[k]?.getD []):Ser Int) j%10007=zas (fun t=>isgT t*zaH g (brs t)*(FT f y t)[k]?.getD 0) (genN (j+1))%10007:=by
 have hn:n<=3:=by have:=hf.hi; omega
 have hp:=hf.part _ (memD [] (show k<f.length by omega))
 have hL:LOk n (f[k]?.getD []):=by
  have:=hf.lok _ (memD [] (show k<f.length by omega))
  rwa [hfl] at this
 obtain ⟨f1,f2,f3⟩:=zB2 hj
 have h1:=tay n (fun k=>y[k]?.getD 0) (fun b=>g b*isgT b) (FT f y) tsD (fun t ht=>(zwY ht).1.1) (f[k]?.getD []) hL j (by omega)
 have h2:=zx4 f1 f2 f3 (fun bs=>evM n (fun k=>y[k]?.getD 0) (DerL n (bs.map (FT f y)) (f[k]?.getD []))) g
 have m:=(zjL hj).1
 refine h1.trans (h2.trans ?_)
 clear h1 h2 f1 f2 f3
 generalize genN (j+1)=G at *
 refine zcK fun t ht=>?_
 obtain ⟨m1,m2⟩:=m t ht
 rw [zDJ hy m1 (by omega) (by omega)]
 refine zaD rfl ?_
 have hv:∀ v∈(brs t).map (FT f y),Ns v:=fun v hv=>by
  obtain ⟨b,_,rfl⟩:=List.mem_map.1 hv
  exact FT_N b
 have h3:=ztQ hn hy (by exact hp) hv
 rw [h3]
 unfold drvP
 split
 .rfl
 .exact (Int.emod_emod_of_dvd _ (Int.dvd_refl _)).symm
end
end Go.Proofs.YthhdollpkieknaaGreat


namespace Go.Proofs.YthhdollpkieknaaGreat
open Go.Abs CR
theorem zp0 (s:Nat) {i:Nat} (hi:i<s):∀ (l:List (List Int)) (a:List Int),(hadL s a l)[i]?.getD 0%10007=a[i]?.getD 0*zaH (fun v=>v[i]?.getD 0) l%10007
 | [],a=>by rw [hadL,zaH,Int.mul_one]
 | v::l,a=>by
  rw [hadL,zp0 s hi l,zaH]
  have e:(hadS s a v)[i]?.getD 0=a[i]?.getD 0*v[i]?.getD 0%10007:=zaP _ hi
  rw [e,zcd,Int.mul_assoc]
theorem zeT (A:List (List Int)) (s:Nat):∀ (m k:Nat) (t:List Int),Lv t->t.length<=m->m<=k->stwF A s k t=stwF A s m t
 | 0,k,t,ht,h0,_=>by have:=ht.1; omega
 | m+1,k,t,ht,h,hk=>by
  obtain ⟨k',rfl⟩:∃ k',k=k'+1:=⟨k-1,by omega⟩
  rw [stwF,stwF]
  congr 1
  refine List.map_congr_left fun b hb=>?_
  obtain ⟨h1,h2⟩:=zcO ht hb
  rw [zeT A s m k' b h1 (by omega) (by omega)]
theorem zk1 (g:List Int->Int) (h:List Int->List Int):∀ bs,zaH g (bs.map h)=zaH (fun b=>g (h b)) bs
 | []=>rfl
 | b::bs=>by rw [List.map_cons,zaH,zk1 g h bs,zaH]
theorem zsS {a b:Int} (h:cgI.r a b):a%10007=b%10007:=h
theorem sw1 (a:Nat->Int) (w:Nat->List Int->Int) (I F:List Int->Int) (G:List (List Int)) (s:Nat):dsum (fun q=>a q*zas (fun t=>I t*w q t*F t) G) s=zas (fun t=>F t*(dsum (fun q=>a q*w q t) s*I t)) G:=by
 rw [za7 (g:=fun q=>zas (fun t=>a q*(I t*w q t*F t)) G) (fun q _=>(zg8 _ _ _).symm),zig (fun (b:List Int) (q:Nat)=>a q*(I b*w q b*F b))]
 refine zbf fun b _=>?_
 have e3:F b*(dsum (fun q=>a q*w q b) s*I b)=(F b*I b)*dsum (fun q=>a q*w q b) s:=by ac_rfl
 rw [e3,zcX]
 exact za7 fun q _=>by ac_rfl
theorem sw2 (a:Nat->Int) (w:Nat->List Int->Int) (I F:List Int->Int) (G:List (List Int)) (s:Nat):dsum (fun q=>a q*zas (fun t=>I t*w q t*F t) G) s=zas (fun t=>I t*dsum (fun q=>a q*w q t) s*F t) G:=by
 rw [sw1]
 exact zbf fun b _=>by ac_rfl
theorem sw3 (e I F:List Int->Int) (G:List (List Int)):zas (fun t=>I t*e t*F t) G=zas (fun t=>F t*(e t*I t)) G:=zbf fun b _=>by ac_rfl
theorem sw4 (k:Int) (e I F:List Int->Int) (G:List (List Int)):k*zas (fun t=>I t*e t*F t) G=zas (fun t=>I t*(k*e t)*F t) G:=by
 rw [<- zg8]
 exact zbf fun b _=>by ac_rfl
section
variable {A:List (List Int)} {B:List Int} {f:List (List Mon)} {y:List Int} {n:Nat}
def wS (A:List (List Int)) (s:Nat) (i:Nat) (t:List Int):Int:=(stwF A s 6 t)[i]?.getD 0
def gS (A:List (List Int)) (s:Nat) (i:Nat) (t:List Int):Int:=dsum (fun q=>(A[i]?.getD [])[q]?.getD 0*wS A s q t) s
theorem zqN (hT:Tab A B) {i:Nat} (hi:i<B.length) {t:List Int} (ht:Lv t) (h6:t.length<=6):wS A B.length i t%10007=zaH (gS A B.length i) (brs t)%10007:=by
 unfold wS
 rw [stwF,zp0 B.length hi,zk1]
 have e1:(List.replicate B.length (1:Int))[i]?.getD 0=1:=by simp [hi]
 rw [e1,Int.one_mul]
 refine zk3 fun b hb=>?_
 obtain ⟨h1,h2⟩:=zcO ht hb
 have hiA:i<A.length:=by have:=hT.len; omega
 have e2:(tim A (stwF A B.length 5 b))[i]?.getD 0=dotI (A[i]?.getD []) (stwF A B.length 5 b)%10007:=by
  unfold tim
  rw [List.getElem?_map,List.getElem?_eq_getElem hiA]; rfl
 rw [e2,Int.emod_emod_of_dvd _ (Int.dvd_refl _),<- zeT A B.length 5 6 b h1 (by omega) (by omega)]
 rw [ze4 _ _ B.length (hT.rws.at hiA).1 (zg7 A B.length 6 b).1]
 rfl
def kT (A:List (List Int)) (s:Nat) (f:List (List Mon)) (y:List Int) (i k j:Nat):Int:=zas (fun t=>isgT t*wS A s i t*(FT f y t)[k]?.getD 0) (genN (j+1))
theorem zgJ (hT:Tab A B) (hf:FieldOk (n:Int) f) (hy:y.length=n) (hN:Ns y) (hfl:f.length=n):∀ t,t<=6->∀ i,i<B.length->∀ k,k<n->∀ j,j<t ->
  en ((sloS A f (poS y) t)[i]?.getD []) k j%10007=kT A B.length f y i k j%10007
 | 0,_,_,_,_,_,j,hj=>by omega
 | t+1,ht,i,hi,k,hk,j,hj=>by
  have al:=hT.len
  have hiA:i<A.length:=by omega
  have hs:R7 n (poS y):=by rw [<- hy]; exact zme hN
  have rl:(A[i]?.getD []).length=B.length:=(hT.rws.at hiA).1
  have kr:∀ q,q<B.length->R7 n ((sloS A f (poS y) t)[q]?.getD []):=fun q hq=>zne hfl hs t (by omega)
  rw [zgZ f (poS y) t hiA]
  have hM:=ztz hs (A[i]?.getD []) (sloS A f (poS y) t) (A[i]?.getD []).length
  rw [zy8 (by omega) (by omega),hM.1]
  have cong:∀ k',k'<n->∀ j',j'<j+1->cgI.r (toU (mvS (poS y) (A[i]?.getD []) (sloS A f (poS y) t) (A[i]?.getD []).length) k' j') (uT (fun k=>y[k]?.getD 0) (fun b=>gS A B.length i b*isgT b) (FT f y) tsD k' j'):=fun k' hk' j' hj'=>by
   show en (mvS (poS y) (A[i]?.getD []) (sloS A f (poS y) t) (A[i]?.getD []).length) k' j'%10007=_%10007
   cases j' with
   | zero =>
    rw [zn8 hs _ _ _ hk',zqY]
    refine congrArg (·%10007) ?_
    show ((poS y)[k']?.getD [])[0]?.getD 0=_
    rw [zfT (by omega)]; rfl
   | succ j' =>
    rw [zj3 hs _ hk' (by omega) _ (fun q hq=>kr q (by omega)),zwx _ _ _ _ (by omega)]
    have z:en (poS y) k' (j'+1)=0:=by
     show ((poS y)[k']?.getD [])[j'+1]?.getD 0=0
     rw [zfT (by omega)]
     show ([y[k']?.getD 0,0,0,0,0,0,0]:List Int)[j'+1]?.getD 0=0
     match j',(show j'<6 by omega) with
     | 0,_=>rfl
     | 1,_=>rfl
     | 2,_=>rfl
     | 3,_=>rfl
     | 4,_=>rfl
     | 5,_=>rfl
    rw [z,Int.zero_add,rl]
    have e1:dsum (fun q=>(A[i]?.getD [])[q]?.getD 0*en ((sloS A f (poS y) t)[q]?.getD []) k' j') B.length%10007=dsum (fun q=>(A[i]?.getD [])[q]?.getD 0*kT A B.length f y q k' j') B.length%10007 :=
     zb1 fun q hq=>zaD rfl (zgJ hT hf hy hN hfl t (by omega) q hq k' hk' j' (by omega))
    rw [e1]
    refine congrArg (·%10007) ?_
    exact sw1 (fun q=>(A[i]?.getD [])[q]?.getD 0) (wS A B.length) isgT (fun t=>(FT f y t)[k']?.getD 0) (genN (j'+1)) B.length
  have h1:=Cg.evM (cgS cgI (j+1)) (d:=n) (fun q hq m hm=>cong q hq m hm) (f[k]?.getD []) j (by omega)
  refine (zsS h1).trans ?_
  rw [zmC hf hy hfl (gS A B.length i) (by omega) hk]
  unfold kT
  have m:=(zjL (show j<6 by omega)).1
  generalize genN (j+1)=G at *
  refine zcK fun b hb=>zaD (zaD rfl ?_) rfl
  exact (zqN hT hi (m b hb).1 (by have:=(m b hb).2; omega)).symm
theorem zir (hT:Tab A B) (hf:FieldOk (n:Int) f) (hy:y.length=n) (hN:Ns y) (hfl:f.length=n) {k j:Nat} (hk:k<n) (hj:j<6) :
  en (steS A B f (poS y)) k (j+1)%10007=zas (fun t=>isgT t*(dotI B (stwF A B.length 6 t)%10007)*(FT f y t)[k]?.getD 0) (genN (j+1))%10007:=by
 have al:=hT.len
 have hs:R7 n (poS y):=by rw [<- hy]; exact zme hN
 have rl:∀ i,i<A.length->(A[i]?.getD []).length=A.length:=fun i hi=>by rw [hT.len]; exact (hT.rws.at hi).1
 have kr:∀ q,q<B.length->R7 n ((sloS A f (poS y) 7)[q]?.getD []):=fun q hq=>zne hfl hs 7 (by omega)
 have e0:en (steS A B f (poS y)) k (j+1)%10007=(en (poS y) k (j+1)+dsum (fun q=>B[q]?.getD 0*en ((sloS A f (poS y) 7)[q]?.getD []) k j) B.length)%10007:=zj3 hs B hk hj B.length kr
 have z:en (poS y) k (j+1)=0:=by
  show ((poS y)[k]?.getD [])[j+1]?.getD 0=0
  rw [zfT (by omega)]
  show ([y[k]?.getD 0,0,0,0,0,0,0]:List Int)[j+1]?.getD 0=0
  match j,hj with
  | 0,_=>rfl
  | 1,_=>rfl
  | 2,_=>rfl
  | 3,_=>rfl
  | 4,_=>rfl
  | 5,_=>rfl
 rw [e0,z,Int.zero_add]
 have e1:dsum (fun q=>B[q]?.getD 0*en ((sloS A f (poS y) 7)[q]?.getD []) k j) B.length%10007=dsum (fun q=>B[q]?.getD 0*kT A B.length f y q k j) B.length%10007 :=
  zb1 fun q hq=>zaD rfl (((zim hfl hs rl 6 (by omega) q (by omega) k hk j hj).symm).trans (zgJ hT hf hy hN hfl 6 (Nat.le_refl _) q hq k hk j hj))
 rw [e1]
 have e2:=sw2 (fun q=>B[q]?.getD 0) (wS A B.length) isgT (fun t=>(FT f y t)[k]?.getD 0) (genN (j+1)) B.length
 refine (congrArg (·%10007) e2).trans ?_
 refine zcK fun b _=>zaD (zaD rfl ?_) rfl
 have e3:dotI B (stwF A B.length 6 b)=dsum (fun q=>B[q]?.getD 0*wS A B.length q b) B.length:=ze4 _ _ B.length rfl (zg7 A B.length 6 b).1
 rw [<- e3,Int.emod_emod_of_dvd _ (Int.dvd_refl _)]
end
def exN (t:List Int):Int:=((fp 15 (denF 8 t%10007).toNat 10005:Nat):Int)
def exB (j:Nat):Bool:=(genN (j+1)).all fun t=>decide (zaH exN (brs t)%10007=((j:Int)+1)*exN t%10007)
theorem zEi:(List.range 6).all exB=true:=by decide +kernel
theorem zDN {j:Nat} (h:j<6) {t:List Int} (ht:t∈genN (j+1)):zaH exN (brs t)%10007=((j:Int)+1)*exN t%10007:=by
 have h1:=List.all_eq_true.1 zEi j (by simpa using h)
 exact of_decide_eq_true (List.all_eq_true.1 h1 t ht)
section
variable {f:List (List Mon)} {y:List Int} {n:Nat}
def flT (f:List (List Mon)) (y:List Int) (k j:Nat):Int:=zas (fun t=>isgT t*exN t*(FT f y t)[k]?.getD 0) (genN (j+1))
theorem ziC (hf:FieldOk (n:Int) f) (hy:y.length=n) (hN:Ns y) (hfl:f.length=n):∀ j,j<6->∀ k,k<n->toU (floS f y 6) k (j+1)%10007=flT f y k j%10007:=by
 have all:∀ m,m<=6->∀ j,j<m->∀ k,k<n->toU (floS f y 6) k (j+1)%10007=flT f y k j%10007:=by
  intro m
  induction m with
  | zero=>intro _ j hj; omega
  | succ m ih =>
   intro hm j hj k hk
   rcases Nat.lt_or_ge j m with h | h
   .exact ih (by omega) j h k hk
   have e:j=m:=by omega
   subst e
   have f0:∀ k,k<n->toU (floS f y 6) k 0=y[k]?.getD 0:=fun k hk=>by
    have:=zcJ (f:=f) (show k<y.length by omega) 0 (Nat.le_refl 0) 6
    rw [Nat.zero_add] at this
    show ((floS f y 6)[k]?.getD [])[0]?.getD 0=y[k]?.getD 0
    rw [this,floS,zfT (by omega)]; rfl
   have ode:=zu0 hf (by omega) hN k (by omega) j (by omega)
   rw [hfl] at ode
   have cong:∀ k',k'<n->∀ j',j'<j+1->cgI.r (toU (floS f y 6) k' j') (uT (fun k=>y[k]?.getD 0) (fun b=>exN b*isgT b) (FT f y) tsD k' j'):=fun k' hk' j' hj'=>by
    cases j' with
    | zero=>rw [f0 k' hk',zqY]; exact cgI.refl _
    | succ j' =>
     rw [zwx _ _ _ _ (by omega)]
     refine cgI.trans (ih (by omega) j' (by omega) k' hk') (cgI.eq ?_)
     exact sw3 exN isgT (fun t=>(FT f y t)[k']?.getD 0) (genN (j'+1))
   have h1:=Cg.evM (cgS cgI (j+1)) (d:=n) (fun q hq m hm=>cong q hq m hm) (f[k]?.getD []) j (by omega)
   have h2:=zmC hf hy hfl exN (j:=j) (by omega) hk
   have h3:(((j+1:Nat):Int)*toU (floS f y 6) k (j+1))%10007=zas (fun t=>isgT t*zaH exN (brs t)*(FT f y t)[k]?.getD 0) (genN (j+1))%10007:=(zsS ode).trans ((zsS h1).trans h2)
   have h4:zas (fun t=>isgT t*zaH exN (brs t)*(FT f y t)[k]?.getD 0) (genN (j+1))%10007=((j+1:Nat):Int)*flT f y k j%10007:=by
    have e1:=sw4 ((j+1:Nat):Int) exN isgT (fun t=>(FT f y t)[k]?.getD 0) (genN (j+1))
    refine Eq.trans ?_ (congrArg (·%10007) e1).symm
    refine zcK fun t ht=>zaD (zaD rfl ?_) rfl
    rw [show ((j+1:Nat):Int)=(j:Int)+1 by omega]
    exact zDN (by omega) ht
   have h5:=h3.trans h4
   have i6:=zxo j (by omega)
   generalize toU (floS f y 6) k (j+1)=a at *
   generalize flT f y k j=b at *
   generalize pw ((j:Int)+1) 10005=w at *
   have ca:∀ x:Int,x%10007=(((j+1:Nat):Int)*x)*w%10007:=fun x=>by
    have e1:((j+1:Nat):Int)*x*w=x*(((j+1:Nat):Int)*w):=by ac_rfl
    rw [e1,Int.mul_emod x,i6,Int.mul_one,Int.emod_emod_of_dvd _ (Int.dvd_refl _)]
   rw [ca a,ca b]
   exact zaD h5 rfl
 exact fun j hj=>all 6 (Nat.le_refl _) j hj
end
end Go.Proofs.YthhdollpkieknaaGreat


namespace Go.Proofs.YthhdollpkieknaaGreat
open Go.Abs CR
def mapW (a0:Int) (W:List Int->Int):List Int:=a0::(trN 6).map W
theorem zdQ (a0:Int) (W:List Int->Int):(mapW a0 W).length=38:=by
 unfold mapW
 rw [List.length_cons,List.length_map,zaI]
theorem ztm (a0:Int) (W:List Int->Int) {i:Nat} (h:i<37):(mapW a0 W)[i+1]?.getD 0=W ((trN 6)[i]?.getD []):=by
 have hl:i<(trN 6).length:=by rw [zaI]; exact h
 unfold mapW
 rw [List.getElem?_cons_succ,List.getElem?_map,List.getElem?_eq_getElem hl]; rfl
theorem zyN (t:List Int):isgT t=pw (symF 6 t%10007) 10005:=by
 unfold isgT
 rw [zpf,Int.toNat_of_nonneg (Int.emod_nonneg _ (by decide))]
theorem zBl (a0:Int) (W:List Int->Int) {i:Nat} (h:i<37):facT (mapW a0 W) i%10007=isgT ((trN 6)[i]?.getD [])*W ((trN 6)[i]?.getD [])%10007:=by
 unfold facT
 rw [ztm a0 W h,Int.emod_emod_of_dvd _ (Int.dvd_refl _),<- zyN,Int.mul_comm]
section
variable {f:List (List Mon)} {y:List Int} {n:Nat}
theorem ziK (a0:Int) (W:List Int->Int) {m:Nat} {k:Nat} (hk:k<y.length) (hy:Ns y):∀ i,i<=37->(rowT f y (mapW a0 W) m i)[k]?.getD 0%10007
   = ((if m=0 then y[k]?.getD 0*a0 else 0)+zas (fun t=>if t.length=m then isgT t*W t*(FT f y t)[k]?.getD 0 else 0) ((trN 6).take i))%10007
 | 0,_=>by
  rw [rowT,List.take_zero]
  by_cases h:m=0
  .rw [if_pos h,if_pos h]
   have e:(zbA y ((mapW a0 W)[0]?.getD 0))[k]?.getD 0=y[k]?.getD 0*(a0%10007)%10007:=zaP (fun i=>y[i]?.getD 0*(a0%10007)%10007) hk
   rw [e,Int.emod_emod_of_dvd _ (Int.dvd_refl _),zdA]
   show _=(_+0)%10007
   rw [Int.add_zero]
  .rw [if_neg h,if_neg h]
   simp [hk,zas]
 | i+1,hi=>by
  have ih:=ziK a0 W (m:=m) hk hy i (by omega)
  have hl:i<(trN 6).length:=by rw [zaI]; omega
  have e1:(trN 6).take (i+1)=(trN 6).take i++[(trN 6)[i]?.getD []]:=by
   rw [List.take_succ_eq_append_getElem hl,List.getElem?_eq_getElem hl]; rfl
  rw [rowT,e1,zhz]
  have e2:zas (fun t=>if t.length=m then isgT t*W t*(FT f y t)[k]?.getD 0 else 0) [(trN 6)[i]?.getD []]=if ((trN 6)[i]?.getD []).length=m then isgT ((trN 6)[i]?.getD [])*W ((trN 6)[i]?.getD [])*(FT f y ((trN 6)[i]?.getD []))[k]?.getD 0 else 0:=Int.add_zero _
  rw [e2]
  have fw:=zBl a0 W (i:=i) (by omega)
  generalize (trN 6)[i]?.getD []=t at *
  generalize zas (fun t=>if t.length=m then isgT t*W t*(FT f y t)[k]?.getD 0 else 0) ((trN 6).take i)=S at *
  by_cases h:t.length=m
  .rw [if_pos h,if_pos h]
   have e3:(za6 (rowT f y (mapW a0 W) m i) (edF f y 6 t) (facT (mapW a0 W) i))[k]?.getD 0=((rowT f y (mapW a0 W) m i)[k]?.getD 0+facT (mapW a0 W) i%10007*(edF f y 6 t)[k]?.getD 0)%10007 :=
    zaP (fun j=>((rowT f y (mapW a0 W) m i)[j]?.getD 0+facT (mapW a0 W) i%10007*(edF f y 6 t)[j]?.getD 0)%10007) (by rw [zdN]; exact hk)
   rw [e3,Int.emod_emod_of_dvd _ (Int.dvd_refl _),<- Int.add_assoc]
   refine zc7 ih ?_
   rw [zcd]
   exact zaD fw rfl
  .rw [if_neg h,if_neg h,Int.add_zero]
   exact ih
theorem zo8 (a0:Int) (W:List Int->Int) {j k:Nat} (hk:k<y.length) (hy:Ns y) (hj:j<6):(rowT f y (mapW a0 W) (j+1) 37)[k]?.getD 0%10007=zas (fun t=>isgT t*W t*(FT f y t)[k]?.getD 0) (genN (j+1))%10007:=by
 rw [ziK a0 W hk hy 37 (Nat.le_refl _),if_neg (by omega),Int.zero_add,List.take_of_length_le (by rw [zaI]; exact Nat.le_refl _),<- zfi _ (zjL hj).2.1,zcu]
 refine congrArg (·%10007) (zbf fun t _=>?_)
 by_cases e:t.length=j+1
 .rw [if_pos e,if_pos (by simpa using e)]
 .rw [if_neg e,if_neg (by simpa using e)]
theorem zlb (a0:Int) (W:List Int->Int) {k:Nat} (hk:k<y.length) (hy:Ns y):(rowT f y (mapW a0 W) 0 37)[k]?.getD 0%10007=y[k]?.getD 0*a0%10007:=by
 have e:rowT f y (mapW a0 W) 0 (0+37)=rowT f y (mapW a0 W) 0 0:=zj9 f y (mapW a0 W) 0 0 37 fun j _ h=>(zqR (by omega)).1
 rw [Nat.zero_add] at e
 rw [e,ziK a0 W hk hy 0 (by omega),if_pos rfl,List.take_zero]
 show (_+0)%10007=_
 rw [Int.add_zero]
theorem zjI (W:List Int->Int) {X:List (List Int)} (hy:y.length=n) (hN:Ns y) (n1:1<=n) (hX:R7 n X) (h0:∀ k,k<n->en X k 0=y[k]?.getD 0)
  (hS:∀ k,k<n->∀ j,j<6->en X k (j+1)%10007=zas (fun t=>isgT t*W t*(FT f y t)[k]?.getD 0) (genN (j+1))%10007):tsX f y (mapW 1 W) 7 37=zay X:=by
 have r0:=hX.row (k:=0) (by omega)
 refine List.ext_getElem (by rw [zl4,za5,r0.1]) fun j h1 h2=>?_
 have hj:j<7:=by simpa using h1
 have e1:=zs5 f y (mapW 1 W) 37 hj
 have e2:=zjf (a:=X) (k:=j) (by rw [r0.1]; exact hj)
 rw [List.getElem?_eq_getElem h1,Option.getD_some] at e1
 rw [List.getElem?_eq_getElem h2,Option.getD_some] at e2
 rw [e1,e2]
 refine List.ext_getElem (by rw [zdN]; simp [colS,hX.1,hy]) fun k k1 k2=>?_
 have hk:k<n:=by rw [zdN] at k1; omega
 have nA:=(zqJ f y (mapW 1 W) j 37).get k
 have nB:=((hX.row hk).2).get j
 have e3:=zlV (a:=X) (k:=j) (i:=k) (by rw [hX.1]; exact hk)
 rw [List.getElem?_eq_getElem k2,Option.getD_some] at e3
 rw [e3]
 have e4:(rowT f y (mapW 1 W) j 37)[k]?.getD 0%10007=en X k j%10007:=by
  cases j with
  | zero=>rw [zlb 1 W (by omega) hN,Int.mul_one,h0 k hk]
  | succ j=>rw [zo8 1 W (by omega) hN (by omega),hS k hk j (by omega)]
 have e5:en X k j=(X[k]?.getD [])[j]?.getD 0:=rfl
 rw [e5,Int.emod_eq_of_lt nA.1 (by have:=nA.2; omega),Int.emod_eq_of_lt nB.1 (by have:=nB.2; omega),List.getElem?_eq_getElem k1,Option.getD_some] at e4
 exact e4
variable {A:List (List Int)} {B:List Int}
def chW (A:List (List Int)) (B:List Int) (t:List Int):Int:=dotI B (stwF A B.length 6 t)%10007
theorem zvc (hy:y.length=n) {k:Nat} (hk:k<n):en (poS y) k 0=y[k]?.getD 0:=by
 show ((poS y)[k]?.getD [])[0]?.getD 0=_
 rw [zfT (by omega)]; rfl
theorem zhl (hy:y.length=n) (hN:Ns y) {k:Nat} (hk:k<n):en (steS A B f (poS y)) k 0=y[k]?.getD 0:=by
 have hs:R7 n (poS y):=by rw [<- hy]; exact zme hN
 have:en (steS A B f (poS y)) k 0=en (poS y) k 0:=zn8 hs B _ _ hk
 rw [this,zvc hy hk]
theorem zgw (hy:y.length=n) {k:Nat} (hk:k<n):en (floS f y 6) k 0=y[k]?.getD 0:=by
 have:=zcJ (f:=f) (show k<y.length by omega) 0 (Nat.le_refl 0) 6
 rw [Nat.zero_add] at this
 show ((floS f y 6)[k]?.getD [])[0]?.getD 0=y[k]?.getD 0
 rw [this,floS,zfT (by omega)]; rfl
theorem zow (hy:y.length=n) (hN:Ns y):R7 n (floS f y 6):=⟨by rw [za2,hy],zc8 hN 6⟩
theorem zl0 (hT:Tab A B) (hf:FieldOk (n:Int) f) (hy:y.length=n) (hN:Ns y) (hfl:f.length=n):tsX f y (mapW 1 (chW A B)) 7 37=zay (steS A B f (poS y)):=by
 have hs:R7 n (poS y):=by rw [<- hy]; exact zme hN
 exact zjI (chW A B) hy hN (by have:=hf.lo; omega) (zk7 hs) (fun k hk=>zhl hy hN hk) fun k hk j hj=>zir hT hf hy hN hfl hk hj
theorem zlu (hf:FieldOk (n:Int) f) (hy:y.length=n) (hN:Ns y) (hfl:f.length=n):tsX f y (mapW 1 exN) 7 37=zay (floS f y 6) :=
 zjI exN hy hN (by have:=hf.lo; omega) (zow hy hN) (fun k hk=>zgw hy hk) fun k hk j hj=>ziC hf hy hN hfl j hj k hk
theorem zm8 (hT:Tab A B) (hf:FieldOk (n:Int) f) (hy:y.length=n) (hN:Ns y) (hfl:f.length=n) {k j:Nat} (hk:k<n) (hj:j<6) (ho:((j+1:Nat):Int)<=orT A B (trN 6)) :
  en (steS A B f (poS y)) k (j+1)%10007=en (floS f y 6) k (j+1)%10007:=by
 rw [zir hT hf hy hN hfl hk hj]
 refine Eq.trans ?_ (ziC hf hy hN hfl j hj k hk).symm
 unfold flT
 obtain ⟨_,_,o3⟩:=zsl (A:=A) (B:=B) (L:=trN 6) (zlI zsH) (fun t ht=>⟨(zcy ht).1.1,(zcy ht).2.1⟩)
 obtain ⟨m1,m2,_⟩:=zjL hj
 refine zcK fun t ht=>zaD (zaD rfl ?_) rfl
 have htr:t∈trN 6:=(List.mem_filter.1 (m2.symm.subset ht)).1
 obtain ⟨tL,tl⟩:=m1 t ht
 have h0:=o3 t htr (by rw [tl]; exact ho)
 unfold lacF at h0
 have e1:stwF A B.length 6 t=stwF A B.length t.length t:=zeT A B.length t.length 6 t tL (Nat.le_refl _) (by omega)
 have e2:exN t=pw (denF 8 t%10007) 10005:=by
  unfold exN
  rw [zpf,Int.toNat_of_nonneg (Int.emod_nonneg _ (by decide))]
 rw [e1,e2]
 generalize dotI B (stwF A B.length t.length t)=a at *
 have pn:=pw_N (denF 8 t%10007) 10005
 have:=pn.1; have:=pn.2
 generalize pw (denF 8 t%10007) 10005=b at *
 omega
theorem zAP (X:List (List Int)) (Z:List Int):∀ k,k<=6->(∀ j,1<=j->j<=6-k->X[j]?.getD []=Z)->∃ p,p<=6/\(∀ j,1<=j->j<=p->X[j]?.getD []=Z)/\(p=6\/X[p+1]?.getD []≠Z)
 | 0,_,h=>⟨6,Nat.le_refl _,fun j a b=>h j a (by omega),.inl rfl⟩
 | k+1,hk,h=>by
  by_cases e:X[6-(k+1)+1]?.getD []=Z
  .refine zAP X Z k (by omega) fun j a b=>?_
   by_cases ej:j=6-(k+1)+1
   .rw [ej]; exact e
   .exact h j a (by omega)
  .exact ⟨6-(k+1),by omega,h,.inr e⟩
theorem zD5 (hy:y.length=n) (hN:Ns y) {k j:Nat} (hk:k<n) (hj:j<7):en (leS A B f y) k j=(en (steS A B f (poS y)) k j+10006*en (floS f y 6) k j)%10007:=by
 have hs:R7 n (poS y):=by rw [<- hy]; exact zme hN
 have l7:=((zk7 (A:=A) (B:=B) (f:=f) hs).row hk).1
 show ((leS A B f y)[k]?.getD [])[j]?.getD 0=_
 rw [zqV (by omega)]
 exact zaP (fun j=>(((steS A B f (poS y))[k]?.getD [])[j]?.getD 0 + -1%10007*((floS f y 6)[k]?.getD [])[j]?.getD 0)%10007) (by omega)
theorem zeQ {X:List (List Int)} (n1:1<=n) (hX:R7 n X) {j:Nat} (hj:j<7):(zay X)[j]?.getD []=colS X j/\(colS X j).length=n/\∀ k,k<n->(colS X j)[k]?.getD 0=en X k j:=by
 have r0:=hX.row (k:=0) (by omega)
 refine ⟨zjf (by rw [r0.1]; exact hj),by simp [colS,hX.1],fun k hk=>zlV (by rw [hX.1]; exact hk)⟩
theorem zAJ (hy:y.length=n) (hN:Ns y):R7 n (leS A B f y):=⟨by rw [zeq,hy],zgL hN⟩
theorem zv9 (n1:1<=n) (hT:Tab A B) (hf:FieldOk (n:Int) f) (hy:y.length=n) (hN:Ns y) (hfl:f.length=n) {j:Nat} (hj:j<7) (ho:(j:Int)<=orT A B (trN 6)):(zay (leS A B f y))[j]?.getD []=List.replicate n 0:=by
 obtain ⟨a1,a2,a3⟩:=zeQ n1 (zAJ (A:=A) (B:=B) (f:=f) hy hN) hj
 rw [a1]
 refine List.ext_getElem (by rw [a2]; simp) fun k k1 k2=>?_
 have hk:k<n:=by rw [a2] at k1; exact k1
 have e1:=a3 k hk
 rw [List.getElem?_eq_getElem k1,Option.getD_some,zD5 hy hN hk hj] at e1
 rw [e1]
 have e2:en (steS A B f (poS y)) k j%10007=en (floS f y 6) k j%10007:=by
  cases j with
  | zero=>rw [zhl hy hN hk,zgw hy hk]
  | succ j=>exact zm8 hT hf hy hN hfl hk (by omega) ho
 simp
 omega
theorem zBn (n1:1<=n) (hT:Tab A B) (hf:FieldOk (n:Int) f) (hy:y.length=n) (hN:Ns y) (hfl:f.length=n) :
  ∃ p,loS (zay (leS A B f y)) n=p/\p<=6/\orT A B (trN 6)<=p/\(∀ j,j<=p->(zay (leS A B f y))[j]?.getD []=List.replicate n 0)/\(p<6->(zay (leS A B f y))[p+1]?.getD []≠List.replicate n 0):=by
 obtain ⟨o1,o2,_⟩:=zsl (A:=A) (B:=B) (L:=trN 6) (zlI zsH) (fun t ht=>⟨(zcy ht).1.1,(zcy ht).2.1⟩)
 have z:=fun j hj ho=>zv9 (A:=A) (B:=B) n1 hT hf hy hN hfl (j:=j) hj ho
 obtain ⟨p,p6,h1,h2⟩:=zAP (zay (leS A B f y)) (List.replicate n 0) 6 (Nat.le_refl _) (fun j a b=>by omega)
 have l7:(zay (leS A B f y)).length=7:=by
  rw [za5]; exact ((zAJ (A:=A) (B:=B) (f:=f) hy hN).row (k:=0) (by omega)).1
 refine ⟨p,zti l7 p6 h1 h2,p6,?_,fun j hj=>?_,fun h6=>?_⟩
 .rcases h2 with h2 | h2
  .omega
  .rcases Int.lt_or_le (p:Int) (orT A B (trN 6)) with h | h
   .exact (h2 (z (p+1) (by omega) (by omega))).elim
   .exact h
 .cases j with
  | zero=>exact z 0 (by omega) (by simpa using o1)
  | succ j=>exact h1 (j+1) (by omega) hj
 .rcases h2 with h2 | h2
  .omega
  .exact h2
end
end Go.Proofs.YthhdollpkieknaaGreat

