/- Texts of the own layer and contracts, part 7: W12 W13 V2 V1 W1 W3 W14 W15 W6 W7 W9 W10 W19 U4 LK W35 O W2 E43 E44 E45 E46 R4 W16 W20 W21 W44 E41 E42 N3 W45 W46 N9 W48 W47 N10 W49 E47 W51. -/
import Derived.Test.YthhdollpkieknaaGreatRows
import Derived.WalkKit
import Derived.ProofKit
import Derived.OpenShut
import Derived.Lib.AppendZerosOnto
import Derived.Lib.Walk
import Derived.Shelf.Abstract
import Derived.Shelf.RegionOpenPlain
import Derived.Lib.SliceRun
import Derived.Test.YthhdollpkieknaaGreatM6
set_option linter.unusedSectionVars false
set_option linter.unusedVariables false
set_option linter.unusedSimpArgs false
set_option maxHeartbeats 4000000
set_option maxRecDepth 100000
namespace Go.Proofs.YthhdollpkieknaaGreat
open Go.Abs
def frI (p q:Int):Int:=p%10007*pw (q%10007) 10005%10007
theorem zsy (p q:Int):isN (frI p q):=zaf _
def sqL (s:Nat) (q:Int) (l:List Int):List (List Int):=(List.range s).map fun i=>tb (fun k=>frI (l[i*s+k]?.getD 0) q) s
def rwL (q:Int) (l:List Int):List Int:=tb (fun i=>frI (l[i]?.getD 0) q) l.length
theorem zDO {i k s:Nat} (hi:i<s) (hk:k<s):i*s+k<s*s:=by
 have h:(i+1)*s<=s*s:=Nat.mul_le_mul_right s (by omega)
 rw [Nat.succ_mul] at h
 omega
theorem znE {l:List Int} (h:∀ x∈l,fits x) (k:Nat):fits (l[k]?.getD 0):=by
 rcases Nat.lt_or_ge k l.length with hk | hk
 .exact h _ (by simp [hk])
 .rw [List.getElem?_eq_none hk]; exact ⟨by simp,by simp⟩
theorem zlp (s:Nat) (q:Int) (l:List Int) (hs:s<=8) (hl:l.length=s*s) (hq:fits q) (hN:∀ x∈l,fits x) :
  Con Tryz.prog 307 [.int s,.int q,.sl l.length (avs l)] (.own 25 s (omat (sqL s q l))):=by
 have hd:sqL s q l=(List.range s).map fun i=>tb (fun k=>frI (l[i*s+k]?.getD 0) q) s:=rfl
 have h64:s*s<=64:=by
  have:=Nat.mul_le_mul hs hs
  omega
 rw [hd]
 refine zab Tryz.mixed ⟨11,[],[],[]⟩ Tryz.func307 ?_
 rw [Tryz.ntmps307]
 simp [go_sem]
 refine zac ([7,8,9,10]++List.range' 12 28) (fun i:Nat=>[(7,.own 25 i (omat ((List.range i).map fun i=>tb (fun k=>frI (l[i*s+k]?.getD 0) q) s))),(8,.int i)]) (fun i=>i<=s) (fun i=>s-i) 0 (by simp) (by simp [go_sem,omat]) (by simp [go_sem]) ?_
 intro i hi
 by_cases his:i<s
 .have hii:(i:Int)<s:=by omega
  have os:=zaW (fun i=>tb (fun k=>frI (l[i*s+k]?.getD 0) q) s) i
  rw [zwC] at os
  simp [go_sem,hii]
  refine zac ([9,10]++List.range' 18 18) (fun k:Nat=>[(9,.own 2 k (avs (tb (fun k=>frI (l[i*s+k]?.getD 0) q) k))),(10,.int k)]) (fun k=>k<=s) (fun k=>s-k) 0 (by simp) (by simp [go_sem]) (by simp [go_sem]) ?_
  intro k hk
  by_cases hks:k<s
  .have hki:(k:Int)<s:=by omega
   have hx:i*s+k<l.length:=by rw [hl]; exact zDO his hks
   have ec:(i:Int)*(s:Int)=((i*s:Nat):Int):=by simp
   have hm:i*s<=64:=by omega
   have ts:=zbD (fun k=>frI (l[i*s+k]?.getD 0) q) k
   have fx:=znE hN (i*s+k)
   have cF:=zdn (l[i*s+k]?.getD 0) q fx hq
   have fe:frI (l[i*s+k]?.getD 0) q=l[i*s+k]?.getD 0%10007*pw (q%10007) 10005%10007:=rfl
   rw [<- fe] at cF
   have dr:=zae hx
   have ne:¬ l=[]:=by rintro rfl; simp at hx
   generalize hz:i*s=z at *
   rw [List.getD_eq_getElem?_getD] at dr
   generalize l[z+k]?.getD 0=x at *
   have et:((z:Int)+(k:Int)).toNat=z+k:=by omega
   simp [go_sem,hki,ec,et,dr]
   refine ⟨by omega,⟨by omega,by omega⟩,⟨by omega,by omega,ne⟩,?_⟩
   refine CallVC.of (cF) ?_
   simp [go_sem]
   exact ⟨by omega,by omega,k+1,by omega,by omega,zaa _ _ _ (by simp),by rw [ts,zam]; exact ⟨rfl,rfl⟩,by omega⟩
  .have e:k=s:=by omega
   subst e
   simp [go_sem]
   exact ⟨⟨by omega,by omega⟩,by omega,i+1,by omega,by omega,(Off.reset (by intro x hx; simp at hx |-; omega) (by simp) (by simp [go_sem,zaa])),by rw [os]; exact ⟨rfl,rfl⟩,by omega⟩
 .have e:i=s:=by omega
  subst e
  simp [go_sem]
theorem zuv (q:Int) (l:List Int) (hl:l.length<=64) (hq:fits q) (hN:∀ x∈l,fits x) :
  Con Tryz.prog 308 [.int q,.sl l.length (avs l)] (.own 2 l.length (avs (rwL q l))):=by
 have hd:rwL q l=tb (fun i=>frI (l[i]?.getD 0) q) l.length:=rfl
 rw [hd]
 refine zab Tryz.mixed ⟨7,[],[],[]⟩ Tryz.func308 ?_
 rw [Tryz.ntmps308]
 simp [go_sem]
 refine zac ([5,6]++List.range' 8 15) (fun i:Nat=>[(5,.own 2 i (avs (tb (fun i=>frI (l[i]?.getD 0) q) i))),(6,.int i)]) (fun i=>i<=l.length) (fun i=>l.length-i) 0 (by simp) (by simp [go_sem]) (by simp [go_sem]) ?_
 intro i hi
 by_cases hil:i<l.length
 .have hii:(i:Int)<l.length:=by omega
  have ts:=zbD (fun i=>frI (l[i]?.getD 0) q) i
  have fx:=znE hN i
  have cF:=zdn (l[i]?.getD 0) q fx hq
  have fe:frI (l[i]?.getD 0) q=l[i]?.getD 0%10007*pw (q%10007) 10005%10007:=rfl
  rw [<- fe] at cF
  have dr:=zae hil
  have ne:¬ l=[]:=by rintro rfl; simp at hil
  rw [List.getD_eq_getElem?_getD] at dr
  generalize l[i]?.getD 0=x at *
  simp [go_sem,hii,dr]
  refine ⟨ne,?_⟩
  refine CallVC.of (cF) ?_
  simp [go_sem]
  exact ⟨by omega,by omega,i+1,by omega,by omega,zaa _ _ _ (by simp),by rw [ts,zam]; exact ⟨rfl,rfl⟩,by omega⟩
 .have e:i=l.length:=by omega
  simp [go_sem,e]
theorem zqy (a k:Int) (hk:0<=k) (hk2:k<=9223372036854775807):RCon Tryz.prog 309 [.int a,.int k] (fun r o=>o=[.any,.any]/\∃ x:Int,-1<=x/\x<=10006/\r=.int x):=by
 refine zaF Tryz.mixed ⟨6,[],[],[]⟩ [] Tryz.func309 ?_
 rw [Tryz.ntmps309]
 simp [go_sem]
 refine zac (List.range' 4 12) (fun i:Nat=>[(5,.int i)]) (fun i=>i<=10007) (fun i=>10007-i) 0 (by simp) (by simp [go_sem]) (by simp [go_sem]) ?_
 intro i hi
 by_cases h:i<10007
 .have hii:(i:Int)<10007:=by omega
  have cP:=zof i k ⟨by omega,by omega⟩ hk hk2
  simp [go_sem,hii]
  refine CallVC.of (cP) ?_
  simp [go_sem]
  refine ⟨fun h=>?_,fun h=>?_⟩ <;> simp at h
  .simp [go_sem]
   omega
  .simp [go_sem]
   exact ⟨⟨by omega,by omega⟩,i+1,by omega,by omega,zaa _ _ _ (by simp),by omega⟩
 .have hii:¬ (i:Int)<10007:=by omega
  simp [go_sem,hii]
end Go.Proofs.YthhdollpkieknaaGreat


namespace Go.Proofs.YthhdollpkieknaaGreat
open Go.Abs
theorem zx8 {s:Nat} (q p:Int) (l b:List Int) (h1:1<=s) (h8:s<=8) (hb:b.length=s):Tab (sqL s q l) (rwL p b):=by
 have bl:(rwL p b).length=s:=by simp [rwL,hb]
 refine ⟨by omega,by omega,by rw [bl]; simp [sqL],tb_N fun k _=>zsy _ _,fun r hr=>?_⟩
 obtain ⟨i,_,rfl⟩:=List.mem_map.1 hr
 exact ⟨by rw [bl]; simp,tb_N fun k _=>zsy _ _⟩
theorem zyL (s:Nat) (q:Int) (l:List Int):(sqL s q l).length=s:=by simp [sqL]
theorem zyC (p:Int) (b:List Int):(rwL p b).length=b.length:=by simp [rwL]
def Tb8 (A:List (List Int)) (B:List Int):Prop:=Tab A B
theorem zbb (s:Nat) (q p:Int) (l b:List Int) (h1:1<=s) (h8:s<=8) (hb:b.length=s) :
  ∃ (A:List (List Int)) (B:List Int),Tb8 A B/\(s=A.length/\omat (sqL s q l)=omat A)/\s=B.length/\rwL p b=B :=
 ⟨sqL s q l,rwL p b,zx8 q p l b h1 h8 hb,⟨(zyL s q l).symm,rfl⟩,by rw [zyC]; exact hb.symm,rfl⟩
theorem zpJ (nm:ByteArray):RCon Tryz.prog 260 [.val (.string nm)] (fun r o=>o=[.any]/\∃ (A:List (List Int)) (B:List Int),Tb8 A B/\r=.agg [.own 25 A.length (omat A),.own 2 B.length (avs B)]):=by
 have sq:=fun (s:Nat) (q:Int) (l:List Int) (h1:s<=8) (h2:l.length=s*s) (h3:fits q) (h4:∀ x∈l,fits x)=>zlp s q l h1 h2 h3 h4
 have rw_:=fun (q:Int) (l:List Int) (h1:l.length<=64) (h3:fits q) (h4:∀ x∈l,fits x)=>zuv q l h1 h3 h4
 have f1:fits 1:=⟨by omega,by omega⟩
 have ff:∀ n:Int,-100<=n->n<=100->fits n:=fun n h1 h2=>⟨by omega,by omega⟩
 refine zaF Tryz.mixed ⟨5,[],[2000000+309],[]⟩ [] Tryz.func260 ?_
 rw [Tryz.ntmps260]
 simp [go_sem]
 refine ⟨fun h=>?_,fun h=>?_⟩
 .simp [go_sem]
  refine CallVC.of (sq 1 1 [0] (by omega) rfl (ff _ (by omega) (by omega)) (by simp [fits])) ?_
  simp [go_sem]
  refine CallVC.of (rw_ 1 [1] (by simp) (ff _ (by omega) (by omega)) (by simp [fits])) ?_
  simp [go_sem]
  exact zbb 1 1 1 [0] [1] (by omega) (by omega) rfl
 simp [go_sem]
 refine ⟨fun h=>?_,fun h=>?_⟩
 .simp [go_sem]
  refine ⟨_,zqy 3 2 (by omega) (by omega),?_⟩
  rintro _ _ ⟨rfl,x,hx1,hx2,rfl⟩
  have n6:=zsy 1 6
  have n4:=zsy 1 4
  have c6:=zdn 1 6 f1 (ff _ (by omega) (by omega))
  have c4:=zdn 1 4 f1 (ff _ (by omega) (by omega))
  have e6:frI 1 6=1%10007*pw (6%10007) 10005%10007:=rfl
  have e4:frI 1 4=1%10007*pw (4%10007) 10005%10007:=rfl
  rw [<- e6] at c6
  rw [<- e4] at c4
  generalize frI 1 6=y at *
  generalize frI 1 4=z at *
  have fm:fits (x*y):=by
   have h1:x*y<=10006*y:=Int.mul_le_mul_of_nonneg_right hx2 n6.1
   have h2 : -1*y<=x*y:=Int.mul_le_mul_of_nonneg_right hx1 n6.1
   have:=n6.1
   have:=n6.2
   exact ⟨by omega,by omega⟩
  have cm:=zcm x y fm
  have nm':isN (x*y%10007):=zaf _
  generalize x*y%10007=u at *
  have fs:fits (z-u):=zi9 n4 nm'
  have fa:fits (z+u):=zd6 n4 nm'
  have cs:=zi2 z u fs
  have ca:=zdO z u fa
  have ns:isN ((z-u)%10007):=zaf _
  have na:isN ((z+u)%10007):=zaf _
  generalize (z-u)%10007=v at *
  generalize (z+u)%10007=w at *
  simp [go_sem]
  refine CallVC.of (c6) ?_
  simp [go_sem]
  refine CallVC.of (cm) ?_
  simp [go_sem]
  refine CallVC.of (c4) ?_
  simp [go_sem]
  refine CallVC.of (cs) ?_
  simp [go_sem]
  refine CallVC.of (ca) ?_
  simp [go_sem]
  refine CallVC.of (rw_ 2 [1,1] (by simp) (ff _ (by omega) (by omega)) (by simp [fits])) ?_
  simp [go_sem]
  have hT:Tab [[z,v],[w,z]] (rwL 2 [1,1]):=by
   refine ⟨by simp [rwL],by simp [rwL],by simp [rwL],tb_N fun k _=>zsy _ _,fun r hr=>?_⟩
   simp at hr
   rcases hr with rfl | rfl
   .refine ⟨by simp [rwL],fun x hx=>?_⟩
    simp at hx
    rcases hx with rfl | rfl <;> assumption
   .refine ⟨by simp [rwL],fun x hx=>?_⟩
    simp at hx
    rcases hx with rfl | rfl <;> assumption
  exact ⟨[[z,v],[w,z]],rwL 2 [1,1],hT,by simp [omat,avs],by simp [rwL]⟩
 simp [go_sem]
 refine ⟨fun h=>?_,fun h=>?_⟩
 .simp [go_sem]
  refine CallVC.of (sq 2 1 [0,0,1,0] (by omega) rfl (ff _ (by omega) (by omega)) (by simp [fits])) ?_
  simp [go_sem]
  refine CallVC.of (rw_ 2 [1,1] (by simp) (ff _ (by omega) (by omega)) (by simp [fits])) ?_
  simp [go_sem]
  exact zbb 2 1 2 [0,0,1,0] [1,1] (by omega) (by omega) rfl
 simp [go_sem]
 refine ⟨fun h=>?_,fun h=>?_⟩
 .simp [go_sem]
  refine CallVC.of (sq 1 1 [1] (by omega) rfl (ff _ (by omega) (by omega)) (by simp [fits])) ?_
  simp [go_sem]
  refine CallVC.of (rw_ 1 [1] (by simp) (ff _ (by omega) (by omega)) (by simp [fits])) ?_
  simp [go_sem]
  exact zbb 1 1 1 [1] [1] (by omega) (by omega) rfl
 simp [go_sem]
 refine ⟨fun h=>?_,fun h=>?_⟩
 .simp [go_sem]
  refine CallVC.of (sq 3 2 [0,0,0,1,0,0,-2,4,0] (by omega) rfl (ff _ (by omega) (by omega)) (by simp [fits])) ?_
  simp [go_sem]
  refine CallVC.of (rw_ 6 [1,4,1] (by simp) (ff _ (by omega) (by omega)) (by simp [fits])) ?_
  simp [go_sem]
  exact zbb 3 2 6 [0,0,0,1,0,0,-2,4,0] [1,4,1] (by omega) (by omega) rfl
 simp [go_sem]
 refine ⟨fun h=>?_,fun h=>?_⟩
 .simp [go_sem]
  refine CallVC.of (sq 3 24 [0,0,0,5,8,-1,4,16,4] (by omega) rfl (ff _ (by omega) (by omega)) (by simp [fits])) ?_
  simp [go_sem]
  refine CallVC.of (rw_ 6 [1,4,1] (by simp) (ff _ (by omega) (by omega)) (by simp [fits])) ?_
  simp [go_sem]
  exact zbb 3 24 6 [0,0,0,5,8,-1,4,16,4] [1,4,1] (by omega) (by omega) rfl
 simp [go_sem]
 refine ⟨fun h=>?_,fun h=>?_⟩
 .simp [go_sem]
  refine CallVC.of (sq 1 2 [1] (by omega) rfl (ff _ (by omega) (by omega)) (by simp [fits])) ?_
  simp [go_sem]
  refine CallVC.of (rw_ 1 [1] (by simp) (ff _ (by omega) (by omega)) (by simp [fits])) ?_
  simp [go_sem]
  exact zbb 1 2 1 [1] [1] (by omega) (by omega) rfl
 simp [go_sem]
 refine ⟨fun h=>?_,fun h=>?_⟩
 .simp [go_sem]
  refine CallVC.of (sq 2 2 [0,0,1,0] (by omega) rfl (ff _ (by omega) (by omega)) (by simp [fits])) ?_
  simp [go_sem]
  refine CallVC.of (rw_ 1 [0,1] (by simp) (ff _ (by omega) (by omega)) (by simp [fits])) ?_
  simp [go_sem]
  exact zbb 2 2 1 [0,0,1,0] [0,1] (by omega) (by omega) rfl
 simp [go_sem]
 refine ⟨fun h=>?_,fun h=>?_⟩
 .simp [go_sem]
  refine CallVC.of (sq 2 12 [5,-1,9,3] (by omega) rfl (ff _ (by omega) (by omega)) (by simp [fits])) ?_
  simp [go_sem]
  refine CallVC.of (rw_ 4 [3,1] (by simp) (ff _ (by omega) (by omega)) (by simp [fits])) ?_
  simp [go_sem]
  exact zbb 2 12 4 [5,-1,9,3] [3,1] (by omega) (by omega) rfl
 simp [go_sem]
 refine ⟨fun h=>?_,fun h=>?_⟩
 .simp [go_sem]
  refine CallVC.of (sq 2 3 [0,0,2,0] (by omega) rfl (ff _ (by omega) (by omega)) (by simp [fits])) ?_
  simp [go_sem]
  refine CallVC.of (rw_ 4 [1,3] (by simp) (ff _ (by omega) (by omega)) (by simp [fits])) ?_
  simp [go_sem]
  exact zbb 2 3 4 [0,0,2,0] [1,3] (by omega) (by omega) rfl
 simp [go_sem]
 refine ⟨fun h=>?_,fun h=>?_⟩
 .simp [go_sem]
  refine CallVC.of (sq 4 2 [0,0,0,0,1,0,0,0,0,1,0,0,0,0,2,0] (by omega) rfl (ff _ (by omega) (by omega)) (by simp [fits])) ?_
  simp [go_sem]
  refine CallVC.of (rw_ 6 [1,2,2,1] (by simp) (ff _ (by omega) (by omega)) (by simp [fits])) ?_
  simp [go_sem]
  exact zbb 4 2 6 [0,0,0,0,1,0,0,0,0,1,0,0,0,0,2,0] [1,2,2,1] (by omega) (by omega) rfl
 simp [go_sem]
 refine CallVC.of (sq 2 2 [0,0,1,1] (by omega) rfl (ff _ (by omega) (by omega)) (by simp [fits])) ?_
 simp [go_sem]
 refine CallVC.of (rw_ 2 [1,1] (by simp) (ff _ (by omega) (by omega)) (by simp [fits])) ?_
 simp [go_sem]
 exact zbb 2 2 2 [0,0,1,1] [1,1] (by omega) (by omega) rfl
end Go.Proofs.YthhdollpkieknaaGreat


namespace Go.Proofs.YthhdollpkieknaaGreat
open Go.Abs
end Go.Proofs.YthhdollpkieknaaGreat


namespace Go.Proofs.YthhdollpkieknaaGreat
open Go.Abs
def ptA (Ls:List (List Mon)):Nat->AV
 | 0=>.val (.slice none 0 0)
 | i+1=>.own 63 (i+1) (oprt (Ls.take (i+1)))
theorem zmV (Ls:List (List Mon)):ptA Ls 0=.val (.slice none 0 0):=rfl
theorem zjE (Ls:List (List Mon)) (i:Nat):ptA Ls (i+1)=.own 63 (i+1) (oprt (Ls.take (i+1))):=rfl
end Go.Proofs.YthhdollpkieknaaGreat


namespace Go.Proofs.YthhdollpkieknaaGreat
open Go.Abs
def DrP (n:Nat) (p:List Mon):Prop:=p.length<=3/\∀ m∈p,WOk n 3 m
theorem zvG {w:List Int} {B:Int} {k:Nat} (hw:∀ x∈w,0<=x/\x<=B) (hk:k<w.length):∀ x∈w.set k (w[k]?.getD 0+1),0<=x/\x<=B+1:=fun x hx=>by
 rcases List.mem_or_eq_of_mem_set hx with hx | rfl
 .have:=hw x hx; omega
 .have:=hw (w[k]?.getD 0) (by simp [hk])
  omega
theorem ztg (c:List Int) (σ:Src) (hc:Byt c) (hs:SOk σ) :
  RCon Tryz.prog 274 [srcA c σ] (fun r o=>∃ (τ:Src) (n:Nat) (f:List (List Mon)),SOk τ/\o=[srcA c τ]/\1<=n/\n<=3/\f.length=n/\(∀ p∈f,DrP n p)/\r=.agg [.int n,.own 63 n (oprt f)]):=by
 have c1:=zaA c σ 3 hc hs
 have s1:=zaS hc hs 3
 have b1:=zhi hc σ (n:=3) (by omega)
 obtain ⟨n,hn⟩:∃ n:Nat,1+nx1 c σ 3=n:=⟨(1+nx1 c σ 3).toNat,by omega⟩
 generalize nx1 c σ 3=v1 at *
 generalize nx2 c σ 3=σ1 at *
 simp only [zaC] at *
 refine zaF Tryz.mixed ⟨10,[],[1000000+183,1000000+98,1000000+184],[]⟩ [0] Tryz.func274 ?_
 rw [Tryz.ntmps274]
 simp [go_sem]
 refine ⟨_,_,c1,?_⟩
 simp [go_sem]
 refine ⟨⟨by omega,by omega⟩,?_⟩
 rw [hn]
 refine zac (0::3::4::5::6::7::8::9::List.range' 14 46) (fun x:Src × List (List Mon)=>[(0,.box 162 [.sl c.length (bys c),.int x.1.1,.val (.int .u64 x.1.2)]),(3,.box 30 [.int n,ptA x.2 x.2.length]),(4,.int x.2.length)]) (fun x=>SOk x.1/\x.2.length<=n/\∀ p∈x.2,DrP n p) (fun x=>n-x.2.length) (σ1,[]) (by simp; exact s1) (by simp [go_sem,zmV]) (by simp [go_sem]) ?_
 rintro ⟨τ,f⟩ ⟨h1,h2,h3⟩
 simp only at h1 h2 h3
 simp [go_sem]
 refine ⟨fun h=>?_,fun h=>?_⟩ <;> simp at h
 .have c4:=zaA c τ 4 hc h1
  have s4:=zaS hc h1 4
  have b4:=zhi hc τ (n:=4) (by omega)
  obtain ⟨m,hm⟩:∃ m:Nat,nx1 c τ 4=m:=⟨(nx1 c τ 4).toNat,by omega⟩
  rw [hm] at c4 b4
  generalize nx2 c τ 4=τ1 at *
  simp only [zaC] at c4
  simp [go_sem]
  refine ⟨_,_,c4,?_⟩
  simp [go_sem]
  refine zac (0::5::6::7::8::9::List.range' 23 31) (fun x:Src × List Mon × Nat=>[(0,.box 162 [.sl c.length (bys c),.int x.1.1,.val (.int .u64 x.1.2)]),(5,.own 62 x.2.1.length (zcN x.2.1)),(6,.int x.2.2)]) (fun x=>SOk x.1/\x.2.1.length+x.2.2<=3/\∀ m∈x.2.1,WOk n 3 m) (fun x=>x.2.2) (τ1,[],m) ⟨s4,by simp; omega,by simp⟩ (by simp [go_sem]) (by simp [go_sem]) ?_
  rintro ⟨ρ,p,k⟩ ⟨g1,g2,g3⟩
  simp only at g1 g2 g3
  simp [go_sem]
  refine ⟨fun h=>?_,fun h=>?_⟩ <;> simp at h
  .have c5:=zb5 c ρ [0,1,1,2,2,3] hc g1 (by simp) (by simp)
   have m5:=zsg c hc ρ (xs:=[0,1,1,2,2,3]) (by simp)
   have s5:=zaS hc g1 6
   obtain ⟨d0,hd0⟩:∃ d0:Nat,pk c ρ [0,1,1,2,2,3]=d0:=⟨(pk c ρ [0,1,1,2,2,3]).toNat,by simp at m5; omega⟩
   have hd3:d0<=3:=by rw [hd0] at m5; simp at m5; omega
   have e6:(([0,1,1,2,2,3]:List Int).length:Int)=6:=rfl
   rw [hd0,e6] at c5
   generalize nx2 c ρ 6=ρ1 at *
   simp only [zaC] at c5
   simp [go_sem]
   refine ⟨⟨by omega,by omega⟩,?_⟩
   refine ⟨_,_,c5,?_⟩
   simp [go_sem]
   rw [zc5]
   refine zac (0::7::8::9::List.range' 33 16) (fun x:Src × List Int × Nat=>[(0,.box 162 [.sl c.length (bys c),.int x.1.1,.val (.int .u64 x.1.2)]),(7,.own 2 n (avs x.2.1)),(8,.int x.2.2)]) (fun x=>SOk x.1/\x.2.1.length=n/\x.2.2<=3/\∀ y∈x.2.1,0<=y/\y+x.2.2<=3) (fun x=>x.2.2) (ρ1,List.replicate n 0,d0) ⟨s5,by simp,by simpa using hd3,by intro y hy; have:=List.eq_of_mem_replicate hy; simp only; omega⟩ (by simp [go_sem]) (by simp [go_sem]) ?_
   rintro ⟨κ,w,d⟩ ⟨q1,q2,q3,q4⟩
   simp only at q1 q2 q3 q4
   simp [go_sem]
   refine ⟨fun h=>?_,fun h=>?_⟩ <;> simp at h
   .obtain ⟨e,rfl⟩:∃ e,d=e+1:=⟨d-1,by omega⟩
    have hnn:1<=n:=by omega
    have c6:=zaA c κ n hc q1
    have s6:=zaS hc q1 n
    have b6:=zhi hc κ (n:=n) (by omega)
    obtain ⟨j,hj⟩:∃ j:Nat,nx1 c κ n=j:=⟨(nx1 c κ n).toNat,by omega⟩
    rw [hj] at c6 b6
    have hjn:j<w.length:=by omega
    have hA:=zbL hjn
    have hB:=zvG (B:=3-(e+1)) (fun y hy=>by have:=q4 y hy; constructor <;> omega) hjn
    have wj:=q4 (w[j]?.getD 0) (by simp [hjn])
    have hS:=za0 w j (w[j]?.getD 0+1)
    generalize w[j]?.getD 0=u at *
    generalize nx2 c κ n=κ1 at *
    simp only [zaC] at c6
    simp [go_sem]
    refine ⟨_,_,c6,?_⟩
    simp [go_sem]
    simp [go_sem,hA]
    refine ⟨by omega,⟨by omega,by omega⟩,by omega,by omega,by omega,κ1.1,κ1.2,w.set j (u+1),e,⟨s6,by simpa using q2,by omega,fun y hy=>?_⟩,by omega,zaa _ _ _ (by simp),?_⟩
    .have:=hB y hy; omega
    .simp [hS]
   .have e0:d=0:=by omega
    subst e0
    have c7:=zgQ c κ hc q1
    have h7:=zeK hc q1
    have c8:=zuK p (nbV c κ).1 w h7.1 (fun m hm=>⟨(g3 m hm).num,by have:=(g3 m hm).len; omega⟩) (by omega) (by omega)
    have l8:=zt9 p (nbV c κ).1 w
    have w8:=zdD (n:=n) (B:=3) (c:=(nbV c κ).1) (e:=w) ⟨h7.1,q2,fun y hy=>by have:=q4 y hy; constructor <;> omega⟩ p (decide ((nbV c κ).1=0)) g3
    have w9:∀ m∈putL p (nbV c κ).1 w,WOk n 3 m:=w8
    rw [q2] at c8
    generalize putL p (nbV c κ).1 w=p2 at *
    generalize nbV c κ=r7 at *
    simp only [zaC] at c7
    simp [go_sem]
    refine ⟨_,_,c7,?_⟩
    simp [go_sem]
    refine CallVC.of (c8) ?_
    simp [go_sem]
    exact ⟨⟨by omega,by omega⟩,r7.2.1,r7.2.2,p2,k-1,⟨h7.2,by omega,fun a b hab=>w9 (a,b) hab⟩,by omega,(Off.reset (by intro x hx; simp at hx |-; omega) (by simp) (by simp [go_sem,zaa])),⟨rfl,rfl⟩,⟨rfl,rfl⟩,by omega⟩
  .have k0:k=0:=by omega
   subst k0
   have hsn:ptA (f++[p]) (f.length+1)=.own 63 (f.length+1) (oprt f++[.own 62 p.length (zcN p)]):=by
    rw [zjE,List.take_of_length_le (by simp),znR]; rfl
   have hdr:DrP n p:=⟨by omega,g3⟩
   rcases f with _ | ⟨q,f⟩
   .simp [go_sem,zmV]
    refine ⟨ρ.1,ρ.2,[p],⟨g1,by simp; omega,by simpa using hdr⟩,by simp; omega,(by repeat (first | exact zaa _ _ _ (by simp) | (refine Off.reset (by intro x hx; simp at hx |-; omega) (by simp) ?_; simp -failIfUnchanged [go_sem,zaa]))),?_⟩
    exact ⟨⟨rfl,rfl⟩,rfl,by simp⟩
   .rw [List.length_cons] at *
    simp [go_sem,zjE]
    refine ⟨⟨by omega,by omega⟩,by omega,ρ.1,ρ.2,q::f++[p],⟨g1,by simp; omega,fun t ht=>?_⟩,by simp; omega,(by repeat (first | exact zaa _ _ _ (by simp) | (refine Off.reset (by intro x hx; simp at hx |-; omega) (by simp) ?_; simp -failIfUnchanged [go_sem,zaa]))),?_⟩
    .rcases List.mem_append.1 ht with ht | ht
     .exact h3 t ht
     .simp at ht; rw [ht]; exact hdr
    .have e1:(q::f++[p]).length=f.length+1+1:=by simp
     rw [e1,hsn]
     exact ⟨⟨rfl,rfl⟩,rfl,by omega⟩
 .have e0:f.length=n:=by omega
  rcases f with _ | ⟨q,f⟩
  .simp at e0; omega
  .rw [List.length_cons] at *
   simp [go_sem,zjE]
   exact ⟨τ.1,τ.2,h1,⟨rfl,rfl⟩,n,by omega,by omega,q::f,by simpa using e0,h3,rfl,e0,rfl⟩
def spr:Bool->List (List Mon)->List AV
 | true,p::f=>.own 62 p.length (mons p)::oprt f
 | true,[]=>[]
 | false,f=>oprt f
@[simp] theorem zDc:∀ (b:Bool) (f:List (List Mon)),(spr b f).length=f.length
 | true,p::f=>by simp [spr]
 | true,[]=>rfl
 | false,f=>by simp [spr]
@[simp] theorem zzn:∀ (b:Bool) (f:List (List Mon)),frzL (spr b f)=prt f
 | true,p::f=>by simp [spr,frzL,frz,prt,zm9]
 | true,[]=>rfl
 | false,f=>by simp [spr]
def DrS (z:Int) (f:List (List Mon)):Prop := -1<=z/\z<=4/\f.length<=4/\∀ p∈f,p.length<=4/\∀ m∈p,m.2.length<=3
theorem DrS.of {n:Nat} {f:List (List Mon)} (hn:n<=3) (hl:f.length<=3) (h:∀ p∈f,DrP n p) {z:Int} (h1 : -1<=z) (h2:z<=4):DrS z f :=
 ⟨h1,h2,by omega,fun p hp=>⟨by have:=(h p hp).1; omega,fun m hm=>by have:=((h p hp).2 m hm).len; omega⟩⟩
end Go.Proofs.YthhdollpkieknaaGreat


namespace Go.Proofs.YthhdollpkieknaaGreat
open Go.Abs
theorem zeG (q:List Mon) (f:List (List Mon)):oprt (q::f)=.own 62 q.length (zcN q)::oprt f:=rfl
theorem zoO (c:List Int) (σ:Src) (hc:Byt c) (hs:SOk σ) :
  RCon Tryz.prog 220 [srcA c σ] (fun r o=>∃ (τ:Src) (z:Int) (b:Bool) (f:List (List Mon)),SOk τ/\o=[srcA c τ]/\DrS z f/\r=.agg [.int z,.own 63 f.length (spr b f)]):=by
 have cD:=ztg c σ hc hs
 simp only [zaC] at *
 refine zaF Tryz.mixed ⟨5,[48],[1000000+183,1000000+98,2000000+274],[2000614000117]⟩ [0] Tryz.func220 ?_
 rw [Tryz.ntmps220]
 simp [go_sem]
 refine ⟨_,cD,?_⟩
 rintro _ _ ⟨τ,n,f,h1,rfl,h2,h3,h4,h5,rfl⟩
 have c4:=zaA c τ 40 hc h1
 have s4:=zaS hc h1 40
 generalize nx1 c τ 40=v at *
 generalize nx2 c τ 40=τ1 at *
 simp only [zaC] at c4
 simp [go_sem]
 refine ⟨_,_,c4,?_⟩
 simp [go_sem]
 rcases f with _ | ⟨q,f⟩
 .simp at h4; omega
 .have hq:q.length<=3:=(h5 q (by simp)).1
  by_cases v0:v=0
  .have c5:=zb5 c τ1 [0,(n:Int)+1,-1,4] hc s4 (by simp) (by simp)
   have m5:=zsg c hc τ1 (xs:=[0,(n:Int)+1,-1,4]) (by simp)
   have s5:=zaS hc s4 4
   have e4:(([0,(n:Int)+1,-1,4]:List Int).length:Int)=4:=rfl
   rw [e4] at c5
   simp only [zaC] at c5
   generalize pk c τ1 [0,(n:Int)+1,-1,4]=z at *
   generalize nx2 c τ1 4=τ2 at *
   simp [go_sem,v0]
   refine ⟨⟨by omega,by omega⟩,?_⟩
   refine ⟨_,_,c5,?_⟩
   simp [go_sem]
   refine ⟨τ2.1,τ2.2,s5,⟨rfl,rfl⟩,z,.inl ⟨q::f,DrS.of h3 (by omega) h5 ?_ ?_,rfl,h4.symm,rfl⟩⟩
   all_goals (simp at m5; omega)
  .have hfs:DrS n (q::f):=DrS.of h3 (by omega) h5 (by omega) (by omega)
   by_cases v1:v=1
   .have c5:=zb5 c τ1 [0,10007,1] hc s4 (by simp) (by simp)
    have s5:=zaS hc s4 3
    have e4:(([0,10007,1]:List Int).length:Int)=3:=rfl
    have c6:=zux n 0 (by omega) (by omega)
    rw [e4] at c5
    simp only [zaC] at c5
    generalize pk c τ1 [0,10007,1]=x at *
    generalize nx2 c τ1 3=τ2 at *
    have fin:∃ a b,SOk (a,b)/\((τ2.1:Int)=a/\τ2.2=b)/\∃ z,(∃ g,DrS z g/\(n:Int)=z/\n=g.length/\AV.own 62 (q.length+1) (zcN q++[AV.val (Value.int IntKind.i64 x),AV.own 2 n (avs (oneE n 0))])::oprt f=spr false g)\/∃ g,DrS z g/\(n:Int)=z/\n=g.length/\AV.own 62 (q.length+1) (zcN q++[AV.val (Value.int IntKind.i64 x),AV.own 2 n (avs (oneE n 0))])::oprt f=spr true g:=by
     refine ⟨τ2.1,τ2.2,s5,⟨rfl,rfl⟩,n,.inl ⟨(q++[(x,oneE n 0)])::f,⟨by omega,by omega,hfs.2.2.1,fun p hp=>?_⟩,rfl,h4.symm,?_⟩⟩
     .rcases List.mem_cons.1 hp with rfl | hp
      .refine ⟨by simp; omega,fun m hm=>?_⟩
       rcases List.mem_append.1 hm with hm | hm
       .exact (hfs.2.2.2 q (by simp)).2 m hm
       .simp at hm; subst hm; simp [oneE]; omega
      .exact hfs.2.2.2 p (by simp [hp])
     .have e1:((oneE n 0).length:Nat)=n:=by simp [oneE]
      rw [spr,zeG,zcQ]
      simp [zdP,e1]
    simp [go_sem,v0,v1]
    rw [zg5]
    refine ⟨fun i=>if i=8 then [.n 0 .any,.n 27 .any,.n 0 (.box 162 [.sl c.length (bys c),.int τ2.1,.val (.int .u64 τ2.2)]),.n 27 .any,.w 28 (.int x)] else [.w 31 (.own 2 n (avs (oneE n 0)))],by kernel_rfl,?_,?_,?_⟩
    .simp [go_sem,zeG]
     refine ⟨by omega,?_⟩
     refine ⟨_,_,c5,?_⟩
     simp [go_sem]
     refine CallD.of (c6) ?_
     simp [go_sem]
     refine ⟨⟨by omega,by omega⟩,by omega,by kernel_rfl,?_⟩
     exact fin
    .simp [go_sem,zeG]
     refine ⟨by omega,?_⟩
     refine ⟨_,_,c5,?_⟩
     simp [go_sem]
     refine CallD.of (c6) ?_
     simp [go_sem]
     refine ⟨⟨by omega,by omega⟩,by omega,by kernel_rfl,?_⟩
     exact fin
    .simp [go_sem,zeG]
     refine ⟨by omega,?_⟩
     refine ⟨_,_,c5,?_⟩
     simp [go_sem]
     refine CallD.of (c6) ?_
     simp [go_sem]
     refine ⟨⟨by omega,by omega⟩,by omega,by kernel_rfl,?_⟩
     exact fin
   .by_cases v2:v=2
    .have c5:=zb5 c τ1 [4,-1,1099511627776] hc s4 (by simp) (by simp)
     have s5:=zaS hc s4 3
     have e4:(([4,-1,1099511627776]:List Int).length:Int)=3:=rfl
     rw [e4] at c5
     simp only [zaC] at c5
     generalize pk c τ1 [4,-1,1099511627776]=x at *
     generalize nx2 c τ1 3=τ2 at *
     simp [go_sem,v0,v1,v2]
     refine ⟨⟨by omega,by omega⟩,?_⟩
     refine ⟨_,_,c5,?_⟩
     simp [go_sem]
     refine ⟨by omega,τ2.1,τ2.2,s5,⟨rfl,rfl⟩,n,.inr ⟨[(1,(List.replicate n 0).set 0 x)]::f,⟨by omega,by omega,hfs.2.2.1,fun p hp=>?_⟩,rfl,h4.symm,?_⟩⟩
     .rcases List.mem_cons.1 hp with rfl | hp
      .exact ⟨by simp,by simp; omega⟩
      .exact hfs.2.2.2 p (by simp [hp])
     .have e1:avs ((List.replicate n 0).set 0 x)=(List.replicate n (AV.val (.int .i64 0))).set 0 (.val (.int .i64 x)):=by rw [<- za0,zc5]
      have e2:=zhG ((List.replicate n 0).set 0 x)
      rw [e1] at e2
      rw [e2,<- e1]
      simp [spr,oprt,zbM]
    .by_cases v3:v=3
     .simp [go_sem,v0,v1,v2,v3]
      refine ⟨⟨by simpa using h4,by omega,by omega⟩,τ1.1,τ1.2,s4,⟨rfl,rfl⟩,n,.inl ⟨q::f++[[]],⟨by omega,by omega,by simp at h4 |-; omega,fun p hp=>?_⟩,rfl,by simp at h4 |-; omega,?_⟩⟩
      .rcases List.mem_append.1 hp with hp | hp
       .exact hfs.2.2.2 p hp
       .simp at hp; subst hp; exact ⟨by simp,by simp⟩
      .rw [spr,znR]; rfl
     .simp [go_sem,v0,v1,v2,v3]
      exact ⟨τ1.1,τ1.2,s4,⟨rfl,rfl⟩,n,.inl ⟨q::f,hfs,rfl,h4.symm,rfl⟩⟩
theorem RCon.fz {P:Program} {f:FuncId} {args:List AV} {R:AV->List AV->Prop} (h:RCon P f args R):RCon P f args (fun r o=>∃ r0,R r0 o/\r=frz r0):=by
 refine ⟨h.1,fun w vs os F0 hl hn ho hF hr=>(h.2 w vs os F0 hl hn ho hF hr).mono ?_⟩
 rintro e w' ⟨r,o,hR,v,orr,oo,F',k1,k2,k3,k4,k5,k6,k7,k8,k9⟩
 refine ⟨frz r,o,⟨r,hR,rfl⟩,v,[],oo,fun b=>F' b\/b∈orr,k1,k2,fun b hb=>.inl (k3 b hb),fun b hb=>hb.elim (k4 b) (fun hb=>.inr ⟨(k9 b (.inl hb)).1,(k9 b (.inl hb)).2.1⟩),fun tm oss=>(k5 tm oss).frz (fun b h=>.inl h) (fun b h=>.inr h),fun tm oss=>?_,k7,?_,fun b hb=>?_⟩
 .have:=RepTL.kl (w':=w') (F':=fun b=>F' b\/b∈orr) (tm':=tm) (oss':=oss) [] (fun b hb=>.inl hb) (fun _ _ _ _ h=>h) (k6 tm oss) (fun _ _=>rfl)
  rwa [zdb] at this
 .simpa using (List.nodup_append.1 k8).2.1
 .rcases hb with hb | hb
  .simp at hb
  .obtain ⟨j1,j2,j3⟩:=k9 b (.inr hb)
   exact ⟨j1,j2,fun hf=>hf.elim j3 (fun hf=>(List.nodup_append.1 k8).2.2 b hf b hb rfl)⟩
end Go.Proofs.YthhdollpkieknaaGreat


namespace Go.Proofs.YthhdollpkieknaaGreat
open Go.Abs
theorem zAi (cs:List ByteArray) (h:cs.length=12):∀ k,k<12->∃ b,(cs.map fun b=>AV.val (.string b))[k]?=some (.val (.string b)):=fun k hk=>⟨cs[k]?.getD default,by simp [h,hk]⟩
theorem zhI:RCon Tryz.prog 259 [] (fun r o=>o=[]/\∃ L:List AV,(∀ k,k<12->∃ b,L[k]?=some (.val (.string b)))/\r=.own 9 12 L):=by
 refine RCon.mono (R:=fun r o=>o=[]/\∃ cs:List ByteArray,cs.length=12/\r=.own 9 12 (cs.map fun b=>.val (.string b))) ?_ (fun r o h=>?_)
 .refine zaF Tryz.mixed ⟨1,[],[],[]⟩ [] Tryz.func259 ?_
  rw [Tryz.ntmps259]
  simp [go_sem]
  exact ⟨[_,_,_,_,_,_,_,_,_,_,_,_],rfl,rfl⟩
 .obtain ⟨h1,cs,h2,h3⟩:=h
  exact ⟨h1,_,zAi cs h2,h3⟩
def ptM:List (List Int)->AV
 | []=>.val (.slice none 0 0)
 | r::A=>.own 25 (A.length+1) (omat (r::A))
theorem zi6:ptM []=.val (.slice none 0 0):=rfl
theorem zf3 (r:List Int) (A:List (List Int)):ptM (r::A)=.own 25 (A.length+1) (omat (r::A)):=rfl
theorem zqq {A:List (List Int)} (h:1<=A.length):ptM A=.own 25 A.length (omat A):=by
 cases A with
 | nil=>simp at h
 | cons r A=>rfl
theorem Ns.set {l:List Int} (h:Ns l) (k:Nat) {x:Int} (hx:isN x):Ns (l.set k x):=fun y hy=>by
 rcases List.mem_or_eq_of_mem_set hy with hy | rfl
 .exact h y hy
 .exact hx
theorem zsK (c:List Int) (σ:Src) (m:Int) (hc:Byt c) (hs:SOk σ) (hm:1<=m) (hm8:m<=8) :
  RCon Tryz.prog 204 [srcA c σ,.int m] (fun r o=>∃ (τ:Src) (A:List (List Int)) (B:List Int),SOk τ/\o=[srcA c τ,.any]/\Tb8 A B/\r=.agg [.own 25 A.length (omat A),.own 2 B.length (avs B)]):=by
 have c1:=zaA c σ 2 hc hs
 have s1:=zaS hc hs 2
 simp only [zaC] at *
 by_cases h4:4<=m
 .refine zaF Tryz.mixed ⟨14,[],[1000000+183,1000000+221,2000000+259,2000000+260],[]⟩ [0] Tryz.func204 ?_
  rw [Tryz.ntmps204]
  simp [go_sem]
  simp [go_sem,h4]
  refine ⟨_,_,c1,?_⟩
  simp [go_sem]
  generalize nx1 c σ 2=v at *
  generalize nx2 c σ 2=τ0 at *
  by_cases v0:v=0
  .simp [go_sem,v0]
   refine ⟨_,zhI,?_⟩
   rintro _ _ ⟨rfl,L,hL,rfl⟩
   have c9:=zaA c τ0 12 hc s1
   have s9:=zaS hc s1 12
   have b9:=zhi hc τ0 (n:=12) (by omega)
   obtain ⟨k,hk⟩:∃ k:Nat,nx1 c τ0 12=k:=⟨(nx1 c τ0 12).toNat,by omega⟩
   rw [hk] at c9 b9
   generalize nx2 c τ0 12=κ at *
   simp only [zaC] at c9
   obtain ⟨b,hA⟩:=hL k (by omega)
   simp [go_sem]
   refine ⟨_,_,c9,?_⟩
   simp [go_sem]
   simp [go_sem,hA]
   refine ⟨by omega,?_⟩
   refine ⟨_,zpJ _,?_⟩
   rintro _ _ ⟨rfl,A,B,hT,rfl⟩
   simp [go_sem]
   exact ⟨κ.1,κ.2,s9,⟨rfl,rfl⟩,A,B,hT,⟨rfl,rfl⟩,rfl,rfl⟩
  .simp [go_sem,v0]
   have h0:=s1
   have c4:=zaA c τ0 m hc h0
   have s4:=zaS hc h0 m
   have b4:=zhi hc τ0 (n:=m) (by omega)
   obtain ⟨N,hN⟩:∃ N:Nat,1+nx1 c τ0 m=N:=⟨(1+nx1 c τ0 m).toNat,by omega⟩
   generalize nx1 c τ0 m=v4 at *
   generalize nx2 c τ0 m=τ1 at *
   have N1:1<=N:=by omega
   have N8:N<=8:=by omega
   have c5:=zaA c τ1 3 hc s4
   have s5:=zaS hc s4 3
   generalize nx1 c τ1 3=u at *
   generalize nx2 c τ1 3=τ2 at *
   have c6:=zdG c τ2 N hc s5 (by omega)
   have L6:=zfU (f:=nbV c) (fun σ h=>zeK hc h) N τ2 s5
   generalize lsV (nbV c) N τ2=r6 at *
   obtain ⟨B0,τ3⟩:=r6
   simp only at L6 c6
   obtain ⟨lB,nB,s6⟩:=L6
   simp only [zaC] at c4 c5 c6
   refine ⟨_,_,c4,?_⟩
   simp [go_sem]
   refine ⟨⟨by omega,by omega⟩,?_⟩
   rw [hN]
   refine ⟨_,_,c5,?_⟩
   simp [go_sem]
   refine ⟨_,_,c6,?_⟩
   simp [go_sem]
   refine zac (0::8::List.range' 9 3++List.range' 40 38) (fun x:Src × List (List Int)=>[(0,.box 162 [.sl c.length (bys c),.int x.1.1,.val (.int .u64 x.1.2)]),(8,.box 27 [ptM x.2,.own 2 N (avs B0)]),(9,.int x.2.length)]) (fun x=>SOk x.1/\x.2.length<=N/\∀ r∈x.2,r.length=N/\Ns r) (fun x=>N-x.2.length) (τ3,[]) ⟨s6,by simp,by simp⟩ (by simp [go_sem,zi6]) (by simp [go_sem]) ?_
   rintro ⟨ρ,A⟩ ⟨h1,h2,h3⟩
   simp only at h1 h2 h3
   by_cases hA:A.length<N
   .have hAi:(A.length:Int)<N:=by omega
    have c7:=zdG c ρ N hc h1 (by omega)
    have L7:=zfU (f:=nbV c) (fun σ h=>zeK hc h) N ρ h1
    generalize lsV (nbV c) N ρ=r7 at *
    obtain ⟨row0,κ⟩:=r7
    simp only at L7 c7
    obtain ⟨l7,n7,s7⟩:=L7
    simp only [zaC] at c7
    simp [go_sem,hAi]
    refine ⟨_,_,c7,?_⟩
    simp [go_sem]
    refine zac (10::11::List.range' 48 24) (fun x:List Int × Nat=>[(10,.own 2 N (avs x.1)),(11,.int x.2)]) (fun x=>x.1.length=N/\Ns x.1/\x.2<=N) (fun x=>N-x.2) (row0,0) ⟨l7,n7,by omega⟩ (by simp [go_sem]) (by simp [go_sem]) ?_
    rintro ⟨row,k⟩ ⟨g1,g2,g3⟩
    simp only at g1 g2 g3
    by_cases hk:k<N
    .have hki:(k:Int)<N:=by omega
     have hkr:k<row.length:=by omega
     have hS:=za0 row k 0
     by_cases u0:u=0
     .by_cases u1:(A.length:Int)<=k
      .simp -implicitDefEqProofs [go_sem,hki,u0,u1,hS]
       refine ⟨hkr,⟨by omega,by omega⟩,row.set k 0,k+1,⟨by simpa using g1,Ns.set g2 k ⟨by omega,by omega⟩,by omega⟩,by omega,zaa _ _ _ (by simp),rfl,by omega⟩
      .simp -implicitDefEqProofs [go_sem,hki,u0,u1]
       refine ⟨⟨by omega,by omega⟩,row,k+1,⟨g1,g2,by omega⟩,by omega,zaa _ _ _ (by simp),rfl,by omega⟩
     .by_cases u1:u=1
      .by_cases u2:(A.length:Int)<k
       .simp -implicitDefEqProofs [go_sem,hki,u0,u1,u2,hS]
        refine ⟨hkr,⟨by omega,by omega⟩,row.set k 0,k+1,⟨by simpa using g1,Ns.set g2 k ⟨by omega,by omega⟩,by omega⟩,by omega,zaa _ _ _ (by simp),rfl,by omega⟩
       .simp -implicitDefEqProofs [go_sem,hki,u0,u1,u2]
        refine ⟨⟨by omega,by omega⟩,row,k+1,⟨g1,g2,by omega⟩,by omega,zaa _ _ _ (by simp),rfl,by omega⟩
      .simp -implicitDefEqProofs [go_sem,hki,u0,u1]
       refine ⟨⟨by omega,by omega⟩,row,k+1,⟨g1,g2,by omega⟩,by omega,zaa _ _ _ (by simp),rfl,by omega⟩
    .have e:k=N:=by omega
     subst e
     simp [go_sem]
     have h3':∀ r∈A++[row],r.length=k/\Ns r:=fun r hr=>by
      rcases List.mem_append.1 hr with hr | hr
      .exact h3 r hr
      .simp at hr; subst hr; exact ⟨g1,g2⟩
     have os:omat (A++[row])=omat A++[.own 2 k (avs row)]:=by rw [zaZ,zbq,g1]
     rcases A with _ | ⟨r0,A⟩
     .simp [go_sem,zi6]
      refine ⟨κ.1,κ.2,[row],⟨s7,by simp; omega,by simpa using h3'⟩,by simp; omega,(by repeat (first | exact zaa _ _ _ (by simp) | (refine Off.reset (by intro x hx; simp at hx |-; omega) (by simp) ?_; simp -failIfUnchanged [go_sem,zaa]))),⟨⟨rfl,rfl⟩,by simp [zf3,zbq,g1],by simp⟩⟩
     .simp only [List.length_cons] at hA h2 hAi
      have e5:ptM (r0::A++[row])=.own 25 (A.length+1+1) (omat (r0::A)++[.own 2 k (avs row)]):=by
       show AV.own _ ((A++[row]).length+1) (omat (r0::A++[row]))=_
       rw [os,List.length_append]; rfl
      simp [go_sem,zf3]
      refine ⟨⟨by omega,by omega⟩,⟨by omega,by omega⟩,κ.1,κ.2,r0::A++[row],⟨s7,by simp; omega,h3'⟩,by simp; omega,(by repeat (first | exact zaa _ _ _ (by simp) | (refine Off.reset (by intro x hx; simp at hx |-; omega) (by simp) ?_; simp -failIfUnchanged [go_sem,zaa]))),⟨⟨rfl,rfl⟩,e5.symm,by simp⟩⟩
   .have e:A.length=N:=by omega
    have hpt:=zqq (A:=A) (by omega)
    rw [hpt,e]
    have c8:=zaA c ρ 2 hc h1
    have s8:=zaS hc h1 2
    generalize nx1 c ρ 2=v8 at *
    generalize nx2 c ρ 2=κ at *
    simp only [zaC] at c8
    have fin:∀ B:List Int,B.length=N->Ns B->∃ a b,SOk (a,b)/\((κ.1:Int)=a/\κ.2=b)/\∃ A' B',Tb8 A' B'/\(N=A'.length/\omat A=omat A')/\N=B'.length/\B=B':=fun B hB nB=>by
     refine ⟨κ.1,κ.2,s8,⟨rfl,rfl⟩,A,B,⟨by omega,by omega,by omega,nB,fun r hr=>?_⟩,⟨e.symm,rfl⟩,hB.symm,rfl⟩
     rw [hB]; exact h3 r hr
    simp [go_sem,e]
    refine ⟨_,_,c8,?_⟩
    simp [go_sem]
    by_cases v80:v8=0
    .simp [go_sem,v80]
     refine zac (12::13::List.range' 81 12) (fun x:Int × Nat=>[(12,.int x.1),(13,.int x.2)]) (fun x=>isN x.1/\1<=x.2/\x.2<=N) (fun x=>N-x.2) (0,1) ⟨⟨by simp,by simp⟩,by simp,by simp; omega⟩ (by simp [go_sem]) (by simp [go_sem]) ?_
     rintro ⟨q,i⟩ ⟨g1,g2,g3⟩
     simp only at g1 g2 g3
     by_cases hi:i<N
     .have hii:(i:Int)<N:=by omega
      have hib:i<B0.length:=by omega
      have hb:=nB.get i
      have fa:=zd6 g1 hb
      have cA:=zdO q (B0[i]?.getD 0) fa
      have hat:=zbL hib
      generalize B0[i]?.getD 0=b at *
      simp [go_sem,hii,hat]
      refine CallVC.of (cA) ?_
      simp [go_sem]
      exact ⟨⟨by omega,by omega⟩,(q+b)%10007,i+1,⟨zaf _,by omega,by omega⟩,by omega,zaa _ _ _ (by simp),rfl,by omega⟩
     .have hii:¬ (i:Int)<N:=by omega
      have cS:=zi2 1 q (zi9 ⟨by omega,by omega⟩ g1)
      have nS:isN ((1-q)%10007):=zaf _
      generalize (1-q)%10007=x at *
      have hset:=za0 B0 0 x
      simp [go_sem,hii]
      refine ⟨by kernel_rfl,?_⟩
      refine CallD.of (cS) ?_
      simp [go_sem]
      refine ⟨by omega,by omega,?_⟩
      refine ⟨by kernel_rfl,?_⟩
      simp [go_sem]
      simp only [hset]
      obtain ⟨a,b,k1,k2,A',B',k3,k4,k5,k6⟩:=fin (B0.set 0 x) (by simpa using lB) (Ns.set nB 0 nS)
      exact ⟨a,b,k1,k2,A',B',k3,k4,k5,by rw [k6]⟩
    .simp [go_sem,v80]
     exact fin B0 lB nB
 .refine zaF Tryz.mixed ⟨14,[],[1000000+183,1000000+221,2000000+259,2000000+260],[]⟩ [0] Tryz.func204 ?_
  rw [Tryz.ntmps204]
  simp [go_sem]
  simp [go_sem,h4]
  have τ0h:∃ τ0:Src,τ0=σ:=⟨σ,rfl⟩
  obtain ⟨τ0,rfl⟩:=τ0h
  have h0:=hs
  clear c1 s1 hs
  have c4:=zaA c τ0 m hc h0
  have s4:=zaS hc h0 m
  have b4:=zhi hc τ0 (n:=m) (by omega)
  obtain ⟨N,hN⟩:∃ N:Nat,1+nx1 c τ0 m=N:=⟨(1+nx1 c τ0 m).toNat,by omega⟩
  generalize nx1 c τ0 m=v4 at *
  generalize nx2 c τ0 m=τ1 at *
  have N1:1<=N:=by omega
  have N8:N<=8:=by omega
  have c5:=zaA c τ1 3 hc s4
  have s5:=zaS hc s4 3
  generalize nx1 c τ1 3=u at *
  generalize nx2 c τ1 3=τ2 at *
  have c6:=zdG c τ2 N hc s5 (by omega)
  have L6:=zfU (f:=nbV c) (fun σ h=>zeK hc h) N τ2 s5
  generalize lsV (nbV c) N τ2=r6 at *
  obtain ⟨B0,τ3⟩:=r6
  simp only at L6 c6
  obtain ⟨lB,nB,s6⟩:=L6
  simp only [zaC] at c4 c5 c6
  refine ⟨_,_,c4,?_⟩
  simp [go_sem]
  refine ⟨⟨by omega,by omega⟩,?_⟩
  rw [hN]
  refine ⟨_,_,c5,?_⟩
  simp [go_sem]
  refine ⟨_,_,c6,?_⟩
  simp [go_sem]
  refine zac (0::8::List.range' 9 3++List.range' 40 38) (fun x:Src × List (List Int)=>[(0,.box 162 [.sl c.length (bys c),.int x.1.1,.val (.int .u64 x.1.2)]),(8,.box 27 [ptM x.2,.own 2 N (avs B0)]),(9,.int x.2.length)]) (fun x=>SOk x.1/\x.2.length<=N/\∀ r∈x.2,r.length=N/\Ns r) (fun x=>N-x.2.length) (τ3,[]) ⟨s6,by simp,by simp⟩ (by simp [go_sem,zi6]) (by simp [go_sem]) ?_
  rintro ⟨ρ,A⟩ ⟨h1,h2,h3⟩
  simp only at h1 h2 h3
  by_cases hA:A.length<N
  .have hAi:(A.length:Int)<N:=by omega
   have c7:=zdG c ρ N hc h1 (by omega)
   have L7:=zfU (f:=nbV c) (fun σ h=>zeK hc h) N ρ h1
   generalize lsV (nbV c) N ρ=r7 at *
   obtain ⟨row0,κ⟩:=r7
   simp only at L7 c7
   obtain ⟨l7,n7,s7⟩:=L7
   simp only [zaC] at c7
   simp [go_sem,hAi]
   refine ⟨_,_,c7,?_⟩
   simp [go_sem]
   refine zac (10::11::List.range' 48 24) (fun x:List Int × Nat=>[(10,.own 2 N (avs x.1)),(11,.int x.2)]) (fun x=>x.1.length=N/\Ns x.1/\x.2<=N) (fun x=>N-x.2) (row0,0) ⟨l7,n7,by omega⟩ (by simp [go_sem]) (by simp [go_sem]) ?_
   rintro ⟨row,k⟩ ⟨g1,g2,g3⟩
   simp only at g1 g2 g3
   by_cases hk:k<N
   .have hki:(k:Int)<N:=by omega
    have hkr:k<row.length:=by omega
    have hS:=za0 row k 0
    by_cases u0:u=0
    .by_cases u1:(A.length:Int)<=k
     .simp -implicitDefEqProofs [go_sem,hki,u0,u1,hS]
      refine ⟨hkr,⟨by omega,by omega⟩,row.set k 0,k+1,⟨by simpa using g1,Ns.set g2 k ⟨by omega,by omega⟩,by omega⟩,by omega,zaa _ _ _ (by simp),rfl,by omega⟩
     .simp -implicitDefEqProofs [go_sem,hki,u0,u1]
      refine ⟨⟨by omega,by omega⟩,row,k+1,⟨g1,g2,by omega⟩,by omega,zaa _ _ _ (by simp),rfl,by omega⟩
    .by_cases u1:u=1
     .by_cases u2:(A.length:Int)<k
      .simp -implicitDefEqProofs [go_sem,hki,u0,u1,u2,hS]
       refine ⟨hkr,⟨by omega,by omega⟩,row.set k 0,k+1,⟨by simpa using g1,Ns.set g2 k ⟨by omega,by omega⟩,by omega⟩,by omega,zaa _ _ _ (by simp),rfl,by omega⟩
      .simp -implicitDefEqProofs [go_sem,hki,u0,u1,u2]
       refine ⟨⟨by omega,by omega⟩,row,k+1,⟨g1,g2,by omega⟩,by omega,zaa _ _ _ (by simp),rfl,by omega⟩
     .simp -implicitDefEqProofs [go_sem,hki,u0,u1]
      refine ⟨⟨by omega,by omega⟩,row,k+1,⟨g1,g2,by omega⟩,by omega,zaa _ _ _ (by simp),rfl,by omega⟩
   .have e:k=N:=by omega
    subst e
    simp [go_sem]
    have h3':∀ r∈A++[row],r.length=k/\Ns r:=fun r hr=>by
     rcases List.mem_append.1 hr with hr | hr
     .exact h3 r hr
     .simp at hr; subst hr; exact ⟨g1,g2⟩
    have os:omat (A++[row])=omat A++[.own 2 k (avs row)]:=by rw [zaZ,zbq,g1]
    rcases A with _ | ⟨r0,A⟩
    .simp [go_sem,zi6]
     refine ⟨κ.1,κ.2,[row],⟨s7,by simp; omega,by simpa using h3'⟩,by simp; omega,(by repeat (first | exact zaa _ _ _ (by simp) | (refine Off.reset (by intro x hx; simp at hx |-; omega) (by simp) ?_; simp -failIfUnchanged [go_sem,zaa]))),⟨⟨rfl,rfl⟩,by simp [zf3,zbq,g1],by simp⟩⟩
    .simp only [List.length_cons] at hA h2 hAi
     have e5:ptM (r0::A++[row])=.own 25 (A.length+1+1) (omat (r0::A)++[.own 2 k (avs row)]):=by
      show AV.own _ ((A++[row]).length+1) (omat (r0::A++[row]))=_
      rw [os,List.length_append]; rfl
     simp [go_sem,zf3]
     refine ⟨⟨by omega,by omega⟩,⟨by omega,by omega⟩,κ.1,κ.2,r0::A++[row],⟨s7,by simp; omega,h3'⟩,by simp; omega,(by repeat (first | exact zaa _ _ _ (by simp) | (refine Off.reset (by intro x hx; simp at hx |-; omega) (by simp) ?_; simp -failIfUnchanged [go_sem,zaa]))),⟨⟨rfl,rfl⟩,e5.symm,by simp⟩⟩
  .have e:A.length=N:=by omega
   have hpt:=zqq (A:=A) (by omega)
   rw [hpt,e]
   have c8:=zaA c ρ 2 hc h1
   have s8:=zaS hc h1 2
   generalize nx1 c ρ 2=v8 at *
   generalize nx2 c ρ 2=κ at *
   simp only [zaC] at c8
   have fin:∀ B:List Int,B.length=N->Ns B->∃ a b,SOk (a,b)/\((κ.1:Int)=a/\κ.2=b)/\∃ A' B',Tb8 A' B'/\(N=A'.length/\omat A=omat A')/\N=B'.length/\B=B':=fun B hB nB=>by
    refine ⟨κ.1,κ.2,s8,⟨rfl,rfl⟩,A,B,⟨by omega,by omega,by omega,nB,fun r hr=>?_⟩,⟨e.symm,rfl⟩,hB.symm,rfl⟩
    rw [hB]; exact h3 r hr
   simp [go_sem,e]
   refine ⟨_,_,c8,?_⟩
   simp [go_sem]
   by_cases v80:v8=0
   .simp [go_sem,v80]
    refine zac (12::13::List.range' 81 12) (fun x:Int × Nat=>[(12,.int x.1),(13,.int x.2)]) (fun x=>isN x.1/\1<=x.2/\x.2<=N) (fun x=>N-x.2) (0,1) ⟨⟨by simp,by simp⟩,by simp,by simp; omega⟩ (by simp [go_sem]) (by simp [go_sem]) ?_
    rintro ⟨q,i⟩ ⟨g1,g2,g3⟩
    simp only at g1 g2 g3
    by_cases hi:i<N
    .have hii:(i:Int)<N:=by omega
     have hib:i<B0.length:=by omega
     have hb:=nB.get i
     have fa:=zd6 g1 hb
     have cA:=zdO q (B0[i]?.getD 0) fa
     have hat:=zbL hib
     generalize B0[i]?.getD 0=b at *
     simp [go_sem,hii,hat]
     refine CallVC.of (cA) ?_
     simp [go_sem]
     exact ⟨⟨by omega,by omega⟩,(q+b)%10007,i+1,⟨zaf _,by omega,by omega⟩,by omega,zaa _ _ _ (by simp),rfl,by omega⟩
    .have hii:¬ (i:Int)<N:=by omega
     have cS:=zi2 1 q (zi9 ⟨by omega,by omega⟩ g1)
     have nS:isN ((1-q)%10007):=zaf _
     generalize (1-q)%10007=x at *
     have hset:=za0 B0 0 x
     simp [go_sem,hii]
     refine ⟨by kernel_rfl,?_⟩
     refine CallD.of (cS) ?_
     simp [go_sem]
     refine ⟨by omega,by omega,?_⟩
     refine ⟨by kernel_rfl,?_⟩
     simp [go_sem]
     simp only [hset]
     obtain ⟨a,b,k1,k2,A',B',k3,k4,k5,k6⟩:=fin (B0.set 0 x) (by simpa using lB) (Ns.set nB 0 nS)
     exact ⟨a,b,k1,k2,A',B',k3,k4,k5,by rw [k6]⟩
   .simp [go_sem,v80]
    exact fin B0 lB nB
end Go.Proofs.YthhdollpkieknaaGreat


namespace Go.Proofs.YthhdollpkieknaaGreat
open Go.Abs
theorem RCon.rep {P:Program} {f:FuncId} {args:List AV} {R R':AV->List AV->Prop} (h:RCon P f args R)
  (hR:∀ r o,R r o->∃ r',R' r' o/\∀ (w:World) (F:Nat->Prop) (tm:Nat->Value) (oss:Nat->List Nat) (v:Value) (os:List Nat),RepT P w F tm oss r v os->RepT P w F tm oss r' v os):RCon P f args R':=by
 refine ⟨h.1,fun w vs os F0 hl hn ho hF hr=>(h.2 w vs os F0 hl hn ho hF hr).mono ?_⟩
 rintro e w' ⟨r,o,hr0,v,orr,oo,F',k1,k2,k3,k4,k5,k6⟩
 obtain ⟨r',h1,h2⟩:=hR r o hr0
 exact ⟨r',o,h1,v,orr,oo,F',k1,k2,k3,k4,fun tm oss=>h2 _ _ _ _ _ _ (k5 tm oss),k6⟩
theorem zug {P:Program} {w:World} {F:Nat->Prop} {tm:Nat->Value} {oss:Nat->List Nat} {v:Value} {os:List Nat}
  (h:RepT P w F tm oss (.agg [.val (.slice none 0 0),.val (.slice none 0 0)]) v os):RepT P w F tm oss (.agg [.sl 0 [],.sl 0 []]) v os:=by
 cases h with
 | cell c v os h=>cases h
 | agg cs vs os hl h =>
  refine .agg _ vs os (by simpa using hl) ?_
  cases h with
  | cons c v o cs vs os' h t =>
   cases t with
   | cons c2 v2 o2 cs2 vs2 os2 h2 t2 =>
    refine .cons _ _ _ _ _ _ ?_ (.cons _ _ _ _ _ _ ?_ t2)
    .cases h with
     | cell _ _ _ h=>cases h with | val _ _=>exact .cell _ _ _ (.sl0 none 0)
    .cases h2 with
     | cell _ _ _ h=>cases h with | val _ _=>exact .cell _ _ _ (.sl0 none 0)
def Sz (A:List (List Int)) (B:List Int):Prop:=A.length<=9/\B.length<=9/\∀ r∈A,r.length<=9
theorem Tab.sz {A:List (List Int)} {B:List Int} (h:Tab A B):Sz A B:=by
 have h1:=h.le
 have h2:=h.len
 refine ⟨by omega,by omega,fun r hr=>?_⟩
 have:=(h.a r hr).1
 omega
theorem zcF (r:List Int) (A:List (List Int)):omat (r::A)=.own 2 r.length (avs r)::omat A:=rfl
def FrT (r:AV) (A:List (List Int)) (B:List Int):Prop:=frz r=.agg [.sl A.length (mat A),.sl B.length (avs B)]
theorem zpy (c:List Int) (σ:Src) (m:Int) (hc:Byt c) (hs:SOk σ) (hm:1<=m) (hm8:m<=8) :
  RCon Tryz.prog 141 [srcA c σ,.int m] (fun r o=>∃ (τ:Src),SOk τ/\o=[srcA c τ,.any]/\(r=.agg [.val (.slice none 0 0),.val (.slice none 0 0)]\/∃ (A:List (List Int)) (B:List Int),Sz A B/\FrT r A B)):=by
 have cD:=zsK c σ m hc hs hm hm8
 simp only [zaC] at *
 refine zaF Tryz.mixed ⟨6,[46],[1000000+183,1000000+98,2000000+204],[2000607000110]⟩ [0] Tryz.func141 ?_
 rw [Tryz.ntmps141]
 simp [go_sem]
 refine ⟨_,cD,?_⟩
 rintro _ _ ⟨τ,A,B,h1,rfl,hT,rfl⟩
 have c4:=zaA c τ 40 hc h1
 have s4:=zaS hc h1 40
 generalize nx1 c τ 40=v at *
 generalize nx2 c τ 40=τ1 at *
 have hz:=Tab.sz hT
 have hp:=Tab.pos hT
 have hl:=Tab.len hT
 have hle:=Tab.le hT
 simp only [zaC] at c4
 simp [go_sem]
 refine ⟨_,_,c4,?_⟩
 simp [go_sem]
 by_cases v0:v=0
 .have ef:=zhG (B++[1])
  rw [zam] at ef
  simp [go_sem,v0]
  exact ⟨⟨by omega,by omega⟩,τ1.1,τ1.2,s4,⟨rfl,rfl⟩,A,B++[1],⟨hz.1,by simp; omega,hz.2.2⟩,by simp [FrT,frz,frzL,zam,ef]⟩
 .by_cases v1:v=1
  .rcases A with _ | ⟨r0,A⟩
   .simp at hl; omega
   .have hr0:=hz.2.2 r0 (by simp)
    have fin:∃ a b,SOk (a,b)/\((τ1.1:Int)=a/\τ1.2=b)/\∃ A_1 B_1,Sz A_1 B_1/\FrT (.agg [.own 25 (A.length+1) (.own 2 (r0.length+1) (avs r0++[.int 1])::omat A),.own 2 B.length (avs B)]) A_1 B_1:=by
     refine ⟨τ1.1,τ1.2,s4,⟨rfl,rfl⟩,(r0++[1])::A,B,⟨hz.1,hz.2.1,fun r hr=>?_⟩,?_⟩
     .rcases List.mem_cons.1 hr with rfl | hr
      .have:=hT.le; have:=(hT.a r0 (by simp)).1; simp; omega
      .exact hz.2.2 r (by simp [hr])
     .have e:omat ((r0++[1])::A)=.own 2 (r0.length+1) (avs r0++[.int 1])::omat A:=by rw [zcF,zam,List.length_append]; rfl
      unfold FrT
      rw [<- e]
      simp [frz,frzL]
    simp [go_sem,v0,v1]
    rw [zg5]
    refine ⟨fun i=>[],by kernel_rfl,?_,?_,?_⟩
    .simp [go_sem,zcF]
     refine ⟨⟨by omega,by omega⟩,by kernel_rfl,?_⟩
     exact fin
    .simp [go_sem,zcF]
     refine ⟨⟨by omega,by omega⟩,by kernel_rfl,?_⟩
     exact fin
    .simp [go_sem,zcF]
     refine ⟨⟨by omega,by omega⟩,by kernel_rfl,?_⟩
     exact fin
  .by_cases v2:v=2
   .have c5:=zb5 c τ1 [-1,10007] hc s4 (by simp) (by simp)
    have s5:=zaS hc s4 2
    have e4:(([-1,10007]:List Int).length:Int)=2:=rfl
    rw [e4] at c5
    simp only [zaC] at c5
    generalize pk c τ1 [-1,10007]=x at *
    generalize nx2 c τ1 2=τ2 at *
    rcases A with _ | ⟨r0,A⟩
    .simp at hl; omega
    .simp [go_sem,v0,v1,v2,zcF]
     refine ⟨by kernel_rfl,?_⟩
     refine ⟨_,_,c5,?_⟩
     simp [go_sem]
     have hr0:r0.length=B.length:=(hT.a r0 (by simp)).1
     have hset:=za0 r0 0 x
     refine ⟨by omega,?_⟩
     refine ⟨by kernel_rfl,?_⟩
     simp [go_sem]
     simp only [hset]
     refine ⟨τ2.1,τ2.2,s5,⟨rfl,rfl⟩,(r0.set 0 x)::A,B,⟨hz.1,hz.2.1,fun r hr=>?_⟩,?_⟩
     .rcases List.mem_cons.1 hr with rfl | hr
      .simp; omega
      .exact hz.2.2 r (by simp [hr])
     .have e:omat ((r0.set 0 x)::A)=.own 2 r0.length (avs (r0.set 0 x))::omat A:=by rw [zcF,List.length_set]
      unfold FrT
      rw [<- e]
      simp [frz,frzL]
   .by_cases v3:v=3
    .simp [go_sem,v0,v1,v2,v3]
     exact ⟨τ1.1,s4,rfl⟩
    .by_cases v4:v=4
     .simp [go_sem,v0,v1,v2,v3,v4]
      refine ⟨by omega,τ1.1,τ1.2,s4,⟨rfl,rfl⟩,A.tail,B,⟨by simp; omega,hz.2.1,fun r hr=>hz.2.2 r (List.mem_of_mem_tail hr)⟩,?_⟩
      have e:List.take (A.length-1) (mat A).tail=mat A.tail:=by rw [List.take_of_length_le (by simp)]; simp [mat]
      unfold FrT
      rw [e]
      simp [frz,frzL]
     .simp [go_sem,v0,v1,v2,v3,v4]
      exact ⟨τ1.1,τ1.2,s4,⟨rfl,rfl⟩,A,B,hz,by simp [FrT,frz,frzL]⟩
theorem zpG (c:List Int) (σ:Src) (m:Int) (hc:Byt c) (hs:SOk σ) (hm:1<=m) (hm8:m<=8) :
  RCon Tryz.prog 141 [srcA c σ,.int m] (fun r o=>∃ (τ:Src) (A:List (List Int)) (B:List Int),SOk τ/\o=[srcA c τ,.any]/\Sz A B/\r=.agg [.sl A.length (mat A),.sl B.length (avs B)]):=by
 refine RCon.rep (RCon.fz (zpy c σ m hc hs hm hm8)) (fun r o h=>?_)
 obtain ⟨r0,⟨τ,h1,h2,h3⟩,rfl⟩:=h
 rcases h3 with rfl | ⟨A,B,hz,hf⟩
 .exact ⟨_,⟨τ,[],[],h1,h2,⟨by simp,by simp,by simp⟩,rfl⟩,fun w F tm oss v os h=>zug h⟩
 .unfold FrT at hf
  exact ⟨_,⟨τ,A,B,h1,h2,hz,hf⟩,fun w F tm oss v os h=>h⟩
end Go.Proofs.YthhdollpkieknaaGreat


namespace Go.Proofs.YthhdollpkieknaaGreat
open Go.Abs
theorem RCon.fzi {P:Program} {f:FuncId} {args:List AV} {R:AV->List AV->Prop} (h:RCon P f args R) (hR:∀ r o,R r o->∃ (z:Value) (e n:Nat) (cs:List AV),r=.agg [.val z,.own e n cs]) :
  RCon P f args (fun r o=>∃ (z:Value) (e n:Nat) (cs:List AV),R (.agg [.val z,.own e n cs]) o/\r=.agg [.val z,.own e n (frzL cs)]):=by
 refine ⟨h.1,fun w vs os F0 hl hn ho hF hr=>(h.2 w vs os F0 hl hn ho hF hr).mono ?_⟩
 rintro e0 w' ⟨r,o,hRr,v,orr,oo,F',k1,k2,k3,k4,k5,k6,k7,k8,k9⟩
 obtain ⟨z,e,n,cs,rfl⟩:=hR r o hRr
 have oouts:∀ (F2:Nat->Prop),(∀ b,F' b->F2 b)->∀ tm oss,RepTL P w' F2 tm oss o vs oo:=fun F2 hF2 tm oss=>by
  have:=RepTL.kl (w':=w') (F':=F2) (tm':=tm) (oss':=oss) [] hF2 (fun _ _ _ _ h=>h) (k6 tm oss) (fun _ _=>rfl)
  rwa [zdb] at this
 have h1:=k5 (fun _=>undef) (fun _=>[])
 generalize hcc:AV.agg [.val z,.own e n cs]=cc at h1
 generalize hoo:orr=oq at h1
 cases h1 with
 | agg cs' vs' os' hl' hL =>
  simp only [AV.agg.injEq] at hcc
  subst hcc
  cases hL with
  | cons c1 v0 os0 cs1 vs1 os1 hA hB =>
  cases hA with
  | cell c1 v0 os0 hA =>
  cases hA with
  | val z hw =>
  cases hB with
  | cons c2 v1 osc cs2 vs2 os2 hC hD =>
  cases hD with
  | nil =>
  cases hC with
  | cell c2 v1 osc hC =>
  cases hC with
  | own0 e =>
   refine ⟨_,o,⟨z,e,0,[],hRr,rfl⟩,_,[],oo,F',k1,k2,k3,k4,fun tm oss=>.agg _ _ [] (by simpa using hl') (.cons _ _ [] _ _ [] (.cell _ _ _ (.val _ hw)) (.cons _ _ [] _ _ [] (.cell _ _ _ (.own0 e)) (.nil _))),k6,k7,?_,fun b hb=>k9 b (.inr (by simpa using hb))⟩
   simpa using (List.nodup_append.1 k8).2.1
  | own b e n cap c cs ok hb1 hn1 hc1 hl1 =>
   have hoo':orr=b::ok:=by simpa using hoo
   subst hoo'
   have hnd:=(List.nodup_append.1 k8)
   have hnd2:=List.nodup_cons.1 hnd.1
   refine ⟨_,o,⟨z,e,n,cs,hRr,rfl⟩,_,[b],oo,fun x=>F' x\/x∈ok,k1,k2,fun x hx=>.inl (k3 x hx),fun x hx=>hx.elim (k4 x) (fun hx=>.inr ⟨(k9 x (.inl (by simp [hx]))).1,(k9 x (.inl (by simp [hx]))).2.1⟩),
    fun tm oss=>.agg _ _ [b] (by simpa using hl') (.cons _ _ [] _ _ [b] (.cell _ _ _ (.val _ hw)) (.cons _ _ [b] _ _ [] (.cell _ _ _ (.own b e n cap c _ [] hb1 hn1 hc1 ?_)) (.nil _))),fun tm oss=>oouts _ (fun x hx=>.inl hx) tm oss,k7,?_,fun x hx=>?_⟩
   .exact RepL.frz (fun x hx=>.inl hx) hl1 (fun x hx=>.inr hx)
   .refine List.nodup_append.2 ⟨by simp,hnd.2.1,fun x hx y hy e=>?_⟩
    simp at hx
    exact hnd.2.2 b (by simp) y hy (hx ▸ e)
   .rcases hx with hx | hx
    .simp at hx
     subst hx
     obtain ⟨j1,j2,j3⟩:=k9 x (.inl (by simp))
     exact ⟨j1,j2,fun hf=>hf.elim j3 hnd2.1⟩
    .obtain ⟨j1,j2,j3⟩:=k9 x (.inr hx)
     exact ⟨j1,j2,fun hf=>hf.elim j3 (fun hf=>hnd.2.2 x (by simp [hf]) x hx rfl)⟩
 | cell c v os h=>subst hcc; cases h
 | any v=>simp at hcc
 | tup cs' vs' os' hl' hL=>simp at hcc
 | fn f cs' vs' os' hl' hL=>simp at hcc
 | bor s p v h=>simp at hcc
 | ptr s p off u b h hb=>simp at hcc
 | slp s p off n cap u b h hb hn=>simp at hcc
theorem zh3 (c:List Int) (σ:Src) (hc:Byt c) (hs:SOk σ) :
  RCon Tryz.prog 220 [srcA c σ] (fun r o=>∃ (τ:Src) (z:Int) (f:List (List Mon)),SOk τ/\o=[srcA c τ]/\DrS z f/\r=.agg [.int z,.own 63 f.length (prt f)]):=by
 refine (RCon.fzi (zoO c σ hc hs) ?_).mono ?_
 .rintro r o ⟨τ,z,b,f,h1,h2,h3,rfl⟩
  exact ⟨_,_,_,_,rfl⟩
 .rintro r o ⟨z,e,n,cs,⟨τ,z',b,f,h1,h2,h3,h4⟩,rfl⟩
  simp only [AV.agg.injEq,List.cons.injEq,AV.val.injEq,AV.own.injEq,and_true] at h4
  obtain ⟨rfl,rfl,rfl,rfl⟩:=h4
  exact ⟨τ,z',f,h1,h2,h3,by rw [zzn]⟩
end Go.Proofs.YthhdollpkieknaaGreat


namespace Go.Proofs.YthhdollpkieknaaGreat
open Go.Abs
theorem zwM {f:List (List Mon)} {k:Nat} (h:k<f.length):(prt f)[k]?=some (.sl (f[k]?.getD []).length (mons (f[k]?.getD []))):=by simp [prt,h]
theorem zid:∀ p:List Mon,mons (p.take 2)=(mons p).take 4
 | []=>rfl
 | [a]=>by rw [zbM]; rfl
 | a::b::p=>by simp [zbM]
@[simp] theorem zDb (f:List (List Mon)):frzL (prt f)=prt f:=by
 induction f with
 | nil=>rfl
 | cons p f ih=>simp only [prt,List.map_cons] at ih |-; simp [frzL,frz,ih]
theorem zq3 (f:List (List Mon)) (k:Nat) (p:List Mon):(prt f).set k (.sl p.length (mons p))=prt (f.set k p):=by simp [prt,List.map_set]
theorem zoY (c:List Int) (σ:Src) (hc:Byt c) (hs:SOk σ) :
  RCon Tryz.prog 142 [srcA c σ] (fun r o=>∃ (τ:Src) (z:Int) (f:List (List Mon)),SOk τ/\o=[srcA c τ]/\DrS z f/\r=.agg [.int z,.own 63 f.length (prt f)]):=by
 have c1:=zh3 c σ hc hs
 simp only [zaC] at *
 refine zaF Tryz.mixed ⟨6,[],[2000000+220],[]⟩ [0] Tryz.func142 ?_
 rw [Tryz.ntmps142]
 simp [go_sem]
 refine ⟨_,c1,?_⟩
 rintro _ _ ⟨τ,z,f,h1,rfl,hD,rfl⟩
 simp [go_sem]
 refine zac (0::3::4::List.range' 8 17) (fun x:Src × (Int × List (List Mon)) × Nat=>[(0,.box 162 [.sl c.length (bys c),.int x.1.1,.val (.int .u64 x.1.2)]),(3,.box 30 [.int x.2.1.1,.own 63 x.2.1.2.length (prt x.2.1.2)]),(4,.int x.2.2)]) (fun x=>SOk x.1/\DrS x.2.1.1 x.2.1.2/\x.2.2<=6) (fun x=>6-x.2.2) (τ,(z,f),0) ⟨h1,hD,by simp⟩ (by simp [go_sem]) (by simp [go_sem]) ?_
 rintro ⟨ρ,⟨y,g⟩,n⟩ ⟨q1,q2,q3⟩
 simp only at q1 q2 q3
 have cS:=zh3 c ρ hc q1
 have cI:=zsN y g ⟨by have:=q2.2.2.1; omega,fun p hp=>⟨by have:=(q2.2.2.2 p hp).1; omega,fun q hq=>by have:=(q2.2.2.2 p hp).2 q hq; omega⟩⟩
 simp only [zaC] at cS
 by_cases hn:(n:Int)<6
 .by_cases hy:2<y
  .simp [go_sem,hn,hy]
   refine ⟨_,cS,?_⟩
   rintro _ _ ⟨κ,z2,f2,j1,rfl,j2,rfl⟩
   simp [go_sem]
   exact ⟨⟨by omega,by omega⟩,κ.1,κ.2,z2,f2,n+1,⟨j1,j2,by omega⟩,by omega,(by repeat (first | exact zaa _ _ _ (by simp) | (refine Off.reset (by intro x hx; simp at hx |-; omega) (by simp) ?_; simp -failIfUnchanged [go_sem,zaa]))),⟨rfl,rfl⟩,⟨rfl,rfl,rfl⟩,by omega⟩
  .by_cases hg:2<(g.length:Int)
   .simp [go_sem,hn,hy,hg]
    refine ⟨_,cS,?_⟩
    rintro _ _ ⟨κ,z2,f2,j1,rfl,j2,rfl⟩
    simp [go_sem]
    exact ⟨⟨by omega,by omega⟩,κ.1,κ.2,z2,f2,n+1,⟨j1,j2,by omega⟩,by omega,(by repeat (first | exact zaa _ _ _ (by simp) | (refine Off.reset (by intro x hx; simp at hx |-; omega) (by simp) ?_; simp -failIfUnchanged [go_sem,zaa]))),⟨rfl,rfl⟩,⟨rfl,rfl,rfl⟩,by omega⟩
   .simp [go_sem,hn,hy,hg]
    refine CallVC.of (cI) ?_
    simp [go_sem]
    cases hT:zaM y g with
    | false =>
     simp [go_sem]
     exact ⟨ρ.1,ρ.2,q1,⟨rfl,rfl⟩,y,g,q2,rfl,rfl,rfl⟩
    | true =>
     simp [go_sem]
     refine zac (3::5::List.range' 27 24) (fun x:List (List Mon) × Nat=>[(3,.box 30 [.int y,.own 63 x.1.length (prt x.1)]),(5,.int x.2)]) (fun x=>DrS y x.1) (fun x=>4-x.2) (g,0) q2 (by simp [go_sem]) (by simp [go_sem]) ?_
     rintro ⟨e,i⟩ r1
     simp only at r1
     have r14:=r1.2.2.1
     simp [go_sem]
     refine ⟨fun h=>?_,fun h=>?_⟩ <;> simp at h
     .have hie:i<e.length:=by omega
      have hp:=r1.2.2.2 (e[i]?.getD []) (by simp [hie])
      have hA:=zwM hie
      have hS:=zq3 e i ((e[i]?.getD []).take 2)
      obtain ⟨p,hpe⟩:∃ p,e[i]?.getD []=p:=⟨_,rfl⟩
      rw [hpe] at hp hA hS
      simp [go_sem,hA]
      refine ⟨hie,?_⟩
      by_cases hp2:2<(p.length:Int)
      .simp [go_sem,hp2,hA]
       refine ⟨by kernel_rfl,hie,by omega,hie,?_⟩
       refine ⟨by kernel_rfl,?_⟩
       simp [go_sem]
       refine ⟨⟨by omega,by omega⟩,e.set i (p.take 2),?_,i+1,by omega,(by repeat (first | exact zaa _ _ _ (by simp) | (refine Off.reset (by intro x hx; simp at hx |-; omega) (by simp) ?_; simp -failIfUnchanged [go_sem,zaa]))),?_⟩
       .refine ⟨r1.1,r1.2.1,by simpa using r14,fun t ht=>?_⟩
        rcases List.mem_or_eq_of_mem_set ht with ht | rfl
        .exact r1.2.2.2 t ht
        .exact ⟨by simp; omega,fun m hm=>hp.2 m (List.mem_of_mem_take hm)⟩
       .have e2:(p.take 2).length=2:=by simp; omega
        have e4:mons (p.take 2)=(mons p).take 4:=zid p
        rw [e2,e4] at hS
        simp [hS]
      .simp [go_sem,hp2]
       exact ⟨⟨by omega,by omega⟩,e,r1,i+1,by omega,(by repeat (first | exact zaa _ _ _ (by simp) | (refine Off.reset (by intro x hx; simp at hx |-; omega) (by simp) ?_; simp -failIfUnchanged [go_sem,zaa]))),⟨rfl,rfl⟩,by omega⟩
     .simp [go_sem]
      exact ⟨ρ.1,ρ.2,q1,⟨rfl,rfl⟩,y,e,r1,rfl,rfl,rfl⟩
 .simp [go_sem,hn]
  refine CallVC.of (cI) ?_
  simp [go_sem]
  cases hT:zaM y g with
  | false =>
   simp [go_sem]
   exact ⟨ρ.1,ρ.2,q1,⟨rfl,rfl⟩,y,g,q2,rfl,rfl,rfl⟩
  | true =>
   simp [go_sem]
   refine zac (3::5::List.range' 27 24) (fun x:List (List Mon) × Nat=>[(3,.box 30 [.int y,.own 63 x.1.length (prt x.1)]),(5,.int x.2)]) (fun x=>DrS y x.1) (fun x=>4-x.2) (g,0) q2 (by simp [go_sem]) (by simp [go_sem]) ?_
   rintro ⟨e,i⟩ r1
   simp only at r1
   have r14:=r1.2.2.1
   simp [go_sem]
   refine ⟨fun h=>?_,fun h=>?_⟩ <;> simp at h
   .have hie:i<e.length:=by omega
    have hp:=r1.2.2.2 (e[i]?.getD []) (by simp [hie])
    have hA:=zwM hie
    have hS:=zq3 e i ((e[i]?.getD []).take 2)
    obtain ⟨p,hpe⟩:∃ p,e[i]?.getD []=p:=⟨_,rfl⟩
    rw [hpe] at hp hA hS
    simp [go_sem,hA]
    refine ⟨hie,?_⟩
    by_cases hp2:2<(p.length:Int)
    .simp [go_sem,hp2,hA]
     refine ⟨by kernel_rfl,hie,by omega,hie,?_⟩
     refine ⟨by kernel_rfl,?_⟩
     simp [go_sem]
     refine ⟨⟨by omega,by omega⟩,e.set i (p.take 2),?_,i+1,by omega,(by repeat (first | exact zaa _ _ _ (by simp) | (refine Off.reset (by intro x hx; simp at hx |-; omega) (by simp) ?_; simp -failIfUnchanged [go_sem,zaa]))),?_⟩
     .refine ⟨r1.1,r1.2.1,by simpa using r14,fun t ht=>?_⟩
      rcases List.mem_or_eq_of_mem_set ht with ht | rfl
      .exact r1.2.2.2 t ht
      .exact ⟨by simp; omega,fun m hm=>hp.2 m (List.mem_of_mem_take hm)⟩
     .have e2:(p.take 2).length=2:=by simp; omega
      have e4:mons (p.take 2)=(mons p).take 4:=zid p
      rw [e2,e4] at hS
      simp [hS]
    .simp [go_sem,hp2]
     exact ⟨⟨by omega,by omega⟩,e,r1,i+1,by omega,(by repeat (first | exact zaa _ _ _ (by simp) | (refine Off.reset (by intro x hx; simp at hx |-; omega) (by simp) ?_; simp -failIfUnchanged [go_sem,zaa]))),⟨rfl,rfl⟩,by omega⟩
   .simp [go_sem]
    exact ⟨ρ.1,ρ.2,q1,⟨rfl,rfl⟩,y,e,r1,rfl,rfl,rfl⟩
end Go.Proofs.YthhdollpkieknaaGreat


namespace Go.Proofs.YthhdollpkieknaaGreat
open Go.Abs
def ptN (z:Int):Nat:=if 1<=z/\z<=3 then z.toNat else 2
theorem zCn (z:Int):1<=ptN z/\ptN z<=3:=by unfold ptN; split <;> omega
def ptV (c:List Int) (σ:Src) (z:Int):List Int × Src :=
 if nx1 c (lsV (nbV c) (ptN z) σ).2 40=0 then ((lsV (nbV c) (ptN z) σ).1++[0],nx2 c (lsV (nbV c) (ptN z) σ).2 40)
 else if nx1 c (lsV (nbV c) (ptN z) σ).2 40=1 then ((lsV (nbV c) (ptN z) σ).1.set 0 (pk c (nx2 c (lsV (nbV c) (ptN z) σ).2 40) [-1,10007]),nx2 c (nx2 c (lsV (nbV c) (ptN z) σ).2 40) 2)
 else ((lsV (nbV c) (ptN z) σ).1,nx2 c (lsV (nbV c) (ptN z) σ).2 40)
theorem zhV (c:List Int) (σ:Src) (z:Int) (f:List (List Mon)) (hc:Byt c) (hs:SOk σ) :
  GCon Tryz.prog 143 [srcA c σ,.agg [.int z,.sl f.length (prt f)]] (.own 2 (ptV c σ z).1.length (avs (ptV c σ z).1)) [srcA c (ptV c σ z).2,.agg [.int z,.sl f.length (prt f)]]:=by
 have hb:=zCn z
 have hnz:(if 1<=z/\z<=3 then z else 2)=(ptN z:Int):=by unfold ptN; split <;> omega
 unfold ptV
 generalize ptN z=n at *
 have cL:=zdG c σ n hc hs (by omega)
 have hL:=zfU (f:=nbV c) (fun σ h=>zeK hc h) n σ hs
 generalize lsV (nbV c) n σ=r at *
 obtain ⟨y,σ1⟩:=r
 obtain ⟨hy,hN,s1⟩:=hL
 simp only at hy hN s1 cL |-
 subst hy
 have c4:=zaA c σ1 40 hc s1
 have s4:=zaS hc s1 40
 generalize nx1 c σ1 40=v at *
 generalize nx2 c σ1 40=τ1 at *
 have cP:=zb5 c τ1 [-1,10007] hc s4 (by simp) (by simp)
 have e2:(([-1,10007]:List Int).length:Int)=2:=rfl
 rw [e2] at cP
 generalize pk c τ1 [-1,10007]=x at *
 generalize nx2 c τ1 2=τ2 at *
 simp only [zaC] at *
 have a0:=za0 y 0 x
 by_cases v0:v=0
 .simp only [v0,if_true]
  by_cases hz:1<=z/\z<=3
  .rw [if_pos hz] at hnz
   subst hnz
   refine zap Tryz.mixed ⟨7,[],[1000000+221,1000000+183,1000000+98],[]⟩ [0,1] Tryz.func143 ?_
   rw [Tryz.ntmps143]
   simp [go_sem]
   refine CallVC.of (zda _ 1 3) ?_
   simp [go_sem]
   simp [go_sem,hz.1,hz.2]
   refine ⟨_,_,cL,?_⟩
   simp [go_sem]
   refine ⟨_,_,c4,?_⟩
   simp [go_sem]
   simp [go_sem,v0]
   exact ⟨⟨by omega,by omega⟩,by simp [avs],rfl,rfl⟩
  .rw [if_neg hz] at hnz
   have hz':(decide (1<=z) && decide (z<=3))=false:=by simp; omega
   refine zap Tryz.mixed ⟨7,[],[1000000+221,1000000+183,1000000+98],[]⟩ [0,1] Tryz.func143 ?_
   rw [Tryz.ntmps143]
   simp [go_sem]
   refine CallVC.of (zda z 1 3) ?_
   rw [hz']
   simp [go_sem]
   rw [hnz]
   refine ⟨_,_,cL,?_⟩
   simp [go_sem]
   refine ⟨_,_,c4,?_⟩
   simp [go_sem]
   simp [go_sem,v0]
   exact ⟨⟨by omega,by omega⟩,by simp [avs],rfl,rfl⟩
 .by_cases v1:v=1
  .simp only [v0,v1,if_true,if_false]
   have v0':¬ v=0:=v0
   by_cases hz:1<=z/\z<=3
   .rw [if_pos hz] at hnz
    subst hnz
    refine zap Tryz.mixed ⟨7,[],[1000000+221,1000000+183,1000000+98],[]⟩ [0,1] Tryz.func143 ?_
    rw [Tryz.ntmps143]
    simp [go_sem]
    refine CallVC.of (zda _ 1 3) ?_
    simp [go_sem]
    simp [go_sem,hz.1,hz.2]
    refine ⟨_,_,cL,?_⟩
    simp [go_sem]
    refine ⟨_,_,c4,?_⟩
    simp [go_sem]
    simp [go_sem,v0,v1]
    refine ⟨_,_,cP,?_⟩
    simp [go_sem]
    exact ⟨by omega,a0,rfl,rfl⟩
   .rw [if_neg hz] at hnz
    have hz':(decide (1<=z) && decide (z<=3))=false:=by simp; omega
    refine zap Tryz.mixed ⟨7,[],[1000000+221,1000000+183,1000000+98],[]⟩ [0,1] Tryz.func143 ?_
    rw [Tryz.ntmps143]
    simp [go_sem]
    refine CallVC.of (zda z 1 3) ?_
    rw [hz']
    simp [go_sem]
    rw [hnz]
    refine ⟨_,_,cL,?_⟩
    simp [go_sem]
    refine ⟨_,_,c4,?_⟩
    simp [go_sem]
    simp [go_sem,v0,v1]
    refine ⟨_,_,cP,?_⟩
    simp [go_sem]
    exact ⟨by omega,a0,rfl,rfl⟩
  .simp only [v0,v1,if_false]
   by_cases hz:1<=z/\z<=3
   .rw [if_pos hz] at hnz
    subst hnz
    refine zap Tryz.mixed ⟨7,[],[1000000+221,1000000+183,1000000+98],[]⟩ [0,1] Tryz.func143 ?_
    rw [Tryz.ntmps143]
    simp [go_sem]
    refine CallVC.of (zda _ 1 3) ?_
    simp [go_sem]
    simp [go_sem,hz.1,hz.2]
    refine ⟨_,_,cL,?_⟩
    simp [go_sem]
    refine ⟨_,_,c4,?_⟩
    simp [go_sem]
    simp [go_sem,v0,v1]
    exact ⟨rfl,rfl⟩
   .rw [if_neg hz] at hnz
    have hz':(decide (1<=z) && decide (z<=3))=false:=by simp; omega
    refine zap Tryz.mixed ⟨7,[],[1000000+221,1000000+183,1000000+98],[]⟩ [0,1] Tryz.func143 ?_
    rw [Tryz.ntmps143]
    simp [go_sem]
    refine CallVC.of (zda z 1 3) ?_
    rw [hz']
    simp [go_sem]
    rw [hnz]
    refine ⟨_,_,cL,?_⟩
    simp [go_sem]
    refine ⟨_,_,c4,?_⟩
    simp [go_sem]
    simp [go_sem,v0,v1]
    exact ⟨rfl,rfl⟩
end Go.Proofs.YthhdollpkieknaaGreat


namespace Go.Proofs.YthhdollpkieknaaGreat
open Go.Abs
theorem zxI {c:List Int} (hc:Byt c) {σ:Src} (hs:SOk σ) (z:Int):(ptV c σ z).1.length<=4:=by
 have hL:=(zfU (f:=nbV c) (fun σ h=>zeK hc h) (ptN z) σ hs).1
 have hb:=zCn z
 unfold ptV
 split
 .simp; omega
 .split
  .simp; omega
  .simp only; omega
theorem zoT (c:List Int) (σ:Src) (hc:Byt c) (hs:SOk σ) :
  RCon Tryz.prog 142 [srcA c σ] (fun r o=>∃ (τ:Src) (z:Int) (f:List (List Mon)),SOk τ/\o=[srcA c τ]/\DrS z f/\r=.agg [.int z,.sl f.length (prt f)]):=by
 refine (RCon.fz (zoY c σ hc hs)).mono ?_
 rintro r o ⟨_,⟨τ,z,f,h1,h2,h3,rfl⟩,rfl⟩
 refine ⟨τ,z,f,h1,h2,h3,?_⟩
 simp [frz,frzL]
end Go.Proofs.YthhdollpkieknaaGreat


namespace Go.Proofs.YthhdollpkieknaaGreat
open Go.Abs
theorem zCx {c:List Int} (hc:Byt c) {σ:Src} (hs:SOk σ) (z:Int):SOk (ptV c σ z).2:=by
 have hL:=(zfU (f:=nbV c) (fun σ h=>zeK hc h) (ptN z) σ hs).2.2
 have s1:=zaS hc hL 40
 unfold ptV
 split
 .exact s1
 .split
  .exact zaS hc s1 2
  .exact s1
theorem zqn (c:List Int) (m:Int) (hc:Byt c) (hm:1<=m) (hm8:m<=8) :
  RCon Tryz.prog 58 [.sl c.length (bys c),.int m] (fun r o=>o=[.any,.any]/\∃ (τ:Src) (A:List (List Int)) (B:List Int) (z:Int) (f:List (List Mon)) (y:List Int),SOk τ/\Sz A B/\DrS z f/\y.length<=4 /\
   r=.tup [srcA c τ,.agg [.sl A.length (mat A),.sl B.length (avs B)],.agg [.int z,.sl f.length (prt f)],.own 2 y.length (avs y)]):=by
 have c0:=zr4 c hc
 refine zaF Tryz.mixed ⟨11,[],[1000000+143,2000000+96,2000000+142,2000000+141],[2000400990510]⟩ [] Tryz.func58 ?_
 rw [Tryz.ntmps58]
 simp [go_sem]
 refine ⟨_,c0,?_⟩
 rintro _ _ ⟨rfl,h,rfl⟩
 have c1:=zpG c (0,h) m hc (by unfold SOk; simp) hm hm8
 simp only [zaC] at *
 simp [go_sem]
 refine ⟨_,c1,?_⟩
 rintro _ _ ⟨τ1,A,B,h1,rfl,hz,rfl⟩
 have c2:=zoT c τ1 hc h1
 simp only [zaC] at *
 simp [go_sem]
 refine ⟨_,c2,?_⟩
 rintro _ _ ⟨τ,z,f,h2,rfl,hD,rfl⟩
 have c3:=zhV c τ z f hc h2
 have hl:=zxI hc h2 z
 have ok:=zCx hc h2 z
 generalize ptV c τ z=r at *
 simp only [zaC] at *
 simp [go_sem]
 have fin:∃ a b,SOk (a,b)/\∃ x x_1,Sz x x_1/\∃ x_2 x_3,DrS x_2 x_3/\∃ x_4:List Int,x_4.length<=4/\((r.2.1:Int)=a/\r.2.2=b)/\((A.length=x.length/\mat A=mat x)/\B.length=x_1.length/\B=x_1)/\(z=x_2/\f.length=x_3.length/\prt f=prt x_3)/\r.1.length=x_4.length/\r.1=x_4 :=
  ⟨r.2.1,r.2.2,ok,A,B,hz,z,f,hD,r.1,hl,⟨rfl,rfl⟩,⟨⟨rfl,rfl⟩,rfl,rfl⟩,⟨rfl,rfl,rfl⟩,rfl,rfl⟩
 rw [zlP]
 refine ⟨fun i=>if i=5 then [.n 8 .any,.n 8 (.box 162 [.sl c.length (bys c),.int r.2.1,.val (.int .u64 r.2.2)]),.w 23 (.own 2 r.1.length (avs r.1))] else [],by kernel_rfl,?_,?_⟩
 .simp [go_sem]
  refine ⟨_,_,c3,?_⟩
  simp [go_sem]
  refine ⟨by kernel_rfl,?_⟩
  exact fin
 .simp [go_sem]
  refine ⟨_,_,c3,?_⟩
  simp [go_sem]
  refine ⟨by kernel_rfl,?_⟩
  exact fin
end Go.Proofs.YthhdollpkieknaaGreat


namespace Go.Proofs.YthhdollpkieknaaGreat
open Go.Abs
theorem zml (A:List (List Int)) (B:List Int) (hT:Tab A B):Con Tryz.prog 68 [.agg [.sl A.length (mat A),.sl B.length (avs B)]] (.own 2 38 (avs (mapW 1 (chW A B)))):=by
 have cT:=zeH 6 (by omega)
 have l6:=zaI
 have at6:=fun t h=>zcy (t:=t) h
 have e6:((6:Nat):Int)=6:=rfl
 rw [e6] at cT
 have hd:mapW 1 (chW A B)=1::(trN 6).map (chW A B):=rfl
 rw [hd]
 generalize trN 6=L at *
 rw [l6] at cT
 refine zab Tryz.mixed ⟨6,[],[],[]⟩ Tryz.func68 ?_
 rw [Tryz.ntmps68]
 simp [go_sem]
 refine CallVC.of (cT) ?_
 simp [go_sem]
 refine zac (3::5::List.range' 9 11) (fun i:Nat=>[(3,.own 2 (i+1) (avs (1::(L.map (chW A B)).take i))),(9,.int i)]) (fun i=>i<=37) (fun i=>37-i) 0 (by simp) (by simp [go_sem,avs]) (by simp [go_sem]) ?_
 intro i hi
 by_cases h:i<37
 .have hii:(i:Int)<37:=by omega
  have hL:i<L.length:=by omega
  have hm:=memD [] hL
  obtain ⟨t1,t2,_⟩:=at6 _ hm
  have cW:=zmQ A B hT 6 (L[i]?.getD []) t1 t2 (by omega)
  have og:=zbz hL
  have hM:i<(L.map (chW A B)).length:=by rw [List.length_map]; exact hL
  have tk:(L.map (chW A B)).take (i+1)=(L.map (chW A B)).take i++[dotI B (stwF A B.length 6 (L[i]?.getD []))%10007]:=by
   rw [List.take_succ_eq_append_getElem hM,List.getElem_map,List.getElem?_eq_getElem hL]; rfl
  have ll:((L.map (chW A B)).take i).length=i:=by rw [List.length_take]; omega
  generalize dotI B (stwF A B.length 6 (L[i]?.getD []))%10007=w at *
  generalize L[i]?.getD []=t at *
  simp [go_sem,hii,og]
  refine CallVC.of (cW) ?_
  simp [go_sem]
  refine ⟨⟨by omega,by omega⟩,⟨by omega,by omega⟩,i+1,by omega,by omega,zaa _ _ _ (by simp),?_,by omega⟩
  rw [tk]
  refine ⟨by omega,?_⟩
  rw [<- List.cons_append,zam]
 .have e:i=37:=by omega
  subst e
  have tk:(L.map (chW A B)).take 37=L.map (chW A B):=List.take_of_length_le (by rw [List.length_map]; omega)
  rw [tk]
  simp [go_sem]
theorem zeF (A:List (List Int)) (B:List Int) (hT:Tab A B):Con Tryz.prog 12 [.agg [.sl A.length (mat A),.sl B.length (avs B)]] (.tup [.own 2 38 (avs (mapW 1 (chW A B))),.int 0]):=by
 have hle:=hT.le
 have hAB:=hT.len
 have cI:=zc0 A B (by omega) (by omega) (fun r hr=>by have:=(hT.a r hr).1; omega)
 rw [zf6.2 hT] at cI
 have cC:=zml A B hT
 refine zab Tryz.mixed ⟨4,[],[],[]⟩ Tryz.func12 ?_
 rw [Tryz.ntmps12]
 simp [go_sem]
 refine CallVC.of (cI) ?_
 simp [go_sem]
 refine CallVC.of (cC) ?_
 simp [go_sem]
theorem zfW (c:List Int) (hc:Byt c) :
  RCon Tryz.prog 9 [.sl c.length (bys c)] (fun r o=>o=[.any]/\∃ (A:List (List Int)) (B:List Int) (z:Int) (f:List (List Mon)) (y:List Int),Sz A B/\DrS z f/\y.length<=4 /\
   r=.tup [.agg [.sl A.length (mat A),.sl B.length (avs B)],.agg [.int z,.sl f.length (prt f)],.own 2 y.length (avs y)]):=by
 have c0:=zqn c 4 hc (by omega) (by omega)
 simp only [zaC] at *
 refine zaF Tryz.mixed ⟨9,[],[2000000+58],[]⟩ [] Tryz.func9 ?_
 rw [Tryz.ntmps9]
 simp [go_sem]
 refine ⟨_,c0,?_⟩
 rintro _ _ ⟨rfl,τ,A,B,z,f,y,h1,h2,h3,h4,rfl⟩
 simp [go_sem]
 refine ⟨by kernel_rfl,?_⟩
 refine ⟨by kernel_rfl,?_⟩
 simp [go_sem]
 exact ⟨A,B,h2,z,f,h3,y,h4,⟨⟨rfl,rfl⟩,rfl,rfl⟩,⟨rfl,rfl,rfl⟩,rfl,rfl⟩
end Go.Proofs.YthhdollpkieknaaGreat


namespace Go.Proofs.YthhdollpkieknaaGreat
open Go.Abs
end Go.Proofs.YthhdollpkieknaaGreat


namespace Go.Proofs.YthhdollpkieknaaGreat
open Go.Abs
def trE (a:List Int) (z:Int) (f:List (List Mon)) (y:List Int):Int:=if (mapB a && zaM z f)=false then 1 else if vecB z y=false then 2 else 0
def trX (a:List Int) (z:Int) (f:List (List Mon)) (y:List Int):List (List Int):=if trE a z f y=0 then tsX f y a 7 37 else []
def trR (a:List Int) (z:Int) (f:List (List Mon)) (y:List Int):AV:=.tup [.own 25 (trX a z f y).length (omat (trX a z f y)),.int (trE a z f y)]
theorem zzl (f:List (List Mon)) (y a:List Int) (k i:Nat) (h:((trN 6)[i]?.getD []).length<k) :
  (tsX f y a k i).set ((trN 6)[i]?.getD []).length (za6 (rowT f y a ((trN 6)[i]?.getD []).length i) (edF f y 6 ((trN 6)[i]?.getD [])) (facT a i))=tsX f y a k (i+1):=by
 refine List.ext_getElem (by simp) fun n h1 h2=>?_
 have hn:n<k:=by simpa using h2
 rw [List.getElem_set]
 have e:(tsX f y a k (i+1))[n]=rowT f y a n (i+1):=by simp only [tsX,List.getElem_map,List.getElem_range]
 rw [e]
 by_cases hx:((trN 6)[i]?.getD []).length=n
 .subst hx
  rw [if_pos rfl,rowT,if_pos rfl]
 .rw [if_neg hx,rowT,if_neg hx]
  simp only [tsX,List.getElem_map,List.getElem_range]
theorem zfO (a:List Int) (z:Int) (f:List (List Mon)) (y:List Int) (ha:a.length<=1048576) (hs:zcj f) (hy:y.length<=1048576) :
  Con Tryz.prog 16 [.sl a.length (avs a),.agg [.int z,.sl f.length (prt f)],.sl y.length (avs y)] (trR a z f y):=by
 have cM:=zfs a (by omega)
 have cF:=zgz z f hs
 have cP:=zfu z f.length (prt f) y (by omega)
 unfold trR trX trE
 cases h2:zaM z f with
 | false =>
  rw [h2] at cF
  rw [Bool.and_false]
  refine Con.n1 _ ?_
  refine zab Tryz.mixed ⟨13,[],[],[]⟩ Tryz.func16 ?_
  rw [Tryz.ntmps16]
  simp [go_sem]
  refine CallVC.of (cF) ?_
  simp [go_sem]
 | true =>
  rw [h2] at cF
  cases h1:mapB a with
  | false =>
   rw [h1] at cM
   refine Con.n1 _ ?_
   refine zab Tryz.mixed ⟨13,[],[],[]⟩ Tryz.func16 ?_
   rw [Tryz.ntmps16]
   simp [go_sem]
   refine CallVC.of (cF) ?_
   simp [go_sem]
   refine CallVC.of (cM) ?_
   simp [go_sem]
  | true =>
   rw [h1] at cM
   cases h3:vecB z y with
   | false =>
    rw [h3] at cP
    refine Con.n1 _ ?_
    refine zab Tryz.mixed ⟨13,[],[],[]⟩ Tryz.func16 ?_
    rw [Tryz.ntmps16]
    simp [go_sem]
    refine CallVC.of (cF) ?_
    simp [go_sem]
    refine CallVC.of (cM) ?_
    simp [go_sem]
    refine CallVC.of (cP) ?_
    simp [go_sem]
   | true =>
    rw [h3] at cP
    have hF:=zdX.1 h2
    have hm:a.length=38/\zbS a=true:=by unfold mapB at h1; simpa using h1
    have hv:(y.length:Int)=z/\zbS y=true:=by unfold vecB at h3; simpa using h3
    have aN:=zdH.1 hm.2
    have yN:=zdH.1 hv.2
    have z1:=hF.lo
    have z3:=hF.hi
    have fl:=hF.len
    have hl:=hv.1
    have am:=hm.1
    subst hl
    have n0:=aN.get 0
    have cS:=zga y (a[0]?.getD 0) yN ⟨by have:=n0.1; omega,by have:=n0.2; omega⟩ (by omega)
    have cPl:=zb3 y.length f hF hs
    have cTr:=zeH 6 (by omega)
    rw [zaI] at cTr
    have a0:=zae (xs:=a) (k:=0) (by omega)
    rw [List.drop_zero,List.getD_eq_getElem?_getD,Nat.zero_add,List.drop_one] at a0
    have b0:AV.val (.int .i64 (a[0]?.getD 0))::avs a.tail=avs a:=a0.symm
    have ane:¬ a=[]:=by rintro rfl; simp at am
    simp only [Bool.and_self,Bool.true_eq_false,if_false,if_true]
    rw [zl4]
    refine zab Tryz.mixed ⟨13,[44],[],[]⟩ Tryz.func16 ?_
    rw [Tryz.ntmps16]
    simp [go_sem]
    refine CallVC.of (cF) ?_
    simp [go_sem]
    refine CallVC.of (cM) ?_
    simp [go_sem]
    refine CallVC.of (cP) ?_
    simp [go_sem]
    rw [a0]
    simp [go_sem]
    rw [b0]
    refine ⟨⟨by omega,ane⟩,?_⟩
    refine CallVC.of (cS) ?_
    simp [go_sem]
    refine zac ([8]++List.range' 33 9) (fun n:Nat=>[(8,.own 25 (n+1) (omat (tsX f y a (n+1) 0))),(33,.int n)]) (fun n=>n<=6) (fun n=>6-n) 0 (by simp) (by simp [go_sem,tsX,omat,rowT]) (by simp [go_sem]) ?_
    intro n hn
    by_cases hn6:n<6
    .have hni:(n:Int)<6:=by omega
     have hts:=zve f y a (n+1) 0
     have hr:rowT f y a (n+1) 0=List.replicate y.length 0:=by rw [rowT,if_neg (by omega)]
     simp [go_sem,hni]
     refine ⟨⟨by omega,by omega⟩,⟨by omega,by omega⟩,⟨by omega,by omega⟩,n+1,by omega,by omega,zaa _ _ _ (by simp),⟨rfl,?_⟩,by omega⟩
     rw [hts,zaZ,zbq,zdN,hr,zc5]
    .have e:n=6:=by omega
     subst e
     simp [go_sem]
     refine CallVC.of (cPl) ?_
     simp [go_sem]
     refine CallVC.of (cTr) ?_
     simp [go_sem]
     refine zac ([8,10,11,12]++List.range' 46 32) (fun i:Nat=>[(8,.own 25 7 (omat (tsX f y a 7 i))),(46,.int i)]) (fun i=>i<=37) (fun i=>37-i) 0 (by simp) (by simp [go_sem]) (by simp [go_sem]) ?_
     intro i hi
     by_cases hi37:i<37
     .have hii:(i:Int)<37:=by omega
      have hiT:i<(trN 6).length:=by rw [zaI]; exact hi37
      have md:=zag hiT
      have neT:¬ trN 6=[]:=by intro e; have:=zaI; rw [e] at this; simp at this
      have ho:=zzv hi37
      have hv:=(zqR hi37).2
      have st:=zzl f y a 7 i (by omega)
      have fN:=zAB a i
      have fa:facT a i=a[i+1]?.getD 0*pw (symF 6 ((trN 6)[i]?.getD [])%10007) 10005%10007:=rfl
      have gt:=zs5 f y a i (show ((trN 6)[i]?.getD []).length<7 by omega)
      have ad:=zae (xs:=a) (k:=i+1) (by omega)
      rw [List.getD_eq_getElem?_getD] at ad
      have xN:=aN.get (i+1)
      have oB:=zyx ho
      have cY:=ziD 6 _ (by omega) ho
      have cE:=zhS y.length f y hF hs yN rfl 6 ((trN 6)[i]?.getD []) hv.2 hv.1 (by omega)
      have eL:=zl7 (f:=f) (y:=y) (n:=6) (by omega) ((trN 6)[i]?.getD [])
      have eN:=zy1 (f:=f) (y:=y) (n:=6) ((trN 6)[i]?.getD [])
      have rL:=zdN f y a ((trN 6)[i]?.getD []).length i
      have rN:=zqJ f y a ((trN 6)[i]?.getD []).length i
      have gm:=zkv (A:=tsX f y a 7 i) (k:=((trN 6)[i]?.getD []).length) (by simp; omega)
      rw [gt,rL] at gm
      have cPs:=ziv (rowT f y a ((trN 6)[i]?.getD []).length i) (edF f y 6 ((trN 6)[i]?.getD [])) (facT a i) rN eN ⟨by have:=fN.1; omega,by have:=fN.2; omega⟩ (by omega) (by omega)
      have os:=zdK (tsX f y a 7 i) ((trN 6)[i]?.getD []).length (za6 (rowT f y a ((trN 6)[i]?.getD []).length i) (edF f y 6 ((trN 6)[i]?.getD [])) (facT a i))
      rw [st,zbv,rL] at os
      rw [eL] at cPs
      rw [rL] at cPs
      clear st gt ho
      have Yl:=zl4 f y a 7 i
      generalize hX:tsX f y a 7 (i+1)=X at *
      generalize tsX f y a 7 i=Y at *
      generalize za6 (rowT f y a ((trN 6)[i]?.getD []).length i) (edF f y 6 ((trN 6)[i]?.getD [])) (facT a i)=P at *
      generalize rowT f y a ((trN 6)[i]?.getD []).length i=R at *
      generalize edF f y 6 ((trN 6)[i]?.getD [])=e at *
      generalize symF 6 ((trN 6)[i]?.getD [])=w at *
      generalize (trN 6)[i]?.getD []=t at *
      generalize hx:a[i+1]?.getD 0=x at *
      have pN:isN (pw (w%10007) 10005):=zaf _
      have c1:=za3 w (by omega) (by omega)
      have c2:=zpp (w%10007) (zaf w)
      have f3:=zax xN pN
      have c3:=za3 (x*pw (w%10007) 10005) f3.1 f3.2
      rw [<- fa] at c3
      generalize facT a i=k at *
      generalize pw (w%10007) 10005=pq at *
      simp [go_sem,hii,md]
      refine ⟨neT,by kernel_rfl,⟨by omega,by omega⟩,⟨by omega,by omega,ane⟩,?_⟩
      simp [go_sem,ad,hx]
      refine CallD.of cY ?_
      simp [go_sem]
      refine CallD.of (c1) ?_
      simp [go_sem]
      refine CallD.of (c2) ?_
      simp [go_sem]
      refine ⟨f3,?_⟩
      refine CallD.of (c3) ?_
      simp [go_sem]
      refine ⟨by kernel_rfl,?_⟩
      simp [go_sem]
      simp [go_sem,gm]
      refine ⟨by kernel_rfl,by omega,?_⟩
      refine CallD.of (cE) ?_
      simp [go_sem]
      simp [go_sem,gm]
      refine CallD.of cPs ?_
      simp [go_sem,os]
      refine ⟨by omega,by omega,?_⟩
      refine ⟨by kernel_rfl,?_⟩
      simp [go_sem]
      refine ⟨⟨by omega,by omega⟩,i+1,by omega,by omega,zaa _ _ _ (by simp),?_⟩
      rw [hX]
      exact ⟨rfl,by omega⟩
     .have e:i=37:=by omega
      subst e
      simp [go_sem]
end Go.Proofs.YthhdollpkieknaaGreat


namespace Go.Proofs.YthhdollpkieknaaGreat
open Go.ChangeShapes Go.WideShapes Go.ChangeAt Go.RowKit Go.Abs Go.Deep
section
variable {H:Type} {enc:TypeId × Value->H} {w:World} {sp:Nat->Bool} {held:Bool} {base:Nat}
theorem kids:Kids Tryz.prog (·<Tryz.prog.types.size):=kids_rows (by kernel_rfl) (by kernel_rfl)
theorem full:∀ t e,t<Tryz.prog.types.size->Tryz.prog.underlying t=some (.slice e)->0<Tryz.prog.cellsOf e:=slices_full_of Tryz.prog (by kernel_rfl)
theorem zCs {α β:Type} (g:α->β):∀ qs:List α,qs.flatMap (fun a=>[g a])=qs.map g
 | []=>rfl
 | a::qs=>by rw [List.flatMap_cons,zCs g qs]; rfl
theorem zyX {F:Nat->Prop} {tm:Nat->Value} {oss:Nat->List Nat} {c:AV} {v:Value} (h:RepL Tryz.prog w F [c] [v] []):RepT Tryz.prog w F tm oss c v []:=.cell _ _ _ (RepL.one h)
theorem repV {F:Nat->Prop} {tm:Nat->Value} {oss:Nat->List Nat} {t e:TypeId} {v:Value} {c:AV} {r:Reach} {b0:Nat} (ht:Tryz.prog.underlying t=some (.slice e)) (hv:Value.okWide Tryz.prog w r b0 t v) (h:RepL Tryz.prog w F [c] v.cells.toList []) :
  RepT Tryz.prog w F tm oss c v []:=by
 have hc:v.cells.toList=[v]:=by
  simp only [Value.okWide,ht] at hv
  cases v <;> simp_all [Value.cells,Cell.okWide,Cell.ok]
 rw [hc] at h
 exact zyX h
end
end Go.Proofs.YthhdollpkieknaaGreat


namespace Go.Proofs.YthhdollpkieknaaGreat
open Go.Abs
open Go.ChangeShapes Go.WideShapes Go.ChangeAt Go.RowKit Go.Deep
theorem zEf (c:List Int) (hl:c.length<=9223372036854775807):Con Tryz.prog 8 [.sl c.length (bys c)] (.bool (decide (4096<c.length))):=by
 refine zab Tryz.mixed ⟨3,[],[],[]⟩ Tryz.func8 ?_
 rw [Tryz.ntmps8]
 simp [go_sem]
 omega
section
variable {H:Type} {enc:TypeId × Value->H} {w:World} {sp:Nat->Bool} {held:Bool} {base:Nat}
theorem zut {n:Nat} {cs:List Value} {x:DataW H × List MemPlace} (h:DataW.trod enc Tryz.prog w base sp held n 22 cs=some x) :
  ∃ xs:List Int,(∀ z∈xs,0<=z/\z<=255)/\xs.length<=9223372036854775807/\RepL Tryz.prog w (fun b=>b<w.heap.size) [.sl xs.length (bys xs)] cs []/\cs.length=1:=by
 obtain ⟨qs,h1,h2,h3,h4⟩:=zzR (f:=fun z:Int=>[AV.val (.int .u8 z)]) (Good:=fun z=>(Lit.int .u8 z).wf=true) Tryz.underlying22 (s:=1) (by kernel_rfl) (by decide) (fun _=>rfl)
  (fun n cs y hy=>by obtain ⟨z,k1,k2,_⟩:=zBJ Tryz.underlying5 hy; exact ⟨z,k1,k2⟩) h
 refine ⟨qs,fun z hz=>?_,h2,by rw [zCs] at h3; exact h3,h4⟩
 have:=h1 z hz
 simp [Lit.wf,IntKind.min,IntKind.max,IntKind.signed,IntKind.bits] at this
 omega
end
end Go.Proofs.YthhdollpkieknaaGreat


namespace Go.Proofs.YthhdollpkieknaaGreat
abbrev Mo:=Nat × List Nat
abbrev Py:=List Mo
def evm (r:Nat->Int):List Nat->Int
 | []=>1
 | v::m=>r v*evm r m
def evp (r:Nat->Int):Py->Int
 | []=>0
 | t::P=>(t.1:Int)*evm r t.2+evp r P
def insM (v:Nat):List Nat->List Nat
 | []=>[v]
 | w::m=>if Nat.ble v w then v::w::m else w::insM v m
def zpu:List Nat->List Nat->List Nat
 | [],n=>n
 | v::m,n=>insM v (zpu m n)
def cmM:List Nat->List Nat->Nat
 | [],[]=>1
 | [],_::_=>0
 | _::_,[]=>2
 | v::m,w::n=>if Nat.beq v w then cmM m n else if Nat.ble v w then 0 else 2
def addT (t:Mo):Py->Py
 | []=>[t]
 | u::P=>match cmM t.2 u.2 with
  | 0=>t::u::P
  | 1=>let c:=(t.1+u.1)%10007; if Nat.beq c 0 then P else (c,u.2)::P
  | _=>u::addT t P
def addP:Py->Py->Py
 | [],Q=>Q
 | t::P,Q=>addT t (addP P Q)
def mulT (t:Mo):Py->Py->Py
 | [],R=>R
 | u::P,R=>addT ((t.1*u.1)%10007,zpu t.2 u.2) (mulT t P R)
def mulP:Py->Py->Py
 | [],_=>[]
 | t::P,Q=>mulT t Q (mulP P Q)
theorem zqx (r:Nat->Int) (v:Nat):∀ m,evm r (insM v m)=r v*evm r m
 | []=>rfl
 | w::m=>by
  unfold insM
  split
  .rfl
  .rw [evm,zqx r v m,evm,Int.mul_left_comm]
theorem zrU (r:Nat->Int):∀ m n,evm r (zpu m n)=evm r m*evm r n
 | [],n=>by simp [zpu,evm]
 | v::m,n=>by rw [zpu,zqx,zrU r m n,evm,Int.mul_assoc]
theorem zwV:∀ {m n:List Nat},cmM m n=1->m=n
 | [],[],_=>rfl
 | [],_::_,h=>by simp [cmM] at h
 | _::_,[],h=>by simp [cmM] at h
 | v::m,w::n,h=>by
  unfold cmM at h
  by_cases e:Nat.beq v w=true
  .rw [if_pos e] at h
   rw [Nat.eq_of_beq_eq_true e,zwV h]
  .rw [if_neg e] at h
   split at h <;> simp at h
theorem zcW {a b c d:Int} (h:a%10007=b%10007) (k:c%10007=d%10007):(a+c)%10007=(b+d)%10007:=by omega
theorem zaq {a b c d:Int} (h:a%10007=b%10007) (k:c%10007=d%10007):(a*c)%10007=(b*d)%10007:=by
 rw [Int.mul_emod,h,k,<- Int.mul_emod]
theorem zf4 (r:Nat->Int) (t:Mo):∀ P,evp r (addT t P)%10007=((t.1:Int)*evm r t.2+evp r P)%10007
 | []=>rfl
 | u::P=>by
  unfold addT
  split
  .rfl
  .rename_i h
   have e:=zwV h
   have h1:(((t.1+u.1)%10007:Nat):Int)*evm r u.2%10007=((t.1:Int)+u.1)*evm r u.2%10007:=by
    refine zaq ?_ rfl
    omega
   rw [Int.add_mul] at h1
   show evp r (if Nat.beq ((t.1+u.1)%10007) 0=true then P else ((t.1+u.1)%10007,u.2)::P)%10007=_
   rw [e,evp]
   split
   .rename_i h0
    have h0:=Nat.eq_of_beq_eq_true h0
    rw [h0] at h1
    simp only [Int.natCast_zero,Int.zero_mul] at h1
    omega
   .rw [evp]
    simp only
    omega
  .rw [evp,evp]
   have:=zf4 r t P
   omega
theorem zdq (r:Nat->Int):∀ P Q,evp r (addP P Q)%10007=(evp r P+evp r Q)%10007
 | [],Q=>by simp [addP,evp]
 | t::P,Q=>by
  rw [addP,zf4,evp]
  have:=zdq r P Q
  omega
theorem zok (r:Nat->Int) (t:Mo):∀ P R,evp r (mulT t P R)%10007=((t.1:Int)*evm r t.2*evp r P+evp r R)%10007
 | [],R=>by simp [mulT,evp]
 | u::P,R=>by
  rw [mulT,zf4,evp]
  have h:=zok r t P R
  have h1:(((t.1*u.1)%10007:Nat):Int)*evm r (zpu t.2 u.2)%10007=(t.1:Int)*evm r t.2*((u.1:Int)*evm r u.2)%10007:=by
   rw [zrU,show (t.1:Int)*evm r t.2*((u.1:Int)*evm r u.2)=((t.1:Int)*u.1)*(evm r t.2*evm r u.2) by ac_rfl]
   refine zaq ?_ rfl
   omega
  rw [Int.mul_add]
  generalize (t.1:Int)*evm r t.2*((u.1:Int)*evm r u.2)=A at *
  generalize (t.1:Int)*evm r t.2*evp r P=B at *
  simp only
  omega
theorem zgv (r:Nat->Int):∀ P Q,evp r (mulP P Q)%10007=(evp r P*evp r Q)%10007
 | [],Q=>by simp [mulP,evp]
 | t::P,Q=>by
  rw [mulP,zok,evp,Int.add_mul]
  have:=zgv r P Q
  omega
end Go.Proofs.YthhdollpkieknaaGreat


namespace Go.Proofs.YthhdollpkieknaaGreat
def cutT:List (List (Nat × List Nat × Nat)):=[[(1,[],1),(1,[1],0)],
 [(1,[],2),(1,[1],1),(1,[2],0)],
 [(1,[],3),(1,[1],2),(1,[2],1),(1,[3],0)],
 [(1,[],4),(2,[1],2),(1,[1,1],1),(1,[4],0)],
 [(1,[],5),(1,[1],3),(1,[2],2),(1,[3],1),(1,[5],0)],
 [(1,[],6),(2,[1],3),(1,[1,1],2),(1,[4],1),(1,[6],0)],
 [(1,[],7),(1,[1],3),(1,[1],4),(1,[2],2),(1,[1,1],2),(1,[1,2],1),(1,[7],0)],
 [(1,[],8),(3,[1],4),(3,[1,1],2),(1,[1,1,1],1),(1,[8],0)],
 [(1,[],9),(1,[1],5),(1,[2],3),(1,[3],2),(1,[5],1),(1,[9],0)],
 [(1,[],10),(2,[1],5),(1,[1,1],3),(1,[4],2),(1,[6],1),(1,[10],0)],
 [(1,[],11),(1,[1],5),(1,[1],6),(1,[2],3),(1,[1,1],3),(1,[1,2],2),(1,[7],1),(1,[11],0)],
 [(1,[],12),(1,[1],5),(1,[1],7),(1,[2],4),(1,[1,1],3),(1,[3],2),(1,[1,2],2),(1,[1,3],1),(1,[12],0)],
 [(1,[],13),(3,[1],6),(3,[1,1],3),(1,[1,1,1],2),(1,[8],1),(1,[13],0)],
 [(1,[],14),(1,[1],6),(2,[1],7),(2,[1,1],3),(1,[1,1],4),(1,[4],2),(1,[1,1,1],2),(1,[1,4],1),(1,[14],0)],
 [(1,[],15),(2,[1],7),(2,[2],3),(1,[1,1],4),(2,[1,2],2),(1,[2,2],1),(1,[15],0)],
 [(1,[],16),(2,[1],7),(1,[1],8),(1,[2],4),(1,[1,1],3),(2,[1,1],4),(2,[1,2],2),(1,[1,1,1],2),(1,[1,1,2],1),(1,[16],0)],
 [(1,[],17),(4,[1],8),(6,[1,1],4),(4,[1,1,1],2),(1,[1,1,1,1],1),(1,[17],0)],
 [(1,[],18),(1,[1],9),(1,[2],5),(1,[3],3),(1,[5],2),(1,[9],1),(1,[18],0)],
 [(1,[],19),(2,[1],9),(1,[1,1],5),(1,[4],3),(1,[6],2),(1,[10],1),(1,[19],0)],
 [(1,[],20),(1,[1],9),(1,[1],10),(1,[2],5),(1,[1,1],5),(1,[1,2],3),(1,[7],2),(1,[11],1),(1,[20],0)],
 [(1,[],21),(1,[1],9),(1,[1],11),(1,[2],6),(1,[1,1],5),(1,[3],3),(1,[1,2],3),(1,[1,3],2),(1,[12],1),(1,[21],0)],
 [(1,[],22),(1,[1],9),(1,[1],12),(1,[2],7),(1,[1,1],5),(1,[3],4),(1,[1,2],3),(1,[5],2),(1,[1,3],2),(1,[1,5],1),(1,[22],0)],
 [(1,[],23),(3,[1],10),(3,[1,1],5),(1,[1,1,1],3),(1,[8],2),(1,[13],1),(1,[23],0)],
 [(1,[],24),(1,[1],10),(2,[1],11),(2,[1,1],5),(1,[1,1],6),(1,[4],3),(1,[1,1,1],3),(1,[1,4],2),(1,[14],1),(1,[24],0)],
 [(1,[],25),(1,[1],10),(2,[1],12),(2,[1,1],5),(1,[1,1],7),(1,[4],4),(1,[1,1,1],3),(1,[6],2),(1,[1,4],2),(1,[1,6],1),(1,[25],0)],
 [(1,[],26),(2,[1],11),(2,[2],5),(1,[1,1],6),(2,[1,2],3),(1,[2,2],2),(1,[15],1),(1,[26],0)],
 [(1,[],27),(2,[1],11),(1,[1],13),(1,[2],6),(1,[1,1],5),(2,[1,1],6),(2,[1,2],3),(1,[1,1,1],3),(1,[1,1,2],2),(1,[16],1),(1,[27],0)],
 [(1,[],28),(1,[1],11),(1,[1],12),(1,[1],14),(1,[2],7),(1,[1,1],5),(1,[1,1],6),(1,[1,1],7),(1,[1,2],3),(1,[1,2],4),(1,[1,1,1],3),(1,[7],2),(1,[1,1,2],2),(1,[1,7],1),(1,[28],0)],
 [(1,[],29),(1,[1],12),(1,[1],15),(1,[2],5),(1,[2],7),(1,[1,1],7),(1,[3],3),(1,[1,2],3),(1,[1,2],4),(1,[1,3],2),(1,[2,2],2),(1,[2,3],1),(1,[29],0)],
 [(1,[],30),(2,[1],12),(1,[1],16),(1,[2],8),(1,[1,1],5),(2,[1,1],7),(1,[3],4),(2,[1,2],4),(1,[1,1,1],3),(2,[1,3],2),(1,[1,1,2],2),(1,[1,1,3],1),(1,[30],0)],
 [(1,[],31),(4,[1],13),(6,[1,1],6),(4,[1,1,1],3),(1,[1,1,1,1],2),(1,[17],1),(1,[31],0)],
 [(1,[],32),(1,[1],13),(3,[1],14),(3,[1,1],6),(3,[1,1],7),(3,[1,1,1],3),(1,[1,1,1],4),(1,[8],2),(1,[1,1,1,1],2),(1,[1,8],1),(1,[32],0)],
 [(1,[],33),(1,[1],14),(2,[1],15),(1,[2],6),(3,[1,1],7),(1,[4],3),(2,[1,2],3),(1,[1,1,1],4),(1,[1,4],2),(1,[1,1,2],2),(1,[2,4],1),(1,[33],0)],
 [(1,[],34),(2,[1],14),(2,[1],16),(1,[1,1],6),(4,[1,1],7),(1,[1,1],8),(1,[4],4),(2,[1,1,1],3),(2,[1,1,1],4),(2,[1,4],2),(1,[1,1,1,1],2),(1,[1,1,4],1),(1,[34],0)],
 [(1,[],35),(1,[1],15),(2,[1],16),(2,[2],7),(2,[1,1],7),(1,[1,1],8),(2,[1,2],3),(2,[1,2],4),(1,[1,1,1],4),(1,[2,2],2),(2,[1,1,2],2),(1,[1,2,2],1),(1,[35],0)],
 [(1,[],36),(3,[1],16),(1,[1],17),(1,[2],8),(3,[1,1],7),(3,[1,1],8),(3,[1,2],4),(1,[1,1,1],3),(3,[1,1,1],4),(3,[1,1,2],2),(1,[1,1,1,1],2),(1,[1,1,1,2],1),(1,[36],0)],
 [(1,[],37),(5,[1],17),(10,[1,1],8),(10,[1,1,1],4),(5,[1,1,1,1],2),(1,[1,1,1,1,1],1),(1,[37],0)]]
abbrev Ctp:=Nat × List Nat × Nat
def prI (A:Nat->Int):List Nat->Int
 | []=>1
 | v::m=>A v*prI A m
def rowI (A B:Nat->Int):List Ctp->Int
 | []=>0
 | c::L=>(c.1:Int)*(prI A c.2.1*B c.2.2)+rowI A B L
def ctR (i:Nat):List Ctp:=cutT[i-1]?.getD []
def cvI (A B:Nat->Int) (i:Nat):Int:=if i=0 then B 0 else rowI A B (ctR i)
def zpe (A:Nat->Py):List Nat->Py
 | []=>[(1,[])]
 | v::m=>mulP (A v) (zpe A m)
def rowP (A B:Nat->Py):List Ctp->Py
 | []=>[]
 | c::L=>addP (mulP [(c.1,[])] (mulP (zpe A c.2.1) (B c.2.2))) (rowP A B L)
def cvP (A B:Nat->Py) (i:Nat):Py:=if Nat.beq i 0 then B 0 else rowP A B (ctR i)
theorem ziS (r:Nat->Int):evp r [(1,[])]=1:=by simp [evp,evm]
theorem zzA (r:Nat->Int) (c:Nat):evp r [(c,[])]=c:=by simp [evp,evm]
theorem zzW (r:Nat->Int) (v:Nat):evp r [(1,[v])]=r v:=by simp [evp,evm]
theorem zma {A A':Nat->Int}:∀ {m:List Nat},(∀ v∈m,A v%10007=A' v%10007)->prI A m%10007=prI A' m%10007
 | [],_=>rfl
 | v::m,h=>zaq (h v (by simp)) (zma fun w hw=>h w (by simp [hw]))
theorem zbY {A A' B B':Nat->Int}:∀ {L:List Ctp},(∀ c∈L,(∀ v∈c.2.1,A v%10007=A' v%10007)/\B c.2.2%10007=B' c.2.2%10007)->rowI A B L%10007=rowI A' B' L%10007
 | [],_=>rfl
 | c::L,h=>zcW (zaq rfl (zaq (zma (h c (by simp)).1) (h c (by simp)).2)) (zbY fun d hd=>h d (by simp [hd]))
theorem zji (r:Nat->Int) {A:Nat->Py} {A':Nat->Int}:∀ m,(∀ v∈m,evp r (A v)%10007=A' v%10007)->evp r (zpe A m)%10007=prI A' m%10007
 | [],_=>by rw [zpe,ziS]; rfl
 | v::m,h=>by rw [zpe,zgv,prI]; exact zaq (h v (by simp)) (zji r m fun w hw=>h w (by simp [hw]))
theorem zjC (r:Nat->Int) {A B:Nat->Py} {A' B':Nat->Int}:∀ L:List Ctp,(∀ c∈L,(∀ v∈c.2.1,evp r (A v)%10007=A' v%10007)/\evp r (B c.2.2)%10007=B' c.2.2%10007)->evp r (rowP A B L)%10007=rowI A' B' L%10007
 | [],_=>rfl
 | c::L,h=>by
  rw [rowP,zdq,rowI]
  refine zcW ?_ (zjC r L fun d hd=>h d (by simp [hd]))
  rw [zgv,zzA]
  refine zaq rfl ?_
  rw [zgv]
  exact zaq (zji r _ (h c (by simp)).1) (h c (by simp)).2
theorem zcw {i:Nat} (hi:i<38):∀ c∈ctR i,(∀ v∈c.2.1,v<38)/\c.2.2<38:=by
 have ok:(List.range 38).all (fun i=>(ctR i).all fun c=>c.2.1.all (fun v=>decide (v<38)) && decide (c.2.2<38))=true:=by decide +kernel
 intro c hc
 have h:=List.all_eq_true.1 (List.all_eq_true.1 ok i (List.mem_range.2 hi)) c hc
 simp only [Bool.and_eq_true,List.all_eq_true,decide_eq_true_eq] at h
 exact h
theorem zfL (r:Nat->Int) {A B:Nat->Py} {A' B':Nat->Int} (h:∀ v,v<38->evp r (A v)%10007=A' v%10007) (k:∀ v,v<38->evp r (B v)%10007=B' v%10007) {i:Nat} (hi:i<38):evp r (cvP A B i)%10007=cvI A' B' i%10007:=by
 unfold cvP cvI
 by_cases e:i=0
 .subst e; exact k 0 (by omega)
 .rw [if_neg e,if_neg (by intro x; exact e (Nat.eq_of_beq_eq_true x))]
  exact zjC r _ fun c hc=>⟨fun v hv=>h v ((zcw hi c hc).1 v hv),k _ (zcw hi c hc).2⟩
def vr (k i:Nat):Py:=if Nat.beq i 0 then [(1,[])] else [(1,[k+i])]
def v0 (k i:Nat):Py:=[(1,[k+i])]
def en3 (A B C:Nat->Int) (v:Nat):Int:=if v<40 then A v else if v<80 then B (v-40) else C (v-80)
theorem zjP {r:Nat->Int} {k:Nat} {A:Nat->Int} (h0:A 0%10007=1) (h:∀ i,i<38->r (k+i)=A i) {i:Nat} (hi:i<38):evp r (vr k i)%10007=A i%10007:=by
 unfold vr
 split
 .rename_i e
  have e:=Nat.eq_of_beq_eq_true e
  subst e
  rw [ziS,h0]
  rfl
 .rw [zzW,h i hi]
theorem zwT {r:Nat->Int} {k:Nat} {A:Nat->Int} (h:∀ i,i<38->r (k+i)=A i) {i:Nat} (hi:i<38):evp r (v0 k i)%10007=A i%10007:=by
 unfold v0
 rw [zzW,h i hi]
theorem zsn {A A' B B':Nat->Int} (ha:∀ i,i<38->A i%10007=A' i%10007) (hb:∀ i,i<38->B i%10007=B' i%10007) {i:Nat} (hi:i<38):cvI A B i%10007=cvI A' B' i%10007:=by
 unfold cvI
 split
 .exact hb 0 (by omega)
 .exact zbY fun c hc=>⟨fun v hv=>ha v ((zcw hi c hc).1 v hv),hb _ (zcw hi c hc).2⟩
theorem zrY:(List.range 38).all (fun i=>decide (cvP (cvP (vr 0) (vr 40)) (v0 80) i=cvP (vr 0) (cvP (vr 40) (v0 80)) i))=true:=by decide +kernel
theorem zCd {A B C:Nat->Int} (ha:A 0%10007=1) (hb:B 0%10007=1) {i:Nat} (hi:i<38):cvI (cvI A B) C i%10007=cvI A (cvI B C) i%10007:=by
 have e:=of_decide_eq_true (List.all_eq_true.1 zrY i (List.mem_range.2 hi))
 have hA:∀ v,v<38->evp (en3 A B C) (vr 0 v)%10007=A v%10007:=fun v hv=>zjP ha (fun i hi=>by unfold en3; rw [if_pos (by omega),Nat.zero_add]) hv
 have hB:∀ v,v<38->evp (en3 A B C) (vr 40 v)%10007=B v%10007:=fun v hv=>zjP hb (fun i hi=>by unfold en3; rw [if_neg (by omega),if_pos (by omega)]; congr 1; omega) hv
 have hC:∀ v,v<38->evp (en3 A B C) (v0 80 v)%10007=C v%10007:=fun v hv=>zwT (fun i hi=>by unfold en3; rw [if_neg (by omega),if_neg (by omega)]; congr 1; omega) hv
 rw [<- zfL (en3 A B C) (fun v hv=>zfL (en3 A B C) hA hB hv) hC hi,e,zfL (en3 A B C) hA (fun v hv=>zfL (en3 A B C) hB hC hv) hi]
def iat (a:List Int) (i:Nat):Int:=a[i]?.getD 0
def N38 (a:List Int):Prop:=a.length=38/\∀ x∈a,0<=x/\x<10007
def Ch (a:List Int):Prop:=N38 a/\iat a 0=1
theorem N38.at {a:List Int} (h:N38 a) (i:Nat):0<=iat a i/\iat a i<10007:=by
 unfold iat
 by_cases e:i<a.length
 .rw [List.getElem?_eq_getElem e]; exact h.2 _ (List.getElem_mem e)
 .rw [List.getElem?_eq_none (by omega)]; simp
theorem N38.ext {a b:List Int} (ha:N38 a) (hb:N38 b) (h:∀ i,i<38->iat a i%10007=iat b i%10007):a=b:=by
 refine List.ext_getElem (by rw [ha.1,hb.1]) fun i h1 h2=>?_
 have k:=h i (by rw [ha.1] at h1; exact h1)
 have a1:=ha.at i
 have b1:=hb.at i
 rw [Int.emod_eq_of_lt a1.1 a1.2,Int.emod_eq_of_lt b1.1 b1.2] at k
 unfold iat at k
 rw [List.getElem?_eq_getElem h1,List.getElem?_eq_getElem h2] at k
 exact k
def mk38 (f:Nat->Int):List Int:=(List.range 38).map fun i=>f i%10007
theorem zdc (f:Nat->Int):N38 (mk38 f):=by
 refine ⟨by simp [mk38],fun x hx=>?_⟩
 obtain ⟨i,_,rfl⟩:=List.mem_map.1 hx
 exact ⟨Int.emod_nonneg _ (by decide),Int.emod_lt_of_pos _ (by decide)⟩
theorem zcA (f:Nat->Int) {i:Nat} (h:i<38):iat (mk38 f) i=f i%10007:=by
 unfold iat mk38
 rw [List.getElem?_map,List.getElem?_range h]; rfl
theorem zbX (f:Nat->Int) {i:Nat} (h:i<38):iat (mk38 f) i%10007=f i%10007:=by
 rw [zcA f h,Int.emod_emod_of_dvd _ (Int.dvd_refl _)]
theorem zhw {f g:Nat->Int} (h:∀ i,i<38->f i%10007=g i%10007):mk38 f=mk38 g:=List.map_congr_left fun i hi=>h i (List.mem_range.1 hi)
theorem zem {a:List Int} {f:Nat->Int} (ha:N38 a) (h:∀ i,i<38->f i%10007=iat a i%10007):mk38 f=a :=
 (zdc f).ext ha fun i hi=>by rw [zbX f hi,h i hi]
def cvS (a b:List Int):List Int:=mk38 (cvI (iat a) (iat b))
def zbT:List Int:=mk38 fun i=>if i=0 then 1 else 0
theorem zc2:Ch zbT:=⟨zdc _,zcA _ (by decide)⟩
theorem zlX (a b:List Int) {i:Nat} (hi:i<38):iat (cvS a b) i%10007=cvI (iat a) (iat b) i%10007:=zbX _ hi
theorem zyW {a b c:List Int} (ha:Ch a) (hb:Ch b):cvS (cvS a b) c=cvS a (cvS b c):=by
 refine zhw fun i hi=>?_
 rw [zsn (fun j hj=>zlX a b hj) (fun _ _=>rfl) hi,zCd (by rw [ha.2]; rfl) (by rw [hb.2]; rfl) hi]
 exact (zsn (fun _ _=>rfl) (fun j hj=>zlX b c hj) hi).symm
def u0 (i:Nat):Py:=if Nat.beq i 0 then [(1,[])] else []
theorem zw8 (r:Nat->Int) {i:Nat} (hi:i<38):evp r (u0 i)%10007=iat zbT i%10007:=by
 unfold zbT
 rw [zbX _ hi]
 unfold u0
 by_cases e:i=0
 .subst e; show evp r [(1,[])]%10007=1%10007; rw [ziS]
 .rw [if_neg e,if_neg (by intro x; exact e (Nat.eq_of_beq_eq_true x))]; rfl
theorem zns:(List.range 38).all (fun i=>decide (cvP u0 (v0 0) i=v0 0 i) && decide (cvP (vr 0) u0 i=vr 0 i))=true:=by decide +kernel
theorem zxB {a:List Int} (ha:N38 a):cvS zbT a=a:=by
 refine zem ha fun i hi=>?_
 have e:=List.all_eq_true.1 zns i (List.mem_range.2 hi)
 simp only [Bool.and_eq_true,decide_eq_true_eq] at e
 have hv:∀ v,v<38->evp (iat a) (v0 0 v)%10007=iat a v%10007:=fun v hv=>zwT (fun i _=>by rw [Nat.zero_add]) hv
 rw [<- zfL (iat a) (fun v hv=>zw8 (iat a) hv) hv hi,e.1,hv i hi]
theorem zzr {a:List Int} (ha:Ch a):cvS a zbT=a:=by
 refine zem ha.1 fun i hi=>?_
 have e:=List.all_eq_true.1 zns i (List.mem_range.2 hi)
 simp only [Bool.and_eq_true,decide_eq_true_eq] at e
 have hv:∀ v,v<38->evp (iat a) (vr 0 v)%10007=iat a v%10007:=fun v hv=>zjP (by rw [ha.2]; rfl) (fun i _=>by rw [Nat.zero_add]) hv
 rw [<- zfL (iat a) hv (fun v hv=>zw8 (iat a) hv) hi,e.2,hv i hi]
def nwR (i:Nat):List Ctp:=(ctR i).filter fun c=>decide (0<c.2.2)
def invN (a:List Int):Nat->List Int
 | 0=>[1]
 | k+1=>invN a k++[(-(rowI (iat (invN a k)) (iat a) (nwR (k+1))))%10007]
theorem zdZ (a:List Int):∀ k,(invN a k).length=k+1
 | 0=>rfl
 | k+1=>by rw [invN,List.length_append,zdZ a k]; rfl
theorem zqI (a:List Int):∀ k,∀ x∈invN a k,0<=x/\x<10007
 | 0,x,hx=>by simp only [invN,List.mem_singleton] at hx; subst hx; exact ⟨by decide,by decide⟩
 | k+1,x,hx=>by
  rw [invN] at hx
  rcases List.mem_append.1 hx with hx | hx
  .exact zqI a k x hx
  .rw [List.mem_singleton.1 hx]
   exact ⟨Int.emod_nonneg _ (by decide),Int.emod_lt_of_pos _ (by decide)⟩
theorem zez (a:List Int) {i k:Nat} (h:i<=k):∀ d,iat (invN a (k+d)) i=iat (invN a k) i
 | 0=>rfl
 | d+1=>by
  rw [<- zez a h d]
  show iat (invN a (k+d)++_) i=_
  unfold iat
  rw [List.getElem?_append_left (by rw [zdZ]; omega)]
def invS (a:List Int):List Int:=invN a 37
theorem zr0 (a:List Int):Ch (invS a):=by
 refine ⟨⟨zdZ a 37,zqI a 37⟩,?_⟩
 have:=zez a (i:=0) (k:=0) (Nat.le_refl 0) 37
 exact this
theorem zq7 {i:Nat} (hi:i<38) (h0:0<i):(∀ c∈nwR i,∀ v∈c.2.1,v<i)/\(ctR i).filter (fun c=>!decide (0<c.2.2))=[(1,[i],0)]:=by
 have ok:(List.range 37).all (fun j=>((nwR (j+1)).all fun c=>c.2.1.all fun v=>decide (v<j+1)) && decide ((ctR (j+1)).filter (fun c=>!decide (0<c.2.2))=[(1,[j+1],0)]))=true:=by decide +kernel
 obtain ⟨j,rfl⟩:∃ j,i=j+1:=⟨i-1,by omega⟩
 have h:=List.all_eq_true.1 ok j (List.mem_range.2 (by omega))
 simp only [Bool.and_eq_true,List.all_eq_true,decide_eq_true_eq] at h
 exact h
theorem zfD (A B:Nat->Int) (p:Ctp->Bool):∀ L,rowI A B L=rowI A B (L.filter p)+rowI A B (L.filter fun c=>!p c)
 | []=>rfl
 | c::L=>by
  rw [rowI,zfD A B p L,List.filter_cons,List.filter_cons]
  by_cases h:p c=true
  .simp only [h,if_true,Bool.not_true,rowI]; rw [if_neg (by decide)]; omega
  .have h2:p c=false:=by simpa using h
   simp only [h2,Bool.not_false,if_true,rowI]; rw [if_neg (by decide)]; omega
theorem zgj (A B:Nat->Int) {i:Nat} (hi:i<38) (h0:0<i):cvI A B i=rowI A B (nwR i)+A i*B 0:=by
 unfold cvI
 rw [if_neg (by omega),zfD A B (fun c=>decide (0<c.2.2)),(zq7 hi h0).2]
 simp [rowI,prI,nwR]
theorem zDf {a:List Int} (ha:Ch a):cvS (invS a) a=zbT:=by
 refine zem zc2.1 fun i hi=>?_
 unfold zbT
 rw [zbX _ hi]
 by_cases h0:i=0
 .subst h0; rw [cvI,if_pos rfl,if_pos rfl,ha.2]
 .rw [if_neg h0,zgj _ _ hi (by omega),ha.2,Int.mul_one]
  obtain ⟨j,rfl⟩:∃ j,i=j+1:=⟨i-1,by omega⟩
  have e:iat (invS a) (j+1)=(-(rowI (iat (invN a j)) (iat a) (nwR (j+1))))%10007:=by
   have:=zez a (i:=j+1) (k:=j+1) (Nat.le_refl _) (36-j)
   rw [show j+1+(36-j)=37 by omega] at this
   refine this.trans ?_
   unfold iat
   rw [invN,List.getElem?_append_right (by rw [zdZ]; omega),zdZ,Nat.sub_self]
   rfl
  have e2:rowI (iat (invS a)) (iat a) (nwR (j+1))%10007=rowI (iat (invN a j)) (iat a) (nwR (j+1))%10007:=by
   refine zbY fun c hc=>⟨fun v hv=>?_,rfl⟩
   have hv:=(zq7 hi (by omega)).1 c hc v hv
   have:=zez a (i:=v) (k:=j) (by omega) (37-j)
   rw [show j+(37-j)=37 by omega] at this
   unfold invS
   rw [this]
  rw [e]
  omega
end Go.Proofs.YthhdollpkieknaaGreat


namespace Go.Proofs.YthhdollpkieknaaGreat
def ndT:List Nat:=[0,1,2,3,3,4,4,4,4,5,5,5,5,5,5,5,5,5,6,6,6,6,6,6,6,6,6,6,6,6,6,6,6,6,6,6,6,6]
def exT:List Nat:=[1,1,5004,1668,3336,417,834,1251,2502,8089,6171,4253,2335,8506,4670,8506,7005,4003,3016,6032,9048,2057,5073,8089,4114,139,8089,6171,5212,139,278,2335,417,278,556,417,834,1668]
def nd (i:Nat):Nat:=ndT[i]?.getD 0
def exI (i:Nat):Int:=((exT[i]?.getD 0:Nat):Int)
def scS (k:Int) (a:List Int):List Int:=mk38 fun i=>iat a i*k ^ nd i
theorem zmd (k:Int) (a:List Int):N38 (scS k a):=zdc _
theorem zmS (k:Int) (a:List Int) {i:Nat} (h:i<38):iat (scS k a) i%10007=iat a i*k ^ nd i%10007:=zbX _ h
theorem zqj (k:Int) {a:List Int} (h:Ch a):Ch (scS k a):=⟨zmd k a,by
 unfold scS
 rw [zcA _ (by decide)]
 show iat a 0*k ^ 0%10007=1
 rw [h.2]; simp⟩
def zjq:List Nat->Nat
 | []=>0
 | v::m=>nd v+zjq m
theorem zDm {i:Nat} (hi:i<38) (h0:0<i):∀ c∈ctR i,zjq c.2.1+nd c.2.2=nd i:=by
 have ok:(List.range 37).all (fun j=>(ctR (j+1)).all fun c=>decide (zjq c.2.1+nd c.2.2=nd (j+1)))=true:=by decide +kernel
 obtain ⟨j,rfl⟩:∃ j,i=j+1:=⟨i-1,by omega⟩
 have h:=List.all_eq_true.1 ok j (List.mem_range.2 (by omega))
 simp only [List.all_eq_true,decide_eq_true_eq] at h
 exact h
theorem zrX (A:Nat->Int) (k:Int):∀ m,prI (fun v=>A v*k ^ nd v) m=prI A m*k ^ zjq m
 | []=>by simp [prI,zjq]
 | v::m=>by rw [prI,zrX A k m,prI,zjq,Int.pow_add]; ac_rfl
theorem zpZ (A B:Nat->Int) (k:Int) (n:Nat):∀ L:List Ctp,(∀ c∈L,zjq c.2.1+nd c.2.2=n)->rowI (fun v=>A v*k ^ nd v) (fun v=>B v*k ^ nd v) L=rowI A B L*k ^ n
 | [],_=>by simp [rowI]
 | c::L,h=>by
  rw [rowI,zpZ A B k n L fun d hd=>h d (by simp [hd]),rowI,zrX,<- h c (by simp),Int.pow_add,Int.add_mul]
  congr 1
  ac_rfl
theorem zDG (A B:Nat->Int) (k:Int) {i:Nat} (hi:i<38):cvI (fun v=>A v*k ^ nd v) (fun v=>B v*k ^ nd v) i=cvI A B i*k ^ nd i:=by
 unfold cvI
 by_cases h:i=0
 .subst h; rw [if_pos rfl,if_pos rfl]
 .rw [if_neg h,if_neg h,zpZ A B k (nd i) _ (zDm hi (by omega))]
theorem zBK (k:Int) (a b:List Int):cvS (scS k a) (scS k b)=scS k (cvS a b):=by
 refine zhw fun i hi=>?_
 rw [zsn (fun j hj=>zmS k a hj) (fun j hj=>zmS k b hj) hi,zDG _ _ k hi]
 exact (zaq (zlX a b hi) rfl).symm
theorem zBH (k l:Int) (a:List Int):scS k (scS l a)=scS (l*k) a:=by
 refine zhw fun i hi=>?_
 rw [Int.mul_pow,<- Int.mul_assoc]
 exact zaq (zmS l a hi) rfl
theorem zmI {a b:Int} (h:a%10007=b%10007):∀ n:Nat,a ^ n%10007=b ^ n%10007
 | 0=>by simp
 | n+1=>by rw [Int.pow_succ,Int.pow_succ]; exact zaq (zmI h n) h
theorem zse {k l:Int} (h:k%10007=l%10007) (a:List Int):scS k a=scS l a:=zhw fun i _=>zaq rfl (zmI h _)
theorem zzo {a:List Int} (h:N38 a):scS 1 a=a:=zem h fun i _=>by rw [Int.one_pow,Int.mul_one]
theorem zxm {i:Nat} (hi:i<38):iat zbT i=if i=0 then 1 else 0:=by
 unfold zbT
 rw [zcA _ hi]
 by_cases h:i=0
 .rw [if_pos h]; rfl
 .rw [if_neg h]; rfl
theorem zAF (k:Int):scS k zbT=zbT:=zem zc2.1 fun i hi=>by
 rw [zxm hi]
 by_cases h:i=0
 .subst h; show 1*k ^ 0%10007=_; simp
 .rw [if_neg h,Int.zero_mul]
theorem zp6 {i:Nat} (hi:i<38) (h0:0<i):0<nd i:=by
 have ok:(List.range 37).all (fun j=>decide (0<nd (j+1)))=true:=by decide +kernel
 obtain ⟨j,rfl⟩:∃ j,i=j+1:=⟨i-1,by omega⟩
 exact of_decide_eq_true (List.all_eq_true.1 ok j (List.mem_range.2 (by omega)))
def exaS:List Int:=mk38 exI
theorem zyz {i:Nat} (h:i<38):iat exaS i%10007=exI i%10007:=zbX _ h
theorem zbV:Ch exaS:=⟨zdc _,by unfold exaS; rw [zcA _ (by decide)]; decide⟩
end Go.Proofs.YthhdollpkieknaaGreat


namespace Go.Proofs.YthhdollpkieknaaGreat
theorem ztw:iat exaS 1=1:=by unfold exaS; rw [zcA _ (by decide)]; decide
def Agr (a b:List Int) (n:Nat):Prop:=∀ i,i<38->nd i<=n->iat a i=iat b i
theorem zpr {i:Nat} (hi:i<38):nd i<=6:=by
 have ok:(List.range 38).all (fun j=>decide (nd j<=6))=true:=by decide +kernel
 exact of_decide_eq_true (List.all_eq_true.1 ok i (List.mem_range.2 hi))
def agI (a b:List Int):Nat->Nat->Int
 | 0,_=>6
 | m+1,i=>if iat a i=iat b i then agI a b m (i+1) else (nd i:Int)-1
def agS (a b:List Int):Int:=agI a b 38 0
theorem zzz {i j:Nat} (h:i<=j) (hj:j<38):nd i<=nd j:=by
 have ok:(List.range 38).all (fun j=>(List.range (j+1)).all fun i=>decide (nd i<=nd j))=true:=by decide +kernel
 exact of_decide_eq_true (List.all_eq_true.1 (List.all_eq_true.1 ok j (List.mem_range.2 hj)) i (List.mem_range.2 (by omega)))
theorem zm2 (a b:List Int):∀ m i,m+i=38->(agI a b m i=6/\∀ j,i<=j->j<38->iat a j=iat b j)\/∃ j,i<=j/\j<38/\iat a j≠iat b j/\agI a b m i=(nd j:Int)-1/\∀ k,i<=k->k<j->iat a k=iat b k
 | 0,i,h=>.inl ⟨rfl,fun j h1 h2=>by omega⟩
 | m+1,i,h=>by
  by_cases e:iat a i=iat b i
  .rw [agI,if_pos e]
   rcases zm2 a b m (i+1) (by omega) with ⟨h1,h2⟩ | ⟨j,h1,h2,h3,h4,h5⟩
   .refine .inl ⟨h1,fun j k1 k2=>?_⟩
    by_cases ej:j=i
    .subst ej; exact e
    .exact h2 j (by omega) k2
   .refine .inr ⟨j,by omega,h2,h3,h4,fun k k1 k2=>?_⟩
    by_cases ek:k=i
    .subst ek; exact e
    .exact h5 k (by omega) k2
  .rw [agI,if_neg e]
   exact .inr ⟨i,Nat.le_refl _,by omega,e,rfl,fun k k1 k2=>by omega⟩
theorem zn2 (a b:List Int):(agS a b=6/\∀ j,j<38->iat a j=iat b j)\/∃ j,j<38/\iat a j≠iat b j/\agS a b=(nd j:Int)-1/\∀ k,k<38->nd k<nd j->iat a k=iat b k:=by
 rcases zm2 a b 38 0 rfl with ⟨h1,h2⟩ | ⟨j,_,h2,h3,h4,h5⟩
 .exact .inl ⟨h1,fun j hj=>h2 j (by omega) hj⟩
 .refine .inr ⟨j,h2,h3,h4,fun k hk hl=>h5 k (by omega) ?_⟩
  rcases Nat.lt_or_ge k j with h | h
  .exact h
  .have:=zzz h hk; omega
theorem zBe {a b:List Int} {n:Nat} (h:Agr a b n) (h6:n<=6):(n:Int)<=agS a b:=by
 rcases zn2 a b with ⟨h1,_⟩ | ⟨j,h2,h3,h4,_⟩
 .omega
 .rcases Nat.lt_or_ge n (nd j) with hl | hl
  .omega
  .exact (h3 (h j h2 hl)).elim
theorem zBf {a b:List Int} (ha:Ch a) (hb:Ch b):0<=agS a b/\agS a b<=6:=by
 have h:Agr a b 0:=fun i hi hl=>by
  rcases Nat.eq_zero_or_pos i with rfl | h0
  .rw [ha.2,hb.2]
  .have:=zp6 hi h0; omega
 refine ⟨by have:=zBe h (by omega); simpa using this,?_⟩
 rcases zn2 a b with ⟨h1,_⟩ | ⟨j,h2,h3,h4,_⟩
 .omega
 .have:=zpr h2; omega
end Go.Proofs.YthhdollpkieknaaGreat


namespace Go.Proofs.YthhdollpkieknaaGreat
open Go.Abs
end Go.Proofs.YthhdollpkieknaaGreat


namespace Go.Proofs.YthhdollpkieknaaGreat
open Go.Abs
end Go.Proofs.YthhdollpkieknaaGreat


namespace Go.Proofs.YthhdollpkieknaaGreat
open Go.Abs
theorem zl5 (A:List (List Int)) (B:List Int) (hl:B.length<=1000):Con Tryz.prog 177 [.agg [.sl A.length (mat A),.sl B.length (avs B)]] (.own 2 B.length (avs (tlL B.length))):=by
 have hd:tlL B.length=tb (fun i=>(i:Int)) B.length:=rfl
 rw [hd]
 refine zab Tryz.mixed ⟨5,[],[],[]⟩ Tryz.func177 ?_
 rw [Tryz.ntmps177]
 simp [go_sem]
 refine zac ([3,4]++List.range' 9 8) (fun i:Nat=>[(3,.own 2 i (avs (tb (fun i=>(i:Int)) i))),(9,.int i)]) (fun i=>i<=B.length) (fun i=>B.length-i) 0 (by simp) (by simp [go_sem]) (by simp [go_sem]) ?_
 intro i hi
 by_cases hib:i<B.length
 .have hii:(i:Int)<B.length:=by omega
  have ts:=zbD (fun i=>(i:Int)) i
  simp [go_sem,hii]
  exact ⟨⟨by omega,by omega⟩,⟨by omega,by omega⟩,i+1,by omega,by omega,zaa _ _ _ (by simp),by rw [ts,zam]; exact ⟨rfl,rfl⟩,by omega⟩
 .have e:i=B.length:=by omega
  simp [go_sem,e]
def rvL (xs:List Int) (i:Nat):List Int:=tb (fun k=>if k<i\/xs.length-i<=k then xs[xs.length-1-k]?.getD 0 else xs[k]?.getD 0) xs.length
@[simp] theorem zx0 (xs:List Int) (i:Nat):(rvL xs i).length=xs.length:=by simp [rvL]
theorem zfE {xs:List Int} {i k:Nat} (h:k<xs.length):(rvL xs i)[k]?.getD 0=if k<i\/xs.length-i<=k then xs[xs.length-1-k]?.getD 0 else xs[k]?.getD 0:=zaP _ h
theorem zuR (xs:List Int):rvL xs 0=xs:=by
 refine List.ext_getElem (by simp) fun k h1 h2=>?_
 have:=zfE (i:=0) h2
 rw [if_neg (by omega),List.getElem?_eq_getElem h1,List.getElem?_eq_getElem h2] at this
 exact this
theorem zvt {xs:List Int} {i:Nat} (h:2*i+1<xs.length) :
  ((rvL xs i).set i (xs[xs.length-1-i]?.getD 0)).set (xs.length-1-i) (xs[i]?.getD 0)=rvL xs (i+1):=by
 refine List.ext_getElem (by simp) fun k h1 h2=>?_
 have hk:k<xs.length:=by simpa using h2
 have e1:=zfE (i:=i) hk
 have e2:=zfE (i:=i+1) hk
 have l1:k<(rvL xs i).length:=by simpa using hk
 rw [List.getElem?_eq_getElem l1,Option.getD_some] at e1
 rw [List.getElem?_eq_getElem h2,Option.getD_some] at e2
 rw [List.getElem_set,List.getElem_set,e1,e2]
 by_cases a:xs.length-1-i=k
 .rw [if_pos a,if_pos (by omega)]
  congr 2; omega
 .rw [if_neg a]
  by_cases b:i=k
  .rw [if_pos b,if_pos (by omega)]; subst b; rfl
  .rw [if_neg b]
   by_cases d:k<i\/xs.length-i<=k
   .rw [if_pos d,if_pos (by omega)]
   .rw [if_neg d,if_neg (by omega)]
theorem zxE {xs:List Int} {i:Nat} (h:xs.length<=2*i+1):rvL xs i=xs.reverse:=by
 refine List.ext_getElem (by simp) fun k h1 h2=>?_
 have hk:k<xs.length:=by simpa using h2
 have e1:=zfE (i:=i) hk
 rw [List.getElem?_eq_getElem h1,Option.getD_some] at e1
 rw [e1,List.getElem_reverse]
 have hk2:xs.length-1-k<xs.length:=by omega
 by_cases d:k<i\/xs.length-i<=k
 .rw [if_pos d,List.getElem?_eq_getElem hk2]; rfl
 .rw [if_neg d,List.getElem?_eq_getElem hk]
  have:xs.length-1-k=k:=by omega
  simp [this]
theorem zsU (xs:List Int) (hl:xs.length<=1000):MCon Tryz.prog 178 [.own 2 xs.length (avs xs)] (.tup []) [.own 2 xs.length (avs xs.reverse)]:=by
 refine zdU Tryz.mixed ⟨4,[],[],[1000313990216]⟩ [0] Tryz.func178 ?_
 rw [Tryz.ntmps178]
 simp [go_sem]
 refine ⟨⟨by omega,by omega⟩,?_⟩
 refine zac ([0,2,3]++List.range' 7 21) (fun i:Nat=>[(0,.own 2 xs.length (avs (rvL xs i))),(2,.int i),(3,.int ((xs.length:Int)-1-i))]) (fun i=>2*i<=xs.length) (fun i=>xs.length-i) 0 (by simp) (by simp [go_sem,zuR]) (by simp [go_sem]) ?_
 intro i hi
 by_cases hx:2*i+1<xs.length
 .have hii:(i:Int)<(xs.length:Int)-1-i:=by omega
  have ek:(xs.length:Int)-1-(i:Int)=((xs.length-1-i:Nat):Int):=by omega
  have hn:=zvt hx
  have l1:i<(rvL xs i).length:=by simp; omega
  have l2:xs.length-1-i<(rvL xs i).length:=by simp; omega
  have a1:=zbL l1
  have a2:=zbL l2
  rw [zfE (by omega),if_neg (by omega)] at a1
  rw [zfE (by omega),if_neg (by omega)] at a2
  have t1:=za0 (rvL xs i) i (xs[xs.length-1-i]?.getD 0)
  have t2:=za0 ((rvL xs i).set i (xs[xs.length-1-i]?.getD 0)) (xs.length-1-i) (xs[i]?.getD 0)
  rw [hn,<- t1] at t2
  have hj:xs.length-1-i<xs.length:=by omega
  have hne:¬ i=xs.length-1-i:=by omega
  have rl:=zx0 xs i
  generalize xs[i]?.getD 0=x at *
  generalize hjj:xs.length-1-i=j at *
  generalize xs[j]?.getD 0=y at *
  generalize hO:rvL xs i=O at *
  rw [ek] at hii |-
  simp [go_sem,hii,a1,a2]
  refine ⟨by kernel_rfl,?_,?_⟩
  .refine ⟨by omega,by omega,by omega,by omega,by omega,by kernel_rfl,?_⟩
   simp [go_sem,t2]
   exact ⟨⟨by omega,by omega⟩,⟨by omega,by omega⟩,i+1,by omega,by omega,zaa _ _ _ (by simp),rfl,by omega,by omega⟩
  .refine ⟨by omega,by omega,by omega,by omega,by omega,by kernel_rfl,?_⟩
   simp [go_sem,t2]
   exact ⟨⟨by omega,by omega⟩,⟨by omega,by omega⟩,i+1,by omega,by omega,zaa _ _ _ (by simp),rfl,by omega,by omega⟩
 .have hii:¬ (i:Int)<(xs.length:Int)-1-i:=by omega
  have ha:=zxE (xs:=xs) (i:=i) (by omega)
  rw [ha]
  simp [go_sem,hii]
theorem zrO (A:List (List Int)) (B:List Int) (h:Tab A B):Con Tryz.prog 179 [.agg [.sl A.length (mat A),.sl B.length (avs B)]]
  (.agg [.own 25 B.length (omat (lesM A B)),.own 2 B.length (avs (zbA B (-1)))]):=by
 have b1:=h.pos
 have b8:=h.le
 have ab:=h.len
 have rw1:=h.rws
 have hd:lesM A B=(List.range A.length).map fun i=>za6 (A[i]?.getD []) B (-1):=rfl
 have bN:=h.b
 have cT:=zga B (-1) bN ⟨by omega,by omega⟩ (by omega)
 generalize zbA B (-1)=Z at *
 refine zab Tryz.mixed ⟨6,[],[],[]⟩ Tryz.func179 ?_
 rw [Tryz.ntmps179]
 simp [go_sem]
 refine CallVC.of (cT) ?_
 simp [go_sem]
 refine zac ([3,5]++List.range' 13 14) (fun i:Nat=>[(3,.box 27 [if i=0 then .val (.slice none 0 0) else .own 25 i (omat ((List.range i).map fun i=>za6 (A[i]?.getD []) B (-1))),.own 2 B.length (avs Z)]),(13,.int i)]) (fun i=>i<=A.length) (fun i=>A.length-i) 0 (by simp) (by simp [go_sem]) (by simp [go_sem]) ?_
 intro i hi
 by_cases hin:i<A.length
 .have hii:(i:Int)<A.length:=by omega
  have ri:=rw1.at hin
  have ane:¬ A=[]:=by rintro rfl; simp at hin
  have cP:=ziv (A[i]?.getD []) B (-1) ri.2 bN ⟨by omega,by omega⟩ (by omega) (by omega)
  have os:=zaW (fun i=>za6 (A[i]?.getD []) B (-1)) i
  rw [zbv] at os
  by_cases h0:i=0
  .have ox:omat ((List.range (i+1)).map fun i=>za6 (A[i]?.getD []) B (-1))=[.own 2 (A[i]?.getD []).length (avs (za6 (A[i]?.getD []) B (-1)))]:=by rw [os,h0]; simp [omat]
   rw [if_pos h0]
   simp [go_sem,hii,zag hin]
   refine ⟨ane,by kernel_rfl,?_⟩
   refine CallD.of (cP) ?_
   simp [go_sem]
   refine ⟨by kernel_rfl,?_⟩
   simp [go_sem]
   exact ⟨⟨by omega,by omega⟩,i+1,by omega,by omega,zaa _ _ _ (by simp),by rw [if_neg (by omega),ox,h0],by omega⟩
  .rw [if_neg h0]
   simp [go_sem,hii,zag hin]
   refine ⟨ane,by kernel_rfl,?_⟩
   refine CallD.of (cP) ?_
   simp [go_sem]
   refine ⟨⟨by omega,by omega⟩,?_⟩
   refine ⟨by kernel_rfl,?_⟩
   simp [go_sem]
   exact ⟨⟨by omega,by omega⟩,i+1,by omega,by omega,zaa _ _ _ (by simp),by rw [if_neg (by omega),os],by omega⟩
 .have e:i=A.length:=by omega
  subst e
  rw [<- hd,if_neg (show ¬ A.length=0 by omega)]
  simp [go_sem]
  exact ab
end Go.Proofs.YthhdollpkieknaaGreat


namespace Go.Proofs.YthhdollpkieknaaGreat
open Go.Abs
def tmsM (A:List (List Int)) (k:Int):List (List Int):=(List.range A.length).map fun i=>zbA (A[i]?.getD []) k
@[simp] theorem znw (A:List (List Int)) (k:Int):(tmsM A k).length=A.length:=by simp [tmsM]
theorem zxv (A:List (List Int)) (B:List Int) (k:Int) (b1:1<=A.length) (b8:A.length<=8) (rw1:Rws A.length A) (bN:Ns B) (bl:B.length=A.length) (hk:fits k) :
  Con Tryz.prog 180 [.agg [.sl A.length (mat A),.sl B.length (avs B)],.int k]
  (.agg [.own 25 A.length (omat (tmsM A k)),.own 2 B.length (avs (zbA B k))]):=by
 have hd:tmsM A k=(List.range A.length).map fun i=>zbA (A[i]?.getD []) k:=rfl
 have cT:=zga B k bN hk (by omega)
 generalize zbA B k=Z at *
 refine zab Tryz.mixed ⟨8,[],[],[]⟩ Tryz.func180 ?_
 rw [Tryz.ntmps180]
 simp [go_sem]
 refine CallVC.of (cT) ?_
 simp [go_sem]
 refine zac ([5,7]++List.range' 16 13) (fun i:Nat=>[(5,.box 27 [if i=0 then .val (.slice none 0 0) else .own 25 i (omat ((List.range i).map fun i=>zbA (A[i]?.getD []) k)),.own 2 B.length (avs Z)]),(16,.int i)]) (fun i=>i<=A.length) (fun i=>A.length-i) 0 (by simp) (by simp [go_sem]) (by simp [go_sem]) ?_
 intro i hi
 by_cases hin:i<A.length
 .have hii:(i:Int)<A.length:=by omega
  have ri:=rw1.at hin
  have ane:¬ A=[]:=by rintro rfl; simp at hin
  have cP:=zga (A[i]?.getD []) k ri.2 hk (by omega)
  have os:=zaW (fun i=>zbA (A[i]?.getD []) k) i
  rw [zaV] at os
  by_cases h0:i=0
  .have ox:omat ((List.range (i+1)).map fun i=>zbA (A[i]?.getD []) k)=[.own 2 (A[i]?.getD []).length (avs (zbA (A[i]?.getD []) k))]:=by rw [os,h0]; simp [omat]
   rw [if_pos h0]
   simp [go_sem,hii,zag hin]
   refine ⟨ane,by kernel_rfl,?_⟩
   refine CallD.of (cP) ?_
   simp [go_sem]
   refine ⟨by kernel_rfl,?_⟩
   simp [go_sem]
   exact ⟨⟨by omega,by omega⟩,i+1,by omega,by omega,zaa _ _ _ (by simp),by rw [if_neg (by omega),ox,h0],by omega⟩
  .rw [if_neg h0]
   simp [go_sem,hii,zag hin]
   refine ⟨ane,by kernel_rfl,?_⟩
   refine CallD.of (cP) ?_
   simp [go_sem]
   refine ⟨⟨by omega,by omega⟩,?_⟩
   refine ⟨by kernel_rfl,?_⟩
   simp [go_sem]
   exact ⟨⟨by omega,by omega⟩,i+1,by omega,by omega,zaa _ _ _ (by simp),by rw [if_neg (by omega),os],by omega⟩
 .have e:i=A.length:=by omega
  subst e
  rw [<- hd,if_neg (show ¬ A.length=0 by omega)]
  simp [go_sem]
def roR (A:List (List Int)) (o:List Nat) (i:Nat):List Int:=tb (fun k=>(A[o[i]?.getD 0]?.getD [])[o[k]?.getD 0]?.getD 0) o.length
def roM (A:List (List Int)) (o:List Nat):List (List Int):=(List.range o.length).map (roR A o)
def roV (B:List Int) (o:List Nat):List Int:=tb (fun i=>B[o[i]?.getD 0]?.getD 0) o.length
def ofN (o:List Nat):List Int:=o.map fun (i:Nat)=>(i:Int)
theorem getM {l:List Nat} {i:Nat} (h:i<l.length):l[i]?.getD 0∈l:=by simp [h]
@[simp] theorem zDe (o:List Nat):(ofN o).length=o.length:=by simp [ofN]
theorem zp2 {o:List Nat} {i:Nat} (h:i<o.length):(ofN o)[i]?.getD 0=((o[i]?.getD 0:Nat):Int):=by simp [ofN,h]
theorem zmc (A:List (List Int)) (B:List Int) (o:List Nat) (o1:1<=o.length) (o8:o.length<=8) (hA:Rws B.length A) (hl:A.length=B.length) (ho:∀ x∈o,x<B.length) :
  Con Tryz.prog 181 [.agg [.sl A.length (mat A),.sl B.length (avs B)],.sl o.length (avs (ofN o))]
  (.agg [.own 25 o.length (omat (roM A o)),.own 2 o.length (avs (roV B o))]):=by
 have hd:roM A o=(List.range o.length).map (roR A o):=rfl
 have hv:roV B o=tb (fun i=>B[o[i]?.getD 0]?.getD 0) o.length:=rfl
 rw [hd,hv]
 refine zab Tryz.mixed ⟨11,[],[],[3001100000000]⟩ Tryz.func181 ?_
 rw [Tryz.ntmps181]
 simp [go_sem]
 refine zac ([5,7,8,10]++List.range' 14 40) (fun i:Nat=>[(5,.box 27 [if i=0 then .val (.slice none 0 0) else .own 25 i (omat ((List.range i).map (roR A o))),if i=0 then .val (.slice none 0 0) else .own 2 i (avs (tb (fun i=>B[o[i]?.getD 0]?.getD 0) i))]),(14,.int i)]) (fun i=>i<=o.length) (fun i=>o.length-i) 0 (by simp) (by simp [go_sem]) (by simp [go_sem]) ?_
 intro i hi
 by_cases hin:i<o.length
 .have hii:(i:Int)<o.length:=by omega
  have hio:i<(ofN o).length:=by simpa using hin
  have di:=zae hio
  rw [List.getD_eq_getElem?_getD,zp2 hin] at di
  have one:¬ ofN o=[]:=by intro e; rw [e] at hio; simp at hio
  have opos:=ho _ (getM hin)
  have os:=zaW (roR A o) i
  have rl:(roR A o i).length=o.length:=by simp [roR]
  rw [rl] at os
  have vs:=zbD (fun i=>B[o[i]?.getD 0]?.getD 0) i
  have hp:o[i]?.getD 0<A.length:=by omega
  have mp:=zag hp
  have pr:=hA.at hp
  have hpb:o[i]?.getD 0<B.length:=by omega
  have db:=zae hpb
  rw [List.getD_eq_getElem?_getD] at db
  have bne:¬ B=[]:=by rintro rfl; simp at hpb
  have ane:¬ A=[]:=by rintro rfl; simp at hp
  have hrd:roR A o i=tb (fun k=>(A[o[i]?.getD 0]?.getD [])[o[k]?.getD 0]?.getD 0) o.length:=rfl
  generalize o[i]?.getD 0=p at *
  simp [go_sem,hii,di]
  refine ⟨one,?_⟩
  refine zac ([8,10]++List.range' 21 16) (fun k:Nat=>[(8,.own 2 k (avs (tb (fun k=>(A[p]?.getD [])[o[k]?.getD 0]?.getD 0) k))),(21,.int k)]) (fun k=>k<=o.length) (fun k=>o.length-k) 0 (by simp) (by simp [go_sem]) (by simp [go_sem]) ?_
  intro k hk
  by_cases hkn:k<o.length
  .have hki:(k:Int)<o.length:=by omega
   have hko:k<(ofN o).length:=by simpa using hkn
   have dk:=zae hko
   rw [List.getD_eq_getElem?_getD,zp2 hkn] at dk
   have oq:=ho _ (getM hkn)
   have hq:o[k]?.getD 0<(A[p]?.getD []).length:=by omega
   have dq:=zae hq
   rw [List.getD_eq_getElem?_getD] at dq
   have rne:¬ A[p]?.getD []=[]:=fun e=>by rw [e] at hq; simp at hq
   have ts:=zbD (fun k=>(A[p]?.getD [])[o[k]?.getD 0]?.getD 0) k
   generalize o[k]?.getD 0=q at *
   simp [go_sem,hki,dk,mp,dq]
   exact ⟨one,⟨hp,ane⟩,⟨hq,rne⟩,⟨by omega,by omega⟩,⟨by omega,by omega⟩,k+1,by omega,by omega,zaa _ _ _ (by simp),by rw [ts,zam]; exact ⟨rfl,rfl⟩,by omega⟩
  .have e:k=o.length:=by omega
   have hki:¬ (k:Int)<o.length:=by omega
   rw [e,<- hrd]
   by_cases h0:i=0
   .rw [if_pos h0,if_pos h0]
    rw [e] at hki
    simp [go_sem,hki,db]
    refine ⟨[(4,5),(4,6),(13,14)],[[0,1,2,3,4,5,6,7,8,9,10,11,12,13,14,15,16,17],[0,1,2,3,4,5,6,7,8,9,10,11,12,14,13,15,16,17],[0,1,2,3,5,4,6,7,8,9,10,11,12,13,14,15,16,17],[0,1,2,3,5,4,6,7,8,9,10,11,12,14,13,15,16,17],[0,1,2,3,5,6,4,7,8,9,10,11,12,13,14,15,16,17],[0,1,2,3,5,6,4,7,8,9,10,11,12,14,13,15,16,17]],fun _=>[],by kernel_rfl,?_⟩
    simp [go_sem,db]
    have ox:omat ((List.range (i+1)).map (roR A o))=[.own 2 o.length (avs (roR A o i))]:=by rw [os,h0]; simp [omat]
    have ov:avs (tb (fun i=>B[o[i]?.getD 0]?.getD 0) (i+1))=[.int (B[p]?.getD 0)]:=by rw [vs,h0,zam]; rfl
    refine ⟨⟨⟨hpb,bne⟩,by kernel_rfl,?_⟩,⟨⟨hpb,bne⟩,by kernel_rfl,?_⟩,⟨⟨hpb,bne⟩,by kernel_rfl,?_⟩,⟨⟨hpb,bne⟩,by kernel_rfl,?_⟩,⟨⟨hpb,bne⟩,by kernel_rfl,?_⟩,⟨hpb,bne⟩,by kernel_rfl,?_⟩
    all_goals
     simp -failIfUnchanged [go_sem]
     refine ⟨⟨by omega,by omega⟩,i+1,by omega,by omega,(Off.reset (by intro x hx; simp at hx |-; omega) (by simp) (by simp [go_sem,zaa])),?_,by omega⟩
     rw [if_neg (by omega),if_neg (by omega),ox,ov,h0]
     exact ⟨rfl,rfl⟩
   .rw [if_neg h0,if_neg h0]
    rw [e] at hki
    simp [go_sem,hki,db]
    refine ⟨[(4,5),(4,6),(13,14)],[[0,1,2,3,4,5,6,7,8,9,10,11,12,13,14,15,16,17],[0,1,2,3,4,5,6,7,8,9,10,11,12,14,13,15,16,17],[0,1,2,3,5,4,6,7,8,9,10,11,12,13,14,15,16,17],[0,1,2,3,5,4,6,7,8,9,10,11,12,14,13,15,16,17],[0,1,2,3,5,6,4,7,8,9,10,11,12,13,14,15,16,17],[0,1,2,3,5,6,4,7,8,9,10,11,12,14,13,15,16,17]],fun _=>[],by kernel_rfl,?_⟩
    simp [go_sem,db]
    refine ⟨⟨⟨by omega,by omega⟩,⟨hpb,bne⟩,⟨by omega,by omega⟩,by kernel_rfl,?_⟩,⟨⟨by omega,by omega⟩,⟨hpb,bne⟩,⟨by omega,by omega⟩,by kernel_rfl,?_⟩,⟨⟨by omega,by omega⟩,⟨hpb,bne⟩,⟨by omega,by omega⟩,by kernel_rfl,?_⟩,⟨⟨by omega,by omega⟩,⟨hpb,bne⟩,⟨by omega,by omega⟩,by kernel_rfl,?_⟩,⟨⟨by omega,by omega⟩,⟨hpb,bne⟩,⟨by omega,by omega⟩,by kernel_rfl,?_⟩,⟨by omega,by omega⟩,⟨hpb,bne⟩,⟨by omega,by omega⟩,by kernel_rfl,?_⟩
    all_goals
     simp -failIfUnchanged [go_sem]
     refine ⟨⟨by omega,by omega⟩,i+1,by omega,by omega,(Off.reset (by intro x hx; simp at hx |-; omega) (by simp) (by simp [go_sem,zaa])),?_,by omega⟩
     rw [if_neg (by omega),if_neg (by omega),os,vs,zam]
     exact ⟨rfl,rfl⟩
 .have e:i=o.length:=by omega
  subst e
  rw [if_neg (show ¬ o.length=0 by omega),if_neg (show ¬ o.length=0 by omega)]
  simp [go_sem]
def adA (A:List (List Int)) (B:List Int):List (List Int):=roM (tmsM (lesM A B) (-1)) (List.range B.length).reverse
def adB (B:List Int):List Int:=roV (zbA (zbA B (-1)) (-1)) (List.range B.length).reverse
theorem zBd (n:Nat):(tlL n).reverse=ofN (List.range n).reverse:=by
 unfold tlL tb ofN
 rw [List.map_reverse]
theorem ztc {n i:Nat} (h:i<n):(List.range n).reverse[i]?.getD 0=n-1-i:=by
 rw [List.getElem?_reverse (by simpa using h)]
 have:n-1-i<n:=by omega
 simp [this]
theorem zqr (A:List (List Int)) (B:List Int):(adA A B).length=B.length:=by simp [adA,roM]
theorem zfH (B:List Int):(adB B).length=B.length:=by simp [adB,roV]
theorem zAj {B:List Int} {i:Nat} (h:i<B.length):(adB B)[i]?.getD 0%10007=B[B.length-1-i]?.getD 0%10007:=by
 unfold adB roV
 rw [zaP _ (by simpa using h),ztc h]
 unfold zbA
 rw [zaP _ (by simp; omega),zaP _ (by omega)]
 omega
theorem zzZ {A:List (List Int)} {B:List Int} (hT:Tab A B) {r c:Nat} (hr:r<B.length) (hc:c<B.length) :
  mx (adA A B) r c%10007=(B[B.length-1-c]?.getD 0-mx A (B.length-1-r) (B.length-1-c))%10007:=by
 have hl:=hT.len
 have e1:(adA A B)[r]?.getD []=roR (tmsM (lesM A B) (-1)) (List.range B.length).reverse r:=by simp [adA,roM,hr]
 have e2:mx (adA A B) r c=((tmsM (lesM A B) (-1))[B.length-1-r]?.getD [])[B.length-1-c]?.getD 0:=by
  show ((adA A B)[r]?.getD [])[c]?.getD 0=_
  rw [e1]
  unfold roR
  rw [zaP _ (by simpa using hc),ztc hr,ztc hc]
 have hp:B.length-1-r<A.length:=by omega
 have e3:(tmsM (lesM A B) (-1))[B.length-1-r]?.getD []=zbA (za6 (A[B.length-1-r]?.getD []) B (-1)) (-1):=by
  have h1:B.length-1-r<(lesM A B).length:=by simp [lesM]; omega
  have h2:(lesM A B)[B.length-1-r]?.getD []=za6 (A[B.length-1-r]?.getD []) B (-1):=by simp [lesM,hp]
  rw [<- h2]
  unfold tmsM
  rw [List.getElem?_map,List.getElem?_range h1]; rfl
 have rl:(A[B.length-1-r]?.getD []).length=B.length:=(hT.rws.at hp).1
 rw [e2,e3]
 unfold zbA za6
 rw [zaP _ (by simp; omega),zaP _ (by omega)]
 show _=(B[B.length-1-c]?.getD 0-(A[B.length-1-r]?.getD [])[B.length-1-c]?.getD 0)%10007
 omega
theorem zqs {A:List (List Int)} {B:List Int} (hT:Tab A B):Tab (adA A B) (adB B):=by
 have h1:=hT.pos
 have h2:=hT.le
 have hs:Ns (adB B):=tb_N fun i _=>by
  have:Ns (zbA (zbA B (-1)) (-1)):=zfI _ _
  exact this.get _
 refine ⟨by rw [zfH]; omega,by rw [zfH]; omega,by rw [zqr,zfH],hs,fun r hr=>?_⟩
 obtain ⟨i,_,rfl⟩:=List.mem_map.1 hr
 refine ⟨by simp [roR,zfH],tb_N fun k _=>?_⟩
 rcases Nat.lt_or_ge ((List.range B.length).reverse[i]?.getD 0) (tmsM (lesM A B) (-1)).length with h | h
 .have hm:(tmsM (lesM A B) (-1))[(List.range B.length).reverse[i]?.getD 0]?.getD []∈tmsM (lesM A B) (-1):=by
   rw [List.getElem?_eq_getElem h,Option.getD_some]; exact List.getElem_mem h
  obtain ⟨j,_,e⟩:=List.mem_map.1 hm
  rw [<- e]
  exact (zfI _ _).get _
 .rw [List.getElem?_eq_none h]; exact ⟨by simp,by simp⟩
theorem zrq (A:List (List Int)) (B:List Int) (h:Tab A B):Con Tryz.prog 92 [.agg [.sl A.length (mat A),.sl B.length (avs B)]]
  (.agg [.own 25 (adA A B).length (omat (adA A B)),.own 2 (adB B).length (avs (adB B))]):=by
 have b1:=h.pos
 have b8:=h.le
 have lo:=zyU h
 have cS:=zl5 A B (by omega)
 have cR:=zsU (tlL B.length) (by simp; omega)
 have cI:=zrO A B h
 have cT:=zxv (lesM A B) (zbA B (-1)) (-1) (by omega) (by omega) (by rw [lo.1]; exact lo.2) (zfI _ _) (by rw [zaV,lo.1]) ⟨by omega,by omega⟩
 have rl:(List.range B.length).reverse.length=B.length:=by simp
 have cO:=zmc (tmsM (lesM A B) (-1)) (zbA (zbA B (-1)) (-1)) (List.range B.length).reverse (by omega) (by omega) (by
  rw [zaV,zaV]
  intro r hr
  obtain ⟨i,hi,rfl⟩:=List.mem_map.1 hr
  have hi:i<(lesM A B).length:=by simpa using hi
  exact ⟨by rw [zaV]; exact (lo.2.at hi).1,zfI _ _⟩) (by rw [znw,zaV,zaV,lo.1]) (fun x hx=>by rw [zaV,zaV]; simpa using hx)
 rw [zBd,zzN] at cR
 rw [lo.1,zaV] at cT
 rw [znw,lo.1,zaV,zaV,rl] at cO
 rw [zqr,zfH]
 unfold adA adB
 refine zab Tryz.mixed ⟨4,[],[178],[]⟩ Tryz.func92 ?_
 rw [Tryz.ntmps92]
 simp [go_sem]
 refine CallVC.of (cS) ?_
 simp [go_sem]
 refine ⟨_,_,cR,?_⟩
 simp [go_sem]
 refine CallVC.of (cI) ?_
 simp [go_sem]
 refine CallVC.of (cT) ?_
 simp [go_sem]
 refine CallVC.of (cO) ?_
 simp [go_sem]
theorem zfZ (A:List (List Int)) (B:List Int) (h:Tab A B):Con Tryz.prog 24 [.agg [.sl A.length (mat A),.sl B.length (avs B)]]
  (.tup [.agg [.own 25 (adA A B).length (omat (adA A B)),.own 2 (adB B).length (avs (adB B))],.int 0]):=by
 have hle:=h.le
 have hAB:=h.len
 have cT:=zc0 A B (by omega) (by omega) (fun r hr=>by have:=(h.a r hr).1; omega)
 rw [zf6.2 h] at cT
 have cA:=zrq A B h
 refine zab Tryz.mixed ⟨4,[],[],[]⟩ Tryz.func24 ?_
 rw [Tryz.ntmps24]
 simp [go_sem]
 refine CallVC.of (cT) ?_
 simp [go_sem]
 refine CallVC.of (cA) ?_
 simp [go_sem]
end Go.Proofs.YthhdollpkieknaaGreat


namespace Go.Proofs.YthhdollpkieknaaGreat
open Go.Abs
theorem zjS [DrawK] (F:List (List Int)) (hl:F.length<=1000) (hr:∀ r∈F,r.length<=1000):Con Tryz.prog 324 [.sl F.length (mat F)] (.int (sumN F)):=by
 have bd:∀ i,i<=F.length->sumN (F.take i)<=1000*i:=fun i=>by
  induction i with
  | zero=>intro _; simp [sumN]
  | succ i ih =>
   intro hi
   have h1:=ih (by omega)
   have h2:F.take (i+1)=F.take i++[F[i]?.getD []]:=by
    rw [List.take_succ_eq_append_getElem (by omega),List.getElem?_eq_getElem (by omega)]; rfl
   rw [h2,zgn]
   have h3:=hr _ (memD [] (show i<F.length by omega))
   have h4:sumN [F[i]?.getD []]=(F[i]?.getD []).length:=by simp [sumN]
   omega
 refine zab Tryz.mixed ⟨6,[],[],[]⟩ Tryz.func324 ?_
 rw [Tryz.ntmps324]
 simp [go_sem]
 refine zac (3::5::List.range' 8 9) (fun i:Nat=>[(3,.int (sumN (F.take i))),(8,.int i)]) (fun i=>i<=F.length) (fun i=>F.length-i) 0 (by simp) (by simp [go_sem,sumN]) (by simp [go_sem]) ?_
 intro i hi
 by_cases h:i<F.length
 .have hii:(i:Int)<F.length:=by omega
  have ne:¬ F=[]:=by rintro rfl; simp at h
  have b1:=bd i hi
  have b2:=bd (i+1) h
  have h2:F.take (i+1)=F.take i++[F[i]?.getD []]:=by
   rw [List.take_succ_eq_append_getElem h,List.getElem?_eq_getElem h]; rfl
  have h4:sumN (F.take (i+1))=sumN (F.take i)+(F[i]?.getD []).length:=by rw [h2,zgn]; simp [sumN]
  simp [go_sem,hii,zag h]
  exact ⟨ne,⟨by omega,by omega⟩,⟨by omega,by omega⟩,i+1,by omega,by omega,zaa _ _ _ (by simp),by rw [h4]; omega,by omega⟩
 .have e:i=F.length:=by omega
  subst e
  rw [List.take_length]
  simp [go_sem]
def za4:List (List Int)->List (List Int)->Int
 | [],[]=>0
 | [],_::_ => -1
 | _::_,[]=>1
 | a::f,b::g=>if cmpT a b=0 then za4 f g else cmpT a b
theorem ziw:∀ (f g:List (List Int)) (i:Nat),i<=f.length->i<=g.length->(∀ j,j<i->cmpT (f[j]?.getD []) (g[j]?.getD [])=0)->za4 f g=za4 (f.drop i) (g.drop i)
 | f,g,0,_,_,_=>rfl
 | a::f,b::g,i+1,h1,h2,h=>by
  have h0:cmpT a b=0:=h 0 (by omega)
  rw [za4,if_pos h0,List.drop_succ_cons,List.drop_succ_cons]
  exact ziw f g i (by simpa using h1) (by simpa using h2) (fun j hj=>by simpa using h (j+1) (by omega))
theorem zeR [DrawK] (f g:List (List Int)) (hf:f.length<=1000) (hg:g.length<=1000) (rf:∀ r∈f,r.length<=1000) (rg:∀ r∈g,r.length<=1000) :
  Con Tryz.prog 246 [.sl f.length (mat f),.sl g.length (mat g),.val (.func (.func 195) #[] #[])] (.int (za4 f g)):=by
 refine zab Tryz.mixed ⟨11,[],[],[]⟩ Tryz.func246 ?_
 rw [Tryz.ntmps246]
 simp [go_sem]
 refine zac (List.range' 6 5++List.range' 13 21) (fun i:Nat=>[(13,.int i)]) (fun i=>i<=f.length/\i<=g.length/\∀ j,j<i->cmpT (f[j]?.getD []) (g[j]?.getD [])=0) (fun i=>f.length-i) 0 (by simp) (by simp [go_sem]) (by simp [go_sem]) ?_
 rintro i ⟨hi,hg2,hz⟩
 have sk:=ziw f g i hi hg2 hz
 by_cases h:i<f.length
 .have hii:(i:Int)<f.length:=by omega
  have nf:¬ f=[]:=by rintro rfl; simp at h
  have df:f.drop i=f[i]?.getD []::f.drop (i+1):=by rw [List.drop_eq_getElem_cons h]; simp [h]
  by_cases h2:i<g.length
  .have ng:¬ g=[]:=by rintro rfl; simp at h2
   have hgi:¬ (g.length:Int)<=i:=by omega
   have dg:g.drop i=g[i]?.getD []::g.drop (i+1):=by rw [List.drop_eq_getElem_cons h2]; simp [h2]
   have cT:=zbo (f[i]?.getD []) (g[i]?.getD []) (by have:=rf _ (memD [] h); omega) (by have:=rg _ (memD [] h2); omega)
   rw [df,dg,za4] at sk
   have m1:=zag h
   have m2:=zag h2
   by_cases c0:cmpT (f[i]?.getD []) (g[i]?.getD [])=0
   .rw [c0] at cT
    rw [if_pos c0] at sk
    simp [go_sem,hii,m1,m2,hgi]
    repeat refine ⟨by first | omega | exact nf | exact ng | exact ⟨h,nf⟩ | exact ⟨h2,ng⟩,?_⟩
    refine CallVC.of (cT) ?_
    simp [go_sem]
    refine ⟨⟨by omega,by omega⟩,i+1,⟨by omega,by omega,fun j hj=>?_⟩,by omega,zaa _ _ _ (by simp),by omega⟩
    rcases Nat.lt_or_ge j i with hji | hji
    .exact hz j hji
    .have:j=i:=by omega
     subst this; exact c0
   .rw [if_neg c0] at sk
    rw [sk]
    generalize cmpT (f[i]?.getD []) (g[i]?.getD [])=e at *
    simp [go_sem,hii,m1,m2,hgi]
    repeat refine ⟨by first | omega | exact nf | exact ng | exact ⟨h,nf⟩ | exact ⟨h2,ng⟩,?_⟩
    refine CallVC.of (cT) ?_
    simp [go_sem]
    simp [go_sem,c0]
  .have hgi:(g.length:Int)<=i:=by omega
   rw [df,show g.drop i=[] from List.drop_eq_nil_of_le (by omega),za4] at sk
   rw [sk]
   simp [go_sem,hii,zag h,hgi]
   repeat refine ⟨by first | omega | exact nf | exact ⟨h,nf⟩,?_⟩
   exact nf
 .have e:i=f.length:=by omega
  subst e
  rw [List.drop_eq_nil_of_le (Nat.le_refl _)] at sk
  by_cases h2:f.length<g.length
  .have dg:g.drop f.length=g[f.length]?.getD []::g.drop (f.length+1):=by rw [List.drop_eq_getElem_cons h2]; simp [h2]
   rw [dg,za4] at sk
   rw [sk]
   simp [go_sem,h2]
  .rw [List.drop_eq_nil_of_le (by omega),za4] at sk
   rw [sk]
   simp [go_sem,h2]
theorem zdF [DrawK] (f g:List (List Int)) (hf:f.length<=1000) (hg:g.length<=1000) (rf:∀ r∈f,r.length<=1000) (rg:∀ r∈g,r.length<=1000) :
  Con Tryz.prog 283 [.sl f.length (mat f),.sl g.length (mat g)] (.int (if f.length=g.length then za4 f g else (f.length:Int)-g.length)):=by
 have cC:=zeR f g hf hg rf rg
 by_cases e:f.length=g.length
 .rw [if_pos e]
  rw [e] at cC
  refine zab Tryz.mixed ⟨5,[],[],[]⟩ Tryz.func283 ?_
  rw [Tryz.ntmps283]
  simp [go_sem]
  simp [go_sem,e]
  refine CallVC.of (cC) ?_
  simp [go_sem]
 .rw [if_neg e]
  have ei:¬ (f.length:Int)=g.length:=by omega
  refine zab Tryz.mixed ⟨5,[],[],[]⟩ Tryz.func283 ?_
  rw [Tryz.ntmps283]
  simp [go_sem]
  simp [go_sem,ei]
  omega
def zjk (f g:List (List Int)):Int:=if f.length=g.length then za4 f g else (f.length:Int)-g.length
def zhW (f g:List (List Int)):Int:=if (sumN f:Int)-sumN g=0 then zjk f g else (sumN f:Int)-sumN g
theorem zsL {F:List (List Int)} {b:Nat} (hr:∀ r∈F,r.length<=b):sumN F<=b*F.length:=by
 induction F with
 | nil=>simp [sumN]
 | cons r F ih =>
  have h1:=ih (fun s hs=>hr s (by simp [hs]))
  have h2:=hr r (by simp)
  simp only [sumN,List.length_cons,Nat.mul_succ]
  omega
theorem zfX [DrawK] (f g:List (List Int)) (hf:f.length<=1000) (hg:g.length<=1000) (rf:∀ r∈f,r.length<=1000) (rg:∀ r∈g,r.length<=1000) :
  Con Tryz.prog 282 [.sl f.length (mat f),.sl g.length (mat g)] (.int (zhW f g)):=by
 have c1:=zjS f hf rf
 have c2:=zjS g hg rg
 have c3:=zdF f g hf hg rf rg
 have b1:=zsL rf
 have b2:=zsL rg
 unfold zhW
 have e3:(if f.length=g.length then za4 f g else (f.length:Int)-g.length)=zjk f g:=rfl
 rw [e3] at c3
 generalize zjk f g=w at *
 generalize sumN f=a at *
 generalize sumN g=b at *
 by_cases e:(a:Int)-b=0
 .rw [if_pos e]
  refine zab Tryz.mixed ⟨6,[],[],[]⟩ Tryz.func282 ?_
  rw [Tryz.ntmps282]
  simp [go_sem]
  refine CallVC.of (c1) ?_
  simp [go_sem]
  refine CallVC.of (c2) ?_
  simp [go_sem]
  refine ⟨⟨by omega,by omega⟩,?_⟩
  simp [go_sem,e]
  refine CallVC.of (c3) ?_
  simp [go_sem]
 .rw [if_neg e]
  refine zab Tryz.mixed ⟨6,[],[],[]⟩ Tryz.func282 ?_
  rw [Tryz.ntmps282]
  simp [go_sem]
  refine CallVC.of (c1) ?_
  simp [go_sem]
  refine CallVC.of (c2) ?_
  simp [go_sem]
  refine ⟨⟨by omega,by omega⟩,?_⟩
  simp [go_sem,e]
abbrev Spl:=List (List Int) × List (List Int) × Int
def zck (s r:Spl):Int:=if zhW s.1 r.1=0 then zjk s.2.1 r.2.1 else zhW s.1 r.1
def spA (s:Spl):List AV:=[.own 25 s.1.length (omat s.1),.own 25 s.2.1.length (omat s.2.1),.int s.2.2]
def spF (s:Spl):List AV:=[.sl s.1.length (mat s.1),.sl s.2.1.length (mat s.2.1),.int s.2.2]
theorem ztt (s:Spl):frzL (spA s)=spF s:=by simp [spA,spF,frzL,frz]
def SpOk (s:Spl):Prop:=(s.1.length<=100/\∀ r∈s.1,r.length<=100)/\(s.2.1.length<=100/\∀ r∈s.2.1,r.length<=100)
theorem zgP [DrawK] (s r:Spl) (hs:SpOk s) (hr:SpOk r):Con Tryz.prog 281 [.agg (spF s),.agg (spF r)] (.int (zck s r)):=by
 obtain ⟨⟨s1,s2⟩,s3,s4⟩:=hs
 obtain ⟨⟨r1,r2⟩,r3,r4⟩:=hr
 have c1:=zfX s.1 r.1 (by omega) (by omega) (fun x hx=>by have:=s2 x hx; omega) (fun x hx=>by have:=r2 x hx; omega)
 have c2:=zdF s.2.1 r.2.1 (by omega) (by omega) (fun x hx=>by have:=s4 x hx; omega) (fun x hx=>by have:=r4 x hx; omega)
 have e3:(if s.2.1.length=r.2.1.length then za4 s.2.1 r.2.1 else (s.2.1.length:Int)-r.2.1.length)=zjk s.2.1 r.2.1:=rfl
 rw [e3] at c2
 unfold zck spF
 generalize zjk s.2.1 r.2.1=w at *
 generalize zhW s.1 r.1=v at *
 by_cases v0:v=0
 .rw [if_pos v0]
  refine zab Tryz.mixed ⟨6,[],[],[]⟩ Tryz.func281 ?_
  rw [Tryz.ntmps281]
  simp [go_sem]
  refine CallVC.of (c1) ?_
  simp [go_sem]
  simp [go_sem,v0]
  refine CallVC.of (c2) ?_
  simp [go_sem]
 .rw [if_neg v0]
  refine zab Tryz.mixed ⟨6,[],[],[]⟩ Tryz.func281 ?_
  rw [Tryz.ntmps281]
  simp [go_sem]
  refine CallVC.of (c1) ?_
  simp [go_sem]
  simp [go_sem,v0]
end Go.Proofs.YthhdollpkieknaaGreat


namespace Go.Proofs.YthhdollpkieknaaGreat
open Go.Abs Go.Shelf Go.Sort
structure LinC {α:Type} (c:α->α->Int):Prop where
 zero:∀ a b,c a b=0 ↔ a=b
 anti:∀ a b,c a b<0 ↔ 0<c b a
 trans:∀ a b d,c a b<0->c b d<0->c a d<0
theorem LinC.self {α:Type} {c:α->α->Int} (h:LinC c) (a:α):c a a=0:=(h.zero a a).2 rfl
theorem zjH:∀ a b:List Int,cmpL a b=0 ↔ a=b
 | [],[]=>by simp [cmpL]
 | [],_::_=>by simp [cmpL]
 | _::_,[]=>by simp [cmpL]
 | x::xs,y::ys=>by
  rw [cmpL]
  by_cases h:x=y
  .rw [if_pos h,zjH xs ys]; simp [h]
  .rw [if_neg h]; simp [h,zqK h]
theorem zkW:∀ a b:List Int,cmpL a b<0 ↔ 0<cmpL b a
 | [],[]=>by simp [cmpL]
 | [],_::_=>by simp [cmpL]
 | _::_,[]=>by simp [cmpL]
 | x::xs,y::ys=>by
  rw [cmpL,cmpL]
  by_cases h:x=y
  .rw [if_pos h,if_pos h.symm]; exact zkW xs ys
  .rw [if_neg h,if_neg (fun e=>h e.symm)]
   by_cases h1:x<y
   .have h2:¬ y<x:=by omega
    simp [cmpI,h1,h2]
   .have h2:y<x:=by omega
    simp [cmpI,h1,h2]
theorem linLx:LinC cmpL where
 zero:=zjH
 anti:=zkW
 trans a b d h1 h2:=by
  have:=zbN (a:=a) (b:=b) (c:=d) (by rw [<- zdJ]; simpa using h1) (by rw [<- zdJ]; simpa using h2)
  rw [<- zdJ] at this; simpa using this
theorem LinC.flip {α:Type} {c:α->α->Int} (h:LinC c):LinC (fun a b=>c b a) :=
 ⟨fun a b=>(h.zero b a).trans eq_comm,fun a b=>h.anti b a,fun a b d h1 h2=>h.trans d b a h2 h1⟩
theorem LinC.key {α:Type} {c:α->α->Int} (h:LinC c) (k:α->Nat):LinC (fun a b=>if k a=k b then c a b else (k a:Int)-k b) where
 zero a b:=by
  by_cases e:k a=k b
  .simp only [if_pos e]; exact h.zero a b
  .simp only [if_neg e]; exact ⟨fun x=>by omega,fun x=>(e (by rw [x])).elim⟩
 anti a b:=by
  by_cases e:k a=k b
  .simp only [if_pos e,if_pos e.symm]; exact h.anti a b
  .have e2:¬ k b=k a:=fun x=>e x.symm
   simp only [if_neg e,if_neg e2]; omega
 trans a b d h1 h2:=by
  by_cases e:k a=k b
  .by_cases e2:k b=k d
   .simp only [if_pos e] at h1; simp only [if_pos e2] at h2; simp only [if_pos (e.trans e2)]; exact h.trans _ _ _ h1 h2
   .simp only [if_neg e2] at h2; have e3:¬ k a=k d:=by omega
    simp only [if_neg e3]; omega
  .simp only [if_neg e] at h1
   by_cases e2:k b=k d
   .have e3:¬ k a=k d:=by omega
    simp only [if_neg e3]; omega
   .simp only [if_neg e2] at h2; have e3:¬ k a=k d:=by omega
    simp only [if_neg e3]; omega
theorem LinC.pair {α β:Type} {c:α->α->Int} {d:β->β->Int} (h:LinC c) (k:LinC d):LinC (fun p q:α × β=>if c p.1 q.1=0 then d p.2 q.2 else c p.1 q.1) where
 zero p q:=by
  obtain ⟨a,x⟩:=p; obtain ⟨b,y⟩:=q
  by_cases e:c a b=0
  .have e1:=(h.zero a b).1 e
   simp only [if_pos e]; rw [k.zero]; simp [e1]
  .have e1:¬ a=b:=fun x=>e ((h.zero a b).2 x)
   simp only [if_neg e]; simp [e,e1]
 anti p q:=by
  obtain ⟨a,x⟩:=p; obtain ⟨b,y⟩:=q
  by_cases e:c a b=0
  .have e2:c b a=0:=(h.zero b a).2 ((h.zero a b).1 e).symm
   simp only [if_pos e,if_pos e2]; exact k.anti x y
  .have e2:¬ c b a=0:=fun x=>e ((h.zero a b).2 ((h.zero b a).1 x).symm)
   simp only [if_neg e,if_neg e2]; exact h.anti a b
 trans p q r h1 h2:=by
  obtain ⟨a,x⟩:=p; obtain ⟨b,y⟩:=q; obtain ⟨d,z⟩:=r
  by_cases e:c a b=0
  .have e1:=(h.zero a b).1 e
   simp only [if_pos e] at h1
   by_cases e2:c b d=0
   .simp only [if_pos e2] at h2; rw [<- e1] at e2; simp only [if_pos e2]; exact k.trans _ _ _ h1 h2
   .simp only [if_neg e2] at h2; rw [<- e1] at e2 h2; simp only [if_neg e2]; exact h2
  .simp only [if_neg e] at h1
   by_cases e2:c b d=0
   .have e3:=(h.zero b d).1 e2
    rw [e3] at h1 e; simp only [if_neg e]; exact h1
   .simp only [if_neg e2] at h2
    have h3:=h.trans a b d h1 h2
    have e3:¬ c a d=0:=by omega
    simp only [if_neg e3]; exact h3
theorem LinC.swo {α β:Type} {c:β->β->Int} (h:LinC c) (k:α->β):SWO (Go.Proofs.ltOf fun a b=>c (k a) (k b)):=by
 refine ⟨fun a=>?_,fun x y z h1 h2=>?_,fun x y z h1 h2=>?_⟩
 .show decide (c (k a) (k a)<0)=false
  rw [h.self]; rfl
 .have h1:decide (c (k x) (k y)<0)=true:=h1
  have h2:decide (c (k y) (k z)<0)=true:=h2
  show decide (c (k x) (k z)<0)=true
  rw [decide_eq_true_eq] at *
  exact h.trans _ _ _ h1 h2
 .have h1:decide (c (k x) (k y)<0)=false:=h1
  have h2:decide (c (k y) (k z)<0)=false:=h2
  show decide (c (k x) (k z)<0)=false
  rw [decide_eq_false_iff_not] at *
  intro h3
  by_cases e:c (k x) (k y)=0
  .rw [(h.zero _ _).1 e] at h3; exact h2 h3
  .have h4:c (k y) (k x)<0:=(h.anti _ _).2 (by omega)
   exact h2 (h.trans _ _ _ h4 h3)
theorem linT:LinC cmpT:=linLx.flip.key List.length
theorem ziq:∀ f g,za4 f g=0 ↔ f=g
 | [],[]=>by simp [za4]
 | [],_::_=>by simp [za4]
 | _::_,[]=>by simp [za4]
 | a::f,b::g=>by
  rw [za4]
  by_cases h:cmpT a b=0
  .rw [if_pos h,ziq f g]; simp [(linT.zero a b).1 h]
  .have e:¬ a=b:=fun e=>h ((linT.zero a b).2 e)
   rw [if_neg h]; simp [h,e]
theorem zh0:∀ f g,za4 f g<0 ↔ 0<za4 g f
 | [],[]=>by simp [za4]
 | [],_::_=>by simp [za4]
 | _::_,[]=>by simp [za4]
 | a::f,b::g=>by
  rw [za4,za4]
  by_cases h:cmpT a b=0
  .have h2:cmpT b a=0:=(linT.zero b a).2 ((linT.zero a b).1 h).symm
   rw [if_pos h,if_pos h2]; exact zh0 f g
  .have h2:¬ cmpT b a=0:=fun x=>h ((linT.zero a b).2 ((linT.zero b a).1 x).symm)
   rw [if_neg h,if_neg h2]; exact linT.anti a b
theorem zgY:∀ f g k,za4 f g<0->za4 g k<0->za4 f k<0
 | [],[],k,h1,_=>by simp [za4] at h1
 | [],b::g,[],_,h2=>by simp [za4] at h2
 | [],b::g,d::k,_,_=>by simp [za4]
 | a::f,[],k,h1,_=>by simp [za4] at h1
 | a::f,b::g,[],_,h2=>by simp [za4] at h2
 | a::f,b::g,d::k,h1,h2=>by
  rw [za4] at h1 h2 |-
  by_cases e1:cmpT a b=0
  .have e:=(linT.zero a b).1 e1
   rw [if_pos e1] at h1
   rw [<- e] at h2
   by_cases e2:cmpT a d=0
   .rw [if_pos e2] at h2 |-; exact zgY f g k h1 h2
   .rw [if_neg e2] at h2 |-; exact h2
  .rw [if_neg e1] at h1
   by_cases e2:cmpT b d=0
   .rw [(linT.zero b d).1 e2] at h1 e1
    rw [if_neg e1]; exact h1
   .rw [if_neg e2] at h2
    have h3:=linT.trans a b d h1 h2
    rw [if_neg (by omega)]; exact h3
theorem linFs:LinC za4:=⟨ziq,zh0,zgY⟩
theorem linTr:LinC zjk:=linFs.key List.length
theorem linFo:LinC zhW:=by
 have e:zhW=fun f g=>if sumN f=sumN g then zjk f g else (sumN f:Int)-sumN g:=by
  funext f g
  unfold zhW
  by_cases e:sumN f=sumN g
  .rw [if_pos (by omega),if_pos e]
  .rw [if_neg (by omega),if_neg e]
 rw [e]; exact linTr.key sumN
theorem linSp:LinC (fun p q:List (List Int) × List (List Int)=>if zhW p.1 q.1=0 then zjk p.2 q.2 else zhW p.1 q.1):=linFo.pair linTr
def keyS (s:Spl):List (List Int) × List (List Int):=(s.1,s.2.1)
theorem zBx:SWO (Go.Proofs.ltOf zck):=linSp.swo keyS
theorem spT {a b d:Spl} (h1:zck a b<0) (h2:zck b d<0):zck a d<0:=linSp.trans (keyS a) (keyS b) (keyS d) h1 h2
theorem spI (a:Spl):¬ zck a a<0:=by
 have:zck a a=0:=linSp.self (keyS a)
 omega
theorem spZ {a b:Spl}:zck a b=0 ↔ keyS a=keyS b:=linSp.zero (keyS a) (keyS b)
theorem spAn {a b:Spl}:zck a b<0 ↔ 0<zck b a:=linSp.anti (keyS a) (keyS b)
def insS (p:Spl):List Spl->List Spl
 | []=>[p]
 | s::S=>if zck p s<0 then p::s::S else s::insS p S
def srtS:List Spl->List Spl
 | []=>[]
 | s::S=>insS s (srtS S)
theorem zhv (p:Spl):∀ S,(insS p S).Perm (p::S)
 | []=>.refl _
 | s::S=>by
  rw [insS]; split
  .exact .refl _
  .exact ((zhv p S).cons s).trans (.swap _ _ _)
theorem zdE:∀ S,(srtS S).Perm S
 | []=>.refl _
 | s::S=>(zhv s _).trans ((zdE S).cons s)
theorem zue (S:List Spl):(srtS S).length=S.length:=(zdE S).length_eq
theorem zmR (p:Spl):∀ S:List Spl,S.Pairwise (fun x y=>¬ zck y x<0)->(insS p S).Pairwise (fun x y=>¬ zck y x<0)
 | [],_=>by simp [insS]
 | s::S,h=>by
  obtain ⟨h1,h2⟩:=List.pairwise_cons.1 h
  rw [insS]; split
  .rename_i hl
   refine .cons (fun y hy=>?_) h
   rcases List.mem_cons.1 hy with e | hy
   .rw [e]; intro hc; exact spI p (spT hl hc)
   .intro hc; exact h1 y hy (spT hc hl)
  .rename_i hl
   refine .cons (fun y hy=>?_) (zmR p S h2)
   rcases List.mem_cons.1 ((zhv p S).mem_iff.1 hy) with e | hy
   .rw [e]; exact hl
   .exact h1 y hy
theorem zmJ:∀ S:List Spl,(srtS S).Pairwise (fun x y=>¬ zck y x<0)
 | []=>.nil
 | s::S=>zmR s _ (zmJ S)
theorem zls {ys X:List Spl} (hp:ys.Perm X) (h1:∀ s∈X,s.2.2=1) (hy:ys.Pairwise (fun x y=>¬ zck y x<0)):ys=srtS X :=
 (hp.trans (zdE X).symm).eq_of_pairwise (fun a b ha hb k1 k2=>by
  have e1:=h1 a (hp.mem_iff.1 ha)
  have e2:=h1 b ((zdE X).mem_iff.1 hb)
  have z:zck a b=0:=by
   have k3:¬ 0<zck a b:=fun x=>k1 (spAn.2 x)
   omega
  have k:=spZ.1 z
  obtain ⟨a1,a2,a3⟩:=a
  obtain ⟨b1,b2,b3⟩:=b
  simp only [keyS,Prod.mk.injEq] at k e1 e2
  rw [k.1,k.2,e1,e2]) hy (zmJ X)
def zhM (out:List Spl) (s:Spl):List Spl:=match out.getLast? with
 | some l=>if zck l s=0 then out.set (out.length-1) (l.1,l.2.1,l.2.2+1) else out++[s]
 | none=>[s]
def gthS (L:List Spl):List Spl:=L.foldl zhM []
theorem zka (L:List Spl) (s:Spl):gthS (L++[s])=zhM (gthS L) s:=by simp [gthS]
theorem zqO (out:List Spl) (s:Spl):(zhM out s).length<=out.length+1:=by
 unfold zhM
 split
 .split <;> simp
 .simp
theorem zuy (L:List Spl):(gthS L).length<=L.length/\(∀ l∈gthS L,∃ s∈L,keyS l=keyS s)/\((∀ s∈L,s.2.2=1)->∀ l∈gthS L,0<=l.2.2/\l.2.2<=L.length):=by
 refine zdz (P:=fun L=>(gthS L).length<=L.length/\(∀ l∈gthS L,∃ s∈L,keyS l=keyS s)/\((∀ s∈L,s.2.2=1)->∀ l∈gthS L,0<=l.2.2/\l.2.2<=L.length)) ⟨by simp [gthS],by simp [gthS],by simp [gthS]⟩ (fun L s ih=>?_) L
 obtain ⟨i1,i2,i3⟩:=ih
 rw [zka]
 have hl:=zqO (gthS L) s
 refine ⟨by rw [List.length_append,List.length_singleton]; omega,fun l hm=>?_,fun h1 l hm=>?_⟩
 .unfold zhM at hm
  split at hm
  .rename_i l0 hl0
   split at hm
   .rcases List.mem_or_eq_of_mem_set hm with hm | e
    .obtain ⟨t,t1,t2⟩:=i2 l hm
     exact ⟨t,by simp [t1],t2⟩
    .obtain ⟨t,t1,t2⟩:=i2 l0 (List.mem_of_getLast? hl0)
     exact ⟨t,by simp [t1],by rw [e,<- t2]; rfl⟩
   .rcases List.mem_append.1 hm with hm | hm
    .obtain ⟨t,t1,t2⟩:=i2 l hm
     exact ⟨t,by simp [t1],t2⟩
    .rw [List.mem_singleton] at hm
     exact ⟨s,by simp,by rw [hm]⟩
  .rw [List.mem_singleton] at hm
   exact ⟨s,by simp,by rw [hm]⟩
 .have j3:=i3 (fun t ht=>h1 t (by simp [ht]))
  have hs:=h1 s (by simp)
  rw [List.length_append,List.length_singleton]
  unfold zhM at hm
  split at hm
  .rename_i l0 hl0
   split at hm
   .rcases List.mem_or_eq_of_mem_set hm with hm | e
    .have:=j3 l hm; omega
    .have:=j3 l0 (List.mem_of_getLast? hl0)
     rw [e]; simp only; omega
   .rcases List.mem_append.1 hm with hm | hm
    .have:=j3 l hm; omega
    .rw [List.mem_singleton] at hm; rw [hm]; omega
  .rw [List.mem_singleton] at hm; rw [hm]; omega
end Go.Proofs.YthhdollpkieknaaGreat


namespace Go.Proofs.YthhdollpkieknaaGreat
open Go.Abs
def zb8 (L M:List Spl):List Spl:=L.flatMap fun s=>M.map fun c=>(s.1++c.1,s.2.1++c.2.1,(0:Int))
def spl:Nat->List Int->List Spl
 | 0,_=>[]
 | n+1,t=>((brs t).foldl (fun L b=>zb8 L (spl n b)) [([],[],0)]).map (fun s=>(s.1,[canF (n+1) (zaQ s.2.1)],s.2.2))++[([canF (n+1) t],[],0)]
def fldS (n:Nat) (bs:List (List Int)):List Spl:=bs.foldl (fun L b=>zb8 L (spl n b)) [([],[],0)]
theorem zpV (n:Nat) (bs:List (List Int)) (b:List Int):fldS n (bs++[b])=zb8 (fldS n bs) (spl n b):=by simp [fldS]
theorem zm7 (n:Nat) (t:List Int):spl (n+1) t=(fldS n (brs t)).map (fun s=>(s.1,[canF (n+1) (zaQ s.2.1)],s.2.2))++[([canF (n+1) t],[],0)]:=rfl
theorem zps (L M:List Spl) (s:Spl):zb8 (L++[s]) M=zb8 L M++M.map fun c=>(s.1++c.1,s.2.1++c.2.1,(0:Int)):=by simp [zb8]
theorem zsO (L M:List Spl):(zb8 L M).length=L.length*M.length:=by
 induction L with
 | nil=>simp [zb8]
 | cons s L ih =>
  have e:zb8 (s::L) M=(M.map fun c=>(s.1++c.1,s.2.1++c.2.1,(0:Int)))++zb8 L M:=rfl
  rw [e,List.length_append,ih,List.length_map,List.length_cons,Nat.succ_mul]; omega
def smS (s:Spl):Bool:=decide (s.1.length<=100) && decide (s.2.1.length<=100) && decide (s.2.2=0)
def rtS (n:Nat) (s:Spl):Bool:=lvC (zaQ s.2.1) && decide ((zaQ s.2.1).length<=n) && s.2.1.all (fun b=>decide (b.length<=100) && b.all (fun x=>decide (0<=x) && decide (x<=100)))
def zlD:Nat->List Int->Bool
 | 0,_=>false
 | n+1,t=>decide (n+1<=100) && lvC t && decide (t.length<=n+1) && (brs t).all (zlD n) && (brs t).all (fun b=>decide ((spl n b).length<=100) && (spl n b).all smS) &&
   (List.range ((brs t).length+1)).all (fun i=>decide ((fldS n ((brs t).take i)).length<=100) && (fldS n ((brs t).take i)).all smS) && (fldS n (brs t)).all (rtS (n+1))
theorem zeL {s:Spl} (h:smS s=true):s.1.length<=100/\s.2.1.length<=100/\s.2.2=0:=by
 simp [smS] at h; exact ⟨h.1.1,h.1.2,h.2⟩
theorem zuu {n:Nat} {s:Spl} (h:rtS n s=true):Lv (zaQ s.2.1)/\(zaQ s.2.1).length<=n/\∀ b∈s.2.1,b.length<=100/\∀ x∈b,0<=x/\x<=100:=by
 simp only [rtS,Bool.and_eq_true,decide_eq_true_eq,List.all_eq_true] at h
 exact ⟨ziE h.1.1,h.1.2,h.2⟩
theorem zpo {n:Nat} {t:List Int} (h:zlD (n+1) t=true):n+1<=100/\Lv t/\t.length<=n+1/\(∀ b∈brs t,zlD n b=true/\(spl n b).length<=100/\∀ s∈spl n b,smS s=true) /\
  (∀ i,i<=(brs t).length->(fldS n ((brs t).take i)).length<=100/\∀ s∈fldS n ((brs t).take i),smS s=true)/\∀ s∈fldS n (brs t),rtS (n+1) s=true:=by
 simp only [zlD,Bool.and_eq_true,decide_eq_true_eq,List.all_eq_true,List.mem_range] at h
 obtain ⟨⟨⟨⟨⟨⟨h1,h2⟩,h3⟩,h4⟩,h5⟩,h6⟩,h7⟩:=h
 exact ⟨h1,ziE h2,h3,fun b hb=>⟨h4 b hb,(h5 b hb).1,(h5 b hb).2⟩,fun i hi=>h6 i (by omega),h7⟩
theorem zrr:(trN 6).all (zlD 6)=true:=by kernel_rfl
end Go.Proofs.YthhdollpkieknaaGreat


namespace Go.Proofs.YthhdollpkieknaaGreat
open Go.RowKit Go.Shelf Go.Lib Go.Abs
end Go.Proofs.YthhdollpkieknaaGreat


namespace Go.Proofs.YthhdollpkieknaaGreat
open Go.Abs
def bsG (L:List (List Int)) (t:List Int):Nat->Nat->Nat->Nat
 | 0,i,_=>i
 | n+1,i,j=>if i<j then (if cmpT (L[(i+j) / 2]?.getD []) t<0 then bsG L t n ((i+j) / 2+1) j else bsG L t n i ((i+j) / 2)) else i
def bsI (L:List (List Int)) (t:List Int):Nat:=bsG L t (L.length+1) 0 L.length
theorem zf8 (L:List (List Int)) (t:List Int):∀ (n m i j:Nat),j-i<n->j-i<m->bsG L t n i j=bsG L t m i j
 | 0,m,i,j,h,_=>by omega
 | n+1,0,i,j,_,h=>by omega
 | n+1,m+1,i,j,h1,h2=>by
  rw [bsG,bsG]
  by_cases hij:i<j
  .rw [if_pos hij,if_pos hij]
   by_cases hc:cmpT (L[(i+j) / 2]?.getD []) t<0
   .rw [if_pos hc,if_pos hc]; exact zf8 L t n m _ _ (by omega) (by omega)
   .rw [if_neg hc,if_neg hc]; exact zf8 L t n m _ _ (by omega) (by omega)
  .rw [if_neg hij,if_neg hij]
theorem zrn (L:List (List Int)) (t:List Int):∀ (n i j:Nat),i<=j->i<=bsG L t n i j/\bsG L t n i j<=j
 | 0,i,j,h=>⟨Nat.le_refl _,h⟩
 | n+1,i,j,h=>by
  rw [bsG]
  by_cases hij:i<j
  .rw [if_pos hij]
   by_cases hc:cmpT (L[(i+j) / 2]?.getD []) t<0
   .rw [if_pos hc]
    have:=zrn L t n ((i+j) / 2+1) j (by omega)
    omega
   .rw [if_neg hc]
    have:=zrn L t n i ((i+j) / 2) (by omega)
    omega
  .rw [if_neg hij]; omega
theorem shr1 {a:Nat} (h:a<1000000000):shrI IntKind.u64 (a:Int) 1=((a / 2:Nat):Int):=by
 have e:(2:Int) ^ min (1:Int).toNat IntKind.u64.bits=2:=by decide
 unfold shrI
 rw [e,Int.fdiv_eq_ediv_of_nonneg _ (by decide)]
 omega
theorem zhU (L:List (List Int)) (t:List Int) (hL:L.length<=1000) (hr:∀ r∈L,r.length<=1000) (ht:t.length<=1000) :
  Con Tryz.prog 194 [.sl L.length (mat L),.sl t.length (avs t),.val (.func (.func 195) #[] #[])] (.tup [.int (bsI L t),.bool (decide (bsI L t<L.length) && decide (cmpT (L[bsI L t]?.getD []) t=0))]):=by
 refine zab Tryz.mixed ⟨12,[],[],[]⟩ Tryz.func194 ?_
 rw [Tryz.ntmps194]
 simp [go_sem]
 refine zac (List.range' 9 3++List.range' 15 20) (fun x:Nat × Nat=>[(9,.int x.1),(10,.int x.2)]) (fun x=>x.1<=x.2/\x.2<=L.length/\bsG L t (x.2-x.1+1) x.1 x.2=bsI L t) (fun x=>x.2-x.1) (0,L.length) ⟨by simp,by simp,rfl⟩ (by simp [go_sem]) (by simp [go_sem]) ?_
 rintro ⟨i,j⟩ ⟨h1,h2,h3⟩
 simp only at h1 h2 h3
 by_cases hij:i<j
 .have hii:(i:Int)<j:=by omega
  have hh:(i+j) / 2<L.length:=by omega
  have cT:=zbo (L[(i+j) / 2]?.getD []) t (by have:=hr _ (memD [] hh); omega) (by omega)
  rw [bsG,if_pos hij] at h3
  have hsh:shrI IntKind.u64 (IntKind.u64.wrap ((i:Int)+j)) 1=(((i+j) / 2:Nat):Int):=by
   have w:IntKind.u64.wrap ((i:Int)+j)=((i+j:Nat):Int):=by
    rw [zf2 (by omega) (by omega)]; omega
   rw [w]
   exact shr1 (by omega)
  have hnL:¬ L=[]:=by rintro rfl; simp at hh
  have md:=zag hh
  have k1:i<=(i+j) / 2:=by omega
  have k2:(i+j) / 2<j:=by omega
  generalize (i+j) / 2=k at *
  by_cases c0:cmpT (L[k]?.getD []) t<0
  .rw [if_pos c0,zf8 L t (j-i) (j-(k+1)+1) _ _ (by omega) (by omega)] at h3
   generalize cmpT (L[k]?.getD []) t=e at *
   simp [go_sem,hii,hsh,md]
   refine ⟨⟨by omega,by omega⟩,by omega,⟨hh,hnL⟩,?_⟩
   refine CallVC.of (cT) ?_
   simp [go_sem]
   simp [go_sem,c0]
   exact ⟨⟨by omega,by omega⟩,k+1,j,⟨by omega,h2,h3⟩,by omega,zaa _ _ _ (by simp),by omega,rfl⟩
  .rw [if_neg c0,zf8 L t (j-i) (k-i+1) _ _ (by omega) (by omega)] at h3
   generalize cmpT (L[k]?.getD []) t=e at *
   simp [go_sem,hii,hsh,md]
   refine ⟨⟨by omega,by omega⟩,by omega,⟨hh,hnL⟩,?_⟩
   refine CallVC.of (cT) ?_
   simp [go_sem]
   simp [go_sem,c0]
   exact ⟨i,k,⟨by omega,by omega,h3⟩,by omega,zaa _ _ _ (by simp),rfl,rfl⟩
 .have e:i=j:=by omega
  subst e
  have hii:¬ (i:Int)<i:=by omega
  rw [bsG,if_neg (by omega)] at h3
  rw [<- h3]
  by_cases hi:i<L.length
  .have hiL:(i:Int)<L.length:=by omega
   have hnL:¬ L=[]:=by rintro rfl; simp at hi
   have cT:=zbo (L[i]?.getD []) t (by have:=hr _ (memD [] hi); omega) (by omega)
   have md:=zag hi
   generalize cmpT (L[i]?.getD []) t=e at *
   simp [go_sem,hii,hiL,md]
   refine ⟨hnL,?_⟩
   refine CallVC.of (cT) ?_
   simp [go_sem]
   simp [hi]
  .have hiL:¬ (i:Int)<L.length:=by omega
   simp [go_sem,hii,hiL]
   omega
def ixT (L:List (List Int)) (t:List Int):Int:=if bsI L t<L.length/\cmpT (L[bsI L t]?.getD []) t=0 then bsI L t else -1
theorem zB3 (L:List (List Int)) (t:List Int):bsI L t<=L.length:=(zrn L t _ 0 L.length (by omega)).2
theorem zhq (L:List (List Int)) (t:List Int) : -1<=ixT L t/\ixT L t<=L.length:=by
 have:=zB3 L t
 unfold ixT
 split <;> omega
theorem zqL (L:List (List Int)) (t:List Int) (hL:L.length<=1000) (hr:∀ r∈L,r.length<=1000) (ht:t.length<=1000) :
  Con Tryz.prog 105 [.sl L.length (mat L),.sl t.length (avs t)] (.int (ixT L t)):=by
 have c1:=zhU L t hL hr ht
 unfold ixT
 by_cases h:bsI L t<L.length/\cmpT (L[bsI L t]?.getD []) t=0
 .rw [if_pos h]
  rw [decide_eq_true h.1,decide_eq_true h.2] at c1
  generalize bsI L t=i at *
  refine zab Tryz.mixed ⟨7,[],[],[]⟩ Tryz.func105 ?_
  rw [Tryz.ntmps105]
  simp [go_sem]
  refine CallVC.of (c1) ?_
  simp [go_sem]
 .rw [if_neg h]
  have e:(decide (bsI L t<L.length) && decide (cmpT (L[bsI L t]?.getD []) t=0))=false:=by
   cases e1:decide (bsI L t<L.length) with
   | false=>rfl
   | true =>
    cases e2:decide (cmpT (L[bsI L t]?.getD []) t=0) with
    | false=>rfl
    | true=>exact (h ⟨of_decide_eq_true e1,of_decide_eq_true e2⟩).elim
  rw [e] at c1
  generalize bsI L t=i at *
  refine zab Tryz.mixed ⟨7,[],[],[]⟩ Tryz.func105 ?_
  rw [Tryz.ntmps105]
  simp [go_sem]
  refine CallVC.of (c1) ?_
  simp [go_sem]
theorem zg4 (L:List (List Int)) (n:Nat) (cs:List AV) (t:List Int) (hL:L.length<=1000) (hr:∀ r∈L,r.length<=1000) (ht:t.length<=1000) :
  Con Tryz.prog 162 [.agg [.sl L.length (mat L),.sl n cs],.sl t.length (avs t)] (.int (ixT L t+1)):=by
 have c1:=zqL L t hL hr ht
 have b:=zhq L t
 generalize ixT L t=e at *
 refine zab Tryz.mixed ⟨5,[],[],[]⟩ Tryz.func162 ?_
 rw [Tryz.ntmps162]
 simp [go_sem]
 refine CallVC.of (c1) ?_
 simp [go_sem]
 omega
end Go.Proofs.YthhdollpkieknaaGreat


namespace Go.Proofs.YthhdollpkieknaaGreat
open Go.Abs Go.Shelf Go.Sort
theorem zii:∀ X:List Spl,zan (X.flatMap spA)=true
 | []=>rfl
 | s::X=>by
  have:=zii X
  simp only [List.flatMap_cons,spA,List.cons_append,List.nil_append]
  simp [zan,zau,this]
theorem zoz:∀ X:List Spl,frzL (X.flatMap spA)=X.flatMap spF
 | []=>rfl
 | s::X=>by
  have:=zoz X
  simp only [List.flatMap_cons,spA,spF,List.cons_append,List.nil_append]
  simp [frzL,frz,this]
theorem zsX (X:List Spl) (h1:∀ s∈X,s.2.2=1) (hok:∀ s∈X,SpOk s) (hn:X.length<=1048576) :
  MCon Tryz.prog 284 [.own 198 X.length (X.flatMap spA),.val (.func (.func 281) #[] #[])] (.tup []) [.own 198 X.length ((srtS X).flatMap spA),.any]:=by
 obtain ⟨ys,p1,p2,p3⟩:=ztf Tryz.sortSplits 3 Tryz.isAgg198 Tryz.sizeOf198 ⟨_,Tryz.func284,by decide,rfl⟩ spA zck zBx 281 198 (by kernel_rfl) X (fun _ _=>rfl) (zii X)
  (fun x hx y hy=>by rw [ztt,ztt]; exact @zgP ⟨1⟩ x y (hok x hx) (hok y hy)) (by omega)
 have e:ys=srtS X:=zls p1 h1 p2
 subst e
 exact p3
def cntF (s:Spl):Spl:=(srtT s.1,srtT s.2.1,1)
def mixS (L:List Spl) (i:Nat):List AV:=((L.map cntF).take i).flatMap spA++(L.drop i).flatMap spF
theorem zlh (X:List Spl):(X.flatMap spA).length=X.length*3:=by
 induction X with
 | nil=>rfl
 | cons s X ih=>rw [List.flatMap_cons,List.length_append,ih]; simp [spA]; omega
theorem zaK (X:List Spl):(X.flatMap spF).length=X.length*3:=by
 induction X with
 | nil=>rfl
 | cons s X ih=>rw [List.flatMap_cons,List.length_append,ih]; simp [spF]; omega
theorem set3 (R:List AV) (x1 x2 x3 y1 y2 y3:AV):∀ P:List AV,(((P++x1::x2::x3::R).set P.length y1).set (P.length+1) y2).set (P.length+1+1) y3=P++y1::y2::y3::R
 | []=>rfl
 | p::P=>by
  have:=set3 R x1 x2 x3 y1 y2 y3 P
  simp only [List.cons_append,List.length_cons,List.set_cons_succ]
  rw [this]
theorem zBa (x1 x2 x3 y3:AV):∀ P:List AV,(P++[x1,x2,x3]).set (P.length+2) y3=P++[x1,x2,y3]
 | []=>rfl
 | p::P=>by
  have:=zBa x1 x2 x3 y3 P
  show p::(P++[x1,x2,x3]).set (P.length+2) y3=p::(P++[x1,x2,y3])
  rw [this]
theorem zpA (O:List Spl) (l s:Spl):zhM (O++[l]) s=if zck l s=0 then O++[(l.1,l.2.1,l.2.2+1)] else O++[l]++[s]:=by
 have e:∀ O:List Spl,(O++[l]).set O.length (l.1,l.2.1,l.2.2+1)=O++[(l.1,l.2.1,l.2.2+1)]:=fun O=>by
  induction O with
  | nil=>rfl
  | cons o O ih=>rw [List.cons_append,List.length_cons,List.set_cons_succ,ih]; rfl
 unfold zhM
 rw [List.getLast?_concat]
 simp only [List.length_append,List.length_singleton,Nat.add_sub_cancel,e]
theorem zyk (L:List Spl) {i:Nat} (h:i<L.length) {a b:List (List Int)} {k:Int} (hsp:L[i]?.getD ([],[],0)=(a,b,k)) :
  (((mixS L i).set (i*3) (AV.own 25 a.length (omat (srtT a)))).set (i*3+1) (AV.own 25 b.length (omat (srtT b)))).set (i*3+1+1) (AV.val (Value.int IntKind.i64 1))=mixS L (i+1):=by
 have e1:(((L.map cntF).take i).flatMap spA).length=i*3:=by rw [zlh,List.length_take,List.length_map,Nat.min_eq_left (by omega)]
 have e2:L.drop i=(a,b,k)::L.drop (i+1):=by rw [List.drop_eq_getElem_cons h,<- hsp]; simp [h]
 have e3:(L.map cntF).take (i+1)=(L.map cntF).take i++[cntF (a,b,k)]:=by
  rw [List.take_succ_eq_append_getElem (by simpa using h),List.getElem_map]
  congr 2
  rw [<- hsp]; simp [h]
 unfold mixS
 rw [e2,e3,List.flatMap_cons,List.flatMap_append,<- e1]
 refine (set3 _ _ _ _ _ _ _ _).trans ?_
 simp [cntF,spA]
theorem zoP (L:List Spl) (hok:∀ s∈L,(s.1.length<=19/\∀ r∈s.1,r.length<=100)/\(s.2.1.length<=19/\∀ r∈s.2.1,r.length<=100)) (hn:L.length<=1000) :
  GCon Tryz.prog 236 [.own 198 L.length (L.flatMap spF)] (.own 198 (gthS (srtS (L.map cntF))).length ((gthS (srtS (L.map cntF))).flatMap spF)) [.any]:=by
 have cS:=zsX (L.map cntF) (fun s hs=>by obtain ⟨t,_,rfl⟩:=List.mem_map.1 hs; rfl) (fun s hs=>by
  obtain ⟨t,ht,rfl⟩:=List.mem_map.1 hs
  have h:=hok t ht
  refine ⟨⟨by simp [cntF]; omega,fun r hr=>h.1.2 r ((zbR _).mem_iff.1 hr)⟩,by simp [cntF]; omega,fun r hr=>h.2.2 r ((zbR _).mem_iff.1 hr)⟩) (by simp; omega)
 rw [List.length_map] at cS
 refine zap Tryz.mixed ⟨10,[32],[284],[]⟩ [] Tryz.func236 ?_
 rw [Tryz.ntmps236]
 simp [go_sem]
 refine zfa (0::3::4::10::List.range' 12 16) (3::4::List.range' 13 15) (fun i:Nat=>[(0,.own 198 L.length (mixS L i)),(10,.bor 0 []),(12,.int i)]) (fun i=>i<=L.length) (fun i=>L.length-i) 0 (by intro x i h1 h2; have:i=0\/i=10\/i=12:=(by simp at h1 h2; omega); rcases this with rfl | rfl | rfl <;> rfl) (by intro i h; simp at h |-; omega) (by simp) (by simp [go_sem,mixS]) (by simp [go_sem,kl]) ?_
 intro i hi
 by_cases h:i<L.length
 .have hii:(i:Int)<L.length:=by omega
  have hs:=hok (L[i]?.getD ([],[],0)) (memD _ h)
  have c1:=zd4 (L[i]?.getD ([],[],0)).1 (fun m hm=>by have:=hs.1.2 m hm; omega) hs.1.1
  have c2:=zd4 (L[i]?.getD ([],[],0)).2.1 (fun m hm=>by have:=hs.2.2 m hm; omega) hs.2.1
  have dr:(mixS L i).drop (i*3)=spF (L[i]?.getD ([],[],0))++(L.drop (i+1)).flatMap spF:=by
   have e1:(((L.map cntF).take i).flatMap spA).length=i*3:=by rw [zlh,List.length_take,List.length_map,Nat.min_eq_left (by omega)]
   have e2:L.drop i=L[i]?.getD ([],[],0)::L.drop (i+1):=by rw [List.drop_eq_getElem_cons h]; simp [h]
   unfold mixS
   rw [List.drop_append_of_le_length (by omega),e2,List.flatMap_cons,List.drop_eq_nil_of_le (by omega),List.nil_append]
  generalize hsp:L[i]?.getD ([],[],0)=s at *
  obtain ⟨a,b,k⟩:=s
  simp only [spF] at dr c1 c2
  have ml:(mixS L i).length=L.length*3:=by
   unfold mixS
   rw [List.length_append,zlh,zaK,List.length_take,List.length_map,List.length_drop,Nat.min_eq_left (by omega)]; omega
  have nm:¬ mixS L i=[]:=by intro e; rw [e] at ml; simp at ml; omega
  simp [go_sem,hii,dr]
  refine ⟨⟨nm,by omega⟩,by kernel_rfl,?_⟩
  refine CallD.of (c1) ?_
  simp [go_sem]
  refine CallD.of (c2) ?_
  simp [go_sem]
  refine ⟨h,⟨by omega,nm⟩,?_⟩
  refine ⟨by kernel_rfl,?_⟩
  simp [go_sem]
  refine ⟨⟨by omega,by omega⟩,i+1,by omega,by omega,zaa _ _ _ (by simp),zyk L h hsp,by omega⟩
 .have e:i=L.length:=by omega
  subst e
  have hii:¬ (L.length:Int)<L.length:=by omega
  have e0:mixS L L.length=(L.map cntF).flatMap spA:=by
   unfold mixS
   rw [List.take_of_length_le (by simp),List.drop_eq_nil_of_le (Nat.le_refl _)]; simp
  rw [e0]
  have sl:(srtS (L.map cntF)).length=L.length:=by rw [zue,List.length_map]
  have so:∀ s∈srtS (L.map cntF),s.2.2=1/\SpOk s:=fun s hs=>by
   obtain ⟨t,ht,rfl⟩:=List.mem_map.1 ((zdE _).mem_iff.1 hs)
   have h:=hok t ht
   exact ⟨rfl,⟨by simp [cntF]; omega,fun r hr=>h.1.2 r ((zbR _).mem_iff.1 hr)⟩,by simp [cntF]; omega,fun r hr=>h.2.2 r ((zbR _).mem_iff.1 hr)⟩
  simp [go_sem,hii]
  refine ⟨_,_,cS,?_⟩
  simp [go_sem]
  generalize srtS (L.map cntF)=S at *
  simp [go_sem,zoz]
  refine zac (6::8::9::List.range' 34 33) (fun i:Nat=>[(6,.own 198 (gthS (S.take i)).length ((gthS (S.take i)).flatMap spF)),(34,.int i)]) (fun i=>i<=L.length) (fun i=>L.length-i) 0 (by simp) (by simp [go_sem,gthS]) (by simp [go_sem]) ?_
  intro i hi
  by_cases hi2:i<L.length
  .have hii:(i:Int)<L.length:=by omega
   have hS:i<S.length:=by omega
   have dr:(S.flatMap spF).drop (i*3)=spF (S[i]?.getD ([],[],0))++(S.drop (i+1)).flatMap spF:=by
    have e1:((S.take i).flatMap spF).length=i*3:=by rw [zaK,List.length_take,Nat.min_eq_left (by omega)]
    have e2:S.drop i=S[i]?.getD ([],[],0)::S.drop (i+1):=by rw [List.drop_eq_getElem_cons hS]; simp [hS]
    have e3:S.flatMap spF=(S.take i).flatMap spF++(S.drop i).flatMap spF:=by rw [<- List.flatMap_append,List.take_append_drop]
    rw [e3,List.drop_append_of_le_length (by omega),e2,List.flatMap_cons,List.drop_eq_nil_of_le (by omega),List.nil_append]
   have hs:=so _ (memD ([],[],0) hS)
   generalize hsp:S[i]?.getD ([],[],0)=s at *
   obtain ⟨a,b,k⟩:=s
   obtain ⟨hk,hs⟩:=hs
   simp only at hk
   subst hk
   simp only [spF] at dr
   have ml:(S.flatMap spF).length=L.length*3:=by rw [zaK,sl]
   have nm:¬ S.flatMap spF=[]:=by intro e; rw [e] at ml; simp at ml; omega
   have gs:gthS (S.take (i+1))=zhM (gthS (S.take i)) (a,b,1):=by
    rw [List.take_succ_eq_append_getElem hS,zka]
    congr 1
    rw [<- hsp,List.getElem?_eq_getElem hS]; rfl
   have iv:=zuy (S.take i)
   generalize S.flatMap spF=M at *
   rcases (List.eq_nil_or_concat (gthS (S.take i))) with ho | ⟨O,l,ho⟩
   .rw [ho,show zhM [] (a,b,1)=[(a,b,1)] from rfl] at gs
    rw [ho]
    simp [go_sem,hii,dr]
    refine ⟨nm,by kernel_rfl,?_⟩
    refine ⟨by kernel_rfl,?_⟩
    simp [go_sem]
    refine ⟨⟨by omega,by omega⟩,i+1,by omega,by omega,zaa _ _ _ (by simp),?_⟩
    rw [gs]
    exact ⟨⟨rfl,by simp [spF]⟩,by omega⟩
   .rw [List.concat_eq_append] at ho
    rw [ho] at iv
    rw [ho,zpA] at gs
    rw [ho]
    obtain ⟨i1,i2,i3⟩:=iv
    have kb:=i3 (fun s hs=>(so s (List.mem_of_mem_take hs)).1) l (by simp)
    have hl:SpOk l:=by
     obtain ⟨t,t1,t2⟩:=i2 l (by simp)
     have:=(so t (List.mem_of_mem_take t1)).2
     simp only [keyS,Prod.mk.injEq] at t2
     unfold SpOk
     rw [t2.1,t2.2]; exact this
    have cG:=zgP l (a,b,1) hl hs
    have cl:((O++[l]).flatMap spF).length=(O.length+1)*3:=by rw [zaK]; simp
    have cd:((O++[l]).flatMap spF).drop (O.length*3)=[.sl l.1.length (mat l.1),.sl l.2.1.length (mat l.2.1),.int l.2.2]:=by
     rw [List.flatMap_append,List.drop_append_of_le_length (by rw [zaK]; omega),List.drop_eq_nil_of_le (by rw [zaK]; omega)]
     simp [spF]
    have cs:∀ y,((O++[l]).flatMap spF).set (O.length*3+2) y=O.flatMap spF++[.sl l.1.length (mat l.1),.sl l.2.1.length (mat l.2.1),y]:=fun y=>by
     have e:=zBa (.sl l.1.length (mat l.1)) (.sl l.2.1.length (mat l.2.1)) (.int l.2.2) y (O.flatMap spF)
     rw [zaK] at e
     rw [<- e,List.flatMap_append]; simp [spF]
    have ol:(O++[l]).length=O.length+1:=by simp
    have i1':O.length+1<=i:=by
     rw [ol,List.length_take] at i1; omega
    rw [List.length_take] at i3
    simp only [spF] at cG
    rw [ol]
    generalize hC:(O++[l]).flatMap spF=C at *
    have cg:C[O.length*3+2]?=some (.val (.int .i64 l.2.2)):=by rw [<- List.getElem?_drop,cd]; rfl
    have nC:¬ C=[]:=by intro e; rw [e] at cl; simp at cl
    have hd:0<O.length+1:=by omega
    generalize hv:zck l (a,b,1)=v at *
    by_cases hz:v=0
    .rw [if_pos hz] at gs
     subst hz
     simp [go_sem,hii,dr,hd,cd]
     refine ⟨nm,by kernel_rfl,?_⟩
     refine ⟨by omega,by omega,⟨nC,by omega⟩,?_⟩
     refine CallD.of (cG) ?_
     simp [go_sem]
     refine ⟨by kernel_rfl,?_⟩
     simp [go_sem]
     simp [go_sem,cg]
     have tl:(S.take i).length<=i:=by rw [List.length_take]; omega
     have kk:0<=l.2.2/\l.2.2<=1000:=by omega
     refine ⟨by omega,by omega,nC,⟨by omega,by omega⟩,by omega,nC,by omega,⟨by omega,by omega⟩,i+1,by omega,by omega,zaa _ _ _ (by simp),?_⟩
     rw [gs,cs]
     refine ⟨⟨by simp,?_⟩,by omega⟩
     rw [List.flatMap_append]
     simp [spF]
    .rw [if_neg hz] at gs
     simp [go_sem,hii,dr,hd,cd]
     refine ⟨nm,by kernel_rfl,?_⟩
     refine ⟨by omega,by omega,⟨nC,by omega⟩,?_⟩
     refine CallD.of (cG) ?_
     simp [go_sem]
     simp [go_sem,hz]
     refine ⟨by kernel_rfl,?_⟩
     simp [go_sem]
     refine ⟨⟨by rw [cl],by omega,by omega⟩,⟨by omega,by omega⟩,i+1,by omega,by omega,zaa _ _ _ (by simp),?_⟩
     rw [gs]
     refine ⟨⟨by simp,?_⟩,by omega⟩
     rw [List.flatMap_append,hC]
     simp [spF]
  .have e:i=S.length:=by omega
   subst e
   have hii:¬ (S.length:Int)<L.length:=by omega
   rw [List.take_length]
   simp [go_sem,hii]
end Go.Proofs.YthhdollpkieknaaGreat


namespace Go.Proofs.YthhdollpkieknaaGreat
open Go.RowKit Go.Shelf Go.Lib Go.Abs
theorem zlZ (n:Nat) (h0:0<n) (hn:n<=1048576) (i:TypeInfo) (z:Value) (hi:Tryz.prog.info? 25=some i) (hz:i.zero=some z) (hs:0<i.size) (hb:i.bytes=24) (w:World) :
  Calls Tryz.prog 326 #[.slice none 0 0,.int .i64 n] w fun e w' =>
   e=.returned (.slice (some ⟨w.heap.size,0,none⟩) 0 (grownCap w n 0 25)) /\
   w'=w.drew.alloc (.cells (([]:List Value).toArray++Builtin.zeroCells z.cells n++Builtin.zeroCells z.cells (grownCap w n 0 25-n)) 25):=by
 have h1:¬ ((n:Int)<0):=by omega
 have h2:wrap64 (n:Int)=n:=by unfold wrap64; omega
 have h4:(n:Int) > 0:=by omega
 have hrz:∀ ty,(Builtin.append_ #[24,3] ty #[.slice none 0 0,.int .i64 (n:Int)]).run Tryz.prog w =
   .ok (.slice (some ⟨w.heap.size,0,none⟩) n (grownCap w n 0 25)) (w.drew.alloc (.cells (([]:List Value).toArray++Builtin.zeroCells z.cells n++Builtin.zeroCells z.cells (grownCap w n 0 25-n)) 25)):=fun ty=>by
  have h:=Lib.run_append_grow_zeros w 24 3 ty 25 i z .i64 .i64 Tryz.underlying24 Tryz.underlying3 hi hz none 0 0 [] (run_firstCells_none w.drew i.size 0 0 0) n h0 hs (by omega) (by omega)
   (by rw [hb]; omega) (by
    rw [hb]
    have:=growslice_fits (need:=0+n) (old:=0) (bytes:=24) (by omega) (by omega)
    exact this)
  simp only [Nat.zero_add] at h
  exact h
 have hGn:n<=grownCap w n 0 25:=grownCap_ge w _ _ _
 obtain ⟨G,hG⟩:∃ G,G=grownCap w n 0 25:=⟨_,rfl⟩
 rw [<- hG] at hrz hGn |-
 have hG63:G<=9223372036854775807:=by
  have:=grownCap_le_maxLen w n 0 25 (by unfold maxLen; omega)
  rw [<- hG] at this
  unfold maxLen at this
  omega
 clear hG
 go_enter Tryz.func326,Tryz.ntmps326
 go_wp2_with (at_builtin; refine Lib.wpList_append_run _ rfl _ _ _ _ rfl _ _ rfl rfl _ _ (hrz _) ?_)
 all_goals (go_ret; exact ⟨rfl,rfl⟩)
theorem zxu (n:Nat) (h0:0<n) (hn:n<=1048576):Con Tryz.prog 326 [.val (.slice none 0 0),.int n] (.own 25 0 []):=by
 refine ⟨⟨_,Tryz.func326,by decide,rfl⟩,fun w vs hl ha=>?_⟩
 have k:=ha (fun _=>undef) (fun _=>[])
 generalize hoz:([]:List Nat)=oz at k
 obtain ⟨i,z,hi,hz,hs,hb,hzs,_,hce⟩:=zaN Tryz.info25
 cases k with
 | cons c v o cs vs os hc ht =>
  cases ht with
  | cons c2 v2 o2 cs2 vs2 os2 hc2 ht2 =>
   have e2:vs2=[]:=by simpa using hl
   subst e2
   cases hc2 with
   | cell _ _ _ hc2 =>
    cases hc2 with
    | val _ _ =>
     cases hc with
     | cell _ _ _ hc =>
      cases hc with
      | val _ _ =>
       refine (zlZ n h0 hn i z hi hz (by omega) hb w).mono ?_
       rintro e w' ⟨rfl,rfl⟩
       have hge:n<=grownCap w n 0 25:=grownCap_ge w _ _ _
       have hrep:RepC Tryz.prog (w.drew.alloc (.cells (([]:List Value).toArray++Builtin.zeroCells z.cells n++Builtin.zeroCells z.cells (grownCap w n 0 25-n)) 25)) (fun _=>False) (.own 25 0 []) (.slice (some ⟨w.heap.size,0,none⟩) 0 (grownCap w n 0 25)) [w.heap.size] :=
        .own _ _ 0 _ _ _ _ (zef w _) (by omega) (by rw [hce]; simp [size_zeroCells,hzs,<- Nat.add_mul]; omega) (.nil _)
       refine ⟨_,[w.heap.size],rfl,⟨rfl,rfl,rfl,by simp,fun b hb=>zeg w _ b hb,by first | exact Nat.le_refl _ | exact zbw _⟩,fun tm oss=>.cell _ _ _ (hrep.mono (fun _ h=>h.elim) (fun _ _=>rfl)),by simp,by simp⟩
inductive NW:AV->AV->Prop
 | same (c:AV):NW c c
 | nil:NW (.val (.slice none 0 0)) (.sl 0 [])
inductive NWL:List AV->List AV->Prop
 | nil:NWL [] []
 | cons {c c':AV} {cs cs':List AV} (h:NW c c') (t:NWL cs cs'):NWL (c::cs) (c'::cs')
theorem NW.rep {P:Program} {w:World} {F:Nat->Prop} {c c':AV} {v:Value} {os:List Nat} (h:NW c c') (hr:RepC P w F c v os):RepC P w F c' v os:=by
 cases h with
 | same=>exact hr
 | nil=>cases hr with
  | val _ _=>exact .sl0 none 0
theorem NWL.rep {P:Program} {w:World} {F:Nat->Prop} {cs cs':List AV} (h:NWL cs cs'):∀ {vs:List Value} {os:List Nat},RepL P w F cs vs os->RepL P w F cs' vs os:=by
 induction h with
 | nil=>intro vs os hr; exact hr
 | cons h _ ih =>
  intro vs os hr
  cases hr with
  | cons _ v os _ vs os' h1 h2=>exact .cons _ _ _ _ _ _ (h.rep h1) (ih h2)
theorem GCon.nwArg {P:Program} {f:FuncId} {e:TypeId} {n:Nat} {cs cs':List AV} {r:AV} {outs:List AV} (hw:NWL cs cs') (h:GCon P f [.own e n cs'] r outs):GCon P f [.own e n cs] r outs:=by
 refine ⟨h.1,fun w vs os F0 hl hnd ho hF hr=>h.2 w vs os F0 hl hnd ho hF fun tm oss=>?_⟩
 have k:=hr tm oss
 cases k with
 | cons c v o cs1 vs os2 hc ht =>
  refine .cons _ _ _ _ _ _ ?_ ht
  cases hc with
  | cell _ _ _ hc =>
   refine .cell _ _ _ ?_
   cases hc with
   | own0=>cases hw; exact .own0 _
   | own b _ _ cap c _ os3 hb hn2 hc2 hl2=>exact .own b _ _ cap c _ os3 hb hn2 hc2 (hw.rep hl2)
theorem GCon.own0 {P:Program} {f:FuncId} {args:List AV} {outs:List AV} (e:TypeId) (h:GCon P f args (.val (.slice none 0 0)) outs):GCon P f args (.own e 0 []) outs:=by
 refine ⟨h.1,fun w vs os F0 hl hn ho hF hr=>(h.2 w vs os F0 hl hn ho hF hr).mono ?_⟩
 rintro x w' ⟨v,orr,oo,F',h1,h2,h3,h4,h5,h6⟩
 refine ⟨v,orr,oo,F',h1,h2,h3,h4,fun tm oss=>?_,h6⟩
 have k:=h5 tm oss
 cases k with
 | cell _ _ _ hc=>cases hc with
  | val _ _=>exact .cell _ _ _ (.own0 e)
theorem NWL.app {a b:List AV} (h:NWL a b):∀ p:List AV,NWL (p++a) (p++b)
 | []=>h
 | c::p=>.cons (.same c) (NWL.app h p)
theorem GCon.nwRes {P:Program} {f:FuncId} {args:List AV} {e:TypeId} {n:Nat} {cs cs':List AV} {outs:List AV} (hw:NWL cs cs') (h:GCon P f args (.own e n cs) outs):GCon P f args (.own e n cs') outs:=by
 refine ⟨h.1,fun w vs os F0 hl hn ho hF hr=>(h.2 w vs os F0 hl hn ho hF hr).mono ?_⟩
 rintro x w' ⟨v,orr,oo,F',h1,h2,h3,h4,h5,h6⟩
 refine ⟨v,orr,oo,F',h1,h2,h3,h4,fun tm oss=>?_,h6⟩
 have k:=h5 tm oss
 cases k with
 | cell _ _ _ hc =>
  refine .cell _ _ _ ?_
  cases hc with
  | own0=>cases hw; exact .own0 _
  | own b _ _ cap c _ os3 hb hn2 hc2 hl2=>exact .own b _ _ cap c _ os3 hb hn2 hc2 (hw.rep hl2)
def szC (x y:List (List Int)) (i:Nat):Nat:=if i=0 then 0 else if i=1 then x.length else x.length+y.length
def flC (x y:List (List Int)) (i:Nat):List (List Int):=if i=0 then [] else if i=1 then x else x++y
theorem zmv (x y:List (List Int)) (h0:0<x.length+y.length) (hn:x.length+y.length<=1000) :
  GCon Tryz.prog 285 [.own 24 2 [.sl x.length (mat x),.sl y.length (mat y)]] (.own 25 (x++y).length (mat (x++y))) [.any]:=by
 have cG:=Con.gfz (zxu (x.length+y.length) h0 (by omega)) (by simp [zaR,zbK]) rfl
 refine zap Tryz.mixed ⟨9,[],[1000000+326],[]⟩ [] Tryz.func285 ?_
 rw [Tryz.ntmps285]
 simp [go_sem]
 refine zac ([3,5]++List.range' 11 12) (fun i:Nat=>[(3,.int (szC x y i)),(11,.int i)]) (fun i=>i<=2) (fun i=>2-i) 0 (by simp) (by simp [go_sem,szC]) (by simp [go_sem]) ?_
 intro i hi
 have hc:i=0\/i=1\/i=2:=by omega
 rcases hc with rfl | rfl | rfl
 .have hs:¬ ((x.length:Int)<0):=by omega
  simp [go_sem,szC,hs]
  exact ⟨by omega,1,by omega,by omega,zaa _ _ _ (by simp),by simp,by omega⟩
 .have hs:¬ ((x.length:Int)+y.length<0):=by omega
  simp [go_sem,szC,hs]
  exact ⟨⟨by omega,by omega⟩,2,by omega,by omega,zaa _ _ _ (by simp),by simp,by omega⟩
 .have e2:(x.length:Int)+y.length=((x.length+y.length:Nat):Int):=by omega
  simp [go_sem,szC]
  rw [e2]
  refine ⟨_,_,cG,?_⟩
  simp [go_sem]
  refine zac ([6,8]++List.range' 27 8) (fun i:Nat=>[(6,.own 25 (flC x y i).length (mat (flC x y i))),(27,.int i)]) (fun i=>i<=2) (fun i=>2-i) 0 (by simp) (by simp [go_sem,flC,mat,frzL]) (by simp [go_sem]) ?_
  intro i hi
  have hc:i=0\/i=1\/i=2:=by omega
  rcases hc with rfl | rfl | rfl
  .simp [go_sem,flC,mat]
   exact ⟨⟨by omega,by omega⟩,1,by omega,by omega,zaa _ _ _ (by simp),by simp,by omega⟩
  .simp [go_sem,flC,mat]
   exact ⟨⟨by omega,by omega⟩,2,by omega,by omega,zaa _ _ _ (by simp),by simp,by omega⟩
  .simp [go_sem,flC]
theorem zkO (w:World) :
  Calls Tryz.prog 326 #[.slice none 0 0,.int .i64 0] w fun e w'=>e=.returned (.slice none 0 0)/\w'=w:=by
 have h2:wrap64 (0:Int)=0:=by unfold wrap64; omega
 go_enter Tryz.func326,Tryz.ntmps326
 go_wp2
 all_goals (go_ret; exact ⟨rfl,rfl⟩)
theorem zqe:GCon Tryz.prog 326 [.val (.slice none 0 0),.int 0] (.val (.slice none 0 0)) [.any,.any]:=by
 refine ⟨⟨_,Tryz.func326,by decide,rfl⟩,fun w vs os F0 hl hnd ho hF hr=>?_⟩
 have k:=hr (fun _=>undef) (fun _=>[])
 cases k with
 | cons c v o cs vs os1 hc ht =>
  cases ht with
  | cons c2 v2 o2 cs2 vs2 os2 hc2 ht2 =>
   have e2:vs2=[]:=by simpa using hl
   subst e2
   cases hc2 with
   | cell _ _ _ hc2 =>
    cases hc2 with
    | val _ _ =>
     cases hc with
     | cell _ _ _ hc =>
      cases hc with
      | val _ _ =>
       refine (zkO w).mono ?_
       rintro e w' ⟨rfl,rfl⟩
       exact ⟨_,[],[],F0,rfl,Ext.refl _ _,fun _ h=>h,fun _ h=>.inl h,fun tm oss=>.cell _ _ _ (.val _ rfl),fun tm oss=>.cons _ _ [] _ _ [] (.any _) (.cons _ _ [] _ _ [] (.any _) (.nil _)),rfl,by simp,by simp⟩
theorem zlN :
  GCon Tryz.prog 285 [.own 24 2 [.sl 0 [],.sl 0 []]] (.own 25 0 []) [.any]:=by
 have cG:=GCon.own0 25 zqe
 refine zap Tryz.mixed ⟨9,[],[1000000+326],[]⟩ [] Tryz.func285 ?_
 rw [Tryz.ntmps285]
 simp [go_sem]
 refine zac ([3,5]++List.range' 11 12) (fun i:Nat=>[(3,.int 0),(11,.int i)]) (fun i=>i<=2) (fun i=>2-i) 0 (by simp) (by simp [go_sem]) (by simp [go_sem]) ?_
 intro i hi
 have hc:i=0\/i=1\/i=2:=by omega
 rcases hc with rfl | rfl | rfl
 .simp [go_sem]
  exact ⟨1,by omega,by omega,zaa _ _ _ (by simp),by omega⟩
 .simp [go_sem]
  exact ⟨2,by omega,by omega,zaa _ _ _ (by simp),by omega⟩
 .simp [go_sem]
  refine ⟨_,_,cG,?_⟩
  simp [go_sem]
  refine zac ([6,8]++List.range' 27 8) (fun i:Nat=>[(6,.own 25 0 []),(27,.int i)]) (fun i=>i<=2) (fun i=>2-i) 0 (by simp) (by simp [go_sem]) (by simp [go_sem]) ?_
  intro i hi
  have hc:i=0\/i=1\/i=2:=by omega
  rcases hc with rfl | rfl | rfl
  .simp [go_sem]
   exact ⟨1,by omega,by omega,zaa _ _ _ (by simp),by omega⟩
  .simp [go_sem]
   exact ⟨2,by omega,by omega,zaa _ _ _ (by simp),by omega⟩
  .simp [go_sem]
theorem zho (x y:List (List Int)) (hn:x.length+y.length<=1000) :
  GCon Tryz.prog 285 [.own 24 2 [.sl x.length (mat x),.sl y.length (mat y)]] (.own 25 (x++y).length (mat (x++y))) [.any]:=by
 by_cases h0:0<x.length+y.length
 .exact zmv x y h0 hn
 .have e1:x=[]:=List.length_eq_zero_iff.1 (by omega)
  have e2:y=[]:=List.length_eq_zero_iff.1 (by omega)
  subst e1 e2
  exact zlN
theorem zku (y:List (List Int)) (hn:y.length<=1000) :
  GCon Tryz.prog 285 [.own 24 2 [.val (.slice none 0 0),.sl y.length (mat y)]] (.own 25 y.length (mat y)) [.any] :=
 GCon.nwArg (.cons .nil (.cons (.same _) .nil)) (zho [] y (by simpa using hn))
end Go.Proofs.YthhdollpkieknaaGreat


namespace Go.Proofs.YthhdollpkieknaaGreat
open Go.Abs
def canS (n:Nat) (s:Spl):Spl:=(s.1,[canF (n+1) (zaQ s.2.1)],s.2.2)
def lfS (n:Nat) (j:Nat):AV:=.own 198 1 [.val (.slice none 0 0),if j=0 then .val (.slice none 0 0) else .sl 1 (mat [canF (n+1) (zaQ [])]),.int 0]
theorem zhP {n:Nat} {t:List Int} (h1:n+1<=100) (h2:Lv t) (h3:t.length<=n+1) (hb:brs t=[]) :
  GCon Tryz.prog 237 [.sl t.length (avs t)] (.own 198 (spl (n+1) t).length ((spl (n+1) t).flatMap spF)) [.any]:=by
 have cB:=zbe t (by omega) h2
 have cT:=zbE (n+1) t h1 h2 h3
 have cR:=zf7 [] (by simp) (by simp)
 have cK:=zbE (n+1) (zaQ []) h1 zmb (by simp [zaQ])
 rw [zm7,hb]
 rw [hb] at cB
 refine GCon.nwRes (n:=2) (cs:=[.val (.slice none 0 0),.sl 1 (mat [canF (n+1) (zaQ [])]),.int 0,.sl 1 (mat [canF (n+1) t]),.val (.slice none 0 0),.int 0]) (.cons .nil (.cons (.same _) (.cons (.same _) (.cons (.same _) (.cons .nil (.cons (.same _) .nil)))))) ?_
 refine zap Tryz.mixed ⟨6,[16,23,42,48,69,76],[],[]⟩ [] Tryz.func237 ?_
 rw [Tryz.ntmps237]
 simp [go_sem]
 refine CallVC.of (cB) ?_
 simp [go_sem]
 refine zac (3::5::6::8::10::List.range' 18 38) (fun i:Nat=>[(3,lfS n 0),(18,.int 0)]) (fun _=>True) (fun _=>0) 0 trivial (by simp [go_sem,lfS]) (by simp [go_sem,lfS]) ?_
 intro _ _
 simp [go_sem,lfS]
 refine zfa (3::11::12::56::List.range' 58 15) (11::12::List.range' 59 14) (fun j:Nat=>[(3,lfS n j),(56,.bor 3 []),(58,.int j)]) (fun j=>j<=1) (fun j=>1-j) 0 (by intro x i h1 h2; have:i=3\/i=56\/i=58:=(by simp at h1 h2; omega); rcases this with rfl | rfl | rfl <;> rfl) (by intro i h; simp at h |-; omega) (by simp) (by simp [go_sem,lfS]) (by simp [go_sem,kl,lfS]) ?_
 intro j hj
 have hj01:j=0\/j=1:=by omega
 rcases hj01 with rfl | rfl
 .simp [go_sem,lfS]
  refine CallVC.of (cR) ?_
  simp [go_sem]
  refine CallVC.of (cK) ?_
  simp [go_sem]
  have cl:(canF (n+1) (zaQ [])).length=1:=zbZ (n+1) (zaQ []) zmb (by simp [zaQ])
  refine ⟨1,by omega,by omega,zaa _ _ _ (by simp),?_⟩
  have cl2:(canF (n+1) [0]).length=1:=cl
  simp [lfS,mat,cl2,zaQ]
 .simp [go_sem,lfS]
  refine CallVC.of (cT) ?_
  simp [go_sem]
  simp [mat,zbZ (n+1) t h2 h3]
end Go.Proofs.YthhdollpkieknaaGreat


namespace Go.Proofs.YthhdollpkieknaaGreat
open Go.Abs
theorem zna:∀ X:List Spl,frzL (X.flatMap spF)=X.flatMap spF
 | []=>rfl
 | s::X=>by
  have:=zna X
  simp only [List.flatMap_cons,spF,List.cons_append,List.nil_append]
  simp [frzL,frz,this]
theorem zgg {L:List Spl} {i:Nat} (h:i<L.length):(L.flatMap spF).drop (i*3)=spF (L[i]?.getD ([],[],0))++(L.drop (i+1)).flatMap spF:=by
 have e1:((L.take i).flatMap spF).length=i*3:=by rw [zaK,List.length_take,Nat.min_eq_left (by omega)]
 have e2:L.drop i=L[i]?.getD ([],[],0)::L.drop (i+1):=by rw [List.drop_eq_getElem_cons h]; simp [h]
 have e3:L.flatMap spF=(L.take i).flatMap spF++(L.drop i).flatMap spF:=by rw [<- List.flatMap_append,List.take_append_drop]
 rw [e3,List.drop_append_of_le_length (by omega),e2,List.flatMap_cons,List.drop_eq_nil_of_le (by omega),List.nil_append]
def xS (n:Nat) (bs:List (List Int)) (i:Nat):AV:=if i=0 then .own 198 1 [.val (.slice none 0 0),.val (.slice none 0 0),.int 0] else .own 198 (fldS n (bs.take i)).length ((fldS n (bs.take i)).flatMap spF)
def mxT (n:Nat) (L:List Spl) (j:Nat):List AV:=((L.take j).map (canS n)).flatMap spF++(L.drop j).flatMap spF
theorem zt5 (n:Nat) (L:List Spl):mxT n L 0=L.flatMap spF:=by simp [mxT]
theorem zxy (n:Nat) (L:List Spl):mxT n L L.length=(L.map (canS n)).flatMap spF:=by simp [mxT]
theorem zxx (n:Nat) (L:List Spl) {j:Nat} (h:j<=L.length):(mxT n L j).length=L.length*3:=by
 unfold mxT
 rw [List.length_append,zaK,zaK,List.length_map,List.length_take,List.length_drop,Nat.min_eq_left h]; omega
theorem zvD (n:Nat) {L:List Spl} {j:Nat} (h:j<L.length):(mxT n L j).drop (j*3)=spF (L[j]?.getD ([],[],0))++(L.drop (j+1)).flatMap spF:=by
 have e1:(((L.take j).map (canS n)).flatMap spF).length=j*3:=by rw [zaK,List.length_map,List.length_take,Nat.min_eq_left (by omega)]
 have e2:L.drop j=L[j]?.getD ([],[],0)::L.drop (j+1):=by rw [List.drop_eq_getElem_cons h]; simp [h]
 unfold mxT
 rw [List.drop_append_of_le_length (by omega),e2,List.flatMap_cons,List.drop_eq_nil_of_le (by omega),List.nil_append]
theorem set1 (R:List AV) (x1 x2 y:AV):∀ P:List AV,(P++x1::x2::R).set (P.length+1) y=P++x1::y::R
 | []=>rfl
 | p::P=>by
  have:=set1 R x1 x2 y P
  simp only [List.cons_append,List.length_cons,List.set_cons_succ]
  rw [this]
theorem zx3 (n:Nat) {L:List Spl} {j:Nat} (h:j<L.length):(mxT n L j).set (j*3+1) (.sl 1 (mat [canF (n+1) (zaQ (L[j]?.getD ([],[],0)).2.1)]))=mxT n L (j+1):=by
 have e1:(((L.take j).map (canS n)).flatMap spF).length=j*3:=by rw [zaK,List.length_map,List.length_take,Nat.min_eq_left (by omega)]
 have e2:L.drop j=L[j]?.getD ([],[],0)::L.drop (j+1):=by rw [List.drop_eq_getElem_cons h]; simp [h]
 have e3:L.take (j+1)=L.take j++[L[j]?.getD ([],[],0)]:=by
  rw [List.take_succ_eq_append_getElem h,List.getElem?_eq_getElem h]; rfl
 unfold mxT
 rw [e2,e3,List.flatMap_cons,List.map_append,List.flatMap_append,<- e1]
 refine (set1 _ _ _ _ _).trans ?_
 simp [canS,spF]
def zS (M:List Spl) (j:Nat):AV:=if j=0 then .own 198 0 [] else .own 198 M.length (M.flatMap spF)
theorem zlc:∀ (n:Nat) (t:List Int),zlD n t=true ->
  GCon Tryz.prog 237 [.sl t.length (avs t)] (.own 198 (spl n t).length ((spl n t).flatMap spF)) [.any]:=by
 intro n
 induction n with
 | zero=>intro t h; simp [zlD] at h
 | succ n ih =>
  intro t h
  obtain ⟨h1,h2,h3,h4,h5,h6⟩:=zpo h
  have cB:=zbe t (by omega) h2
  by_cases hb:brs t=[]
  .exact zhP h1 h2 h3 hb
  rw [zm7]
  refine GCon.nwRes (cs:=((fldS n (brs t)).map (canS n)).flatMap spF++[.sl 1 (mat [canF (n+1) t]),.val (.slice none 0 0),.int 0]) (by rw [List.flatMap_append]; exact NWL.app (.cons (.same _) (.cons .nil (.cons (.same _) .nil))) _) ?_
  have cT:=zbE (n+1) t h1 h2 h3
  refine zap Tryz.mixed ⟨6,[16,23,42,48,69,76],[1000000+237,1000000+285],[]⟩ [] Tryz.func237 ?_
  rw [Tryz.ntmps237]
  simp [go_sem]
  refine CallVC.of (cB) ?_
  simp [go_sem]
  have bl:(brs t).length<t.length:=zi7 h2
  generalize brs t=bs at *
  refine zac (3::5::6::8::10::List.range' 18 38) (fun i:Nat=>[(3,xS n bs i),(18,.int i)]) (fun i=>i<=bs.length) (fun i=>bs.length-i) 0 (by simp) (by simp [go_sem,xS]) (by simp [go_sem,xS]) ?_
  intro i hi
  by_cases hib:i<bs.length
  .have hii:(i:Int)<bs.length:=by omega
   have hm:bs[i]?.getD []∈bs:=memD [] hib
   obtain ⟨b1,b2,b3⟩:=h4 _ hm
   have cI:=ih _ b1
   have md:=zag hib
   have sn:fldS n (bs.take (i+1))=zb8 (fldS n (bs.take i)) (spl n (bs[i]?.getD [])):=by
    rw [List.take_succ_eq_append_getElem hib,zpV,List.getElem?_eq_getElem hib]; rfl
   obtain ⟨l1,l2⟩:=h5 i hi
   obtain ⟨l3,l4⟩:=h5 (i+1) (by omega)
   rw [sn] at l3 l4
   generalize bs[i]?.getD []=b at *
   generalize spl n b=M at *
   by_cases hi0:i=0
   .have hx:xS n bs i=.own 198 1 [.val (.slice none 0 0),.val (.slice none 0 0),.int 0]:=by unfold xS; rw [if_pos hi0]
    rw [hx]
    have L0:fldS n (bs.take i)=[([],[],0)]:=by rw [hi0]; simp [fldS]
    have M0:zb8 [([],[],0)] M=M:=by
     have e:zb8 [([],[],0)] M=M.map fun c=>(c.1,c.2.1,(0:Int)):=by simp [zb8]
     rw [e]
     refine (List.map_congr_left (g:=id) fun c hc=>?_).trans (List.map_id _)
     obtain ⟨_,_,c3⟩:=zeL (b3 c hc)
     obtain ⟨a,b,c⟩:=c
     simp only at c3
     subst c3; rfl
    rw [L0,M0] at sn
    have hx1:xS n bs (i+1)=.own 198 M.length (M.flatMap spF):=by unfold xS; rw [if_neg (by omega),sn]
    simp [go_sem,hii,md,frzL,frz]
    refine ⟨hb,?_⟩
    refine zac (6::8::10::List.range' 25 29) (fun j:Nat=>[(6,zS M j),(25,.int j)]) (fun j=>j<=1) (fun j=>1-j) 0 (by simp) (by simp [go_sem,zS]) (by simp [go_sem,zS]) ?_
    intro j hj
    have hj01:j=0\/j=1:=by omega
    rcases hj01 with rfl | rfl
    .simp [go_sem,zS]
     refine ⟨_,_,cI,?_⟩
     simp [go_sem]
     refine zac (6::10::List.range' 32 21) (fun k:Nat=>[(6,.own 198 k ((M.take k).flatMap spF)),(32,.int k)]) (fun k=>k<=M.length) (fun k=>M.length-k) 0 (by simp) (by simp [go_sem]) (by simp [go_sem]) ?_
     intro k hk
     by_cases hkm:k<M.length
     .have hki:(k:Int)<M.length:=by omega
      have dr2:=zgg hkm
      have nM:¬ M.flatMap spF=[]:=by intro e; have:=zaK M; rw [e] at this; simp at this; omega
      obtain ⟨c1,c2,c3⟩:=zeL (b3 _ (memD ([],[],0) hkm))
      have tk:M.take (k+1)=M.take k++[M[k]?.getD ([],[],0)]:=by
       rw [List.take_succ_eq_append_getElem hkm,List.getElem?_eq_getElem hkm]; rfl
      have cA:=zku (M[k]?.getD ([],[],0)).1 (by omega)
      have cC:=zku (M[k]?.getD ([],[],0)).2.1 (by omega)
      generalize M[k]?.getD ([],[],0)=c at *
      obtain ⟨ca,cb,cc⟩:=c
      simp only [spF] at dr2
      simp only at c1 c2 c3 tk cA cC
      subst c3
      have cl:=zaK (M.take k)
      rw [List.length_take,Nat.min_eq_left (by omega)] at cl
      have lM:=zaK M
      generalize hC:(M.take k).flatMap spF=C at *
      generalize hMC:M.flatMap spF=MC at *
      simp [go_sem,hki,dr2]
      refine ⟨⟨nM,by omega⟩,by kernel_rfl,?_⟩
      refine ⟨_,_,cA,?_⟩
      simp [go_sem]
      refine ⟨_,_,cC,?_⟩
      simp [go_sem]
      refine ⟨⟨by rw [cl],by omega,by omega⟩,?_⟩
      refine ⟨by kernel_rfl,?_⟩
      simp [go_sem]
      refine ⟨⟨by omega,by omega⟩,k+1,by omega,by omega,zaa _ _ _ (by simp),?_⟩
      refine ⟨⟨by omega,?_⟩,by omega⟩
      rw [tk,List.flatMap_append,hC]
      simp [spF]
     .have e:k=M.length:=by omega
      subst e
      have hki:¬ (M.length:Int)<M.length:=by omega
      rw [List.take_length]
      simp [go_sem,hki]
      exact ⟨1,by omega,by omega,(Off.reset (by intro x hx; simp at hx |-; omega) (by simp) (by simp [go_sem,zaa])),by simp [zS],by simp [zS,go_sem]⟩
    .simp [go_sem,zS]
     exact ⟨⟨by omega,by omega⟩,i+1,by omega,by omega,(Off.reset (by intro x hx; simp at hx |-; omega) (by simp) (by simp [go_sem,zaa])),⟨by rw [hx1],by omega⟩,by simp [hx1,go_sem]⟩
   .have hx:xS n bs i=.own 198 (fldS n (bs.take i)).length ((fldS n (bs.take i)).flatMap spF):=by unfold xS; rw [if_neg hi0]
    rw [hx]
    generalize fldS n (bs.take i)=L at *
    simp [go_sem,hii,md,zna]
    refine ⟨hb,?_⟩
    refine zac (6::8::10::List.range' 25 29) (fun j:Nat=>[(6,.own 198 (zb8 (L.take j) M).length ((zb8 (L.take j) M).flatMap spF)),(25,.int j)]) (fun j=>j<=L.length) (fun j=>L.length-j) 0 (by simp) (by simp [go_sem,zb8]) (by simp [go_sem]) ?_
    intro j hj
    by_cases hjl:j<L.length
    .have hji:(j:Int)<L.length:=by omega
     have dr:=zgg hjl
     have ms:zb8 (L.take (j+1)) M=zb8 (L.take j) M++M.map fun c=>((L[j]?.getD ([],[],0)).1++c.1,(L[j]?.getD ([],[],0)).2.1++c.2.1,(0:Int)):=by
      rw [List.take_succ_eq_append_getElem hjl,zps,List.getElem?_eq_getElem hjl]; rfl
     have nL:¬ L.flatMap spF=[]:=by intro e; have:=zaK L; rw [e] at this; simp at this; omega
     have lL:=zaK L
     obtain ⟨s1,s2,s3⟩:=zeL (l2 _ (memD ([],[],0) hjl))
     have ml:(zb8 (L.take j) M).length+M.length<=10000:=by
      rw [zsO,List.length_take,Nat.min_eq_left (by omega)]
      have:=Nat.mul_le_mul (show j<=99 by omega) b2
      omega
     generalize L[j]?.getD ([],[],0)=s at *
     obtain ⟨sa,sb,sc⟩:=s
     simp only [spF] at dr
     simp only at s1 s2 s3 ms
     subst s3
     generalize zb8 (L.take j) M=A at *
     generalize L.flatMap spF=LC at *
     simp [go_sem,hji,dr]
     refine ⟨nL,?_⟩
     refine ⟨_,_,cI,?_⟩
     simp [go_sem]
     refine zac (6::10::List.range' 32 21) (fun k:Nat=>[(6,.own 198 (A.length+k) ((A++(M.take k).map fun c=>(sa++c.1,sb++c.2.1,(0:Int))).flatMap spF)),(32,.int k)]) (fun k=>k<=M.length) (fun k=>M.length-k) 0 (by simp) (by simp [go_sem]) (by simp [go_sem]) ?_
     intro k hk
     by_cases hkm:k<M.length
     .have hki:(k:Int)<M.length:=by omega
      have dr2:=zgg hkm
      have nM:¬ M.flatMap spF=[]:=by intro e; have:=zaK M; rw [e] at this; simp at this; omega
      obtain ⟨c1,c2,c3⟩:=zeL (b3 _ (memD ([],[],0) hkm))
      have tk:(M.take (k+1)).map (fun c=>(sa++c.1,sb++c.2.1,(0:Int)))=(M.take k).map (fun c=>(sa++c.1,sb++c.2.1,(0:Int)))++[(sa++(M[k]?.getD ([],[],0)).1,sb++(M[k]?.getD ([],[],0)).2.1,0)]:=by
       rw [List.take_succ_eq_append_getElem hkm,List.map_append,List.getElem?_eq_getElem hkm]; rfl
      have cA:=zho sa (M[k]?.getD ([],[],0)).1 (by omega)
      have cC:=zho sb (M[k]?.getD ([],[],0)).2.1 (by omega)
      generalize M[k]?.getD ([],[],0)=c at *
      obtain ⟨ca,cb,cc⟩:=c
      simp only [spF] at dr2
      simp only at c1 c2 c3 tk cA cC
      subst c3
      have al:(A++(M.take k).map fun c=>(sa++c.1,sb++c.2.1,(0:Int))).length=A.length+k:=by rw [List.length_append,List.length_map,List.length_take]; omega
      have cl:=zaK (A++(M.take k).map fun c=>(sa++c.1,sb++c.2.1,(0:Int)))
      generalize hC:(A++(M.take k).map fun c=>(sa++c.1,sb++c.2.1,(0:Int))).flatMap spF=C at *
      have lM:=zaK M
      generalize hMC:M.flatMap spF=MC at *
      simp [go_sem,hki,dr2]
      refine ⟨⟨nM,by omega⟩,by kernel_rfl,?_⟩
      refine ⟨_,_,cA,?_⟩
      simp [go_sem]
      refine ⟨_,_,cC,?_⟩
      simp [go_sem]
      refine ⟨⟨by rw [cl,al],by omega,by omega⟩,?_⟩
      refine ⟨by kernel_rfl,?_⟩
      simp [go_sem]
      refine ⟨⟨by omega,by omega⟩,k+1,by omega,by omega,zaa _ _ _ (by simp),?_⟩
      refine ⟨⟨by omega,?_⟩,by omega⟩
      rw [<- List.map_take,tk,List.flatMap_append,<- List.append_assoc,<- List.flatMap_append,hC]
      simp [spF]
     .have e:k=M.length:=by omega
      subst e
      have hki:¬ (M.length:Int)<M.length:=by omega
      rw [List.take_length]
      simp [go_sem,hki]
      refine ⟨⟨by omega,by omega⟩,j+1,by omega,by omega,(Off.reset (by intro x hx; simp at hx |-; omega) (by simp) (by simp [go_sem,zaa])),?_⟩
      rw [ms]
      exact ⟨⟨by simp,by rw [List.flatMap_append]⟩,by omega⟩
    .have e:j=L.length:=by omega
     subst e
     have hji:¬ (L.length:Int)<L.length:=by omega
     rw [List.take_length]
     have hx1:xS n bs (i+1)=.own 198 (zb8 L M).length ((zb8 L M).flatMap spF):=by unfold xS; rw [if_neg (by omega),sn]
     simp [go_sem,hji]
     exact ⟨⟨by omega,by omega⟩,i+1,by omega,by omega,(Off.reset (by intro x hx; simp at hx |-; omega) (by simp) (by simp [go_sem,zaa])),⟨by rw [hx1],by omega⟩,by simp [hx1,go_sem]⟩
  .have e:i=bs.length:=by omega
   subst e
   have hl0:¬ bs.length=0:=by intro e; exact hb (List.length_eq_zero_iff.1 e)
   have hx:xS n bs bs.length=.own 198 (fldS n bs).length ((fldS n bs).flatMap spF):=by unfold xS; rw [if_neg hl0,List.take_length]
   have hii:¬ (bs.length:Int)<bs.length:=by omega
   obtain ⟨l1,l2⟩:=h5 bs.length (Nat.le_refl _)
   rw [List.take_length] at l1 l2
   rw [hx]
   generalize fldS n bs=L at *
   simp [go_sem,hii]
   refine zfa (3::11::12::56::List.range' 58 15) (11::12::List.range' 59 14) (fun j:Nat=>[(3,.own 198 L.length (mxT n L j)),(56,.bor 3 []),(58,.int j)]) (fun j=>j<=L.length) (fun j=>L.length-j) 0 (by intro x i h1 h2; have:i=3\/i=56\/i=58:=(by simp at h1 h2; omega); rcases this with rfl | rfl | rfl <;> rfl) (by intro i h; simp at h |-; omega) (by simp) (by simp [go_sem,zt5]) (by simp [go_sem,kl]) ?_
   intro j hj
   by_cases hjl:j<L.length
   .have hji:(j:Int)<L.length:=by omega
    obtain ⟨s1,s2,s3⟩:=zeL (l2 _ (memD ([],[],0) hjl))
    obtain ⟨r1,r2,r3⟩:=zuu (h6 _ (memD ([],[],0) hjl))
    have dr:=zvD n hjl
    have st:=zx3 n hjl
    have ml:=zxx n L hj
    have nm:¬ mxT n L j=[]:=by intro e; rw [e] at ml; simp at ml; omega
    have cR:=zf7 (L[j]?.getD ([],[],0)).2.1 (by omega) (fun b hb=>⟨by have:=(r3 b hb).1; omega,fun x hx=>by have:=(r3 b hb).2 x hx; omega⟩)
    have cK:=zbE (n+1) _ h1 r1 r2
    generalize L[j]?.getD ([],[],0)=s at *
    obtain ⟨sa,sb,sc⟩:=s
    simp only [spF] at dr
    simp only at s1 s2 s3 cR cK st
    simp [go_sem,hji,dr]
    refine ⟨⟨nm,by omega⟩,?_⟩
    refine CallVC.of (cR) ?_
    simp [go_sem]
    refine CallVC.of (cK) ?_
    simp [go_sem]
    simp only at r1 r2
    have e:mat [canF (n+1) (zaQ sb)]=[.sl (zaQ sb).length (avs (canF (n+1) (zaQ sb)))]:=by simp [mat,zbZ (n+1) (zaQ sb) r1 r2]
    rw [e] at st
    refine ⟨hjl,nm,by omega,⟨by omega,by omega⟩,j+1,by omega,by omega,zaa _ _ _ (by simp),?_⟩
    first
     | exact ⟨st,by omega⟩
     | (refine ⟨?_,by omega⟩; simpa using st)
     | simp [st]
   .have e:j=L.length:=by omega
    subst e
    have hji:¬ (L.length:Int)<L.length:=by omega
    rw [zxy]
    simp [go_sem,hji]
    refine CallVC.of (cT) ?_
    simp [go_sem]
    refine ⟨⟨?_,by omega,by omega⟩,by simp [mat,zbZ (n+1) t h2 h3]⟩
    have:=zaK (L.map (canS n))
    simpa using this
end Go.Proofs.YthhdollpkieknaaGreat


namespace Go.Proofs.YthhdollpkieknaaGreat
open Go.Abs
mutual
inductive NX:AV->AV->Prop
 | same (c:AV):NX c c
 | nil:NX (.val (.slice none 0 0)) (.sl 0 [])
 | sl (n:Nat) {cs cs':List AV} (h:NXL cs cs'):NX (.sl n cs) (.sl n cs')
 | own (e:TypeId) (n:Nat) {cs cs':List AV} (h:NXL cs cs'):NX (.own e n cs) (.own e n cs')
inductive NXL:List AV->List AV->Prop
 | nil:NXL [] []
 | cons {c c':AV} {cs cs':List AV} (h:NX c c') (t:NXL cs cs'):NXL (c::cs) (c'::cs')
end
theorem NXL.same:∀ l:List AV,NXL l l
 | []=>.nil
 | c::l=>.cons (.same c) (NXL.same l)
theorem NXL.app {a b:List AV} (h:NXL a b):∀ {p q:List AV},NXL p q->NXL (p++a) (q++b)
 | _,_,.nil=>h
 | _,_,.cons k t=>.cons k (NXL.app h t)
theorem NXL.ne {a b:List AV} (h:NXL a b) (e:b=[]):a=[]:=by
 cases h with
 | nil=>rfl
 | cons=>simp at e
section
variable {P:Program} {w:World} {F:Nat->Prop}
mutual
theorem NX.rep {c c':AV} {v:Value} {os:List Nat} (h:NX c c') (hr:RepC P w F c v os):RepC P w F c' v os:=by
 cases h with
 | same=>exact hr
 | nil=>cases hr with
  | val _ _=>exact .sl0 none 0
 | sl n h=>cases hr with
  | sl0 base cap=>cases h; exact .sl0 base cap
  | sl b off n cap c e fr cs hF hb hl hn=>exact .sl b off n cap c e fr _ hF hb (NXL.rep h hl) hn
 | own e n h=>cases hr with
  | own0=>cases h; exact .own0 _
  | own b _ _ cap c _ os3 hb hn hc hl=>exact .own b _ _ cap c _ os3 hb hn hc (NXL.rep h hl)
theorem NXL.rep {cs cs':List AV} {vs:List Value} {os:List Nat} (h:NXL cs cs') (hr:RepL P w F cs vs os):RepL P w F cs' vs os:=by
 cases h with
 | nil=>exact hr
 | cons h t=>cases hr with
  | cons _ v os _ vs os' h1 h2=>exact .cons _ _ _ _ _ _ (NX.rep h h1) (NXL.rep t h2)
end
theorem NX.repT {tm:Nat->Value} {oss:Nat->List Nat} {c c':AV} {v:Value} {os:List Nat} (h:NX c c') (hr:RepT P w F tm oss c v os):RepT P w F tm oss c' v os:=by
 cases h with
 | same=>exact hr
 | nil=>cases hr with
  | cell _ _ _ hc=>exact .cell _ _ _ (NX.rep .nil hc)
 | sl n h=>cases hr with
  | cell _ _ _ hc=>exact .cell _ _ _ (NX.rep (.sl n h) hc)
 | own e n h=>cases hr with
  | cell _ _ _ hc=>exact .cell _ _ _ (NX.rep (.own e n h) hc)
theorem NXL.len {cs cs':List AV} (h:NXL cs cs'):cs'.length=cs.length:=by
 induction cs generalizing cs' with
 | nil=>cases h; rfl
 | cons c cs ih=>cases h with
  | cons h t=>rw [List.length_cons,List.length_cons,ih t]
theorem NXL.repT {tm:Nat->Value} {oss:Nat->List Nat} {cs cs':List AV} {vs:List Value} {os:List Nat} (h:NXL cs cs') (hr:RepTL P w F tm oss cs vs os):RepTL P w F tm oss cs' vs os:=by
 induction cs generalizing cs' vs os with
 | nil=>cases h; exact hr
 | cons c cs ih=>cases h with
  | cons h t=>cases hr with
   | cons _ v os _ vs os' h1 h2=>exact .cons _ _ _ _ _ _ (h.repT h1) (ih t h2)
end
theorem GCon.nx [DrawK] {P:Program} {f:FuncId} {args:List AV} {r r':AV} {outs:List AV} (hw:NX r r') (h:GCon P f args r outs):GCon P f args r' outs:=by
 refine ⟨h.1,fun w vs os F0 hl hn ho hF hr=>(h.2 w vs os F0 hl hn ho hF hr).mono ?_⟩
 rintro x w' ⟨v,orr,oo,F',h1,h2,h3,h4,h5,h6⟩
 exact ⟨v,orr,oo,F',h1,h2,h3,h4,fun tm oss=>hw.repT (h5 tm oss),h6⟩
theorem GCon.nxA [DrawK] {P:Program} {f:FuncId} {args:List AV} {cs cs':List AV} {outs:List AV} (hw:NXL cs cs') (h:GCon P f args (.agg cs) outs):GCon P f args (.agg cs') outs:=by
 refine ⟨h.1,fun w vs os F0 hl hn ho hF hr=>(h.2 w vs os F0 hl hn ho hF hr).mono ?_⟩
 rintro x w' ⟨v,orr,oo,F',h1,h2,h3,h4,h5,h6⟩
 refine ⟨v,orr,oo,F',h1,h2,h3,h4,fun tm oss=>?_,h6⟩
 have k:=h5 tm oss
 cases k with
 | cell _ _ _ hc=>cases hc
 | agg _ vs2 os2 hl2 hc=>exact .agg _ _ _ (by rw [hw.len]; exact hl2) (hw.repT hc)
theorem RCon.toG [DrawK] {P:Program} {f:FuncId} {args:List AV} {r:AV} {outs:List AV} (h:RCon P f args fun x o=>x=r/\o=outs):GCon P f args r outs:=by
 refine ⟨h.1,fun w vs os F0 hl hn ho hF hr=>(h.2 w vs os F0 hl hn ho hF hr).mono ?_⟩
 rintro x w' ⟨_,_,⟨rfl,rfl⟩,k⟩
 exact k
theorem GCon.nxL [DrawK] {P:Program} {f:FuncId} {args args':List AV} {r:AV} {outs:List AV} (hw:NXL args args') (h:GCon P f args' r outs):GCon P f args r outs :=
 ⟨h.1,fun w vs os F0 hl hn ho hF hr=>h.2 w vs os F0 (by rw [hw.len]; exact hl) hn ho hF fun tm oss=>hw.repT (hr tm oss)⟩
theorem GCon.frzR [DrawK] {P:Program} {f:FuncId} {args:List AV} {r r':AV} {outs:List AV} (h:GCon P f args r outs) (e:frz r=r'):GCon P f args r' outs:=by
 subst e
 refine ⟨h.1,fun w vs os F0 hl hn ho hF hr=>(h.2 w vs os F0 hl hn ho hF hr).mono ?_⟩
 rintro x w' ⟨v,orr,oo,F',h1,h2,h3,h4,h5,h6,h7,h8,h9⟩
 refine ⟨v,[],oo,fun b=>F' b\/b∈orr,h1,h2,fun b hb=>.inl (h3 b hb),fun b hb=>?_,fun tm oss=>(h5 tm oss).frz (fun b hb=>.inl hb) (fun b hb=>.inr hb),fun tm oss=>?_,h7,?_,fun b hb=>?_⟩
 .rcases hb with hb | hb
  .exact h4 b hb
  .have:=h9 b (.inl hb)
   exact .inr ⟨this.1,this.2.1⟩
 .have:=RepTL.kl (w':=w') (F':=fun b=>F' b\/b∈orr) (tm':=tm) (oss':=oss) [] (fun b hb=>.inl hb) (fun _ _ _ _ h=>h) (h6 tm oss) (fun _ _=>rfl)
  rwa [zdb] at this
 .exact (List.nodup_append.1 h8).2.1
 .have hb:b∈oo:=by simpa using hb
  obtain ⟨k1,k2,k3⟩:=h9 b (.inr hb)
  refine ⟨k1,k2,fun hf=>?_⟩
  rcases hf with hf | hf
  .exact k3 hf
  .exact (List.nodup_append.1 h8).2.2 b hf b hb rfl
end Go.Proofs.YthhdollpkieknaaGreat


namespace Go.Proofs.YthhdollpkieknaaGreat
open Go.Abs
def gokS (s:Spl):Bool:=(decide (s.1.length<=19) && s.1.all fun r=>decide (r.length<=100)) && (decide (s.2.1.length<=19) && s.2.1.all fun r=>decide (r.length<=100))
def cutL (t:List Int):List Spl:=gthS (srtS ((spl 6 t).map cntF))
theorem zAf:(trN 6).all (fun t=>decide ((spl 6 t).length<=1000) && (spl 6 t).all gokS)=true:=by kernel_rfl
theorem zvY:(trN 6).all (fun t=>decide ((cutL t).length<=100) && (cutL t).all fun s=>decide (s.1.length<=6) && (s.1.all (fun r=>decide (r.length<=6)) && (decide (s.2.1.length<=1) && (s.2.1.all (fun r=>decide (1<=r.length) && decide (r.length<=6)) && (decide (0<=s.2.2) && decide (s.2.2<=100))))))=true:=by kernel_rfl
theorem zxj {t:List Int} (h:t∈trN 6):(∀ s∈spl 6 t,(s.1.length<=19/\∀ r∈s.1,r.length<=100)/\(s.2.1.length<=19/\∀ r∈s.2.1,r.length<=100))/\(spl 6 t).length<=1000:=by
 have k:=List.all_eq_true.1 zAf t h
 simp only [Bool.and_eq_true,decide_eq_true_eq,List.all_eq_true,gokS] at k
 exact ⟨fun s hs=>k.2 s hs,k.1⟩
theorem zql {t:List Int} (h:t∈trN 6):(cutL t).length<=100/\∀ s∈cutL t,s.1.length<=6/\(∀ r∈s.1,r.length<=6)/\s.2.1.length<=1/\(∀ r∈s.2.1,1<=r.length/\r.length<=6)/\0<=s.2.2/\s.2.2<=100:=by
 have k:=List.all_eq_true.1 zvY t h
 simp only [Bool.and_eq_true,decide_eq_true_eq,List.all_eq_true] at k
 exact k
def tkL (s:Spl):List Int:=s.2.1.headD []
def cuX (s:Spl):List AV:=[.sl s.1.length (mat s.1),if s.2.1=[] then .val (.slice none 0 0) else .sl (tkL s).length (avs (tkL s)),.int s.2.2]
def cuF (s:Spl):List AV:=[.sl s.1.length (mat s.1),.sl (tkL s).length (avs (tkL s)),.int s.2.2]
theorem zBw:∀ L:List Spl,NXL (L.flatMap cuX) (L.flatMap cuF)
 | []=>.nil
 | s::L=>by
  rw [List.flatMap_cons,List.flatMap_cons]
  refine NXL.app (zBw L) (.cons (.same _) (.cons ?_ (.cons (.same _) .nil)))
  by_cases h:s.2.1=[]
  .rw [if_pos h]
   have e:tkL s=[]:=by unfold tkL; rw [h]; rfl
   rw [e]
   exact .nil
  .rw [if_neg h]; exact .same _
theorem zzI (X:List Spl):(X.flatMap cuX).length=X.length*3:=by
 induction X with
 | nil=>rfl
 | cons s X ih=>rw [List.flatMap_cons,List.length_append,ih]; simp [cuX]; omega
theorem zvl {t:List Int} (h:t∈trN 6):GCon Tryz.prog 161 [.sl t.length (avs t)] (.own 148 (cutL t).length ((cutL t).flatMap cuF)) [.any]:=by
 have cS:=zlc 6 t (List.all_eq_true.1 zrr t h)
 have cG:=zoP (spl 6 t) (zxj h).1 (zxj h).2
 obtain ⟨b1,b2⟩:=zql h
 refine GCon.nx (.own _ _ (zBw _)) ?_
 unfold cutL at *
 generalize spl 6 t=Z at *
 generalize gthS (srtS (Z.map cntF))=L at *
 refine zap Tryz.mixed ⟨7,[],[1000000+237,1000000+236],[]⟩ [] Tryz.func161 ?_
 rw [Tryz.ntmps161]
 simp [go_sem]
 refine ⟨_,_,cS,?_⟩
 simp [go_sem]
 refine ⟨_,_,cG,?_⟩
 simp [go_sem]
 refine zac (3::5::6::List.range' 12 23) (fun i:Nat=>[(3,.own 148 i ((L.take i).flatMap cuX)),(12,.int i)]) (fun i=>i<=L.length) (fun i=>L.length-i) 0 (by simp) (by simp [go_sem]) (by simp [go_sem]) ?_
 intro i hi
 by_cases hib:i<L.length
 .have hii:(i:Int)<L.length:=by omega
  have dr:=zgg hib
  have nL:¬ L.flatMap spF=[]:=by intro e; have:=zaK L; rw [e] at this; simp at this; omega
  have hm:=memD ([],[],0) hib
  obtain ⟨c1,c2,c3,c4,c5,c6⟩:=b2 _ hm
  have tk:L.take (i+1)=L.take i++[L[i]?.getD ([],[],0)]:=by
   rw [List.take_succ_eq_append_getElem hib,List.getElem?_eq_getElem hib]; rfl
  have cl:=zzI (L.take i)
  rw [List.length_take,Nat.min_eq_left (by omega)] at cl
  have lL:=zaK L
  generalize L[i]?.getD ([],[],0)=s at *
  obtain ⟨a,b,k⟩:=s
  simp only [spF] at dr
  simp only at c1 c2 c3 c4 c5 c6
  generalize hC:(L.take i).flatMap cuX=C at *
  generalize hMC:L.flatMap spF=MC at *
  cases b with
  | nil =>
   simp [go_sem,hii,dr]
   refine ⟨⟨nL,by omega⟩,?_⟩
   refine ⟨⟨by rw [cl],by omega,by omega⟩,⟨by omega,by omega⟩,i+1,by omega,by omega,zaa _ _ _ (by simp),?_⟩
   rw [tk,List.flatMap_append,hC]
   refine ⟨⟨by omega,?_⟩,by omega⟩
   simp [cuX,tkL]
  | cons r b =>
   have e:b=[]:=List.length_eq_zero_iff.1 (by simpa using c3)
   subst e
   simp [go_sem,hii,dr,mat]
   refine ⟨⟨nL,by omega⟩,?_⟩
   refine ⟨⟨by rw [cl],by omega,by omega⟩,⟨by omega,by omega⟩,i+1,by omega,by omega,zaa _ _ _ (by simp),?_⟩
   rw [tk,List.flatMap_append,hC]
   refine ⟨⟨by omega,?_⟩,by omega⟩
   simp [cuX,tkL,mat]
 .have e:i=L.length:=by omega
  subst e
  have hii:¬ (L.length:Int)<L.length:=by omega
  rw [List.take_length]
  simp [go_sem,hii]
end Go.Proofs.YthhdollpkieknaaGreat


namespace Go.Proofs.YthhdollpkieknaaGreat
end Go.Proofs.YthhdollpkieknaaGreat


namespace Go.Proofs.YthhdollpkieknaaGreat
open Go.Abs
def nvs (l:List Nat):List Int:=l.map fun (v:Nat)=>(v:Int)
theorem zjb (l:List Nat):(nvs l).length=l.length:=by simp [nvs]
theorem zBM {l:List Nat} {i:Nat} (h:i<l.length):(nvs l).getD i 0=((l[i]?.getD 0:Nat):Int):=by rw [List.getD_eq_getElem?_getD]; simp [nvs,h]
theorem N38.Ns {a:List Int} (h:N38 a):Ns a:=fun x hx=>by have:=h.2 x hx; exact ⟨this.1,by have:=this.2; omega⟩
theorem zA6 {a:List Int} (h:mapB a=true):N38 a:=by
 unfold mapB at h
 simp only [Bool.and_eq_true,decide_eq_true_eq] at h
 have hn:=zdH.1 h.2
 exact ⟨by omega,fun x hx=>by have:=hn x hx; exact ⟨this.1,by have:=this.2; omega⟩⟩
theorem N38.mapB {a:List Int} (h:N38 a):mapB a=true:=by
 unfold Go.Proofs.YthhdollpkieknaaGreat.mapB
 rw [h.1,zdH.2 h.Ns]; rfl
theorem zav {a:List Int} {v:Nat} (h:v<a.length):(avs a).drop v=.int (iat a v)::avs (a.drop (v+1)):=by
 rw [zae h,List.getD_eq_getElem?_getD]; rfl
def vlN (a:List Int) (l:List Nat):Int:=l.foldl (fun o v=>o*iat a v%10007) 1
theorem ziG (a:List Int) (l:List Nat) (v:Nat):vlN a (l++[v])=vlN a l*iat a v%10007:=by simp [vlN]
theorem zun (a:List Int) (l:List Nat):isN (vlN a l):=by
 rcases List.eq_nil_or_concat l with rfl | ⟨h,x,rfl⟩
 .show isN 1; exact ⟨by decide,by decide⟩
 .rw [List.concat_eq_append,ziG]; exact zaf _
theorem znT (A:Nat->Int) (v:Nat):∀ l,prI A (l++[v])=prI A l*A v
 | []=>by simp [prI]
 | w::l=>by rw [List.cons_append,prI,znT A v l,prI,Int.mul_assoc]
theorem zrV (a:List Int) (l:List Nat):vlN a l%10007=prI (iat a) l%10007:=by
 generalize hn:l.length=n
 induction n generalizing l with
 | zero=>rw [List.length_eq_zero_iff.1 hn]; rfl
 | succ n ih =>
  rcases List.eq_nil_or_concat l with rfl | ⟨h,x,rfl⟩
  .simp at hn
  .rw [List.concat_eq_append] at hn |-
   rw [ziG,znT,Int.emod_emod_of_dvd _ (Int.dvd_refl _)]
   exact zaq (ih h (by simpa using hn)) rfl
theorem zgM (a:List Int) (l:List Nat) (ha:Ns a) (hal:a.length<=1048576) (hl:l.length<=100) (h:∀ v∈l,v<a.length) :
  Con Tryz.prog 186 [.sl a.length (avs a),.sl l.length (avs (nvs l))] (.int (vlN a l)):=by
 refine zab Tryz.mixed ⟨8,[],[],[]⟩ Tryz.func186 ?_
 rw [Tryz.ntmps186]
 simp [go_sem]
 refine zac (5::7::List.range' 10 12) (fun i:Nat=>[(5,.int (vlN a (l.take i))),(10,.int i)]) (fun i=>i<=l.length) (fun i=>l.length-i) 0 (by simp) (by simp [go_sem,vlN]) (by simp [go_sem]) ?_
 intro i hi
 by_cases hil:i<l.length
 .have hii:(i:Int)<l.length:=by omega
  have hm:=h _ (memD 0 hil)
  have tk:l.take (i+1)=l.take i++[l[i]?.getD 0]:=by
   rw [List.take_succ_eq_append_getElem hil,List.getElem?_eq_getElem hil]; rfl
  have hN:=zun a (l.take i)
  have hv:isN (iat a (l[i]?.getD 0)):=ha.get _
  have cN:=za3 (vlN a (l.take i)*iat a (l[i]?.getD 0)) (zax hN hv).1 (zax hN hv).2
  have dr:=zae (show i<(nvs l).length by rw [zjb]; exact hil)
  rw [zBM hil] at dr
  have nl:¬ nvs l=[]:=by intro e; have:=zjb l; rw [e] at this; simp at this; omega
  have ar:=zav hm
  have na:¬ a=[]:=by intro e; rw [e] at hm; simp at hm
  have e:=ziG a (l.take i) (l[i]?.getD 0)
  rw [<- tk] at e
  have fm:=zax hN hv
  generalize l[i]?.getD 0=v at *
  generalize iat a v=x at *
  simp [go_sem,hii,dr,ar]
  refine ⟨nl,⟨hm,na⟩,⟨fm.1,fm.2⟩,?_⟩
  refine CallVC.of (cN) ?_
  simp [go_sem]
  refine ⟨⟨by omega,by omega⟩,i+1,by omega,by omega,zaa _ _ _ (by simp),?_⟩
  rw [e]
  exact ⟨rfl,by omega⟩
 .have e:i=l.length:=by omega
  subst e
  have hii:¬ (l.length:Int)<l.length:=by omega
  rw [List.take_length]
  simp [go_sem,hii]
def ctF (c:Ctp):List AV:=[.int c.1,.sl c.2.1.length (avs (nvs c.2.1)),.int c.2.2]
def fcF:List AV:=cutT.map fun r=>.sl r.length (r.flatMap ctF)
theorem zcZ (X:List Ctp):(X.flatMap ctF).length=X.length*3:=by
 induction X with
 | nil=>rfl
 | cons s X ih=>rw [List.flatMap_cons,List.length_append,ih]; simp [ctF]; omega
theorem zge {L:List Ctp} {i:Nat} (h:i<L.length):(L.flatMap ctF).drop (i*3)=ctF (L[i]?.getD (0,[],0))++(L.drop (i+1)).flatMap ctF:=by
 have e1:((L.take i).flatMap ctF).length=i*3:=by rw [zcZ,List.length_take,Nat.min_eq_left (by omega)]
 have e2:L.drop i=L[i]?.getD (0,[],0)::L.drop (i+1):=by rw [List.drop_eq_getElem_cons h]; simp [h]
 have e3:L.flatMap ctF=(L.take i).flatMap ctF++(L.drop i).flatMap ctF:=by rw [<- List.flatMap_append,List.take_append_drop]
 rw [e3,List.drop_append_of_le_length (by omega),e2,List.flatMap_cons,List.drop_eq_nil_of_le (by omega),List.nil_append]
theorem zoj:cutT.length=37:=by decide +kernel
theorem ziL {i:Nat} (h:i<37):fcF.drop i=.sl (ctR (i+1)).length ((ctR (i+1)).flatMap ctF)::fcF.drop (i+1):=by
 have hl:i<cutT.length:=by rw [zoj]; exact h
 unfold fcF ctR
 rw [<- List.map_drop,List.drop_eq_getElem_cons hl,List.map_cons,<- List.map_drop]
 simp [hl]
theorem zq5:¬ fcF=[]:=by
 have:=congrArg List.length (show fcF=cutT.map fun r=>.sl r.length (r.flatMap ctF) from rfl)
 rw [List.length_map,zoj] at this
 intro e
 rw [e] at this
 simp at this
theorem ztA {i:Nat} (hi:i<38):(ctR i).length<=100/\∀ c∈ctR i,c.2.1.length<=100/\c.1<=100:=by
 have ok:(List.range 38).all (fun i=>decide ((ctR i).length<=100) && (ctR i).all fun c=>decide (c.2.1.length<=100) && decide (c.1<=100))=true:=by decide +kernel
 have h:=List.all_eq_true.1 ok i (List.mem_range.2 hi)
 simp only [Bool.and_eq_true,List.all_eq_true,decide_eq_true_eq] at h
 exact h
def rsF (a b:List Int) (L:List Ctp):Int:=L.foldl (fun s c=>s+(c.1:Int)*(vlN a c.2.1*iat b c.2.2%10007)%10007) 0
theorem zgm (a b:List Int) (L:List Ctp) (c:Ctp):rsF a b (L++[c])=rsF a b L+(c.1:Int)*(vlN a c.2.1*iat b c.2.2%10007)%10007:=by simp [rsF]
theorem zey (A B:Nat->Int) (c:Ctp):∀ L,rowI A B (L++[c])=rowI A B L+(c.1:Int)*(prI A c.2.1*B c.2.2)
 | []=>by simp [rowI]
 | d::L=>by rw [List.cons_append,rowI,zey A B c L,rowI,Int.add_assoc]
theorem zoF (a b:List Int) (L:List Ctp):0<=rsF a b L/\rsF a b L<=10006*L.length:=by
 generalize hn:L.length=n
 induction n generalizing L with
 | zero=>rw [List.length_eq_zero_iff.1 hn]; exact ⟨Int.le_refl 0,by show (0:Int)<=_; omega⟩
 | succ n ih =>
  rcases List.eq_nil_or_concat L with rfl | ⟨h,x,rfl⟩
  .simp at hn
  .rw [List.concat_eq_append] at hn |-
   rw [zgm]
   have:=ih h (by simpa using hn)
   have m:=zaf ((x.1:Int)*(vlN a x.2.1*iat b x.2.2%10007))
   have:=m.1; have:=m.2
   omega
theorem zqQ (a b:List Int) (L:List Ctp):rsF a b L%10007=rowI (iat a) (iat b) L%10007:=by
 generalize hn:L.length=n
 induction n generalizing L with
 | zero=>rw [List.length_eq_zero_iff.1 hn]; rfl
 | succ n ih =>
  rcases List.eq_nil_or_concat L with rfl | ⟨h,x,rfl⟩
  .simp at hn
  .rw [List.concat_eq_append] at hn |-
   rw [zgm,zey]
   refine zcW (ih h (by simpa using hn)) ?_
   rw [Int.emod_emod_of_dvd _ (Int.dvd_refl _)]
   refine zaq rfl ?_
   rw [Int.emod_emod_of_dvd _ (Int.dvd_refl _)]
   exact zaq (zrV a _) rfl
theorem zdw (f:Nat->Int) {i:Nat} (h:i<38):(mk38 f).take (i+1)=(mk38 f).take i++[f i%10007]:=by
 have hl:i<(mk38 f).length:=by rw [(zdc f).1]; exact h
 rw [List.take_succ_eq_append_getElem hl]
 have:=zcA f h
 unfold iat at this
 rw [List.getElem?_eq_getElem hl] at this
 rw [<- this]; rfl
theorem znI (f:Nat->Int):(mk38 f).take 38=mk38 f:=List.take_of_length_le (by rw [(zdc f).1]; exact Nat.le_refl _)
theorem zpn (a b:List Int) (ha:N38 a) (hb:N38 b) :
  Con Tryz.prog 182 [.agg [.sl 37 (mat (trN 6)),.sl 37 fcF],.sl a.length (avs a),.sl b.length (avs b)] (.own 2 38 (avs (cvS a b))):=by
 have b0:=zav (a:=b) (v:=0) (by rw [hb.1]; omega)
 rw [List.drop_zero] at b0
 have nb:¬ b=[]:=by intro e; have:=hb.1; rw [e] at this; simp at this
 have t1:=zdw (cvI (iat a) (iat b)) (i:=0) (by omega)
 rw [List.take_zero,List.nil_append,cvI,if_pos rfl,Int.emod_eq_of_lt (hb.at 0).1 (hb.at 0).2] at t1
 have tk:=fun i (h:i<38)=>zdw (cvI (iat a) (iat b)) h
 have ta:=znI (cvI (iat a) (iat b))
 have la:=ha.1
 have lb:=hb.1
 have nf:=zq5
 have fd:=fun i h=>ziL (i:=i) h
 show Con Tryz.prog _ _ (.own _ 38 (avs (mk38 (cvI (iat a) (iat b)))))
 generalize hO:mk38 (cvI (iat a) (iat b))=O at *
 generalize fcF=FC at *
 have b0l:0<b.length:=by omega
 refine zab Tryz.mixed ⟨13,[],[],[]⟩ Tryz.func182 ?_
 rw [Tryz.ntmps182]
 simp [go_sem,b0]
 refine ⟨b0l,?_⟩
 refine zac (7::9::10::12::List.range' 20 34) (fun i:Nat=>[(7,.own 2 (i+1) (avs (O.take (i+1)))),(20,.int i)]) (fun i=>i<=37) (fun i=>37-i) 0 (by simp) (by simp [go_sem,t1,avs]) (by simp [go_sem]) ?_
 intro i hi
 by_cases hil:i<37
 .have hii:(i:Int)<37:=by omega
  have dr:=fd i hil
  obtain ⟨r1,r2⟩:=ztA (i:=i+1) (by omega)
  have rk:=zcw (i:=i+1) (by omega)
  have tk1:=tk (i+1) (by omega)
  have cv:cvI (iat a) (iat b) (i+1)=rowI (iat a) (iat b) (ctR (i+1)):=by unfold cvI; rw [if_neg (by omega)]
  rw [cv] at tk1
  have lo:O.length=38:=by rw [<- hO]; exact (zdc _).1
  generalize ctR (i+1)=R at *
  simp [go_sem,hii,dr]
  refine ⟨nf,?_⟩
  refine zac (10::12::List.range' 26 22) (fun j:Nat=>[(10,.int (rsF a b (R.take j))),(26,.int j)]) (fun j=>j<=R.length) (fun j=>R.length-j) 0 (by simp) (by simp [go_sem,rsF]) (by simp [go_sem]) ?_
  intro j hj
  by_cases hjl:j<R.length
  .have hji:(j:Int)<R.length:=by omega
   have cd:=zge hjl
   have hm:=memD (0,[],0) hjl
   obtain ⟨q1,q2⟩:=r2 _ hm
   obtain ⟨k1,k2⟩:=rk _ hm
   have tj:R.take (j+1)=R.take j++[R[j]?.getD (0,[],0)]:=by
    rw [List.take_succ_eq_append_getElem hjl,List.getElem?_eq_getElem hjl]; rfl
   have rs:=zgm a b (R.take j) (R[j]?.getD (0,[],0))
   rw [<- tj] at rs
   have bd:=zoF a b (R.take j)
   rw [List.length_take] at bd
   have nR:¬ R.flatMap ctF=[]:=by intro e; have:=zcZ R; rw [e] at this; simp at this; omega
   have lR:=zcZ R
   generalize R[j]?.getD (0,[],0)=c at *
   obtain ⟨n,l,t⟩:=c
   simp only [ctF] at cd q1 q2 k1 k2 rs
   have cV:=zgM a l ha.Ns (by omega) q1 (fun v hv=>by have:=k1 v hv; omega)
   have vN:=zun a l
   have bN:isN (iat b t):=hb.Ns.get t
   have br:=zav (a:=b) (v:=t) (by omega)
   rw [b0,List.drop_one] at br
   have f1:=zax vN bN
   have c1:=za3 (vlN a l*iat b t) f1.1 f1.2
   have m1:=zaf (vlN a l*iat b t)
   have f2:fits ((n:Int)*(vlN a l*iat b t%10007)):=zax (show isN (n:Int) from ⟨by omega,by omega⟩) m1
   have c2:=za3 ((n:Int)*(vlN a l*iat b t%10007)) f2.1 f2.2
   have m2:=zaf ((n:Int)*(vlN a l*iat b t%10007))
   generalize rsF a b (R.take j)=s at *
   generalize hMC:R.flatMap ctF=MC at *
   generalize vlN a l=v at *
   generalize iat b t=y at *
   simp [go_sem,hji,cd,br]
   refine ⟨nR,by kernel_rfl,?_⟩
   refine CallD.of (cV) ?_
   simp [go_sem]
   simp [go_sem,br]
   refine ⟨by omega,⟨f1.1,f1.2⟩,?_⟩
   refine CallD.of (c1) ?_
   simp [go_sem]
   refine ⟨⟨f2.1,f2.2⟩,?_⟩
   refine CallD.of (c2) ?_
   simp [go_sem]
   refine ⟨⟨by omega,by omega⟩,?_⟩
   refine ⟨by kernel_rfl,?_⟩
   simp [go_sem]
   refine ⟨⟨by omega,by omega⟩,j+1,by omega,by omega,zaa _ _ _ (by simp),?_⟩
   rw [rs]
   exact ⟨rfl,by omega⟩
  .have e:j=R.length:=by omega
   subst e
   have hji:¬ (R.length:Int)<R.length:=by omega
   rw [List.take_length]
   have bd:=zoF a b R
   have rm:=zqQ a b R
   rw [<- rm] at tk1
   have c1:=za3 (rsF a b R) (by omega) (by omega)
   generalize rsF a b R=s at *
   simp [go_sem,hji]
   refine CallVC.of (c1) ?_
   simp [go_sem]
   refine ⟨⟨by omega,by omega,by omega⟩,⟨by omega,by omega⟩,i+1,by omega,by omega,(Off.reset (by intro x hx; simp at hx |-; omega) (by simp) (by simp [go_sem,zaa])),?_⟩
   rw [tk1,zam]
   exact ⟨⟨rfl,rfl⟩,by omega⟩
 .have e:i=37:=by omega
  subst e
  rw [ta]
  simp [go_sem]
end Go.Proofs.YthhdollpkieknaaGreat

