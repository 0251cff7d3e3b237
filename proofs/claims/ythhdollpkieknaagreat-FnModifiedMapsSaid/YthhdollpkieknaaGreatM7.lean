/- Texts of the own layer and contracts, part 7: Q34 W58 W12 W13 V2 V1 W1 W3 W14 W15 W6 W7 W9 W10 W19 W37 W38 W59 W60 W42 W61 E56 W80 W63 W84 W85 W82 W67 W68 W70 W72 W73 W34 W74 W71 W69 W88 W89 W90 W77 W78 W79 W81. -/
import Derived.Test.YthhdollpkieknaaGreatM6
set_option linter.unusedSectionVars false
set_option linter.unusedVariables false
set_option linter.unusedSimpArgs false
set_option maxHeartbeats 4000000
set_option maxRecDepth 100000
namespace Go.Proofs.YthhdollpkieknaaGreat
open Go.Abs
theorem zgs (n:Nat) (h:n<=20):Con Tryz.prog 312 [.int n] (.int (fact n)):=by
 refine zab Tryz.mixed ⟨5,[],[],[]⟩ Tryz.func312 ?_
 rw [Tryz.ntmps312]
 simp [go_sem]
 refine zac (List.range' 2 20) (fun k:Nat=>[(3,.int (fact (k+1))),(4,.int (k+2))]) (fun k=>k<=n-1) (fun k=>n-k) 0 (by simp) (by simp [go_sem]; decide) (by simp [go_sem]) ?_
 intro k hk
 simp [go_sem]
 refine ⟨fun h=>?_,fun h=>?_⟩ <;> simp at h
 .have e:fact (k+1)*((k:Int)+2)=fact (k+1+1):=by simp only [fact]; rw [show ((k+1:Nat):Int)+1=(k:Int)+2 by omega]
  have b:=znw (show k+1+1<=20 by omega)
  simp [go_sem,e]
  refine ⟨by omega,by omega,k+1,by omega,by omega,zaa _ _ _ (by simp),rfl,by omega⟩
 .simp [go_sem]
  rcases (show k=0/\n<=1\/k+1=n by omega) with ⟨rfl,_⟩ | hk
  .have:n=0\/n=1:=by omega
   rcases this with rfl | rfl <;> rfl
  .rw [hk]
theorem zvm {n:Nat} (h:n<=6):0<=fact n/\fact n<=720:=⟨by have:=ze9 n; omega,Int.le_trans (zoc h) (by decide)⟩
def s7F:List AV:=.sl 0 []::fcF
theorem zpy {i:Nat} (h0:0<i) (h:i<38):s7F.drop i=.sl (ctR i).length ((ctR i).flatMap ctF)::s7F.drop (i+1):=by
 obtain ⟨j,rfl⟩:∃ j,i=j+1:=⟨i-1,by omega⟩
 unfold s7F
 rw [List.drop_succ_cons,List.drop_succ_cons,zhn (by omega)]
theorem zwt:¬ s7F=[]:=by unfold s7F; simp
def ra7 (b x:List Int) (L:List Ctp):Int:=L.foldl (fun s c=>(s+(c.1:Int)*(iat b (c.2.1.headD 0)*iat x c.2.2%10007)%10007)%10007) 0
theorem zeY (b x:List Int) (L:List Ctp) (c:Ctp):ra7 b x (L++[c])=(ra7 b x L+(c.1:Int)*(iat b (c.2.1.headD 0)*iat x c.2.2%10007)%10007)%10007:=by simp [ra7]
theorem zvO (b x:List Int) (L:List Ctp):isN (ra7 b x L):=by
 rcases List.eq_nil_or_concat L with rfl | ⟨h,y,rfl⟩
 .show isN 0; exact ⟨by decide,by decide⟩
 .rw [List.concat_eq_append,zeY]; exact zai _
theorem zow (b x:List Int) (L:List Ctp):(∀ c∈L,c.2.1.length=1)->ra7 b x L%10007=rowI (iat b) (iat x) L%10007:=by
 generalize hn:L.length=n
 induction n generalizing L with
 | zero=>intro _; rw [List.length_eq_zero_iff.1 hn]; rfl
 | succ n ih =>
  intro hL
  rcases List.eq_nil_or_concat L with rfl | ⟨h,c,rfl⟩
  .simp at hn
  .rw [List.concat_eq_append] at hn hL |-
   rw [zeY,zck,Int.emod_emod_of_dvd _ (Int.dvd_refl _)]
   refine za5 (ih h (by simpa using hn) fun d hd=>hL d (by simp [hd])) ?_
   obtain ⟨n,l,t⟩:=c
   have h1:l.length=1:=hL (n,l,t) (by simp)
   obtain ⟨v,rfl⟩:∃ v,l=[v]:=List.length_eq_one_iff.1 h1
   rw [Int.emod_emod_of_dvd _ (Int.dvd_refl _)]
   refine zas rfl ?_
   rw [Int.emod_emod_of_dvd _ (Int.dvd_refl _)]
   simp [prI]
theorem zre (b x:List Int) (hb:N38 b) (hx:N38 x) :
  Con Tryz.prog 310 [.sl 38 s7F,.sl b.length (avs b),.sl x.length (avs x)] (.own 2 38 (avs (mk38 (acI (iat b) (iat x))))):=by
 have t1:=zch (acI (iat b) (iat x)) (i:=0) (by omega)
 have e0:acI (iat b) (iat x) 0%10007=0:=by unfold acI; rw [if_pos rfl]; rfl
 rw [List.take_zero,List.nil_append,e0] at t1
 have tk:=fun i (h:i<38)=>zch (acI (iat b) (iat x)) h
 have ta:=zkY (acI (iat b) (iat x))
 have lo:(mk38 (acI (iat b) (iat x))).length=38:=(za8 _).1
 have lb:=hb.1
 have lx:=hx.1
 have nb:=hb.ne
 have nx:=hx.ne
 have nF:=zwt
 have hF:=fun i h0 h=>zpy (i:=i) h0 h
 generalize hO:mk38 (acI (iat b) (iat x))=O at *
 generalize s7F=FC at *
 refine zab Tryz.mixed ⟨12,[],[],[]⟩ Tryz.func310 ?_
 rw [Tryz.ntmps310]
 simp [go_sem]
 refine zac (List.range' 7 5++List.range' 13 48) (fun i:Nat=>[(7,.own 2 i (avs (O.take i))),(8,.int i)]) (fun i=>1<=i/\i<=38) (fun i=>38-i) 1 (by simp) (by simp [go_sem,t1,avs]) (by simp [go_sem]) ?_
 rintro i ⟨hi1,hi⟩
 by_cases hil:i<38
 .have hii:(i:Int)<38:=by omega
  have dr:=hF i hi1 hil
  obtain ⟨r1,r2⟩:=zne (i:=i) (by omega)
  have rk:=zcK (i:=i) (by omega)
  have tk1:=tk i (by omega)
  have cv:acI (iat b) (iat x) i=rowI (iat b) (iat x) (c1R i):=by unfold acI; rw [if_neg (by omega)]
  rw [cv] at tk1
  have hc1:c1R i=(ctR i).filter fun c=>decide (c.2.1.length=1):=rfl
  rw [hc1] at tk1
  generalize ctR i=R at *
  simp [go_sem,hii]
  refine zac (9::10::11::List.range' 19 38) (fun j:Nat=>[(9,.int (ra7 b x ((R.take j).filter fun c=>decide (c.2.1.length=1)))),(10,.int j)]) (fun j=>j<=R.length) (fun j=>R.length-j) 0 (by simp) (by simp [go_sem,ra7]) (by simp [go_sem]) ?_
  intro j hj
  by_cases hjl:j<R.length
  .have hji:(j:Int)<R.length:=by omega
   have cd:=zdV hjl
   have hmm:=memD (0,[],0) hjl
   obtain ⟨q1,q2⟩:=r2 _ hmm
   obtain ⟨k1,k2⟩:=rk _ hmm
   have tj:(R.take (j+1)).filter (fun c=>decide (c.2.1.length=1))=(R.take j).filter (fun c=>decide (c.2.1.length=1))++[R[j]?.getD (0,[],0)].filter (fun c=>decide (c.2.1.length=1)):=by
    rw [<- List.filter_append,List.take_succ_eq_append_getElem hjl,List.getElem?_eq_getElem hjl]; rfl
   have rs:=zeY b x ((R.take j).filter fun c=>decide (c.2.1.length=1)) (R[j]?.getD (0,[],0))
   have sN:=zvO b x ((R.take j).filter fun c=>decide (c.2.1.length=1))
   have nR:¬ R.flatMap ctF=[]:=by intro e; have:=zbI R; rw [e] at this; simp at this; omega
   have lR:=zbI R
   generalize (R.take j).filter (fun c=>decide (c.2.1.length=1))=X at *
   generalize R[j]?.getD (0,[],0)=c at *
   obtain ⟨n,l,t⟩:=c
   simp only [ctF] at cd q1 q2 k1 k2 rs
   generalize hMC:R.flatMap ctF=MC at *
   by_cases hl1:l.length=1
   .rw [List.filter_cons,if_pos (by simpa using hl1),List.filter_nil] at tj
    rw [<- tj] at rs
    obtain ⟨v,rfl⟩:∃ v,l=[v]:=List.length_eq_one_iff.1 hl1
    have hv:v<38:=k1 v (by simp)
    have bN:isN (iat b v):=hb.Ns.get v
    have xN:isN (iat x t):=hx.Ns.get t
    have dbv:=zae (a:=b) (v:=v) (by omega)
    have dxt:=zae (a:=x) (v:=t) (by omega)
    have c1:=zaZ (iat b v) (iat x t) (zaw bN xN)
    have m1:=zai (iat b v*iat x t)
    have c2:=zaZ (n:Int) (iat b v*iat x t%10007) (zaw (show isN (n:Int) from ⟨by omega,by omega⟩) m1)
    have m2:=zai ((n:Int)*(iat b v*iat x t%10007))
    have w1:=m2.1; have w2:=m2.2; have w3:=sN.1; have w4:=sN.2
    have c3:=zb8 (ra7 b x X) ((n:Int)*(iat b v*iat x t%10007)%10007) ⟨by omega,by omega⟩
    have en:nvs [v]=[(v:Int)]:=rfl
    have en2:avs [(v:Int)]=[AV.int v]:=rfl
    rw [en,en2] at cd
    simp only [List.headD_cons] at rs
    generalize ra7 b x X=s at *
    generalize hp1:iat b v*iat x t%10007=p1 at *
    generalize hp2:(n:Int)*p1%10007=p2 at *
    generalize iat b v=y at *
    generalize iat x t=z at *
    simp [go_sem,dr,hji,cd]
    refine ⟨⟨hii,nF⟩,nR,by kernel_rfl,?_⟩
    simp [go_sem,dbv,dxt]
    refine ⟨⟨by omega,nb⟩,⟨by omega,nx⟩,?_⟩
    refine CallD.of (c1) ?_
    simp [go_sem]
    refine CallD.of (c2) ?_
    simp [go_sem]
    refine CallD.of (c3) ?_
    simp [go_sem]
    refine ⟨by kernel_rfl,?_⟩
    simp [go_sem]
    refine ⟨⟨by omega,by omega⟩,j+1,by omega,by omega,zaa _ _ _ (by simp),?_⟩
    rw [rs]
    exact ⟨rfl,by omega⟩
   .rw [List.filter_cons,if_neg (by simpa using hl1),List.filter_nil,List.append_nil] at tj
    have hli:¬ (l.length:Int)=1:=by omega
    simp [go_sem,dr,hji,cd,hl1,hli]
    refine ⟨⟨hii,nF⟩,nR,⟨by omega,by omega⟩,j+1,by omega,by omega,zaa _ _ _ (by simp),?_⟩
    rw [tj]
    exact ⟨rfl,by omega⟩
  .have e:j=R.length:=by omega
   subst e
   have hji:¬ (R.length:Int)<R.length:=by omega
   have rm:=zow b x (R.filter fun c=>decide (c.2.1.length=1)) (fun c hc=>by simpa using (List.mem_filter.1 hc).2)
   have sN:=zvO b x (R.filter fun c=>decide (c.2.1.length=1))
   rw [<- rm,Int.emod_eq_of_lt sN.1 sN.2] at tk1
   rw [List.take_length]
   generalize ra7 b x (R.filter fun c=>decide (c.2.1.length=1))=s at *
   simp [go_sem,dr,hji]
   refine ⟨⟨hii,nF⟩,⟨by omega,by omega,by omega⟩,⟨by omega,by omega⟩,i+1,⟨by omega,by omega⟩,by omega,(Off.reset (by intro x hx; simp at hx |-; omega) (by simp) (by simp [go_sem,zaa])),?_⟩
   rw [tk1,zal]
   exact ⟨⟨rfl,rfl⟩,by omega⟩
 .have e:i=38:=by omega
  subst e
  rw [ta]
  simp [go_sem]
def xs7 (b:List Int):Nat->List Int
 | 0=>zbq
 | k+1=>mk38 (acI (iat b) (iat (xs7 b k)))
def ex7 (b:List Int):Nat->List Int
 | 0=>zbq
 | k+1=>adL (ex7 b k) (xs7 b (k+1)) (ifI (k+1))
theorem zxt {a b:List Int} (k:Int) (ha:a.length=38):N38 (adL a b k):=⟨by rw [zhw,ha],fun x hx=>by
 obtain ⟨i,_,rfl⟩:=List.mem_map.1 hx
 have:=zai (iat a i+k*iat b i%10007)
 exact ⟨this.1,by have:=this.2; omega⟩⟩
theorem ziT (b:List Int):∀ k,N38 (xs7 b k)
 | 0=>zdF.1
 | k+1=>za8 _
theorem zfi (b:List Int):∀ k,N38 (ex7 b k)
 | 0=>zdF.1
 | k+1=>zxt _ (zfi b k).1
theorem zjT (b:List Int):∀ k i,i<38->iat (xs7 b k) i%10007=xpI (iat b) k i%10007
 | 0,i,hi=>by
  show iat zbq i%10007=unJ i%10007
  rw [zv0 hi]; rfl
 | k+1,i,hi=>by
  rw [xs7,zbo _ hi,xpI]
  exact zrV hi (fun _ _=>rfl) (fun j hj=>zjT b k j hj)
theorem zu4 {a b:List Int} (k:Int) {i:Nat} (h:i<a.length):iat (adL a b k) i=(iat a i+k*iat b i%10007)%10007:=by
 show (adL a b k)[i]?.getD 0=_
 simp [adL,h]
theorem zda (b:List Int) (k:Nat) {i:Nat} (hi:i<38):iat (ex7 b (k+1)) i%10007=(iat (ex7 b k) i+xpI (iat b) (k+1) i*ifI (k+1))%10007:=by
 rw [ex7,zu4 _ (by rw [(zfi b k).1]; exact hi),Int.emod_emod_of_dvd _ (Int.dvd_refl _)]
 refine za5 rfl ?_
 rw [Int.emod_emod_of_dvd _ (Int.dvd_refl _),Int.mul_comm]
 exact zas (zjT b (k+1) i hi) rfl
theorem zoO (b:List Int):ex7 b 6=expS b:=by
 refine (zfi b 6).ext (zbi b).1 fun i hi=>?_
 rw [zbH b hi]
 have s1:=zda b 0 hi
 have s2:=zda b 1 hi
 have s3:=zda b 2 hi
 have s4:=zda b 3 hi
 have s5:=zda b 4 hi
 have s6:=zda b 5 hi
 have s0:iat (ex7 b 0) i%10007=xpI (iat b) 0 i%10007:=zjT b 0 i hi
 unfold expI
 simp only [Nat.zero_add,Nat.reduceAdd] at s1 s2 s3 s4 s5 s6
 generalize xpI (iat b) 1 i*ifI 1=x1 at *
 generalize xpI (iat b) 2 i*ifI 2=x2 at *
 generalize xpI (iat b) 3 i*ifI 3=x3 at *
 generalize xpI (iat b) 4 i*ifI 4=x4 at *
 generalize xpI (iat b) 5 i*ifI 5=x5 at *
 generalize xpI (iat b) 6 i*ifI 6=x6 at *
 omega
theorem fr7 {k:Nat} (hk:k<=6):1%10007*pw (fact k%10007) 10005%10007=ifI k:=by
 have ok:(List.range 7).all (fun k=>decide (1%10007*((fp 15 (fact k%10007).toNat 10005:Nat):Int)%10007=ifI k) && decide (0<=fact k%10007))=true:=by decide +kernel
 have h:=List.all_eq_true.1 ok k (List.mem_range.2 (by omega))
 simp only [Bool.and_eq_true,decide_eq_true_eq] at h
 have e:=zrm (fact k%10007).toNat
 rw [Int.toNat_of_nonneg h.2] at e
 rw [<- e]
 exact h.1
theorem zhM (b:List Int) (hb:N38 b):Con Tryz.prog 262 [.sl 38 s7F,.sl b.length (avs b)] (.own 2 38 (avs (expS b))):=by
 have cU:=znf
 have e0:ex7 b 0=zbq:=rfl
 have e1:xs7 b 0=zbq:=rfl
 have cA:=fun k=>zre b (xs7 b k) hb (ziT b k)
 have eA:∀ k,mk38 (acI (iat b) (iat (xs7 b k)))=xs7 b (k+1):=fun k=>rfl
 have iN:∀ k,k<=6->isN (ifI k):=fun k hk=>by rw [<- fr7 hk]; exact zai _
 have cS:=fun k (hk:k+1<=6)=>zpO (ex7 b k) (xs7 b (k+1)) (ifI (k+1)) (zfi b k).Ns (ziT b (k+1)).Ns (iN _ hk) (by rw [(zfi b k).1]; omega) (by rw [(zfi b k).1,(ziT b (k+1)).1]; omega)
 have eS:∀ k,adL (ex7 b k) (xs7 b (k+1)) (ifI (k+1))=ex7 b (k+1):=fun k=>rfl
 have lx:=fun k=>(ziT b k).1
 have le:=fun k=>(zfi b k).1
 have lb:=hb.1
 simp only [eA,lx] at cA
 simp only [eS,le,lx] at cS
 rw [<- zoO]
 generalize ex7 b=E at *
 generalize xs7 b=X at *
 generalize s7F=FC at *
 have cU1:=cU
 rw [<- e0] at cU
 rw [<- e1] at cU1
 refine zab Tryz.mixed ⟨8,[],[],[]⟩ Tryz.func262 ?_
 rw [Tryz.ntmps262]
 simp [go_sem]
 refine CallVC.of (cU) ?_
 simp [go_sem]
 refine CallVC.of (cU1) ?_
 simp [go_sem]
 refine zac (5::6::7::List.range' 10 14) (fun k:Nat=>[(5,.own 2 38 (avs (E k))),(6,.own 2 38 (avs (X k))),(7,.int (k+1))]) (fun k=>k<=6) (fun k=>6-k) 0 (by simp) (by simp [go_sem]) (by simp [go_sem]) ?_
 intro k hk
 by_cases hk6:k<6
 .have hki:(k:Int)+1<=6:=by omega
  have c1:=cA k
  have c2:=cS k (by omega)
  have cF:=zgs (k+1) (by omega)
  have f6:=zvm (n:=k+1) (by omega)
  have cR:=zbB 1 (fact (k+1)) ⟨by omega,by omega⟩ ⟨by omega,by omega⟩
  rw [fr7 (k:=k+1) (by omega)] at cR
  have ek:((k+1:Nat):Int)=(k:Int)+1:=by omega
  rw [ek] at cF
  generalize fact (k+1)=w at *
  generalize ifI (k+1)=q at *
  simp [go_sem,hki]
  refine CallVC.of (c1) ?_
  simp [go_sem]
  refine CallVC.of (cF) ?_
  simp [go_sem]
  refine CallVC.of (cR) ?_
  simp [go_sem]
  refine CallVC.of (c2) ?_
  simp [go_sem]
  exact ⟨⟨by omega,by omega⟩,k+1,by omega,by omega,zaa _ _ _ (by simp),rfl,rfl,by omega⟩
 .have e:k=6:=by omega
  subst e
  simp [go_sem]
def frI (p q:Int):Int:=p%10007*pw (q%10007) 10005%10007
theorem znk (p q:Int):isN (frI p q):=zai _
def sqL (s:Nat) (q:Int) (l:List Int):List (List Int):=(List.range s).map fun i=>tb (fun k=>frI (l[i*s+k]?.getD 0) q) s
def rwL (q:Int) (l:List Int):List Int:=tb (fun i=>frI (l[i]?.getD 0) q) l.length
theorem zxL {i k s:Nat} (hi:i<s) (hk:k<s):i*s+k<s*s:=by
 have h:(i+1)*s<=s*s:=Nat.mul_le_mul_right s (by omega)
 rw [Nat.succ_mul] at h
 omega
theorem zla {l:List Int} (h:∀ x∈l,fits x) (k:Nat):fits (l[k]?.getD 0):=by
 rcases Nat.lt_or_ge k l.length with hk | hk
 .exact h _ (by simp [hk])
 .rw [List.getElem?_eq_none hk]; exact ⟨by simp,by simp⟩
theorem zjF (s:Nat) (q:Int) (l:List Int) (hs:s<=8) (hl:l.length=s*s) (hq:fits q) (hN:∀ x∈l,fits x) :
  Con Tryz.prog 307 [.int s,.int q,.sl l.length (avs l)] (.own 25 s (omat (sqL s q l))):=by
 have hd:sqL s q l=(List.range s).map fun i=>tb (fun k=>frI (l[i*s+k]?.getD 0) q) s:=rfl
 have h64:s*s<=64:=by
  have:=Nat.mul_le_mul hs hs
  omega
 rw [hd]
 refine zab Tryz.mixed ⟨11,[],[],[]⟩ Tryz.func307 ?_
 rw [Tryz.ntmps307]
 simp [go_sem]
 refine zac ([7,8,9,10]++List.range' 12 28) (fun i:Nat=>[(7,.own 25 i (omat ((List.range i).map fun i=>tb (fun k=>frI (l[i*s+k]?.getD 0) q) s))),(8,.int i)]) (fun i=>i<=s) (fun i=>s-i) 0 (by simp) (by simp [go_sem,omat]) (by simp [go_sem]) ?_
 intro i hi
 by_cases his:i<s
 .have hii:(i:Int)<s:=by omega
  have os:=zfs (fun i=>tb (fun k=>frI (l[i*s+k]?.getD 0) q) s) i
  rw [zvv] at os
  simp [go_sem,hii]
  refine zac ([9,10]++List.range' 18 18) (fun k:Nat=>[(9,.own 2 k (avs (tb (fun k=>frI (l[i*s+k]?.getD 0) q) k))),(10,.int k)]) (fun k=>k<=s) (fun k=>s-k) 0 (by simp) (by simp [go_sem]) (by simp [go_sem]) ?_
  intro k hk
  by_cases hks:k<s
  .have hki:(k:Int)<s:=by omega
   have hx:i*s+k<l.length:=by rw [hl]; exact zxL his hks
   have ec:(i:Int)*(s:Int)=((i*s:Nat):Int):=by simp
   have hm:i*s<=64:=by omega
   have ts:=zhb (fun k=>frI (l[i*s+k]?.getD 0) q) k
   have fx:=zla hN (i*s+k)
   have cF:=zbB (l[i*s+k]?.getD 0) q fx hq
   have fe:frI (l[i*s+k]?.getD 0) q=l[i*s+k]?.getD 0%10007*pw (q%10007) 10005%10007:=rfl
   rw [<- fe] at cF
   have dr:=zap hx
   have ne:¬ l=[]:=by rintro rfl; simp at hx
   generalize hz:i*s=z at *
   rw [List.getD_eq_getElem?_getD] at dr
   generalize l[z+k]?.getD 0=x at *
   have et:((z:Int)+(k:Int)).toNat=z+k:=by omega
   simp [go_sem,hki,ec,et,dr]
   refine ⟨by omega,⟨by omega,by omega⟩,⟨by omega,by omega,ne⟩,?_⟩
   refine CallVC.of (cF) ?_
   simp [go_sem]
   exact ⟨by omega,by omega,k+1,by omega,by omega,zaa _ _ _ (by simp),by rw [ts,zal]; exact ⟨rfl,rfl⟩,by omega⟩
  .have e:k=s:=by omega
   subst e
   simp [go_sem]
   exact ⟨⟨by omega,by omega⟩,by omega,i+1,by omega,by omega,(Off.reset (by intro x hx; simp at hx |-; omega) (by simp) (by simp [go_sem,zaa])),by rw [os]; exact ⟨rfl,rfl⟩,by omega⟩
 .have e:i=s:=by omega
  subst e
  simp [go_sem]
theorem zqM (q:Int) (l:List Int) (hl:l.length<=64) (hq:fits q) (hN:∀ x∈l,fits x) :
  Con Tryz.prog 308 [.int q,.sl l.length (avs l)] (.own 2 l.length (avs (rwL q l))):=by
 have hd:rwL q l=tb (fun i=>frI (l[i]?.getD 0) q) l.length:=rfl
 rw [hd]
 refine zab Tryz.mixed ⟨7,[],[],[]⟩ Tryz.func308 ?_
 rw [Tryz.ntmps308]
 simp [go_sem]
 refine zac ([5,6]++List.range' 8 15) (fun i:Nat=>[(5,.own 2 i (avs (tb (fun i=>frI (l[i]?.getD 0) q) i))),(6,.int i)]) (fun i=>i<=l.length) (fun i=>l.length-i) 0 (by simp) (by simp [go_sem]) (by simp [go_sem]) ?_
 intro i hi
 by_cases hil:i<l.length
 .have hii:(i:Int)<l.length:=by omega
  have ts:=zhb (fun i=>frI (l[i]?.getD 0) q) i
  have fx:=zla hN i
  have cF:=zbB (l[i]?.getD 0) q fx hq
  have fe:frI (l[i]?.getD 0) q=l[i]?.getD 0%10007*pw (q%10007) 10005%10007:=rfl
  rw [<- fe] at cF
  have dr:=zap hil
  have ne:¬ l=[]:=by rintro rfl; simp at hil
  rw [List.getD_eq_getElem?_getD] at dr
  generalize l[i]?.getD 0=x at *
  simp [go_sem,hii,dr]
  refine ⟨ne,?_⟩
  refine CallVC.of (cF) ?_
  simp [go_sem]
  exact ⟨by omega,by omega,i+1,by omega,by omega,zaa _ _ _ (by simp),by rw [ts,zal]; exact ⟨rfl,rfl⟩,by omega⟩
 .have e:i=l.length:=by omega
  simp [go_sem,e]
theorem znv (a k:Int) (hk:0<=k) (hk2:k<=9223372036854775807):RCon Tryz.prog 309 [.int a,.int k] (fun r o=>o=[.any,.any]/\∃ x:Int,-1<=x/\x<=10006/\r=.int x):=by
 refine zaD Tryz.mixed ⟨6,[],[],[]⟩ [] Tryz.func309 ?_
 rw [Tryz.ntmps309]
 simp [go_sem]
 refine zac (List.range' 4 12) (fun i:Nat=>[(5,.int i)]) (fun i=>i<=10007) (fun i=>10007-i) 0 (by simp) (by simp [go_sem]) (by simp [go_sem]) ?_
 intro i hi
 by_cases h:i<10007
 .have hii:(i:Int)<10007:=by omega
  have cP:=zhi i k ⟨by omega,by omega⟩ hk hk2
  simp [go_sem,hii]
  refine CallVC.of (cP) ?_
  simp [go_sem]
  refine ⟨fun h=>?_,fun h=>?_⟩ <;> simp at h
  .simp [go_sem]
   omega
  .simp [go_sem]
   exact ⟨⟨by omega,by omega⟩,i+1,by omega,by omega,zaa _ _ _ (by simp),by omega⟩
 .have hii:¬ (i:Int)<10007:=by omega
  simp [go_sem,hii]
theorem zsT {s:Nat} (q p:Int) (l b:List Int) (h1:1<=s) (h8:s<=8) (hb:b.length=s):Tab (sqL s q l) (rwL p b):=by
 have bl:(rwL p b).length=s:=by simp [rwL,hb]
 refine ⟨by omega,by omega,by rw [bl]; simp [sqL],tb_N fun k _=>znk _ _,fun r hr=>?_⟩
 obtain ⟨i,_,rfl⟩:=List.mem_map.1 hr
 exact ⟨by rw [bl]; simp,tb_N fun k _=>znk _ _⟩
theorem zs7 (s:Nat) (q:Int) (l:List Int):(sqL s q l).length=s:=by simp [sqL]
theorem zsO (p:Int) (b:List Int):(rwL p b).length=b.length:=by simp [rwL]
def Tb8 (A:List (List Int)) (B:List Int):Prop:=Tab A B
theorem za3 (s:Nat) (q p:Int) (l b:List Int) (h1:1<=s) (h8:s<=8) (hb:b.length=s) :
  ∃ (A:List (List Int)) (B:List Int),Tb8 A B/\(s=A.length/\omat (sqL s q l)=omat A)/\s=B.length/\rwL p b=B :=
 ⟨sqL s q l,rwL p b,zsT q p l b h1 h8 hb,⟨(zs7 s q l).symm,rfl⟩,by rw [zsO]; exact hb.symm,rfl⟩
theorem zlH (nm:ByteArray):RCon Tryz.prog 260 [.val (.string nm)] (fun r o=>o=[.any]/\∃ (A:List (List Int)) (B:List Int),Tb8 A B/\r=.agg [.own 25 A.length (omat A),.own 2 B.length (avs B)]):=by
 have sq:=fun (s:Nat) (q:Int) (l:List Int) (h1:s<=8) (h2:l.length=s*s) (h3:fits q) (h4:∀ x∈l,fits x)=>zjF s q l h1 h2 h3 h4
 have rw_:=fun (q:Int) (l:List Int) (h1:l.length<=64) (h3:fits q) (h4:∀ x∈l,fits x)=>zqM q l h1 h3 h4
 have f1:fits 1:=⟨by omega,by omega⟩
 have ff:∀ n:Int,-100<=n->n<=100->fits n:=fun n h1 h2=>⟨by omega,by omega⟩
 refine zaD Tryz.mixed ⟨5,[],[2000000+309],[]⟩ [] Tryz.func260 ?_
 rw [Tryz.ntmps260]
 simp [go_sem]
 refine ⟨fun h=>?_,fun h=>?_⟩
 .simp [go_sem]
  refine CallVC.of (sq 1 1 [0] (by omega) rfl (ff _ (by omega) (by omega)) (by simp [fits])) ?_
  simp [go_sem]
  refine CallVC.of (rw_ 1 [1] (by simp) (ff _ (by omega) (by omega)) (by simp [fits])) ?_
  simp [go_sem]
  exact za3 1 1 1 [0] [1] (by omega) (by omega) rfl
 simp [go_sem]
 refine ⟨fun h=>?_,fun h=>?_⟩
 .simp [go_sem]
  refine ⟨_,znv 3 2 (by omega) (by omega),?_⟩
  rintro _ _ ⟨rfl,x,hx1,hx2,rfl⟩
  have n6:=znk 1 6
  have n4:=znk 1 4
  have c6:=zbB 1 6 f1 (ff _ (by omega) (by omega))
  have c4:=zbB 1 4 f1 (ff _ (by omega) (by omega))
  have e6:frI 1 6=1%10007*pw (6%10007) 10005%10007:=rfl
  have e4:frI 1 4=1%10007*pw (4%10007) 10005%10007:=rfl
  rw [<- e6] at c6
  rw [<- e4] at c4
  generalize frI 1 6=y at *
  generalize frI 1 4=z at *
  have fm:fits (x*y):=by
   have h1:x*y<=10006*y:=Int.mul_le_mul_of_nonneg_right hx2 n6.1
   have h2 : -1*y<=x*y:=Int.mul_le_mul_of_nonneg_right hx1 n6.1
   have:=n6.1
   have:=n6.2
   exact ⟨by omega,by omega⟩
  have cm:=zaZ x y fm
  have nm':isN (x*y%10007):=zai _
  generalize x*y%10007=u at *
  have fs:fits (z-u):=zeV n4 nm'
  have fa:fits (z+u):=zdU n4 nm'
  have cs:=ze6 z u fs
  have ca:=zb8 z u fa
  have ns:isN ((z-u)%10007):=zai _
  have na:isN ((z+u)%10007):=zai _
  generalize (z-u)%10007=v at *
  generalize (z+u)%10007=w at *
  simp [go_sem]
  refine CallVC.of (c6) ?_
  simp [go_sem]
  refine CallVC.of (cm) ?_
  simp [go_sem]
  refine CallVC.of (c4) ?_
  simp [go_sem]
  refine CallVC.of (cs) ?_
  simp [go_sem]
  refine CallVC.of (ca) ?_
  simp [go_sem]
  refine CallVC.of (rw_ 2 [1,1] (by simp) (ff _ (by omega) (by omega)) (by simp [fits])) ?_
  simp [go_sem]
  have hT:Tab [[z,v],[w,z]] (rwL 2 [1,1]):=by
   refine ⟨by simp [rwL],by simp [rwL],by simp [rwL],tb_N fun k _=>znk _ _,fun r hr=>?_⟩
   simp at hr
   rcases hr with rfl | rfl
   .refine ⟨by simp [rwL],fun x hx=>?_⟩
    simp at hx
    rcases hx with rfl | rfl <;> assumption
   .refine ⟨by simp [rwL],fun x hx=>?_⟩
    simp at hx
    rcases hx with rfl | rfl <;> assumption
  exact ⟨[[z,v],[w,z]],rwL 2 [1,1],hT,by simp [omat,avs],by simp [rwL]⟩
 simp [go_sem]
 refine ⟨fun h=>?_,fun h=>?_⟩
 .simp [go_sem]
  refine CallVC.of (sq 2 1 [0,0,1,0] (by omega) rfl (ff _ (by omega) (by omega)) (by simp [fits])) ?_
  simp [go_sem]
  refine CallVC.of (rw_ 2 [1,1] (by simp) (ff _ (by omega) (by omega)) (by simp [fits])) ?_
  simp [go_sem]
  exact za3 2 1 2 [0,0,1,0] [1,1] (by omega) (by omega) rfl
 simp [go_sem]
 refine ⟨fun h=>?_,fun h=>?_⟩
 .simp [go_sem]
  refine CallVC.of (sq 1 1 [1] (by omega) rfl (ff _ (by omega) (by omega)) (by simp [fits])) ?_
  simp [go_sem]
  refine CallVC.of (rw_ 1 [1] (by simp) (ff _ (by omega) (by omega)) (by simp [fits])) ?_
  simp [go_sem]
  exact za3 1 1 1 [1] [1] (by omega) (by omega) rfl
 simp [go_sem]
 refine ⟨fun h=>?_,fun h=>?_⟩
 .simp [go_sem]
  refine CallVC.of (sq 3 2 [0,0,0,1,0,0,-2,4,0] (by omega) rfl (ff _ (by omega) (by omega)) (by simp [fits])) ?_
  simp [go_sem]
  refine CallVC.of (rw_ 6 [1,4,1] (by simp) (ff _ (by omega) (by omega)) (by simp [fits])) ?_
  simp [go_sem]
  exact za3 3 2 6 [0,0,0,1,0,0,-2,4,0] [1,4,1] (by omega) (by omega) rfl
 simp [go_sem]
 refine ⟨fun h=>?_,fun h=>?_⟩
 .simp [go_sem]
  refine CallVC.of (sq 3 24 [0,0,0,5,8,-1,4,16,4] (by omega) rfl (ff _ (by omega) (by omega)) (by simp [fits])) ?_
  simp [go_sem]
  refine CallVC.of (rw_ 6 [1,4,1] (by simp) (ff _ (by omega) (by omega)) (by simp [fits])) ?_
  simp [go_sem]
  exact za3 3 24 6 [0,0,0,5,8,-1,4,16,4] [1,4,1] (by omega) (by omega) rfl
 simp [go_sem]
 refine ⟨fun h=>?_,fun h=>?_⟩
 .simp [go_sem]
  refine CallVC.of (sq 1 2 [1] (by omega) rfl (ff _ (by omega) (by omega)) (by simp [fits])) ?_
  simp [go_sem]
  refine CallVC.of (rw_ 1 [1] (by simp) (ff _ (by omega) (by omega)) (by simp [fits])) ?_
  simp [go_sem]
  exact za3 1 2 1 [1] [1] (by omega) (by omega) rfl
 simp [go_sem]
 refine ⟨fun h=>?_,fun h=>?_⟩
 .simp [go_sem]
  refine CallVC.of (sq 2 2 [0,0,1,0] (by omega) rfl (ff _ (by omega) (by omega)) (by simp [fits])) ?_
  simp [go_sem]
  refine CallVC.of (rw_ 1 [0,1] (by simp) (ff _ (by omega) (by omega)) (by simp [fits])) ?_
  simp [go_sem]
  exact za3 2 2 1 [0,0,1,0] [0,1] (by omega) (by omega) rfl
 simp [go_sem]
 refine ⟨fun h=>?_,fun h=>?_⟩
 .simp [go_sem]
  refine CallVC.of (sq 2 12 [5,-1,9,3] (by omega) rfl (ff _ (by omega) (by omega)) (by simp [fits])) ?_
  simp [go_sem]
  refine CallVC.of (rw_ 4 [3,1] (by simp) (ff _ (by omega) (by omega)) (by simp [fits])) ?_
  simp [go_sem]
  exact za3 2 12 4 [5,-1,9,3] [3,1] (by omega) (by omega) rfl
 simp [go_sem]
 refine ⟨fun h=>?_,fun h=>?_⟩
 .simp [go_sem]
  refine CallVC.of (sq 2 3 [0,0,2,0] (by omega) rfl (ff _ (by omega) (by omega)) (by simp [fits])) ?_
  simp [go_sem]
  refine CallVC.of (rw_ 4 [1,3] (by simp) (ff _ (by omega) (by omega)) (by simp [fits])) ?_
  simp [go_sem]
  exact za3 2 3 4 [0,0,2,0] [1,3] (by omega) (by omega) rfl
 simp [go_sem]
 refine ⟨fun h=>?_,fun h=>?_⟩
 .simp [go_sem]
  refine CallVC.of (sq 4 2 [0,0,0,0,1,0,0,0,0,1,0,0,0,0,2,0] (by omega) rfl (ff _ (by omega) (by omega)) (by simp [fits])) ?_
  simp [go_sem]
  refine CallVC.of (rw_ 6 [1,2,2,1] (by simp) (ff _ (by omega) (by omega)) (by simp [fits])) ?_
  simp [go_sem]
  exact za3 4 2 6 [0,0,0,0,1,0,0,0,0,1,0,0,0,0,2,0] [1,2,2,1] (by omega) (by omega) rfl
 simp [go_sem]
 refine CallVC.of (sq 2 2 [0,0,1,1] (by omega) rfl (ff _ (by omega) (by omega)) (by simp [fits])) ?_
 simp [go_sem]
 refine CallVC.of (rw_ 2 [1,1] (by simp) (ff _ (by omega) (by omega)) (by simp [fits])) ?_
 simp [go_sem]
 exact za3 2 2 2 [0,0,1,1] [1,1] (by omega) (by omega) rfl
def DrP (n:Nat) (p:List Mon):Prop:=p.length<=3/\∀ m∈p,WOk n 3 m
def DrS (z:Int) (f:List (List Mon)):Prop := -1<=z/\z<=4/\f.length<=4/\∀ p∈f,p.length<=4/\∀ m∈p,m.2.length<=3
theorem DrS.of {n:Nat} {f:List (List Mon)} (hn:n<=3) (hl:f.length<=3) (h:∀ p∈f,DrP n p) {z:Int} (h1 : -1<=z) (h2:z<=4):DrS z f :=
 ⟨h1,h2,by omega,fun p hp=>⟨by have:=(h p hp).1; omega,fun m hm=>by have:=((h p hp).2 m hm).len; omega⟩⟩
theorem RCon.fz {P:Program} {f:FuncId} {args:List AV} {R:AV->List AV->Prop} (h:RCon P f args R):RCon P f args (fun r o=>∃ r0,R r0 o/\r=frz r0):=by
 refine ⟨h.1,fun w vs os F0 hl hn ho hF hr=>(h.2 w vs os F0 hl hn ho hF hr).mono ?_⟩
 rintro e w' ⟨r,o,hR,v,orr,oo,F',k1,k2,k3,k4,k5,k6,k7,k8,k9⟩
 refine ⟨frz r,o,⟨r,hR,rfl⟩,v,[],oo,fun b=>F' b\/b∈orr,k1,k2,fun b hb=>.inl (k3 b hb),fun b hb=>hb.elim (k4 b) (fun hb=>.inr ⟨(k9 b (.inl hb)).1,(k9 b (.inl hb)).2.1⟩),fun tm oss=>(k5 tm oss).frz (fun b h=>.inl h) (fun b h=>.inr h),fun tm oss=>?_,k7,?_,fun b hb=>?_⟩
 .have:=RepTL.kl (w':=w') (F':=fun b=>F' b\/b∈orr) (tm':=tm) (oss':=oss) [] (fun b hb=>.inl hb) (fun _ _ _ _ h=>h) (k6 tm oss) (fun _ _=>rfl)
  rwa [zcV] at this
 .simpa using (List.nodup_append.1 k8).2.1
 .rcases hb with hb | hb
  .simp at hb
  .obtain ⟨j1,j2,j3⟩:=k9 b (.inr hb)
   exact ⟨j1,j2,fun hf=>hf.elim j3 (fun hf=>(List.nodup_append.1 k8).2.2 b hf b hb rfl)⟩
theorem zt1 (cs:List ByteArray) (h:cs.length=12):∀ k,k<12->∃ b,(cs.map fun b=>AV.val (.string b))[k]?=some (.val (.string b)):=fun k hk=>⟨cs[k]?.getD default,by simp [h,hk]⟩
theorem zge:RCon Tryz.prog 259 [] (fun r o=>o=[]/\∃ L:List AV,(∀ k,k<12->∃ b,L[k]?=some (.val (.string b)))/\r=.own 9 12 L):=by
 refine RCon.mono (R:=fun r o=>o=[]/\∃ cs:List ByteArray,cs.length=12/\r=.own 9 12 (cs.map fun b=>.val (.string b))) ?_ (fun r o h=>?_)
 .refine zaD Tryz.mixed ⟨1,[],[],[]⟩ [] Tryz.func259 ?_
  rw [Tryz.ntmps259]
  simp [go_sem]
  exact ⟨[_,_,_,_,_,_,_,_,_,_,_,_],rfl,rfl⟩
 .obtain ⟨h1,cs,h2,h3⟩:=h
  exact ⟨h1,_,zt1 cs h2,h3⟩
def ptM:List (List Int)->AV
 | []=>.val (.slice none 0 0)
 | r::A=>.own 25 (A.length+1) (omat (r::A))
theorem zep:ptM []=.val (.slice none 0 0):=rfl
theorem zc9 (r:List Int) (A:List (List Int)):ptM (r::A)=.own 25 (A.length+1) (omat (r::A)):=rfl
theorem zj9 {A:List (List Int)} (h:1<=A.length):ptM A=.own 25 A.length (omat A):=by
 cases A with
 | nil=>simp at h
 | cons r A=>rfl
theorem Ns.set {l:List Int} (h:Ns l) (k:Nat) {x:Int} (hx:isN x):Ns (l.set k x):=fun y hy=>by
 rcases List.mem_or_eq_of_mem_set hy with hy | rfl
 .exact h y hy
 .exact hx
theorem znb (c:List Int) (σ:Src) (m:Int) (hc:Byt c) (hs:SOk σ) (hm:1<=m) (hm8:m<=8) :
  RCon Tryz.prog 204 [srcA c σ,.int m] (fun r o=>∃ (τ:Src) (A:List (List Int)) (B:List Int),SOk τ/\o=[srcA c τ,.any]/\Tb8 A B/\r=.agg [.own 25 A.length (omat A),.own 2 B.length (avs B)]):=by
 have c1:=zan c σ 2 hc hs
 have s1:=zaI hc hs 2
 simp only [zaA] at *
 by_cases h4:4<=m
 .refine zaD Tryz.mixed ⟨14,[],[1000000+183,1000000+221,2000000+259,2000000+260],[]⟩ [0] Tryz.func204 ?_
  rw [Tryz.ntmps204]
  simp [go_sem]
  simp [go_sem,h4]
  refine ⟨_,_,c1,?_⟩
  simp [go_sem]
  generalize nx1 c σ 2=v at *
  generalize nx2 c σ 2=τ0 at *
  by_cases v0:v=0
  .simp [go_sem,v0]
   refine ⟨_,zge,?_⟩
   rintro _ _ ⟨rfl,L,hL,rfl⟩
   have c9:=zan c τ0 12 hc s1
   have s9:=zaI hc s1 12
   have b9:=zct hc τ0 (n:=12) (by omega)
   obtain ⟨k,hk⟩:∃ k:Nat,nx1 c τ0 12=k:=⟨(nx1 c τ0 12).toNat,by omega⟩
   rw [hk] at c9 b9
   generalize nx2 c τ0 12=κ at *
   simp only [zaA] at c9
   obtain ⟨b,hA⟩:=hL k (by omega)
   simp [go_sem]
   refine ⟨_,_,c9,?_⟩
   simp [go_sem]
   simp [go_sem,hA]
   refine ⟨by omega,?_⟩
   refine ⟨_,zlH _,?_⟩
   rintro _ _ ⟨rfl,A,B,hT,rfl⟩
   simp [go_sem]
   exact ⟨κ.1,κ.2,s9,⟨rfl,rfl⟩,A,B,hT,⟨rfl,rfl⟩,rfl,rfl⟩
  .simp [go_sem,v0]
   have h0:=s1
   have c4:=zan c τ0 m hc h0
   have s4:=zaI hc h0 m
   have b4:=zct hc τ0 (n:=m) (by omega)
   obtain ⟨N,hN⟩:∃ N:Nat,1+nx1 c τ0 m=N:=⟨(1+nx1 c τ0 m).toNat,by omega⟩
   generalize nx1 c τ0 m=v4 at *
   generalize nx2 c τ0 m=τ1 at *
   have N1:1<=N:=by omega
   have N8:N<=8:=by omega
   have c5:=zan c τ1 3 hc s4
   have s5:=zaI hc s4 3
   generalize nx1 c τ1 3=u at *
   generalize nx2 c τ1 3=τ2 at *
   have c6:=zbR c τ2 N hc s5 (by omega)
   have L6:=zeI (f:=nbV c) (fun σ h=>zb2 hc h) N τ2 s5
   generalize lsV (nbV c) N τ2=r6 at *
   obtain ⟨B0,τ3⟩:=r6
   simp only at L6 c6
   obtain ⟨lB,nB,s6⟩:=L6
   simp only [zaA] at c4 c5 c6
   refine ⟨_,_,c4,?_⟩
   simp [go_sem]
   refine ⟨⟨by omega,by omega⟩,?_⟩
   rw [hN]
   refine ⟨_,_,c5,?_⟩
   simp [go_sem]
   refine ⟨_,_,c6,?_⟩
   simp [go_sem]
   refine zac (0::8::List.range' 9 3++List.range' 40 38) (fun x:Src × List (List Int)=>[(0,.box 162 [.sl c.length (bys c),.int x.1.1,.val (.int .u64 x.1.2)]),(8,.box 27 [ptM x.2,.own 2 N (avs B0)]),(9,.int x.2.length)]) (fun x=>SOk x.1/\x.2.length<=N/\∀ r∈x.2,r.length=N/\Ns r) (fun x=>N-x.2.length) (τ3,[]) ⟨s6,by simp,by simp⟩ (by simp [go_sem,zep]) (by simp [go_sem]) ?_
   rintro ⟨ρ,A⟩ ⟨h1,h2,h3⟩
   simp only at h1 h2 h3
   by_cases hA:A.length<N
   .have hAi:(A.length:Int)<N:=by omega
    have c7:=zbR c ρ N hc h1 (by omega)
    have L7:=zeI (f:=nbV c) (fun σ h=>zb2 hc h) N ρ h1
    generalize lsV (nbV c) N ρ=r7 at *
    obtain ⟨row0,κ⟩:=r7
    simp only at L7 c7
    obtain ⟨l7,n7,s7⟩:=L7
    simp only [zaA] at c7
    simp [go_sem,hAi]
    refine ⟨_,_,c7,?_⟩
    simp [go_sem]
    refine zac (10::11::List.range' 48 24) (fun x:List Int × Nat=>[(10,.own 2 N (avs x.1)),(11,.int x.2)]) (fun x=>x.1.length=N/\Ns x.1/\x.2<=N) (fun x=>N-x.2) (row0,0) ⟨l7,n7,by omega⟩ (by simp [go_sem]) (by simp [go_sem]) ?_
    rintro ⟨row,k⟩ ⟨g1,g2,g3⟩
    simp only at g1 g2 g3
    by_cases hk:k<N
    .have hki:(k:Int)<N:=by omega
     have hkr:k<row.length:=by omega
     have hS:=zaK row k 0
     by_cases u0:u=0
     .by_cases u1:(A.length:Int)<=k
      .simp -implicitDefEqProofs [go_sem,hki,u0,u1,hS]
       refine ⟨hkr,⟨by omega,by omega⟩,row.set k 0,k+1,⟨by simpa using g1,Ns.set g2 k ⟨by omega,by omega⟩,by omega⟩,by omega,zaa _ _ _ (by simp),rfl,by omega⟩
      .simp -implicitDefEqProofs [go_sem,hki,u0,u1]
       refine ⟨⟨by omega,by omega⟩,row,k+1,⟨g1,g2,by omega⟩,by omega,zaa _ _ _ (by simp),rfl,by omega⟩
     .by_cases u1:u=1
      .by_cases u2:(A.length:Int)<k
       .simp -implicitDefEqProofs [go_sem,hki,u0,u1,u2,hS]
        refine ⟨hkr,⟨by omega,by omega⟩,row.set k 0,k+1,⟨by simpa using g1,Ns.set g2 k ⟨by omega,by omega⟩,by omega⟩,by omega,zaa _ _ _ (by simp),rfl,by omega⟩
       .simp -implicitDefEqProofs [go_sem,hki,u0,u1,u2]
        refine ⟨⟨by omega,by omega⟩,row,k+1,⟨g1,g2,by omega⟩,by omega,zaa _ _ _ (by simp),rfl,by omega⟩
      .simp -implicitDefEqProofs [go_sem,hki,u0,u1]
       refine ⟨⟨by omega,by omega⟩,row,k+1,⟨g1,g2,by omega⟩,by omega,zaa _ _ _ (by simp),rfl,by omega⟩
    .have e:k=N:=by omega
     subst e
     simp [go_sem]
     have h3':∀ r∈A++[row],r.length=k/\Ns r:=fun r hr=>by
      rcases List.mem_append.1 hr with hr | hr
      .exact h3 r hr
      .simp at hr; subst hr; exact ⟨g1,g2⟩
     have os:omat (A++[row])=omat A++[.own 2 k (avs row)]:=by rw [zbf,zbg,g1]
     rcases A with _ | ⟨r0,A⟩
     .simp [go_sem,zep]
      refine ⟨κ.1,κ.2,[row],⟨s7,by simp; omega,by simpa using h3'⟩,by simp; omega,(by repeat (first | exact zaa _ _ _ (by simp) | (refine Off.reset (by intro x hx; simp at hx |-; omega) (by simp) ?_; simp -failIfUnchanged [go_sem,zaa]))),⟨⟨rfl,rfl⟩,by simp [zc9,zbg,g1],by simp⟩⟩
     .simp only [List.length_cons] at hA h2 hAi
      have e5:ptM (r0::A++[row])=.own 25 (A.length+1+1) (omat (r0::A)++[.own 2 k (avs row)]):=by
       show AV.own _ ((A++[row]).length+1) (omat (r0::A++[row]))=_
       rw [os,List.length_append]; rfl
      simp [go_sem,zc9]
      refine ⟨⟨by omega,by omega⟩,⟨by omega,by omega⟩,κ.1,κ.2,r0::A++[row],⟨s7,by simp; omega,h3'⟩,by simp; omega,(by repeat (first | exact zaa _ _ _ (by simp) | (refine Off.reset (by intro x hx; simp at hx |-; omega) (by simp) ?_; simp -failIfUnchanged [go_sem,zaa]))),⟨⟨rfl,rfl⟩,e5.symm,by simp⟩⟩
   .have e:A.length=N:=by omega
    have hpt:=zj9 (A:=A) (by omega)
    rw [hpt,e]
    have c8:=zan c ρ 2 hc h1
    have s8:=zaI hc h1 2
    generalize nx1 c ρ 2=v8 at *
    generalize nx2 c ρ 2=κ at *
    simp only [zaA] at c8
    have fin:∀ B:List Int,B.length=N->Ns B->∃ a b,SOk (a,b)/\((κ.1:Int)=a/\κ.2=b)/\∃ A' B',Tb8 A' B'/\(N=A'.length/\omat A=omat A')/\N=B'.length/\B=B':=fun B hB nB=>by
     refine ⟨κ.1,κ.2,s8,⟨rfl,rfl⟩,A,B,⟨by omega,by omega,by omega,nB,fun r hr=>?_⟩,⟨e.symm,rfl⟩,hB.symm,rfl⟩
     rw [hB]; exact h3 r hr
    simp [go_sem,e]
    refine ⟨_,_,c8,?_⟩
    simp [go_sem]
    by_cases v80:v8=0
    .simp [go_sem,v80]
     refine zac (12::13::List.range' 81 12) (fun x:Int × Nat=>[(12,.int x.1),(13,.int x.2)]) (fun x=>isN x.1/\1<=x.2/\x.2<=N) (fun x=>N-x.2) (0,1) ⟨⟨by simp,by simp⟩,by simp,by simp; omega⟩ (by simp [go_sem]) (by simp [go_sem]) ?_
     rintro ⟨q,i⟩ ⟨g1,g2,g3⟩
     simp only at g1 g2 g3
     by_cases hi:i<N
     .have hii:(i:Int)<N:=by omega
      have hib:i<B0.length:=by omega
      have hb:=nB.get i
      have fa:=zdU g1 hb
      have cA:=zb8 q (B0[i]?.getD 0) fa
      have hat:=zbd hib
      generalize B0[i]?.getD 0=b at *
      simp [go_sem,hii,hat]
      refine CallVC.of (cA) ?_
      simp [go_sem]
      exact ⟨⟨by omega,by omega⟩,(q+b)%10007,i+1,⟨zai _,by omega,by omega⟩,by omega,zaa _ _ _ (by simp),rfl,by omega⟩
     .have hii:¬ (i:Int)<N:=by omega
      have cS:=ze6 1 q (zeV ⟨by omega,by omega⟩ g1)
      have nS:isN ((1-q)%10007):=zai _
      generalize (1-q)%10007=x at *
      have hset:=zaK B0 0 x
      simp [go_sem,hii]
      refine ⟨by kernel_rfl,?_⟩
      refine CallD.of (cS) ?_
      simp [go_sem]
      refine ⟨by omega,by omega,?_⟩
      refine ⟨by kernel_rfl,?_⟩
      simp [go_sem]
      simp only [hset]
      obtain ⟨a,b,k1,k2,A',B',k3,k4,k5,k6⟩:=fin (B0.set 0 x) (by simpa using lB) (Ns.set nB 0 nS)
      exact ⟨a,b,k1,k2,A',B',k3,k4,k5,by rw [k6]⟩
    .simp [go_sem,v80]
     exact fin B0 lB nB
 .refine zaD Tryz.mixed ⟨14,[],[1000000+183,1000000+221,2000000+259,2000000+260],[]⟩ [0] Tryz.func204 ?_
  rw [Tryz.ntmps204]
  simp [go_sem]
  simp [go_sem,h4]
  have τ0h:∃ τ0:Src,τ0=σ:=⟨σ,rfl⟩
  obtain ⟨τ0,rfl⟩:=τ0h
  have h0:=hs
  clear c1 s1 hs
  have c4:=zan c τ0 m hc h0
  have s4:=zaI hc h0 m
  have b4:=zct hc τ0 (n:=m) (by omega)
  obtain ⟨N,hN⟩:∃ N:Nat,1+nx1 c τ0 m=N:=⟨(1+nx1 c τ0 m).toNat,by omega⟩
  generalize nx1 c τ0 m=v4 at *
  generalize nx2 c τ0 m=τ1 at *
  have N1:1<=N:=by omega
  have N8:N<=8:=by omega
  have c5:=zan c τ1 3 hc s4
  have s5:=zaI hc s4 3
  generalize nx1 c τ1 3=u at *
  generalize nx2 c τ1 3=τ2 at *
  have c6:=zbR c τ2 N hc s5 (by omega)
  have L6:=zeI (f:=nbV c) (fun σ h=>zb2 hc h) N τ2 s5
  generalize lsV (nbV c) N τ2=r6 at *
  obtain ⟨B0,τ3⟩:=r6
  simp only at L6 c6
  obtain ⟨lB,nB,s6⟩:=L6
  simp only [zaA] at c4 c5 c6
  refine ⟨_,_,c4,?_⟩
  simp [go_sem]
  refine ⟨⟨by omega,by omega⟩,?_⟩
  rw [hN]
  refine ⟨_,_,c5,?_⟩
  simp [go_sem]
  refine ⟨_,_,c6,?_⟩
  simp [go_sem]
  refine zac (0::8::List.range' 9 3++List.range' 40 38) (fun x:Src × List (List Int)=>[(0,.box 162 [.sl c.length (bys c),.int x.1.1,.val (.int .u64 x.1.2)]),(8,.box 27 [ptM x.2,.own 2 N (avs B0)]),(9,.int x.2.length)]) (fun x=>SOk x.1/\x.2.length<=N/\∀ r∈x.2,r.length=N/\Ns r) (fun x=>N-x.2.length) (τ3,[]) ⟨s6,by simp,by simp⟩ (by simp [go_sem,zep]) (by simp [go_sem]) ?_
  rintro ⟨ρ,A⟩ ⟨h1,h2,h3⟩
  simp only at h1 h2 h3
  by_cases hA:A.length<N
  .have hAi:(A.length:Int)<N:=by omega
   have c7:=zbR c ρ N hc h1 (by omega)
   have L7:=zeI (f:=nbV c) (fun σ h=>zb2 hc h) N ρ h1
   generalize lsV (nbV c) N ρ=r7 at *
   obtain ⟨row0,κ⟩:=r7
   simp only at L7 c7
   obtain ⟨l7,n7,s7⟩:=L7
   simp only [zaA] at c7
   simp [go_sem,hAi]
   refine ⟨_,_,c7,?_⟩
   simp [go_sem]
   refine zac (10::11::List.range' 48 24) (fun x:List Int × Nat=>[(10,.own 2 N (avs x.1)),(11,.int x.2)]) (fun x=>x.1.length=N/\Ns x.1/\x.2<=N) (fun x=>N-x.2) (row0,0) ⟨l7,n7,by omega⟩ (by simp [go_sem]) (by simp [go_sem]) ?_
   rintro ⟨row,k⟩ ⟨g1,g2,g3⟩
   simp only at g1 g2 g3
   by_cases hk:k<N
   .have hki:(k:Int)<N:=by omega
    have hkr:k<row.length:=by omega
    have hS:=zaK row k 0
    by_cases u0:u=0
    .by_cases u1:(A.length:Int)<=k
     .simp -implicitDefEqProofs [go_sem,hki,u0,u1,hS]
      refine ⟨hkr,⟨by omega,by omega⟩,row.set k 0,k+1,⟨by simpa using g1,Ns.set g2 k ⟨by omega,by omega⟩,by omega⟩,by omega,zaa _ _ _ (by simp),rfl,by omega⟩
     .simp -implicitDefEqProofs [go_sem,hki,u0,u1]
      refine ⟨⟨by omega,by omega⟩,row,k+1,⟨g1,g2,by omega⟩,by omega,zaa _ _ _ (by simp),rfl,by omega⟩
    .by_cases u1:u=1
     .by_cases u2:(A.length:Int)<k
      .simp -implicitDefEqProofs [go_sem,hki,u0,u1,u2,hS]
       refine ⟨hkr,⟨by omega,by omega⟩,row.set k 0,k+1,⟨by simpa using g1,Ns.set g2 k ⟨by omega,by omega⟩,by omega⟩,by omega,zaa _ _ _ (by simp),rfl,by omega⟩
      .simp -implicitDefEqProofs [go_sem,hki,u0,u1,u2]
       refine ⟨⟨by omega,by omega⟩,row,k+1,⟨g1,g2,by omega⟩,by omega,zaa _ _ _ (by simp),rfl,by omega⟩
     .simp -implicitDefEqProofs [go_sem,hki,u0,u1]
      refine ⟨⟨by omega,by omega⟩,row,k+1,⟨g1,g2,by omega⟩,by omega,zaa _ _ _ (by simp),rfl,by omega⟩
   .have e:k=N:=by omega
    subst e
    simp [go_sem]
    have h3':∀ r∈A++[row],r.length=k/\Ns r:=fun r hr=>by
     rcases List.mem_append.1 hr with hr | hr
     .exact h3 r hr
     .simp at hr; subst hr; exact ⟨g1,g2⟩
    have os:omat (A++[row])=omat A++[.own 2 k (avs row)]:=by rw [zbf,zbg,g1]
    rcases A with _ | ⟨r0,A⟩
    .simp [go_sem,zep]
     refine ⟨κ.1,κ.2,[row],⟨s7,by simp; omega,by simpa using h3'⟩,by simp; omega,(by repeat (first | exact zaa _ _ _ (by simp) | (refine Off.reset (by intro x hx; simp at hx |-; omega) (by simp) ?_; simp -failIfUnchanged [go_sem,zaa]))),⟨⟨rfl,rfl⟩,by simp [zc9,zbg,g1],by simp⟩⟩
    .simp only [List.length_cons] at hA h2 hAi
     have e5:ptM (r0::A++[row])=.own 25 (A.length+1+1) (omat (r0::A)++[.own 2 k (avs row)]):=by
      show AV.own _ ((A++[row]).length+1) (omat (r0::A++[row]))=_
      rw [os,List.length_append]; rfl
     simp [go_sem,zc9]
     refine ⟨⟨by omega,by omega⟩,⟨by omega,by omega⟩,κ.1,κ.2,r0::A++[row],⟨s7,by simp; omega,h3'⟩,by simp; omega,(by repeat (first | exact zaa _ _ _ (by simp) | (refine Off.reset (by intro x hx; simp at hx |-; omega) (by simp) ?_; simp -failIfUnchanged [go_sem,zaa]))),⟨⟨rfl,rfl⟩,e5.symm,by simp⟩⟩
  .have e:A.length=N:=by omega
   have hpt:=zj9 (A:=A) (by omega)
   rw [hpt,e]
   have c8:=zan c ρ 2 hc h1
   have s8:=zaI hc h1 2
   generalize nx1 c ρ 2=v8 at *
   generalize nx2 c ρ 2=κ at *
   simp only [zaA] at c8
   have fin:∀ B:List Int,B.length=N->Ns B->∃ a b,SOk (a,b)/\((κ.1:Int)=a/\κ.2=b)/\∃ A' B',Tb8 A' B'/\(N=A'.length/\omat A=omat A')/\N=B'.length/\B=B':=fun B hB nB=>by
    refine ⟨κ.1,κ.2,s8,⟨rfl,rfl⟩,A,B,⟨by omega,by omega,by omega,nB,fun r hr=>?_⟩,⟨e.symm,rfl⟩,hB.symm,rfl⟩
    rw [hB]; exact h3 r hr
   simp [go_sem,e]
   refine ⟨_,_,c8,?_⟩
   simp [go_sem]
   by_cases v80:v8=0
   .simp [go_sem,v80]
    refine zac (12::13::List.range' 81 12) (fun x:Int × Nat=>[(12,.int x.1),(13,.int x.2)]) (fun x=>isN x.1/\1<=x.2/\x.2<=N) (fun x=>N-x.2) (0,1) ⟨⟨by simp,by simp⟩,by simp,by simp; omega⟩ (by simp [go_sem]) (by simp [go_sem]) ?_
    rintro ⟨q,i⟩ ⟨g1,g2,g3⟩
    simp only at g1 g2 g3
    by_cases hi:i<N
    .have hii:(i:Int)<N:=by omega
     have hib:i<B0.length:=by omega
     have hb:=nB.get i
     have fa:=zdU g1 hb
     have cA:=zb8 q (B0[i]?.getD 0) fa
     have hat:=zbd hib
     generalize B0[i]?.getD 0=b at *
     simp [go_sem,hii,hat]
     refine CallVC.of (cA) ?_
     simp [go_sem]
     exact ⟨⟨by omega,by omega⟩,(q+b)%10007,i+1,⟨zai _,by omega,by omega⟩,by omega,zaa _ _ _ (by simp),rfl,by omega⟩
    .have hii:¬ (i:Int)<N:=by omega
     have cS:=ze6 1 q (zeV ⟨by omega,by omega⟩ g1)
     have nS:isN ((1-q)%10007):=zai _
     generalize (1-q)%10007=x at *
     have hset:=zaK B0 0 x
     simp [go_sem,hii]
     refine ⟨by kernel_rfl,?_⟩
     refine CallD.of (cS) ?_
     simp [go_sem]
     refine ⟨by omega,by omega,?_⟩
     refine ⟨by kernel_rfl,?_⟩
     simp [go_sem]
     simp only [hset]
     obtain ⟨a,b,k1,k2,A',B',k3,k4,k5,k6⟩:=fin (B0.set 0 x) (by simpa using lB) (Ns.set nB 0 nS)
     exact ⟨a,b,k1,k2,A',B',k3,k4,k5,by rw [k6]⟩
   .simp [go_sem,v80]
    exact fin B0 lB nB
theorem RCon.rep {P:Program} {f:FuncId} {args:List AV} {R R':AV->List AV->Prop} (h:RCon P f args R)
  (hR:∀ r o,R r o->∃ r',R' r' o/\∀ (w:World) (F:Nat->Prop) (tm:Nat->Value) (oss:Nat->List Nat) (v:Value) (os:List Nat),RepT P w F tm oss r v os->RepT P w F tm oss r' v os):RCon P f args R':=by
 refine ⟨h.1,fun w vs os F0 hl hn ho hF hr=>(h.2 w vs os F0 hl hn ho hF hr).mono ?_⟩
 rintro e w' ⟨r,o,hr0,v,orr,oo,F',k1,k2,k3,k4,k5,k6⟩
 obtain ⟨r',h1,h2⟩:=hR r o hr0
 exact ⟨r',o,h1,v,orr,oo,F',k1,k2,k3,k4,fun tm oss=>h2 _ _ _ _ _ _ (k5 tm oss),k6⟩
def spV (c:List Int) (σ:Src):Int × Src :=
 if nx1 c σ 30=0 then (pk c (nx2 c σ 30) [-1,10007,1099511627776,-4611686018427387904],nx2 c (nx2 c σ 30) 4) else nbV c (nx2 c σ 30)
theorem zvS {c:List Int} (hc:Byt c) {σ:Src} (hs:SOk σ):SOk (spV c σ).2:=by
 have s1:=zaI hc hs 30
 unfold spV
 split
 .exact zaI hc s1 4
 .exact (zb2 hc s1).2
theorem zmb (c:List Int) (σ:Src) (hc:Byt c) (hs:SOk σ):GCon Tryz.prog 265 [srcA c σ] (.int (spV c σ).1) [srcA c (spV c σ).2]:=by
 have s1:=zaI hc hs 30
 have c1:=zan c σ 30 hc hs
 have c2:=ziS c (nx2 c σ 30) [-1,10007,1099511627776,-4611686018427387904] hc s1 (by simp) (by simp)
 have c3:=zbs c (nx2 c σ 30) hc s1
 unfold spV
 have e3:(([-1,10007,1099511627776,-4611686018427387904]:List Int).length:Int)=4:=rfl
 rw [e3] at c2
 generalize pk c (nx2 c σ 30) [-1,10007,1099511627776,-4611686018427387904]=pv at *
 generalize nbV c (nx2 c σ 30)=nv at *
 generalize nx2 c (nx2 c σ 30) 4=t4 at *
 generalize nx2 c σ 30=t1 at *
 generalize nx1 c σ 30=v1 at *
 unfold srcA at *
 by_cases h0:v1=0
 .rw [if_pos h0]
  refine zaf Tryz.mixed ⟨3,[],[1000000+183,1000000+98,1000000+184],[]⟩ [0] Tryz.func265 ?_
  rw [Tryz.ntmps265]
  simp [go_sem]
  refine ⟨_,_,c1,?_⟩
  simp [go_sem]
  simp [go_sem,h0]
  refine ⟨_,_,c2,?_⟩
  simp [go_sem]
 .rw [if_neg h0]
  refine zaf Tryz.mixed ⟨3,[],[1000000+183,1000000+98,1000000+184],[]⟩ [0] Tryz.func265 ?_
  rw [Tryz.ntmps265]
  simp [go_sem]
  refine ⟨_,_,c1,?_⟩
  simp [go_sem]
  simp [go_sem,h0]
  refine ⟨_,_,c3,?_⟩
  simp [go_sem]
theorem zeG:∀ (n:Nat) (t:List Int),Lv t->t.length<=1048576->zhI n t=true->Con Tryz.prog 210 [.sl t.length (avs t)] (.int (denF n t))
 | 0,t,hL,hl,hd=>by simp [zhI] at hd
 | n+1,t,hL,hl,hd=>by
  have cB:=zc4 t hl hL
  rw [zhI,Bool.and_eq_true] at hd
  obtain ⟨hd1,hd2⟩:=hd
  have ih:=fun b (hb:b∈brs t)=>zeG n b (zb9 hL hb).1 (by have:=(zb9 hL hb).2; omega) (List.all_eq_true.1 hd1 b hb)
  have bd:∀ j,j<=(brs t).length->0<=denK n t j/\denK n t j<=1000000:=fun j hj=>by
   have:=List.all_eq_true.1 hd2 j (by simp; omega)
   simpa using this
  have hs:=fun j (h:j<(brs t).length)=>zi7 n h
  have k0:denK n t 0=t.length:=by simp [denK]
  have ke:denK n t (brs t).length=denF (n+1) t:=by rw [denK,List.take_length,denF]
  have hcnt:(brs t).length<t.length:=zfu hL
  rw [<- ke]
  generalize denK n t=K at *
  generalize brs t=L at *
  refine zab Tryz.mixed ⟨6,[],[],[]⟩ Tryz.func210 ?_
  rw [Tryz.ntmps210]
  simp [go_sem]
  refine CallVC.of (cB) ?_
  simp [go_sem]
  refine zac (3::5::List.range' 10 13) (fun i:Nat=>[(3,.int (K i)),(5,.int i)]) (fun i=>i<=L.length) (fun i=>L.length-i) 0 (by simp) (by simp [go_sem,k0]) (by simp [go_sem]) ?_
  intro i hi
  by_cases hiL:i<L.length
  .have hii:(i:Int)<L.length:=by omega
   have hb:L[i]?.getD []∈L:=by simp [hiL]
   have cD:=ih _ hb
   have hg:=zb1 hiL
   have b0:=bd i hi
   have b1:=bd (i+1) hiL
   have h1:=hs i hiL
   generalize denF n (L[i]?.getD [])=d at *
   generalize hk1:K (i+1)=k1 at *
   generalize K i=k at *
   simp [go_sem,hii,hg]
   refine CallVC.of (cD) ?_
   simp [go_sem]
   rw [<- h1]
   exact ⟨⟨by omega,by omega⟩,⟨by omega,by omega⟩,i+1,by omega,by omega,zaa _ _ _ (by simp),hk1.symm,by omega⟩
  .have e:i=L.length:=by omega
   subst e
   have hii:¬ (L.length:Int)<L.length:=by omega
   simp [go_sem,hii]
theorem zgM:Con Tryz.prog 121 [] (.own 2 38 (avs exaS)):=by
 have cA:=zb4 6 (by omega)
 have l6:=zaJ
 have e6:((6:Nat):Int)=6:=rfl
 rw [e6,l6] at cA
 have tk:∀ i,i<37->exaS.take (i+2)=exaS.take (i+1)++[iat exaS (i+1)]:=fun i hi=>by
  have l:=zaL.1.1
  rw [List.take_succ_eq_append_getElem (by omega)]
  unfold iat
  rw [List.getElem?_eq_getElem (by omega)]; rfl
 have ta:exaS.take 38=exaS:=zaL.1.take
 have t1:exaS.take 1=[1]:=by kernel_rfl
 have lo:=zaL.1.1
 have at6:=fun t h=>zeK (t:=t) h
 have xa:=fun p h=>zss (p:=p) h
 generalize exaS=O at *
 refine zab Tryz.mixed ⟨4,[],[],[]⟩ Tryz.func121 ?_
 rw [Tryz.ntmps121]
 simp [go_sem]
 refine CallVC.of (cA) ?_
 simp [go_sem]
 refine zac (2::3::List.range' 6 15) (fun i:Nat=>[(2,.own 2 (i+1) (avs (O.take (i+1)))),(3,.int i)]) (fun i=>i<=37) (fun i=>37-i) 0 (by simp) (by simp [go_sem,t1,avs]) (by simp [go_sem]) ?_
 intro i hi
 by_cases hil:i<37
 .have hii:(i:Int)<37:=by omega
  have hl:i<(trN 6).length:=by omega
  have og:=zb1 hl
  have hm:=memD [] hl
  obtain ⟨d1,d2,d3⟩:=at6 _ hm
  have cD:=zeG 8 _ d1 (by omega) d3
  obtain ⟨w1,w2⟩:=zsh hm
  have cF:=zbB 1 (denF 8 ((trN 6)[i]?.getD [])) ⟨by omega,by omega⟩ ⟨by omega,by omega⟩
  have pN:=pw_N (denF 8 ((trN 6)[i]?.getD [])%10007) 10005
  have e:(1:Int)%10007*pw (denF 8 ((trN 6)[i]?.getD [])%10007) 10005%10007=iat O (i+1):=by
   rw [<- xa i hil]
   have:=pN.1; have:=pN.2
   generalize pw (denF 8 ((trN 6)[i]?.getD [])%10007) 10005=v at *
   omega
  rw [e] at cF
  have t2:=tk i hil
  generalize iat O (i+1)=v at *
  generalize (trN 6)[i]?.getD []=t at *
  generalize denF 8 t=d at *
  simp [go_sem,hii,og]
  refine CallVC.of (cD) ?_
  simp [go_sem]
  refine CallVC.of (cF) ?_
  simp [go_sem]
  refine ⟨⟨by omega,by omega,by omega⟩,⟨by omega,by omega⟩,i+1,by omega,by omega,zaa _ _ _ (by simp),?_⟩
  rw [t2,zal]
  exact ⟨⟨rfl,rfl⟩,by omega⟩
 .have e:i=37:=by omega
  subst e
  rw [ta]
  simp [go_sem]
def DrM (first:Int) (a:List Int):Prop:=a.length=38/\iat a 0=first/\∀ i,1<=i->isN (iat a i)
theorem DrM.set {first:Int} {a:List Int} (h:DrM first a) {i:Nat} {x:Int} (hi:1<=i) (hx:isN x):DrM first (a.set i x):=by
 obtain ⟨h1,h2,h3⟩:=h
 refine ⟨by rw [List.length_set,h1],?_,fun j hj=>?_⟩
 .unfold iat at *
  rw [List.getElem?_set_ne (by omega)]; exact h2
 .unfold iat at *
  by_cases e:i=j
  .subst e
   by_cases hl:i<a.length
   .rw [List.getElem?_set_self hl]; exact hx
   .rw [List.getElem?_eq_none (by rw [List.length_set]; omega)]; exact ⟨by decide,by decide⟩
  .rw [List.getElem?_set_ne e]; exact h3 j hj
theorem DrM.first {f g:Int} {a:List Int} (h:DrM f a):DrM g (a.set 0 g):=by
 obtain ⟨h1,h2,h3⟩:=h
 refine ⟨by rw [List.length_set,h1],?_,fun j hj=>?_⟩
 .unfold iat
  rw [List.getElem?_set_self (by omega)]; rfl
 .unfold iat at *
  rw [List.getElem?_set_ne (by omega)]; exact h3 j hj
theorem N38.drm {a:List Int} (h:N38 a):DrM (iat a 0) a:=⟨h.1,rfl,fun i _=>h.Ns.get i⟩
theorem DrM.n38 {first:Int} {a:List Int} (hf:isN first) (h:DrM first a):N38 a:=⟨h.1,fun x hx=>by
 obtain ⟨i,hi,rfl⟩:=List.getElem_of_mem hx
 rcases Nat.eq_zero_or_pos i with rfl | h0
 .have e:=h.2.1
  unfold iat at e
  rw [List.getElem?_eq_getElem hi,Option.getD_some] at e
  rw [e]; exact ⟨hf.1,by have:=hf.2; omega⟩
 .have e:=h.2.2 i h0
  unfold iat at e
  rw [List.getElem?_eq_getElem hi,Option.getD_some] at e
  exact ⟨e.1,by have:=e.2; omega⟩⟩
def zlM (first:Int):List Int:=first::List.replicate 37 0
theorem zx8 (first:Int):DrM first (zlM first):=⟨rfl,rfl,fun i hi=>by
 obtain ⟨j,rfl⟩:∃ j,i=j+1:=⟨i-1,by omega⟩
 unfold zlM iat
 rw [List.getElem?_cons_succ]
 by_cases h:j<37
 .rw [List.getElem?_replicate_of_lt h]; exact ⟨by decide,by decide⟩
 .rw [List.getElem?_eq_none (by simp; omega)]; exact ⟨by decide,by decide⟩⟩
theorem DrM.cons {first:Int} {l:List Int} (hl:l.length=37) (hN:Ns l):DrM first (first::l):=⟨by rw [List.length_cons,hl],rfl,fun i hi=>by
 obtain ⟨j,rfl⟩:∃ j,i=j+1:=⟨i-1,by omega⟩
 unfold iat
 rw [List.getElem?_cons_succ]
 exact hN.get j⟩
theorem ziZ (c:List Int) (σ:Src) (first:Int) (hc:Byt c) (hs:SOk σ) (hf:isN first) :
  RCon Tryz.prog 261 [srcA c σ,.int first] (fun r o=>∃ (τ:Src) (a:List Int),SOk τ/\o=[srcA c τ,.any]/\DrM first a/\r=.own 2 38 (avs a)):=by
 have c1:=zan c σ 6 hc hs
 have s1:=zaI hc hs 6
 have b1:=zct hc σ (n:=6) (by omega)
 simp only [zaA] at *
 refine zaD Tryz.mixed ⟨8,[],[1000000+183,1000000+184,1000000+221],[]⟩ [0] Tryz.func261 ?_
 rw [Tryz.ntmps261]
 simp [go_sem]
 refine ⟨_,_,c1,?_⟩
 simp [go_sem]
 generalize nx1 c σ 6=v at *
 generalize nx2 c σ 6=τ0 at *
 by_cases v0:v=0
 .subst v0
  simp [go_sem]
  refine CallVC.of (zgM) ?_
  simp [go_sem]
  refine ⟨by rw [zaL.1.1]; omega,?_⟩
  rw [zaK]
  have d1:DrM first (exaS.set 0 first):=zaL.1.drm.first
  have c2:=zan c τ0 2 hc s1
  have s2:=zaI hc s1 2
  simp only [zaA] at c2
  generalize exaS.set 0 first=a at *
  refine ⟨_,_,c2,?_⟩
  simp [go_sem]
  generalize nx1 c τ0 2=v2 at *
  generalize nx2 c τ0 2=τ2 at *
  by_cases w:v2=0
  .have c3:=zbs c τ2 hc s2
   obtain ⟨n3,s3⟩:=zb2 hc s2
   simp only [zaA] at c3
   have c4:=zlS a (nbV c τ2).1 (d1.n38 hf) n3
   generalize nbV c τ2=q at *
   rw [d1.1] at c4
   simp [go_sem,w]
   refine ⟨_,_,c3,?_⟩
   simp [go_sem]
   refine CallVC.of (c4) ?_
   simp [go_sem]
   have d4:DrM first (scS q.1 a):=by
    have:=(zhU q.1 a).drm
    have e:iat (scS q.1 a) 0=first:=by
     unfold scS
     rw [zaN _ (by decide),d1.2.1]
     show first*q.1 ^ 0%10007=first
     rw [Int.pow_zero,Int.mul_one,Int.emod_eq_of_lt hf.1 (by have:=hf.2; omega)]
    rw [e] at this
    exact this
   generalize scS q.1 a=a3 at *
   have cN:=zan c q.2 3 hc s3
   have sN:=zaI hc s3 3
   have bN:=zct hc q.2 (n:=3) (by omega)
   simp only [zaA] at cN
   refine ⟨_,_,cN,?_⟩
   simp [go_sem]
   obtain ⟨k0,hk0⟩:∃ k:Nat,nx1 c q.2 3=k:=⟨(nx1 c q.2 3).toNat,by omega⟩
   rw [hk0] at bN |-
   generalize nx2 c q.2 3=τ3 at *
   refine zac (0::5::6::List.range' 27 11) (fun x:Src × List Int × Nat=>[(0,.box 162 [.sl c.length (bys c),.int x.1.1,.val (.int .u64 x.1.2)]),(5,.own 2 38 (avs x.2.1)),(6,.int x.2.2)]) (fun x=>SOk x.1/\DrM first x.2.1/\x.2.2<=10) (fun x=>x.2.2) (τ3,a3,k0) ⟨sN,d4,by simp only; omega⟩ (by simp [go_sem]) (by simp [go_sem]) ?_
   rintro ⟨τ4,a4,k⟩ ⟨h1,h2,h3⟩
   simp only at h1 h2 h3
   by_cases hk:0<k
   .have hki:(0:Int)<k:=by omega
    have c6:=zan c τ4 37 hc h1
    have s6:=zaI hc h1 37
    have b6:=zct hc τ4 (n:=37) (by omega)
    obtain ⟨u,hu⟩:∃ u:Nat,nx1 c τ4 37=u:=⟨(nx1 c τ4 37).toNat,by omega⟩
    rw [hu] at c6 b6
    generalize nx2 c τ4 37=τ6 at *
    have c7:=zbs c τ6 hc s6
    obtain ⟨n7,s7⟩:=zb2 hc s6
    simp only [zaA] at c6 c7
    generalize nbV c τ6=q7 at *
    have d7:=h2.set (i:=u+1) (x:=q7.1) (by omega) n7
    have l4:=h2.1
    simp [go_sem,hk]
    refine ⟨_,_,c6,?_⟩
    simp [go_sem]
    refine ⟨⟨by omega,by omega⟩,?_⟩
    refine ⟨_,_,c7,?_⟩
    simp [go_sem]
    have eu:(1+(u:Int)).toNat=u+1:=by omega
    rw [eu]
    refine ⟨⟨by omega,by omega⟩,by omega,⟨by omega,by omega⟩,q7.2.1,q7.2.2,a4.set (u+1) q7.1,k-1,⟨s7,d7,by omega⟩,by omega,zaa _ _ _ (by simp),?_⟩
    have ek:(k:Int)-1=((k-1:Nat):Int):=by omega
    exact ⟨⟨rfl,rfl⟩,zaK _ _ _,ek⟩
   .have e:k=0:=by omega
    subst e
    simp [go_sem]
    exact ⟨τ4.1,τ4.2,h1,⟨rfl,rfl⟩,h2⟩
  .simp [go_sem,w]
   have cN:=zan c τ2 3 hc s2
   have sN:=zaI hc s2 3
   have bN:=zct hc τ2 (n:=3) (by omega)
   simp only [zaA] at cN
   refine ⟨_,_,cN,?_⟩
   simp [go_sem]
   obtain ⟨k0,hk0⟩:∃ k:Nat,nx1 c τ2 3=k:=⟨(nx1 c τ2 3).toNat,by omega⟩
   rw [hk0] at bN |-
   generalize nx2 c τ2 3=τ3 at *
   refine zac (0::5::6::List.range' 27 11) (fun x:Src × List Int × Nat=>[(0,.box 162 [.sl c.length (bys c),.int x.1.1,.val (.int .u64 x.1.2)]),(5,.own 2 38 (avs x.2.1)),(6,.int x.2.2)]) (fun x=>SOk x.1/\DrM first x.2.1/\x.2.2<=10) (fun x=>x.2.2) (τ3,a,k0) ⟨sN,d1,by simp only; omega⟩ (by simp [go_sem]) (by simp [go_sem]) ?_
   rintro ⟨τ4,a4,k⟩ ⟨h1,h2,h3⟩
   simp only at h1 h2 h3
   by_cases hk:0<k
   .have hki:(0:Int)<k:=by omega
    have c6:=zan c τ4 37 hc h1
    have s6:=zaI hc h1 37
    have b6:=zct hc τ4 (n:=37) (by omega)
    obtain ⟨u,hu⟩:∃ u:Nat,nx1 c τ4 37=u:=⟨(nx1 c τ4 37).toNat,by omega⟩
    rw [hu] at c6 b6
    generalize nx2 c τ4 37=τ6 at *
    have c7:=zbs c τ6 hc s6
    obtain ⟨n7,s7⟩:=zb2 hc s6
    simp only [zaA] at c6 c7
    generalize nbV c τ6=q7 at *
    have d7:=h2.set (i:=u+1) (x:=q7.1) (by omega) n7
    have l4:=h2.1
    simp [go_sem,hk]
    refine ⟨_,_,c6,?_⟩
    simp [go_sem]
    refine ⟨⟨by omega,by omega⟩,?_⟩
    refine ⟨_,_,c7,?_⟩
    simp [go_sem]
    have eu:(1+(u:Int)).toNat=u+1:=by omega
    rw [eu]
    refine ⟨⟨by omega,by omega⟩,by omega,⟨by omega,by omega⟩,q7.2.1,q7.2.2,a4.set (u+1) q7.1,k-1,⟨s7,d7,by omega⟩,by omega,zaa _ _ _ (by simp),?_⟩
    have ek:(k:Int)-1=((k-1:Nat):Int):=by omega
    exact ⟨⟨rfl,rfl⟩,zaK _ _ _,ek⟩
   .have e:k=0:=by omega
    subst e
    simp [go_sem]
    exact ⟨τ4.1,τ4.2,h1,⟨rfl,rfl⟩,h2⟩
 .by_cases v1:v=1
  .subst v1
   simp [go_sem]
   have cN:=zan c τ0 4 hc s1
   have sN:=zaI hc s1 4
   have bN:=zct hc τ0 (n:=4) (by omega)
   simp only [zaA] at cN
   refine ⟨_,_,cN,?_⟩
   simp [go_sem]
   obtain ⟨k0,hk0⟩:∃ k:Nat,nx1 c τ0 4=k:=⟨(nx1 c τ0 4).toNat,by omega⟩
   rw [hk0] at bN |-
   generalize nx2 c τ0 4=τ3 at *
   have ek0:1+(k0:Int)=((k0+1:Nat):Int):=by omega
   refine ⟨⟨by omega,by omega⟩,?_⟩
   refine zac (0::5::7::List.range' 48 11) (fun x:Src × List Int × Nat=>[(0,.box 162 [.sl c.length (bys c),.int x.1.1,.val (.int .u64 x.1.2)]),(5,.own 2 38 (avs x.2.1)),(7,.int x.2.2)]) (fun x=>SOk x.1/\DrM first x.2.1/\x.2.2<=10) (fun x=>x.2.2) (τ3,zlM first,k0+1) ⟨sN,zx8 first,by simp only; omega⟩ (by simp [go_sem]; exact ⟨rfl,by omega⟩) (by simp [go_sem]) ?_
   rintro ⟨τ4,a4,k⟩ ⟨h1,h2,h3⟩
   simp only at h1 h2 h3
   by_cases hk:0<k
   .have hki:(0:Int)<k:=by omega
    have c6:=zan c τ4 8 hc h1
    have s6:=zaI hc h1 8
    have b6:=zct hc τ4 (n:=8) (by omega)
    obtain ⟨u,hu⟩:∃ u:Nat,nx1 c τ4 8=u:=⟨(nx1 c τ4 8).toNat,by omega⟩
    rw [hu] at c6 b6
    generalize nx2 c τ4 8=τ6 at *
    have c7:=zbs c τ6 hc s6
    obtain ⟨n7,s7⟩:=zb2 hc s6
    simp only [zaA] at c6 c7
    generalize nbV c τ6=q7 at *
    have d7:=h2.set (i:=u+1) (x:=q7.1) (by omega) n7
    have l4:=h2.1
    simp [go_sem,hk]
    refine ⟨_,_,c6,?_⟩
    simp [go_sem]
    refine ⟨⟨by omega,by omega⟩,?_⟩
    refine ⟨_,_,c7,?_⟩
    simp [go_sem]
    have eu:(1+(u:Int)).toNat=u+1:=by omega
    rw [eu]
    refine ⟨⟨by omega,by omega⟩,by omega,⟨by omega,by omega⟩,q7.2.1,q7.2.2,a4.set (u+1) q7.1,k-1,⟨s7,d7,by omega⟩,by omega,zaa _ _ _ (by simp),?_⟩
    have ek:(k:Int)-1=((k-1:Nat):Int):=by omega
    exact ⟨⟨rfl,rfl⟩,zaK _ _ _,ek⟩
   .have e:k=0:=by omega
    subst e
    simp [go_sem]
    exact ⟨τ4.1,τ4.2,h1,⟨rfl,rfl⟩,h2⟩
  .simp [go_sem,v0,v1]
   have c5:=zbR c τ0 37 hc s1 (by omega)
   obtain ⟨g1,g2,g3⟩:=zeI (f:=nbV c) (fun σ h=>zb2 hc h) 37 τ0 s1
   simp only [zaA] at c5
   generalize lsV (nbV c) 37 τ0=q at *
   refine ⟨_,_,c5,?_⟩
   simp [go_sem]
   exact ⟨g1,q.2.1,q.2.2,g3,⟨rfl,rfl⟩,first::q.1,DrM.cons g1 g2,rfl⟩
def DrA (a:List Int):Prop:=37<=a.length/\a.length<=38/\∀ x∈a,fits x
theorem DrM.dra {f:Int} {a:List Int} (hf:isN f) (h:DrM f a):DrA a:=⟨by have:=h.1; omega,by have:=h.1; omega,fun x hx=>by
 have:=(h.n38 hf).2 x hx
 exact ⟨by omega,by omega⟩⟩
theorem DrA.set {a:List Int} {i:Nat} {x:Int} (h:DrA a) (hx:fits x):DrA (a.set i x):=⟨by rw [List.length_set]; exact h.1,by rw [List.length_set]; exact h.2.1,fun y hy=>by
 rcases List.mem_or_eq_of_mem_set hy with hy | rfl
 .exact h.2.2 y hy
 .exact hx⟩
theorem zpS {c:List Int} (hc:Byt c) {σ:Src} (hs:SOk σ):fits (spV c σ).1:=by
 have s1:=zaI hc hs 30
 unfold spV
 split
 .have b:=zct hc (nx2 c σ 30) (n:=4) (by omega)
  obtain ⟨k,hk⟩:∃ k:Nat,nx1 c (nx2 c σ 30) 4=k:=⟨(nx1 c (nx2 c σ 30) 4).toNat,by omega⟩
  have e:pk c (nx2 c σ 30) [-1,10007,1099511627776,-4611686018427387904]=([-1,10007,1099511627776,-4611686018427387904]:List Int)[(nx1 c (nx2 c σ 30) 4).toNat]?.getD 0:=rfl
  simp only
  rw [e,hk]
  have:k=0\/k=1\/k=2\/k=3:=by omega
  rcases this with rfl | rfl | rfl | rfl <;> exact ⟨by decide,by decide⟩
 .have:=(zb2 hc s1).1
  exact ⟨by have:=this.1; omega,by have:=this.2; omega⟩
theorem zio (c:List Int) (σ:Src) (hc:Byt c) (hs:SOk σ) :
  RCon Tryz.prog 207 [srcA c σ] (fun r o=>∃ (τ:Src) (a:List Int),SOk τ/\o=[srcA c τ]/\DrA a/\(r=.sl a.length (avs a)\/r=.own 2 a.length (avs a))):=by
 have c1:=ziZ c σ 1 hc hs ⟨by decide,by decide⟩
 simp only [zaA] at *
 refine zaD Tryz.mixed ⟨4,[25],[1000000+183,1000000+265,2000000+261],[]⟩ [0] Tryz.func207 ?_
 rw [Tryz.ntmps207]
 simp [go_sem]
 refine ⟨_,c1,?_⟩
 rintro _ _ ⟨τ0,a,s1,rfl,d1,rfl⟩
 have l1:=d1.1
 have dA:=d1.dra ⟨by decide,by decide⟩
 have c2:=zan c τ0 24 hc s1
 have s2:=zaI hc s1 24
 simp only [zaA] at *
 simp [go_sem]
 refine ⟨_,_,c2,?_⟩
 simp [go_sem]
 generalize nx1 c τ0 24=v at *
 generalize nx2 c τ0 24=τ2 at *
 by_cases v0:v=0
 .subst v0
  have c3:=zan c τ2 3 hc s2
  have s3:=zaI hc s2 3
  have b3:=zct hc τ2 (n:=3) (by omega)
  simp only [zaA] at *
  simp [go_sem]
  refine ⟨_,_,c3,?_⟩
  simp [go_sem]
  exact ⟨by omega,(nx2 c τ2 3).1,(nx2 c τ2 3).2,s3,⟨rfl,rfl⟩,a.set 0 (nx1 c τ2 3),dA.set ⟨by omega,by omega⟩,by rw [List.length_set]; omega,zaK _ _ _⟩
 .by_cases v1:v=1
  .subst v1
   have c3:=zan c τ2 38 hc s2
   have s3:=zaI hc s2 38
   have b3:=zct hc τ2 (n:=38) (by omega)
   obtain ⟨u,hu⟩:∃ u:Nat,nx1 c τ2 38=u:=⟨(nx1 c τ2 38).toNat,by omega⟩
   rw [hu] at c3 b3
   generalize nx2 c τ2 38=τ3 at *
   have c4:=zmb c τ3 hc s3
   have s4:=zvS hc s3
   have hs3:=s3
   simp only [zaA] at *
   simp [go_sem]
   refine ⟨_,_,c3,?_⟩
   simp [go_sem]
   refine ⟨_,_,c4,?_⟩
   simp [go_sem]
   exact ⟨by omega,by omega,(spV c τ3).2.1,(spV c τ3).2.2,s4,⟨rfl,rfl⟩,a.set u (spV c τ3).1,dA.set (zpS hc hs3),by rw [List.length_set]; omega,zaK _ _ _⟩
  .by_cases v2:v=2
   .subst v2
    simp [go_sem]
    refine ⟨τ2.1,τ2.2,s2,⟨rfl,rfl⟩,a.tail,⟨by rw [List.length_tail]; omega,by rw [List.length_tail]; omega,fun x hx=>dA.2.2 x (List.mem_of_mem_tail hx)⟩,by rw [List.length_tail]; omega,?_⟩
    have e:(avs a).tail=avs a.tail:=by unfold avs; rw [List.map_tail]
    rw [e,List.take_of_length_le (by rw [zsW,List.length_tail]; omega)]
   .simp [go_sem,v0,v1,v2]
    exact ⟨τ2.1,τ2.2,s2,⟨rfl,rfl⟩,dA,l1.symm⟩
theorem DrM.n0 {a:List Int} (h:DrM 0 a):N38 a:=h.n38 ⟨by decide,by decide⟩
theorem zgu (c:List Int) (σ:Src) (hc:Byt c) (hs:SOk σ) :
  RCon Tryz.prog 205 [srcA c σ] (fun r o=>∃ (τ:Src) (b:List Int),SOk τ/\o=[srcA c τ]/\DrM 0 b/\r=.own 2 38 (avs (expS b))):=by
 have cA:=zb4 6 (by omega)
 have l6:=zaJ
 have e6:((6:Nat):Int)=6:=rfl
 rw [e6,l6] at cA
 have c1:=ziZ c σ 0 hc hs ⟨by decide,by decide⟩
 have cC:=zig
 have h7:AV.sl 38 (AV.sl 0 []::fcF)=.sl 38 s7F:=rfl
 rw [h7] at cC
 generalize hFC:s7F=FC at *
 simp only [zaA] at *
 refine zaD Tryz.mixed ⟨7,[],[1000000+183,1000000+212,2000000+261],[]⟩ [0] Tryz.func205 ?_
 rw [Tryz.ntmps205]
 simp [go_sem]
 refine CallVC.of (cA) ?_
 simp [go_sem]
 refine ⟨_,c1,?_⟩
 rintro _ _ ⟨τ0,a,s1,rfl,d1,rfl⟩
 have c2:=zan c τ0 4 hc s1
 have s2:=zaI hc s1 4
 simp only [zaA] at *
 simp [go_sem]
 refine ⟨_,_,c2,?_⟩
 simp [go_sem]
 generalize nx1 c τ0 4=v at *
 generalize nx2 c τ0 4=τ2 at *
 refine zac (4::6::List.range' 12 29) (fun x:List Int × Nat=>[(4,.own 2 38 (avs x.1)),(6,.int x.2)]) (fun x=>DrM 0 x.1/\x.2<=37) (fun x=>37-x.2) (a,0) ⟨d1,by simp only; omega⟩ (by simp [go_sem]) (by simp [go_sem]) ?_
 rintro ⟨b,i⟩ ⟨h1,h2⟩
 simp only at h1 h2
 by_cases hil:i<37
 .have hii:(i:Int)<37:=by omega
  have hl:i<(trN 6).length:=by omega
  have og:=zb1 hl
  have e:=zgP hil
  have n1:=zik (i:=i+1) (by omega) (by omega)
  have n6:=zdD (i:=i+1) (by omega)
  have d0:=h1.set (i:=i+1) (x:=0) (by omega) ⟨by decide,by decide⟩
  have lb:=h1.1
  rw [e] at og
  generalize nd (i+1)=m at *
  generalize (trN 6)[i]?.getD []=t at *
  by_cases hm:m%2=0
  .have hmi:(m:Int).tmod 2=0:=by rw [Int.tmod_eq_emod_of_nonneg (by omega)]; omega
   simp -implicitDefEqProofs [go_sem,hii,og,hmi]
   refine ⟨⟨by omega,by omega⟩,⟨by omega,by omega⟩,by omega,⟨by omega,by omega⟩,b.set (i+1) 0,i+1,⟨d0,by omega⟩,by omega,zaa _ _ _ (by simp),?_⟩
   exact ⟨zaK _ _ _,by omega⟩
  .have hmi:¬ (m:Int).tmod 2=0:=by rw [Int.tmod_eq_emod_of_nonneg (by omega)]; omega
   by_cases hv:v=1
   .by_cases hm3:m=3
    .subst hm3
     simp -implicitDefEqProofs [go_sem,hii,og,hmi,hv]
     refine ⟨⟨by omega,by omega⟩,⟨by omega,by omega⟩,by omega,⟨by omega,by omega⟩,b.set (i+1) 0,i+1,⟨d0,by omega⟩,by omega,zaa _ _ _ (by simp),?_⟩
     exact ⟨zaK _ _ _,by omega⟩
    .have hm3i:¬ (m:Int)=3:=by omega
     simp -implicitDefEqProofs [go_sem,hii,og,hmi,hv,hm3i,hm3]
     exact ⟨⟨by omega,by omega⟩,b,i+1,⟨h1,by omega⟩,by omega,zaa _ _ _ (by simp),rfl,by omega⟩
   .simp -implicitDefEqProofs [go_sem,hii,og,hmi,hv]
    exact ⟨⟨by omega,by omega⟩,b,i+1,⟨h1,by omega⟩,by omega,zaa _ _ _ (by simp),rfl,by omega⟩
 .have ei:i=37:=by omega
  subst ei
  by_cases hv:0<v
  .have d0:=h1.set (i:=1) (x:=1) (by omega) ⟨by decide,by decide⟩
   have lb:=h1.1
   have cE:=zhM (b.set 1 1) d0.n0
   rw [d0.1,hFC] at cE
   simp [go_sem,hv]
   refine ⟨by omega,?_⟩
   rw [zaK]
   refine ⟨_,_,cC,?_⟩
   simp [go_sem]
   refine CallVC.of (cE) ?_
   simp [go_sem]
   exact ⟨τ2.1,τ2.2,s2,⟨rfl,rfl⟩,b.set 1 1,d0,rfl⟩
  .have cE:=zhM b h1.n0
   rw [h1.1,hFC] at cE
   simp [go_sem,hv]
   refine ⟨_,_,cC,?_⟩
   simp [go_sem]
   refine CallVC.of (cE) ?_
   simp [go_sem]
   exact ⟨τ2.1,τ2.2,s2,⟨rfl,rfl⟩,b,h1,rfl⟩
def DrG (g:List Int):Prop:=g.length<=10/\∀ x∈g,fits x
theorem DrG.ns {g:List Int} (hl:g.length<=10) (h:Ns g):DrG g:=⟨hl,fun x hx=>by have:=h x hx; exact ⟨by have:=this.1; omega,by have:=this.2; omega⟩⟩
theorem zvH (n:Int) (h0 : -9223372036854775808<=n) (h1:n<=9223372036854775807):Con Tryz.prog 133 [.int n] (.int (n%10007)):=by
 have e:=zj6 n
 have b:=zjs n
 refine zab Tryz.mixed ⟨3,[],[],[]⟩ Tryz.func133 ?_
 rw [Tryz.ntmps133]
 simp [go_sem]
 simp [go_sem,e]
 omega
def kpS (n:Int) (a:List Int):List Int:=mk38 fun i=>if (nd i:Int)=n then iat a i else 0
def dfS (a b:List Int) (k:Int):List Int:=mk38 fun i=>iat a i+k%10007*iat b i
def mlS (a:List Int) (k:Int):List Int:=mk38 fun i=>iat a i*(k%10007)
def zrS:List Int:=mk38 fun _=>0
theorem zsq {n:Int} {a:List Int} {i:Nat} (h:i<38):iat (kpS n a) i=(if (nd i:Int)=n then iat a i else 0)%10007:=zaN _ h
theorem zk6 {a b:List Int} {k:Int} {i:Nat} (h:i<38):iat (dfS a b k) i=(iat a i+k%10007*iat b i)%10007:=zaN _ h
theorem zwC {a:List Int} {k:Int} {i:Nat} (h:i<38):iat (mlS a k) i=iat a i*(k%10007)%10007:=zaN _ h
theorem zvo {i:Nat} (h:i<38):iat zrS i=0:=zaN _ h
open Go.Abs
theorem zpB {a:List Int} (h:a.length=38) (b:List Int) (k:Int):zfv a b k=dfS a b k:=by
 unfold zfv dfS mk38 iat tb
 rw [h]
theorem zqd {a:List Int} (h:a.length=38) (k:Int):zh1 a k=mlS a k:=by
 unfold zh1 mlS mk38 iat tb
 rw [h]
theorem zmu (a b:List Int) (k:Int):N38 (dfS a b k):=za8 _
theorem zvM (a:List Int) (k:Int):N38 (mlS a k):=za8 _
theorem znY (n:Int) (a:List Int):N38 (kpS n a):=za8 _
theorem zfd (a b:List Int) (k:Int) (ha:N38 a) (hb:N38 b) (hk:fits k):Con Tryz.prog 84 [.sl a.length (avs a),.sl b.length (avs b),.int k] (.own 2 38 (avs (dfS a b k))):=by
 have h:=zst a b k ha.Ns hb.Ns hk (by rw [ha.1]; omega) (by rw [ha.1,hb.1]; omega)
 rw [zpB ha.1] at h
 simpa only [ha.1] using h
theorem zlZ (a:List Int) (k:Int) (ha:N38 a) (hk:fits k):Con Tryz.prog 79 [.sl a.length (avs a),.int k] (.own 2 38 (avs (mlS a k))):=by
 have h:=zrb a k ha.Ns hk (by rw [ha.1]; omega)
 rw [zqd ha.1] at h
 simpa only [ha.1] using h
def kpX (m:Int) (a:List Int) (i:Nat):List Int:=(kpS m a).take i++List.replicate (38-i) 0
theorem ztr (m:Int) {a:List Int} (ha:N38 a) {i:Nat} (h:i<38):kpX m a (i+1)=if (nd i:Int)=m then (kpX m a i).set i (iat a i) else kpX m a i:=by
 have l:=(znY m a).1
 have t:=List.take_succ_eq_append_getElem (l:=kpS m a) (i:=i) (by omega)
 have e:=zsq (n:=m) (a:=a) h
 have r:=ha.at i
 unfold iat at e
 rw [List.getElem?_eq_getElem (by omega),Option.getD_some] at e
 have lt:((kpS m a).take i).length=i:=by rw [List.length_take]; omega
 obtain ⟨d,hd⟩:∃ d,38-i=d+1:=⟨37-i,by omega⟩
 have hd2:38-(i+1)=d:=by omega
 unfold kpX
 rw [hd,hd2,t,e]
 split
 .rename_i hm
  have s:=zhS (iat a i) ((kpS m a).take i) d
  rw [lt] at s
  rw [s]
  unfold iat at r |-
  rw [Int.emod_eq_of_lt r.1 r.2]
 .rw [List.replicate_succ]; simp
theorem zx3 (m:Int) (a:List Int):kpX m a 0=List.replicate 38 0:=by simp [kpX]
theorem zwF (m:Int) (a:List Int):kpX m a 38=kpS m a:=by
 unfold kpX
 rw [List.take_of_length_le (by rw [(znY m a).1]; exact Nat.le_refl _)]; simp
theorem zto (m:Int) (a:List Int) {i:Nat} (h:i<=38):(kpX m a i).length=38:=by
 have l:=(znY m a).1
 unfold kpX
 rw [List.length_append,List.length_take,List.length_replicate]; omega
theorem zvW (g:FuncId) (p m:Int) (a:List Int) (ha:N38 a) (hG:∀ n:Nat,n<=6->Con Tryz.prog g [.int n,.fptr [.int p]] (.bool (decide ((n:Int)=m)))) :
  Con Tryz.prog 127 [.agg [.sl 37 (mat (trN 6)),.sl 37 fcF],.sl a.length (avs a),.fn g [.fptr [.int p]]] (.own 2 38 (avs (kpS m a))):=by
 have cN:=fun p h=>zpw p h
 have la:=ha.1
 have st:=fun i (h:i<38)=>ztr m ha h
 have ln:=fun i (h:i<=38)=>zto m a h
 have k0:avs (kpX m a 0)=List.replicate 38 (.int 0):=by rw [zx3]; rfl
 rw [<- zwF]
 generalize kpX m a=X at *
 generalize fcF=FC at *
 refine zab Tryz.mixed ⟨10,[],[],[]⟩ Tryz.func127 ?_
 rw [Tryz.ntmps127]
 simp [go_sem]
 refine ⟨⟨by omega,by omega⟩,?_⟩
 refine zac (7::8::9::List.range' 15 15) (fun i:Nat=>[(7,.own 2 38 (avs (X i))),(15,.int i)]) (fun i=>i<=38) (fun i=>38-i) 0 (by simp) (by simp [go_sem,k0,la]) (by simp [go_sem]) ?_
 intro i hi
 by_cases hil:i<38
 .have hii:(i:Int)<a.length:=by omega
  have na:¬ a=[]:=by rintro rfl; simp at la
  have dr:=zae (a:=a) (v:=i) (by omega)
  have c1:=cN i hil
  have n6:=zdD (i:=i) hil
  have c2:=hG (nd i) n6
  have s1:=st i hil
  have l1:=ln i (by omega)
  by_cases hm:(nd i:Int)=m
  .rw [if_pos hm] at s1
   rw [decide_eq_true hm] at c2
   generalize nd i=n at *
   generalize iat a i=x at *
   simp [go_sem,hii,dr]
   refine ⟨na,?_⟩
   refine CallVC.of (c1) ?_
   simp [go_sem]
   refine CallVC.of (c2) ?_
   simp [go_sem]
   exact ⟨by omega,by omega,⟨by omega,by omega⟩,i+1,by omega,by omega,zaa _ _ _ (by simp),by rw [s1]; exact zaK _ _ _,by omega⟩
  .rw [if_neg hm] at s1
   rw [decide_eq_false hm] at c2
   generalize nd i=n at *
   generalize iat a i=x at *
   simp [go_sem,hii,dr]
   refine ⟨na,?_⟩
   refine CallVC.of (c1) ?_
   simp [go_sem]
   refine CallVC.of (c2) ?_
   simp [go_sem]
   exact ⟨⟨by omega,by omega⟩,i+1,by omega,by omega,zaa _ _ _ (by simp),by rw [s1],by omega⟩
 .have e:i=38:=by omega
  subst e
  have hii:¬ (38:Int)<a.length:=by omega
  simp [go_sem,hii]
theorem zm8 (a b:List Int) (ha:N38 a) (hb:N38 b):Con Tryz.prog 134 [.sl a.length (avs a),.sl b.length (avs b)] (.tup [.own 2 38 (avs (dfS a b 1)),.int 0]):=by
 have c1:=zds a (by rw [ha.1]; omega)
 have c2:=zds b (by rw [hb.1]; omega)
 rw [ha.mapB] at c1
 rw [hb.mapB] at c2
 have c3:=zfd a b 1 ha hb ⟨by decide,by decide⟩
 generalize dfS a b 1=D at *
 refine zab Tryz.mixed ⟨6,[],[],[]⟩ Tryz.func134 ?_
 rw [Tryz.ntmps134]
 simp [go_sem]
 refine CallVC.of (c1) ?_
 simp [go_sem]
 refine CallVC.of (c2) ?_
 simp [go_sem]
 refine CallVC.of (c3) ?_
 simp [go_sem]
theorem zhH (a:List Int) (k:Int) (ha:N38 a) (hk:isN k):Con Tryz.prog 132 [.sl a.length (avs a),.int k] (.tup [.own 2 38 (avs (mlS a k)),.int 0]):=by
 have c1:=zds a (by rw [ha.1]; omega)
 rw [ha.mapB] at c1
 have cN:=zgW k
 rw [decide_eq_true (show 0<=k/\k<=10006 by obtain ⟨x,y⟩:=hk; omega)] at cN
 have c3:=zlZ a k ha ⟨by have:=hk.1; omega,by have:=hk.2; omega⟩
 generalize mlS a k=D at *
 refine zab Tryz.mixed ⟨6,[],[],[]⟩ Tryz.func132 ?_
 rw [Tryz.ntmps132]
 simp [go_sem]
 refine CallVC.of (c1) ?_
 simp [go_sem]
 refine CallVC.of (cN) ?_
 simp [go_sem]
 refine CallVC.of (c3) ?_
 simp [go_sem]
theorem zoV (a:List Int) (ha:a.length<=9223372036854775807):Con Tryz.prog 129 [.sl a.length (avs a),.sl a.length (avs a)] (.int (ckC a)):=by
 have cM:=zug a ha
 unfold ckC
 by_cases hm:mapB a=true
 .rw [if_pos hm]
  rw [hm] at cM
  have hl:=(zgv hm).1
  have na:¬ a=[]:=by rintro rfl; simp at hl
  have a0:=zae (a:=a) (v:=0) (by omega)
  rw [List.drop_zero] at a0
  by_cases h1:iat a 0=1
  .rw [if_pos h1]
   rw [h1] at a0
   refine zab Tryz.mixed ⟨5,[],[],[]⟩ Tryz.func129 ?_
   rw [Tryz.ntmps129]
   simp [go_sem]
   refine CallVC.of (cM) ?_
   simp [go_sem]
   refine CallVC.of (cM) ?_
   simp [go_sem]
   simp [go_sem,a0]
   exact ⟨by omega,na⟩
  .rw [if_neg h1]
   generalize iat a 0=x at *
   refine zab Tryz.mixed ⟨5,[],[],[]⟩ Tryz.func129 ?_
   rw [Tryz.ntmps129]
   simp [go_sem]
   refine CallVC.of (cM) ?_
   simp [go_sem]
   refine CallVC.of (cM) ?_
   simp [go_sem]
   simp [go_sem,a0,h1]
   exact ⟨by omega,na⟩
 .rw [if_neg hm]
  have hf:mapB a=false:=by simpa using hm
  rw [hf] at cM
  refine zab Tryz.mixed ⟨5,[],[],[]⟩ Tryz.func129 ?_
  rw [Tryz.ntmps129]
  simp [go_sem]
  refine CallVC.of (cM) ?_
  simp [go_sem]
theorem N38.set {a:List Int} (h:N38 a) (i:Nat) (x:Int):N38 (a.set i (x%10007)):=⟨by rw [List.length_set]; exact h.1,fun y hy=>by
 rcases List.mem_or_eq_of_mem_set hy with hy | rfl
 .exact h.2 y hy
 .exact ⟨Int.emod_nonneg _ (by decide),Int.emod_lt_of_pos _ (by decide)⟩⟩
theorem zs2 (a b:List Int) (k:Int) (ha:N38 a) (hb:N38 b) (hk:isN k):Con Tryz.prog 48 [.sl a.length (avs a),.sl b.length (avs b),.int k] (.own 2 38 (avs (dfS a (mlS b k) 1))):=by
 have c1:=zvH k (by have:=hk.1; omega) (by have:=hk.2; omega)
 have e:k%10007=k:=Int.emod_eq_of_lt hk.1 (by have:=hk.2; omega)
 rw [e] at c1
 have c2:=zhH b k hb hk
 have c3:=zm8 a (mlS b k) ha (zvM _ _)
 rw [(zvM b k).1] at c3
 generalize dfS a (mlS b k) 1=D at *
 generalize mlS b k=M at *
 refine zab Tryz.mixed ⟨11,[],[],[]⟩ Tryz.func48 ?_
 rw [Tryz.ntmps48]
 simp [go_sem]
 refine CallVC.of (c1) ?_
 simp [go_sem]
 refine CallVC.of (c2) ?_
 simp [go_sem]
 refine CallVC.of (c3) ?_
 simp [go_sem]
theorem zfL (A:List (List Int)) (B:List Int) (hT:Tab A B) :
  ∀ (n:Nat) (t:List Int),Lv t->t.length<=n->t.length<=1048576->Con Tryz.prog 306 [.agg [.sl A.length (mat A),.sl B.length (avs B)],.sl t.length (avs t)] (.own 2 B.length (avs (stwF A B.length n t)))
 | 0,t,hL,hn,_=>by have:=hL.1; omega
 | n+1,t,hL,hn,hl=>by
  have hp:=hT.pos
  have hle:=hT.le
  have hAB:=hT.len
  have cO:=znx B.length (by omega)
  have cB:=zc4 t hl hL
  have ih:=fun b (hb:b∈brs t)=>zfL A B hT n b (zb9 hL hb).1 (by have:=(zb9 hL hb).2; omega) (by have:=(zb9 hL hb).2; omega)
  have hcnt:(brs t).length<t.length:=zfu hL
  have hd:stwF A B.length (n+1) t=hadL B.length (List.replicate B.length 1) ((brs t).map fun b=>tim A (stwF A B.length n b)):=rfl
  rw [hd]
  refine zab Tryz.mixed ⟨10,[],[],[]⟩ Tryz.func306 ?_
  rw [Tryz.ntmps306]
  simp [go_sem]
  refine CallVC.of (cO) ?_
  simp [go_sem]
  refine CallVC.of (cB) ?_
  simp [go_sem]
  generalize brs t=L at *
  refine zac ([5,7,8,9]++List.range' 16 33) (fun i:Nat=>[(5,.own 2 B.length (avs (hadL B.length (List.replicate B.length 1) ((L.map fun b=>tim A (stwF A B.length n b)).take i)))),(7,.int i)]) (fun i=>i<=L.length) (fun i=>L.length-i) 0 (by simp) (by simp [go_sem,hadL]) (by simp [go_sem]) ?_
  intro i hi
  by_cases hiL:i<L.length
  .have hii:(i:Int)<L.length:=by omega
   have hb:L[i]?.getD []∈L:=by simp [hiL]
   have cS:=ih _ hb
   have ok:=zog A B.length n (L[i]?.getD [])
   have cA:=zmc A (stwF A B.length n (L[i]?.getD [])) (by rw [ok.1]; exact hT.a) (by omega) (by omega) ok.2
   rw [ok.1] at cA
   have hm:i<(L.map fun b=>tim A (stwF A B.length n b)).length:=by simpa using hiL
   have ht:=zo8 (s:=B.length) (a:=List.replicate B.length 1) hm
   have hg:(L.map fun b=>tim A (stwF A B.length n b))[i]?.getD []=tim A (stwF A B.length n (L[i]?.getD [])):=by simp [hiL]
   rw [hg] at ht
   have o1:=zoe (zka B.length) ((L.map fun b=>tim A (stwF A B.length n b)).take i)
   have o2:(tim A (stwF A B.length n (L[i]?.getD []))).length=B.length/\Ns (tim A (stwF A B.length n (L[i]?.getD []))):=⟨by simp [hAB],zye _ _⟩
   have hgt:=zb1 hiL
   generalize tim A (stwF A B.length n (L[i]?.getD []))=w at *
   generalize stwF A B.length n (L[i]?.getD [])=u at *
   generalize hadL B.length (List.replicate B.length 1) ((L.map fun b=>tim A (stwF A B.length n b)).take i)=old at *
   generalize hnw:hadL B.length (List.replicate B.length 1) ((L.map fun b=>tim A (stwF A B.length n b)).take (i+1))=new at *
   have hw:w.length=A.length:=by omega
   simp [go_sem,hii,hgt]
   refine ⟨by kernel_rfl,?_⟩
   refine CallD.of (cS) ?_
   simp [go_sem]
   refine CallD.of (cA) ?_
   simp [go_sem]
   refine ⟨by kernel_rfl,?_⟩
   simp [go_sem]
   refine zac ([5,9]++List.range' 31 18) (fun j:Nat=>[(5,.own 2 B.length (avs (ovL new old B.length j))),(9,.int j)]) (fun j=>j<=B.length) (fun j=>B.length-j) 0 (by simp) (by simp [go_sem,zqf o1.1]) (by simp [go_sem]) ?_
   intro j hj
   by_cases hjs:j<B.length
   .have hji:(j:Int)<B.length:=by omega
    have hjw:j<w.length:=by omega
    have hjo:j<(ovL new old B.length j).length:=by simpa using hjs
    have g1:=zbd hjo
    have g2:=zbd hjw
    rw [zoG hjs] at g1
    have n1:=o1.2.get j
    have n2:=o2.2.get j
    have hs:=zpr (new:=new) (old:=old) hjs
    have hnew:new[j]?.getD 0=old[j]?.getD 0*w[j]?.getD 0%10007:=by rw [ht]; exact zkJ _ hjs
    have fm:=zaw n1 n2
    have cN:=zaZ _ _ fm
    rw [<- hnew] at cN
    have hset:=zaK (ovL new old B.length j) j (new[j]?.getD 0)
    rw [hs] at hset
    generalize old[j]?.getD 0=x at *
    generalize w[j]?.getD 0=y at *
    generalize new[j]?.getD 0=z at *
    generalize ovL new old B.length j=O at *
    simp [go_sem,hji,g1,g2]
    refine ⟨by kernel_rfl,by omega,?_⟩
    refine CallD.of (cN) ?_
    simp [go_sem]
    refine ⟨by omega,by omega,?_⟩
    refine ⟨by kernel_rfl,?_⟩
    simp [go_sem]
    exact ⟨⟨by omega,by omega⟩,j+1,by omega,by omega,zaa _ _ _ (by simp),hset,by omega⟩
   .have e:j=B.length:=by omega
    have hji:¬ (j:Int)<B.length:=by omega
    have nl:new.length=B.length:=by rw [ht]; simp
    rw [e] at hji
    rw [e,zmM nl]
    simp [go_sem,hji]
    exact ⟨⟨by omega,by omega⟩,i+1,by omega,by omega,(Off.reset (by intro x hx; simp at hx |-; omega) (by simp) (by simp [go_sem,zaa])),hnw.symm,by omega⟩
  .have e:i=L.length:=by omega
   have e2:(L.map fun b=>tim A (stwF A B.length n b)).take i=L.map fun b=>tim A (stwF A B.length n b):=List.take_of_length_le (by simp; omega)
   rw [e2]
   simp [go_sem,e]
theorem zjH (A:List (List Int)) (B:List Int) (hT:Tab A B) (n:Nat) (t:List Int) (hL:Lv t) (hn:t.length<=n) (hl:t.length<=1048576) :
  Con Tryz.prog 258 [.agg [.sl A.length (mat A),.sl B.length (avs B)],.sl t.length (avs t)] (.int (dotI B (stwF A B.length n t)%10007)):=by
 have cS:=zfL A B hT n t hL hn hl
 have ok:=zog A B.length n t
 have hle:=hT.le
 have cD:=zki B (stwF A B.length n t) (by omega) (by omega) hT.b ok.2
 rw [ok.1] at cD
 refine zab Tryz.mixed ⟨5,[],[],[]⟩ Tryz.func258 ?_
 rw [Tryz.ntmps258]
 simp [go_sem]
 refine ⟨by kernel_rfl,?_⟩
 refine CallD.of (cS) ?_
 simp [go_sem]
 refine CallD.of (cD) ?_
 simp [go_sem]
 refine ⟨by kernel_rfl,?_⟩
 simp [go_sem]
def chr6 (A:List (List Int)) (B:List Int):List Int:=1::(trN 6).map fun t=>dotI B (stwF A B.length 6 t)%10007
theorem zrQ (A:List (List Int)) (B:List Int):N38 (chr6 A B):=by
 have l6:=zaJ
 refine ⟨by unfold chr6; rw [List.length_cons,List.length_map,l6],fun x hx=>?_⟩
 unfold chr6 at hx
 rcases List.mem_cons.1 hx with rfl | hx
 .exact ⟨by decide,by decide⟩
 .obtain ⟨t,_,rfl⟩:=List.mem_map.1 hx
  have:=zai (dotI B (stwF A B.length 6 t))
  exact ⟨this.1,by have:=this.2; omega⟩
theorem zdl (A:List (List Int)) (B:List Int) (hT:Tab A B):Con Tryz.prog 203 [.agg [.sl A.length (mat A),.sl B.length (avs B)]] (.own 2 38 (avs (chr6 A B))):=by
 have cT:=zb4 6 (by omega)
 have l6:=zaJ
 have at6:=fun t h=>zeK (t:=t) h
 have e6:((6:Nat):Int)=6:=rfl
 rw [e6] at cT
 unfold chr6
 generalize trN 6=L at *
 rw [l6] at cT
 refine zab Tryz.mixed ⟨6,[],[],[]⟩ Tryz.func203 ?_
 rw [Tryz.ntmps203]
 simp [go_sem]
 refine CallVC.of (cT) ?_
 simp [go_sem]
 refine zac (3::5::List.range' 8 15) (fun i:Nat=>[(3,.own 2 (i+1) (avs (1::(L.map fun t=>dotI B (stwF A B.length 6 t)%10007).take i))),(5,.int i)]) (fun i=>i<=37) (fun i=>37-i) 0 (by simp) (by simp [go_sem,avs]) (by simp [go_sem]) ?_
 intro i hi
 by_cases h:i<37
 .have hii:(i:Int)<37:=by omega
  have hL:i<L.length:=by omega
  have hm:=memD [] hL
  obtain ⟨t1,t2,_⟩:=at6 _ hm
  have cW:=zjH A B hT 6 (L[i]?.getD []) t1 t2 (by omega)
  have og:=zb1 hL
  have hM:i<(L.map fun t=>dotI B (stwF A B.length 6 t)%10007).length:=by rw [List.length_map]; exact hL
  have tk:(L.map fun t=>dotI B (stwF A B.length 6 t)%10007).take (i+1)=(L.map fun t=>dotI B (stwF A B.length 6 t)%10007).take i++[dotI B (stwF A B.length 6 (L[i]?.getD []))%10007]:=by
   rw [List.take_succ_eq_append_getElem hM,List.getElem_map,List.getElem?_eq_getElem hL]; rfl
  have ll:((L.map fun t=>dotI B (stwF A B.length 6 t)%10007).take i).length=i:=by rw [List.length_take]; omega
  generalize dotI B (stwF A B.length 6 (L[i]?.getD []))%10007=w at *
  generalize L[i]?.getD []=t at *
  simp [go_sem,hii,og]
  refine ⟨by kernel_rfl,?_⟩
  refine CallD.of (cW) ?_
  simp [go_sem]
  refine ⟨⟨by omega,by omega,by omega⟩,?_⟩
  refine ⟨by kernel_rfl,?_⟩
  simp [go_sem]
  refine ⟨⟨by omega,by omega⟩,i+1,by omega,by omega,zaa _ _ _ (by simp),?_,by omega⟩
  rw [tk]
  refine ⟨by omega,?_⟩
  rw [<- List.cons_append,zal]
 .have e:i=37:=by omega
  subst e
  have tk:(L.map fun t=>dotI B (stwF A B.length 6 t)%10007).take 37=L.map fun t=>dotI B (stwF A B.length 6 t)%10007:=List.take_of_length_le (by rw [List.length_map]; omega)
  rw [tk]
  simp [go_sem]
open Go.Abs Go.Shelf Go.Sort
def paF (s:Prt):List AV:=[.sl s.1.length (mat s.1),.sl s.2.1.length (avs s.2.1),.int s.2.2]
theorem zn5 (s:Prt):frzL (paF s)=paF s:=by simp [paF,frzL,frz]
theorem zdq (X:List Prt):(X.flatMap paF).length=X.length*3:=by
 induction X with
 | nil=>rfl
 | cons s X ih=>rw [List.flatMap_cons,List.length_append,ih]; simp [paF]; omega
def PaOk (s:Prt):Prop:=(s.1.length<=100/\∀ r∈s.1,r.length<=100)/\s.2.1.length<=100
theorem zk2 [DrawK] (s r:Prt) (hs:PaOk s) (hr:PaOk r):Con Tryz.prog 245 [.agg (paF s),.agg (paF r)] (.int (zbY s r)):=by
 obtain ⟨⟨s1,s2⟩,s3⟩:=hs
 obtain ⟨⟨r1,r2⟩,r3⟩:=hr
 have c1:=zba s.2.1 r.2.1 (by omega) (by omega)
 have c2:=zdX s.1 r.1 (by omega) (by omega) (fun x hx=>by have:=s2 x hx; omega) (fun x hx=>by have:=r2 x hx; omega)
 unfold zbY paF
 generalize zaV s.1 r.1=w at *
 generalize cmpT s.2.1 r.2.1=v at *
 by_cases v0:v=0
 .rw [if_pos v0]
  refine zab Tryz.mixed ⟨6,[],[],[]⟩ Tryz.func245 ?_
  rw [Tryz.ntmps245]
  simp [go_sem]
  refine CallVC.of (c1) ?_
  simp [go_sem]
  simp [go_sem,v0]
  refine CallVC.of (c2) ?_
  simp [go_sem]
 .rw [if_neg v0]
  refine zab Tryz.mixed ⟨6,[],[],[]⟩ Tryz.func245 ?_
  rw [Tryz.ntmps245]
  simp [go_sem]
  refine CallVC.of (c1) ?_
  simp [go_sem]
  simp [go_sem,v0]
theorem zpt (X:List Prt) (h1:∀ s∈X,s.2.2=1) (hok:∀ s∈X,PaOk s) (hn:X.length<=1048576) :
  GCon Tryz.prog 247 [.own 172 X.length (X.flatMap paF),.val (.func (.func 245) #[] #[])] (.tup []) [.own 172 X.length ((zeU X).flatMap paF),.any]:=by
 obtain ⟨ys,p1,p2,p3⟩:=zh2 Tryz.sortParts 3 Tryz.isAgg172 Tryz.sizeOf172 ⟨_,Tryz.func247,by decide,rfl⟩ paF zbY zwy 245 172 (by kernel_rfl) X (fun _ _=>rfl)
  (fun x hx y hy=>by rw [zn5,zn5]; exact @zk2 ⟨1⟩ x y (hok x hx) (hok y hy)) (by omega)
 have e:ys=zeU X:=ziq p1 h1 p2
 subst e
 exact p3
theorem zws (x1 x2 x3 y3:AV):∀ P:List AV,(P++[x1,x2,x3]).set (P.length+2) y3=P++[x1,x2,y3]
 | []=>rfl
 | p::P=>by
  have:=zws x1 x2 x3 y3 P
  show p::(P++[x1,x2,x3]).set (P.length+2) y3=p::(P++[x1,x2,y3])
  rw [this]
theorem zmj (O:List Prt) (l s:Prt):zdk (O++[l]) s=if zbY l s=0 then O++[(l.1,l.2.1,l.2.2+1)] else O++[l]++[s]:=by
 have e:∀ O:List Prt,(O++[l]).set O.length (l.1,l.2.1,l.2.2+1)=O++[(l.1,l.2.1,l.2.2+1)]:=fun O=>by
  induction O with
  | nil=>rfl
  | cons o O ih=>rw [List.cons_append,List.length_cons,List.set_cons_succ,ih]; rfl
 unfold zdk
 rw [List.getLast?_concat]
 simp only [List.length_append,List.length_singleton,Nat.add_sub_cancel,e]
theorem znd:∀ n,n<=6->shlI .i64 1 ((n:Nat):Int)=((2 ^ n:Nat):Int):=by decide
theorem zqL (t:List Int):(prtL t).length=2 ^ (t.length-1):=by simp [prtL]
theorem ztb {t:List Int} {k:Nat} (h:k<2 ^ (t.length-1)):(prtL t)[k]?.getD ([],[],0)=cuR t (2*k):=by simp [prtL,h]
theorem zgh {t:List Int} (h:t∈trN 6):GCon Tryz.prog 187 [.sl t.length (avs t)] (.own 172 (parP t).length ((parP t).flatMap paF)) [.any]:=by
 obtain ⟨tL,t6,_⟩:=zeK h
 have t0:0<t.length:=tL.1
 have hcu:=fun k (hk:k<2 ^ (t.length-1))=>List.all_eq_true.1 (List.all_eq_true.1 zuC t h) k (List.mem_range.2 hk)
 have hpr:=List.all_eq_true.1 zuP t h
 simp only [Bool.and_eq_true,List.all_eq_true,decide_eq_true_eq] at hpr
 obtain ⟨hp1,hp2⟩:=hpr
 have bt:∀ x∈t,0<=x/\x<=1000:=fun x hx=>by
  have ok:(trN 6).all (fun t=>t.all fun x=>decide (0<=x) && decide (x<=1000))=true:=by decide +kernel
  have:=List.all_eq_true.1 (List.all_eq_true.1 ok t h) x hx
  simpa using this
 have pw6:2 ^ (t.length-1)<=32/\2 ^ t.length=2*2 ^ (t.length-1):=by
  refine ⟨Nat.pow_le_pow_right (by omega) (show t.length-1<=5 by omega),?_⟩
  rw [<- Nat.pow_succ',Nat.succ_eq_add_one,Nat.sub_add_cancel t0]
 have hcut:=fun k (hk:k<2 ^ (t.length-1))=>zuk t (2*k) (by omega) (hcu k hk) (by omega) bt t0
 have ok1:∀ s∈prtL t,s.2.2=1/\PaOk s:=fun s hs=>by
  obtain ⟨k,_,rfl⟩:=List.mem_map.1 hs
  have:=hp1 _ hs
  exact ⟨rfl,⟨by omega,fun r hr=>by have:=this.1.2 r hr; omega⟩,by omega⟩
 have so0:∀ s∈zeU (prtL t),s.2.2=1/\PaOk s:=fun s hs=>ok1 s ((zcp _).mem_iff.1 hs)
 have pl:=zqL t
 have cS:=zpt (prtL t) (fun s hs=>(ok1 s hs).1) (fun s hs=>(ok1 s hs).2) (by omega)
 have sl0:=zn6 (prtL t)
 have shl:=znd t.length t6
 have tk:∀ k,k<2 ^ (t.length-1)->(prtL t).take (k+1)=(prtL t).take k++[cuR t (2*k)]:=fun k hk=>by
  rw [List.take_succ_eq_append_getElem (by omega),<- ztb hk,List.getElem?_eq_getElem (by omega)]; rfl
 have hT:parP t=zce (zeU (prtL t)):=rfl
 rw [hT]
 rw [pw6.2] at shl
 rw [pl] at cS sl0
 have ta:(prtL t).take (2 ^ (t.length-1))=prtL t:=List.take_of_length_le (by omega)
 generalize prtL t=PL at *
 generalize 2 ^ (t.length-1)=M at *
 have paL:=fun k=>zdq (PL.take k)
 refine zaf Tryz.mixed ⟨12,[27,28],[1000000+247],[]⟩ [] Tryz.func187 ?_
 rw [Tryz.ntmps187]
 simp [go_sem]
 refine zac (List.range' 3 4++List.range' 13 19) (fun k:Nat=>[(3,.own 172 k ((PL.take k).flatMap paF)),(4,.int (2*(k:Int)))]) (fun k=>k<=M) (fun k=>M-k) 0 (by simp) (by simp [go_sem]) (by simp [go_sem]) ?_
 intro k hk
 by_cases hkl:k<M
 .have hki:2*(k:Int)<((2*M:Nat):Int):=by omega
  have c1:=hcut k hkl
  have t1:=tk k hkl
  have e2:((2*k:Nat):Int)=2*(k:Int):=by omega
  rw [e2] at c1
  have lk:=paL k
  rw [List.length_take,Nat.min_eq_left (by omega)] at lk
  have hx:paF (cuR t (2*k))=[.sl (cuR t (2*k)).1.length (mat (cuR t (2*k)).1),.sl (cuR t (2*k)).2.1.length (avs (cuR t (2*k)).2.1),.int 1]:=rfl
  generalize cuR t (2*k)=y at *
  generalize hC:(PL.take k).flatMap paF=C at *
  simp [go_sem,shl,hkl]
  refine CallVC.of (c1) ?_
  simp [go_sem]
  refine ⟨⟨by rw [lk],by omega,by omega⟩,⟨by omega,by omega⟩,k+1,by omega,by omega,zaa _ _ _ (by simp),?_⟩
  rw [t1,List.flatMap_append,hC]
  refine ⟨⟨rfl,?_⟩,by omega⟩
  simp [hx]
 .have e:k=M:=by omega
  subst e
  have hki:¬ 2*(k:Int)<((2*k:Nat):Int):=by omega
  rw [ta]
  simp [go_sem,shl]
  refine ⟨_,_,cS,?_⟩
  simp [go_sem]
  have so:=so0
  have sl:(zeU PL).length=k:=sl0
  generalize zeU PL=S at *
  refine zac (8::10::11::List.range' 38 33) (fun i:Nat=>[(8,.own 172 (zce (S.take i)).length ((zce (S.take i)).flatMap paF)),(38,.int i)]) (fun i=>i<=k) (fun i=>k-i) 0 (by simp) (by simp [go_sem,zce]) (by simp [go_sem]) ?_
  intro i hi
  by_cases hi2:i<k
  .have hii:(i:Int)<k:=by omega
   have hS:i<S.length:=by omega
   have dr:(S.flatMap paF).drop (i*3)=paF (S[i]?.getD ([],[],0))++(S.drop (i+1)).flatMap paF:=by
    have e1:((S.take i).flatMap paF).length=i*3:=by rw [zdq,List.length_take,Nat.min_eq_left (by omega)]
    have e2:S.drop i=S[i]?.getD ([],[],0)::S.drop (i+1):=by rw [List.drop_eq_getElem_cons hS]; simp [hS]
    have e3:S.flatMap paF=(S.take i).flatMap paF++(S.drop i).flatMap paF:=by rw [<- List.flatMap_append,List.take_append_drop]
    rw [e3,List.drop_append_of_le_length (by omega),e2,List.flatMap_cons,List.drop_eq_nil_of_le (by omega),List.nil_append]
   have hs:=so _ (memD ([],[],0) hS)
   generalize hsp:S[i]?.getD ([],[],0)=s at *
   obtain ⟨a,b,k⟩:=s
   obtain ⟨hk,hs⟩:=hs
   simp only at hk
   subst hk
   simp only [paF] at dr
   have ml:(S.flatMap paF).length=k*3:=by rw [zdq,sl]
   have nm:¬ S.flatMap paF=[]:=by intro e; rw [e] at ml; simp at ml; omega
   have gs:zce (S.take (i+1))=zdk (zce (S.take i)) (a,b,1):=by
    rw [List.take_succ_eq_append_getElem hS,zgH]
    congr 1
    rw [<- hsp,List.getElem?_eq_getElem hS]; rfl
   have iv:=zmV (S.take i)
   generalize S.flatMap paF=M at *
   rcases (List.eq_nil_or_concat (zce (S.take i))) with ho | ⟨O,l,ho⟩
   .rw [ho,show zdk [] (a,b,1)=[(a,b,1)] from rfl] at gs
    rw [ho]
    simp [go_sem,hii,dr]
    refine ⟨⟨nm,by omega⟩,by kernel_rfl,?_⟩
    refine ⟨by kernel_rfl,?_⟩
    simp [go_sem]
    refine ⟨⟨by omega,by omega⟩,i+1,by omega,by omega,zaa _ _ _ (by simp),?_⟩
    rw [gs]
    exact ⟨⟨rfl,by simp [paF]⟩,by omega⟩
   .rw [List.concat_eq_append] at ho
    rw [ho] at iv
    rw [ho,zmj] at gs
    rw [ho]
    obtain ⟨i1,i2,i3⟩:=iv
    have kb:=i3 (fun s hs=>(so s (List.mem_of_mem_take hs)).1) l (by simp)
    have hl:PaOk l:=by
     obtain ⟨t,t1,t2⟩:=i2 l (by simp)
     have:=(so t (List.mem_of_mem_take t1)).2
     simp only [zcU,Prod.mk.injEq] at t2
     unfold PaOk
     rw [t2.1,t2.2]; exact this
    have cG:=zk2 l (a,b,1) hl hs
    have cl:((O++[l]).flatMap paF).length=(O.length+1)*3:=by rw [zdq]; simp
    have cd:((O++[l]).flatMap paF).drop (O.length*3)=[.sl l.1.length (mat l.1),.sl l.2.1.length (avs l.2.1),.int l.2.2]:=by
     rw [List.flatMap_append,List.drop_append_of_le_length (by rw [zdq]; omega),List.drop_eq_nil_of_le (by rw [zdq]; omega)]
     simp [paF]
    have cs:∀ y,((O++[l]).flatMap paF).set (O.length*3+2) y=O.flatMap paF++[.sl l.1.length (mat l.1),.sl l.2.1.length (avs l.2.1),y]:=fun y=>by
     have e:=zws (.sl l.1.length (mat l.1)) (.sl l.2.1.length (avs l.2.1)) (.int l.2.2) y (O.flatMap paF)
     rw [zdq] at e
     rw [<- e,List.flatMap_append]; simp [paF]
    have ol:(O++[l]).length=O.length+1:=by simp
    have i1':O.length+1<=i:=by
     rw [ol,List.length_take] at i1; omega
    rw [List.length_take] at i3
    simp only [paF] at cG
    rw [ol]
    generalize hC:(O++[l]).flatMap paF=C at *
    have cg:C[O.length*3+2]?=some (.val (.int .i64 l.2.2)):=by rw [<- List.getElem?_drop,cd]; rfl
    have nC:¬ C=[]:=by intro e; rw [e] at cl; simp at cl
    have hd:0<O.length+1:=by omega
    generalize hv:zbY l (a,b,1)=v at *
    by_cases hz:v=0
    .rw [if_pos hz] at gs
     subst hz
     simp [go_sem,hii,dr,hd,cd]
     refine ⟨⟨nm,by omega⟩,by kernel_rfl,?_⟩
     refine ⟨by omega,by omega,⟨nC,by omega⟩,?_⟩
     refine CallD.of (cG) ?_
     simp [go_sem]
     refine ⟨by kernel_rfl,?_⟩
     simp [go_sem]
     simp [go_sem,cg]
     have tl:(S.take i).length<=i:=by rw [List.length_take]; omega
     have kk:0<=l.2.2/\l.2.2<=1000:=by omega
     refine ⟨by omega,by omega,nC,⟨by omega,by omega⟩,by omega,nC,by omega,⟨by omega,by omega⟩,i+1,by omega,by omega,zaa _ _ _ (by simp),?_⟩
     rw [gs,cs]
     refine ⟨⟨by simp,?_⟩,by omega⟩
     rw [List.flatMap_append]
     simp [paF]
    .rw [if_neg hz] at gs
     simp [go_sem,hii,dr,hd,cd]
     refine ⟨⟨nm,by omega⟩,by kernel_rfl,?_⟩
     refine ⟨by omega,by omega,⟨nC,by omega⟩,?_⟩
     refine CallD.of (cG) ?_
     simp [go_sem]
     simp [go_sem,hz]
     refine ⟨by kernel_rfl,?_⟩
     simp [go_sem]
     refine ⟨⟨by rw [cl],by omega,by omega⟩,⟨by omega,by omega⟩,i+1,by omega,by omega,zaa _ _ _ (by simp),?_⟩
     rw [gs]
     refine ⟨⟨by simp,?_⟩,by omega⟩
     rw [List.flatMap_append,hC]
     simp [paF]
  .have e:i=S.length:=by omega
   subst e
   have hii:¬ (S.length:Int)<k:=by omega
   rw [List.take_length]
   simp [go_sem,hii]
open Go.Abs
def prX (s:Prt) (k:Nat):AV:=if k=0 then .val (.slice none 0 0) else .own 3 k (avs ((pcP s).take k))
def mpX (s:Prt):List AV:=[.int s.2.2,if s.1=[] then .val (.slice none 0 0) else .own 3 s.1.length (avs (pcP s)),.int (skP s)]
def rwP (t:List Int):AV:=.sl (parP t).length (frzL ((parP t).flatMap mpX))
theorem ztd {t:List Int} (h:t∈trN 6):(parP t).length<=100/\∀ s∈parP t,s.1.length<=6/\(∀ r∈s.1,r.length<=6)/\s.2.1.length<=6/\0<=s.2.2/\s.2.2<=100:=by
 have ok:(trN 6).all (fun t=>decide ((parP t).length<=100) && (parP t).all fun s=>decide (s.1.length<=6) && (s.1.all (fun r=>decide (r.length<=6)) && (decide (s.2.1.length<=6) && (decide (0<=s.2.2) && decide (s.2.2<=100)))))=true:=by decide +kernel
 have k:=List.all_eq_true.1 ok t h
 simp only [Bool.and_eq_true,decide_eq_true_eq,List.all_eq_true] at k
 exact k
theorem zfy:GCon Tryz.prog 100 [.agg [.sl 37 (mat (trN 6)),.sl 37 fcF]] (.own 165 37 ((trN 6).map rwP)) [.agg [.sl 37 (mat (trN 6)),.sl 37 fcF]]:=by
 have l6:=zaJ
 have at6:=fun t h=>zeK (t:=t) h
 have tw:((trN 6).map rwP).take 37=(trN 6).map rwP:=List.take_of_length_le (by rw [List.length_map]; omega)
 have cPl:=fun t h1 h2 h3=>zeA (trN 6) 37 fcF t h1 h2 h3
 rw [l6] at cPl
 generalize fcF=FC at *
 refine zaf Tryz.mixed ⟨12,[57],[1000000+187],[]⟩ [0] Tryz.func100 ?_
 rw [Tryz.ntmps100]
 simp [go_sem]
 refine zac (3::5::6::8::9::11::List.range' 16 45) (fun i:Nat=>[(3,.own 165 i (((trN 6).map rwP).take i)),(16,.int i)]) (fun i=>i<=37) (fun i=>37-i) 0 (by simp) (by simp [go_sem]) (by simp [go_sem]) ?_
 intro i hi
 by_cases hil:i<37
 .have hii:(i:Int)<37:=by omega
  have hl:i<(trN 6).length:=by omega
  have dm:=zak hl
  have hm:=memD [] hl
  have cC:=zgh hm
  obtain ⟨b1,b2⟩:=ztd hm
  have nm:¬ trN 6=[]:=by intro e; rw [e] at l6; simp at l6
  have tki:((trN 6).map rwP).take (i+1)=((trN 6).map rwP).take i++[rwP ((trN 6)[i]?.getD [])]:=by
   rw [List.take_succ_eq_append_getElem (by rw [List.length_map]; omega),List.getElem_map,List.getElem?_eq_getElem hl]; rfl
  have lti:(((trN 6).map rwP).take i).length=i:=by rw [List.length_take,List.length_map]; omega
  have hrw:rwP ((trN 6)[i]?.getD [])=.sl (parP ((trN 6)[i]?.getD [])).length (frzL ((parP ((trN 6)[i]?.getD [])).flatMap mpX)):=rfl
  have lRW:((trN 6).map rwP).length=37:=by rw [List.length_map]; omega
  generalize (trN 6)[i]?.getD []=t at *
  generalize parP t=L at *
  generalize (trN 6).map rwP=RW at *
  simp [go_sem,hii,dm]
  refine ⟨nm,?_⟩
  refine ⟨_,_,cC,?_⟩
  simp [go_sem]
  refine zac (6::8::9::11::List.range' 24 32) (fun j:Nat=>[(6,.own 167 j ((L.take j).flatMap mpX)),(24,.int j)]) (fun j=>j<=L.length) (fun j=>L.length-j) 0 (by simp) (by simp [go_sem]) (by simp [go_sem]) ?_
  intro j hj
  by_cases hjl:j<L.length
  .have hji:(j:Int)<L.length:=by omega
   have dr:=za4 paF (fun _=>rfl) ([],[],0) hjl
   have nL:¬ L.flatMap paF=[]:=by intro e; have:=zau paF (fun _=>rfl) L; rw [e] at this; simp at this; omega
   have lL:=zau paF (fun _=>rfl) L
   have hms:=memD ([],[],0) hjl
   obtain ⟨c1,c2,c3,c4,c5⟩:=b2 _ hms
   have tkj:L.take (j+1)=L.take j++[L[j]?.getD ([],[],0)]:=by
    rw [List.take_succ_eq_append_getElem hjl,List.getElem?_eq_getElem hjl]; rfl
   have clj:=zau mpX (fun _=>rfl) (L.take j)
   rw [List.length_take,Nat.min_eq_left (by omega)] at clj
   generalize L[j]?.getD ([],[],0)=s at *
   obtain ⟨sa,sb,sc⟩:=s
   simp only [paF] at dr
   simp only at c1 c2 c3 c4 c5
   have hMX:mpX (sa,sb,sc)=[.int sc,if sa=[] then .val (.slice none 0 0) else .own 3 sa.length (avs (pcP (sa,sb,sc))),.int (ixT (trN 6) sb+1)]:=rfl
   have hcp:pcP (sa,sb,sc)=sa.map fun c=>ixT (trN 6) c+1:=rfl
   have hcr:∀ k,prX (sa,sb,sc) k=if k=0 then .val (.slice none 0 0) else .own 3 k (avs ((pcP (sa,sb,sc)).take k)):=fun k=>rfl
   have hcl:(pcP (sa,sb,sc)).length=sa.length:=by rw [hcp,List.length_map]
   have cPs:=cPl sb (by omega) (fun r hr=>by have:=(at6 r hr).2.1; omega) (by omega)
   have bsk:=zfn (trN 6) sb
   rw [l6] at bsk
   generalize ixT (trN 6) sb+1=sk at *
   generalize hCP:pcP (sa,sb,sc)=cps at *
   generalize hMC:L.flatMap paF=MC at *
   generalize hC:(L.take j).flatMap mpX=C at *
   simp [go_sem,hji,dr]
   refine ⟨⟨nL,by omega⟩,by kernel_rfl,?_⟩
   refine CallD.of (cPs) ?_
   simp [go_sem]
   refine ⟨by kernel_rfl,?_⟩
   simp [go_sem]
   refine zac (9::11::List.range' 38 13) (fun k:Nat=>[(9,.box 167 [.int sc,prX (sa,sb,sc) k,.int sk]),(38,.int k)]) (fun k=>k<=sa.length) (fun k=>sa.length-k) 0 (by simp) (by simp [go_sem,prX]) (by simp [go_sem,prX]) ?_
   intro k hk
   by_cases hkl:k<sa.length
   .have hki:(k:Int)<sa.length:=by omega
    have dk:=zak hkl
    have hmk:=memD [] hkl
    have hk6:=c2 _ hmk
    have na:¬ sa=[]:=by rintro rfl; simp at hkl
    have cP:=cPl (sa[k]?.getD []) (by omega) (fun r hr=>by have:=(at6 r hr).2.1; omega) (by omega)
    have bp:=zfn (trN 6) (sa[k]?.getD [])
    rw [l6] at bp
    have tkk:cps.take (k+1)=cps.take k++[ixT (trN 6) (sa[k]?.getD [])+1]:=by
     rw [List.take_succ_eq_append_getElem (by omega)]
     congr 2
     subst hcp
     rw [List.getElem_map,List.getElem?_eq_getElem hkl]; rfl
    have lk:(cps.take k).length=k:=by rw [List.length_take]; omega
    have x1:prX (sa,sb,sc) (k+1)=.own 3 (k+1) (avs (cps.take k++[ixT (trN 6) (sa[k]?.getD [])+1])):=by rw [hcr,if_neg (by omega),tkk]
    generalize sa[k]?.getD []=r at *
    generalize ixT (trN 6) r+1=v at *
    by_cases k0:k=0
    .have x0:prX (sa,sb,sc) k=.val (.slice none 0 0):=by rw [hcr,if_pos k0]
     rw [x0]
     simp [go_sem,hki,dk]
     refine ⟨na,by kernel_rfl,?_⟩
     refine CallD.of (cP) ?_
     simp [go_sem]
     refine ⟨by kernel_rfl,?_⟩
     simp [go_sem]
     refine ⟨⟨by omega,by omega⟩,k+1,by omega,by omega,zaa _ _ _ (by simp),?_⟩
     rw [x1]
     subst k0
     exact ⟨by simp [avs],by omega⟩
    .have x0:prX (sa,sb,sc) k=.own 3 k (avs (cps.take k)):=by rw [hcr,if_neg k0]
     rw [x0]
     simp [go_sem,hki,dk]
     refine ⟨na,by kernel_rfl,?_⟩
     refine CallD.of (cP) ?_
     simp [go_sem]
     refine ⟨⟨by omega,by omega,by omega⟩,?_⟩
     refine ⟨by kernel_rfl,?_⟩
     simp [go_sem]
     refine ⟨⟨by omega,by omega⟩,k+1,by omega,by omega,zaa _ _ _ (by simp),?_⟩
     rw [x1,zal]
     exact ⟨rfl,by omega⟩
   .have e:k=sa.length:=by omega
    subst e
    have hki:¬ (sa.length:Int)<sa.length:=by omega
    by_cases s0:sa=[]
    .have x0:prX (sa,sb,sc) sa.length=.val (.slice none 0 0):=by rw [hcr,if_pos (by rw [s0]; rfl)]
     rw [x0]
     rw [if_pos s0] at hMX
     simp [go_sem,hki]
     refine ⟨⟨by rw [clj],by omega,by omega⟩,⟨by omega,by omega⟩,j+1,by omega,by omega,(Off.reset (by intro x hx; simp at hx |-; omega) (by simp) (by simp [go_sem,zaa])),?_⟩
     rw [tkj,List.flatMap_append,hC]
     refine ⟨⟨by omega,?_⟩,by omega⟩
     simp [hMX]
    .have x0:prX (sa,sb,sc) sa.length=.own 3 sa.length (avs cps):=by
      rw [hcr,if_neg (by intro e; exact s0 (List.length_eq_zero_iff.1 e)),List.take_of_length_le (by omega)]
     rw [x0]
     rw [if_neg s0] at hMX
     simp [go_sem,hki]
     refine ⟨⟨by rw [clj],by omega,by omega⟩,⟨by omega,by omega⟩,j+1,by omega,by omega,(Off.reset (by intro x hx; simp at hx |-; omega) (by simp) (by simp [go_sem,zaa])),?_⟩
     rw [tkj,List.flatMap_append,hC]
     refine ⟨⟨by omega,?_⟩,by omega⟩
     simp [hMX]
  .have e:j=L.length:=by omega
   subst e
   have hji:¬ (L.length:Int)<L.length:=by omega
   rw [List.take_length]
   simp [go_sem,hji]
   refine ⟨⟨by omega,by omega,by omega⟩,⟨by omega,by omega⟩,i+1,by omega,by omega,(Off.reset (by intro x hx; simp at hx |-; omega) (by simp) (by simp [go_sem,zaa])),?_⟩
   rw [tki,hrw]
   exact ⟨⟨rfl,rfl⟩,by omega⟩
 .have e:i=37:=by omega
  subst e
  rw [tw]
  simp [go_sem]
def ppF:List AV:=parT.map fun r=>.sl r.length (r.flatMap ctF)
theorem zsp:∀ T:List (List Int),frzL (T.map rwP)=T.map rwP
 | []=>rfl
 | t::T=>by
  rw [List.map_cons,frzL,zsp T]; rfl
theorem zrX:∀ L:List Prt,NXL (frzL (L.flatMap mpX)) ((L.map fun s=>(s.2.2,pcP s,skP s)).flatMap fun x=>[.int x.1,.sl x.2.1.length (avs x.2.1),.int x.2.2])
 | []=>.nil
 | s::L=>by
  rw [List.map_cons,List.flatMap_cons,List.flatMap_cons,zen]
  refine NXL.app (zrX L) ?_
  by_cases h:s.1=[]
  .have e:mpX s=[.int s.2.2,.val (.slice none 0 0),.int (skP s)]:=by unfold mpX; rw [if_pos h]
   have e2:pcP s=[]:=by unfold pcP; rw [h]; rfl
   rw [e,e2]
   exact .cons (.same _) (.cons .nil (.cons (.same _) .nil))
  .have e:mpX s=[.int s.2.2,.own 3 s.1.length (avs (pcP s)),.int (skP s)]:=by unfold mpX; rw [if_neg h]
   have e2:(pcP s).length=s.1.length:=by simp [pcP]
   rw [e]
   show NXL [.int s.2.2,.sl s.1.length (frzL (avs (pcP s))),.int (skP s)] [.int s.2.2,.sl (pcP s).length (avs (pcP s)),.int (skP s)]
   rw [zcB,e2]
   exact NXL.same _
theorem zmP:∀ T:List (List Int),NXL (T.map rwP) (T.map fun t=>trG ((parP t).map fun s=>(s.2.2,pcP s,skP s)))
 | []=>.nil
 | t::T=>by
  rw [List.map_cons,List.map_cons]
  refine .cons ?_ (zmP T)
  show NX (.sl (parP t).length (frzL ((parP t).flatMap mpX))) (trG _)
  unfold trG
  rw [List.length_map]
  exact .sl _ (zrX _)
theorem zsF:((trN 6).map fun t=>trG ((parP t).map fun s=>(s.2.2,pcP s,skP s)))=ppF:=by
 have e:=congrArg (List.map trG) zwD
 rw [List.map_map,List.map_map] at e
 refine (Eq.trans ?_ e).trans ?_
 .rfl
 .unfold ppF
  refine List.map_congr_left fun r _=>?_
  show trG (r.map _)=_
  unfold trG
  rw [List.length_map,List.flatMap_map]
  show AV.sl r.length (r.flatMap fun c=>[.int c.1,.sl (nvs c.2.1).length (avs (nvs c.2.1)),.int c.2.2])=_
  simp only [zfI]
  rfl
theorem zcW:GCon Tryz.prog 100 [.agg [.sl 37 (mat (trN 6)),.sl 37 fcF]] (.sl 37 ppF) [.agg [.sl 37 (mat (trN 6)),.sl 37 fcF]]:=by
 refine GCon.nx (.sl 37 ?_) (GCon.frzR zfy (show frz (.own _ 37 _)=.sl 37 (frzL ((trN 6).map rwP)) from rfl))
 rw [zsp,<- zsF]
 exact zmP _
theorem zrW {i:Nat} (hi:i<38):(ptR i).length<=100/\∀ c∈ptR i,c.2.1.length<=100/\c.1<=100/\(∀ v∈c.2.1,v<38)/\c.2.2<38:=by
 have ok:(List.range 38).all (fun i=>decide ((ptR i).length<=100) && (ptR i).all fun c=>decide (c.2.1.length<=100) && (decide (c.1<=100) && (c.2.1.all (fun v=>decide (v<38)) && decide (c.2.2<38))))=true:=by decide +kernel
 have h:=List.all_eq_true.1 ok i (List.mem_range.2 hi)
 simp only [Bool.and_eq_true,List.all_eq_true,decide_eq_true_eq] at h
 exact h
theorem zkU {i:Nat} (h:i<37):ppF.drop i=.sl (ptR (i+1)).length ((ptR (i+1)).flatMap ctF)::ppF.drop (i+1):=by
 have l:parT.length=37:=by decide +kernel
 have hl:i<ppF.length:=by unfold ppF; rw [List.length_map,l]; exact h
 rw [List.drop_eq_getElem_cons hl]
 congr 1
 have e:ppF[i]?=some (.sl (ptR (i+1)).length ((ptR (i+1)).flatMap ctF)):=by
  unfold ppF ptR
  rw [List.getElem?_map,Nat.add_sub_cancel,List.getElem?_eq_getElem (by rw [l]; exact h)]; rfl
 rw [List.getElem?_eq_getElem hl] at e
 exact Option.some.inj e
theorem zsb:¬ ppF=[]:=by
 intro e
 have l:parT.length=37:=by decide +kernel
 have:=congrArg List.length e
 unfold ppF at this
 rw [List.length_map,l] at this; simp at this
def psF (o a:List Int) (s0:Int) (L:List Ctp):Int:=L.foldl (fun s c=>s-(c.1:Int)*(iat a c.2.2*vlN o c.2.1%10007)%10007) s0
theorem zhP (o a:List Int) (s0:Int) (L:List Ctp) (c:Ctp):psF o a s0 (L++[c])=psF o a s0 L-(c.1:Int)*(iat a c.2.2*vlN o c.2.1%10007)%10007:=by simp [psF]
theorem zsk (o a:List Int) (s0:Int) (L:List Ctp):psF o a s0 L<=s0/\s0-10006*L.length<=psF o a s0 L:=by
 generalize hn:L.length=n
 induction n generalizing L with
 | zero=>rw [List.length_eq_zero_iff.1 hn]; exact ⟨Int.le_refl _,by show s0-_<=s0; omega⟩
 | succ n ih =>
  rcases List.eq_nil_or_concat L with rfl | ⟨h,y,rfl⟩
  .simp at hn
  .rw [List.concat_eq_append] at hn |-
   obtain ⟨i1,i2⟩:=ih h (by simpa using hn)
   rw [zhP]
   omega
theorem zuj (o a:List Int) (s0:Int) (L:List Ctp):psF o a s0 L%10007=(s0-rowI (iat o) (iat a) L)%10007:=by
 generalize hn:L.length=n
 induction n generalizing L with
 | zero=>rw [List.length_eq_zero_iff.1 hn]; show s0%10007=(s0-0)%10007; rw [Int.sub_zero]
 | succ n ih =>
  rcases List.eq_nil_or_concat L with rfl | ⟨h,c,rfl⟩
  .simp at hn
  .rw [List.concat_eq_append] at hn |-
   have i1:=ih h (by simpa using hn)
   rw [zhP,zck]
   have e:(c.1:Int)*(iat a c.2.2*vlN o c.2.1%10007)%10007=(c.1:Int)*(prI (iat o) c.2.1*iat a c.2.2)%10007:=by
    refine zas rfl ?_
    rw [Int.emod_emod_of_dvd _ (Int.dvd_refl _),Int.mul_comm]
    exact zas (zjW o c.2.1) rfl
   rw [e]
   generalize (c.1:Int)*(prI (iat o) c.2.1*iat a c.2.2)=z at *
   generalize psF o a s0 h=p at *
   generalize rowI (iat o) (iat a) h=r at *
   omega
def fitX (q:Int) (a w:List Int) (i:Nat):List Int:=fitN q a w i++List.replicate (37-i) 0
theorem zqc (q:Int) (a w:List Int) {i:Nat} (h:i<=37):(fitX q a w i).length=38:=by
 unfold fitX
 rw [List.length_append,zca,List.length_replicate]; omega
theorem zve (q:Int) (a w:List Int) (i:Nat):∀ x∈fitX q a w i,isN x:=fun x hx=>by
 rcases List.mem_append.1 hx with hx | hx
 .have:=zpc q a w i x hx; exact ⟨this.1,by have:=this.2; omega⟩
 .rw [List.mem_replicate] at hx; rw [hx.2]; exact ⟨by decide,by decide⟩
theorem zrq (q:Int) (a w:List Int) {i:Nat} (h:i<37):(fitX q a w i).set (i+1) (((iat w (i+1)-rowI (iat (fitN q a w i)) (iat a) (psR (i+1)))*q)%10007)=fitX q a w (i+1):=by
 have k:=zhS (((iat w (i+1)-rowI (iat (fitN q a w i)) (iat a) (psR (i+1)))*q)%10007) (fitN q a w i) (36-i)
 rw [zca,show 36-i+1=37-i by omega] at k
 unfold fitX
 rw [k,show 37-(i+1)=36-i by omega]
 rfl
theorem zuN (q:Int) (a w:List Int) {i v:Nat} (h:v<=i):iat (fitX q a w i) v=iat (fitN q a w i) v:=by
 unfold iat fitX
 rw [List.getElem?_append_left (by rw [zca]; omega)]
theorem zib (a w:List Int) (ha:N38 a) (hw:N38 w) :
  Con Tryz.prog 136 [.agg [.sl 37 (mat (trN 6)),.sl 37 fcF],.sl a.length (avs a),.sl w.length (avs w)] (.own 2 38 (avs (fitS (pw (iat a 1) 10005) a w))):=by
 have cM:=zcW
 have la:=ha.1
 have lw:=hw.1
 have na:=ha.ne
 have nw:=hw.ne
 have cI:=ztx (iat a 1) (ha.Ns.get 1)
 have da1:=zae (a:=a) (v:=1) (by omega)
 rw [List.drop_one] at da1
 have x0:avs (fitX (pw (iat a 1) 10005) a w 0)=List.replicate 38 (.int 0):=rfl
 have x37:fitX (pw (iat a 1) 10005) a w 37=fitS (pw (iat a 1) 10005) a w:=by unfold fitX fitS; simp
 have xl:=fun i h=>zqc (pw (iat a 1) 10005) a w (i:=i) h
 have xN:=zve (pw (iat a 1) 10005) a w
 have xs:=fun i h=>zrq (pw (iat a 1) 10005) a w (i:=i) h
 have xa:=fun i v h=>zuN (pw (iat a 1) 10005) a w (i:=i) (v:=v) h
 have qN:=pw_N (iat a 1) 10005
 rw [<- x37]
 generalize fitX (pw (iat a 1) 10005) a w=X at *
 generalize fitN (pw (iat a 1) 10005) a w=Y at *
 generalize pw (iat a 1) 10005=q at *
 generalize iat a 1=a1 at *
 have nP:=zsb
 have pd:=fun i h=>zkU (i:=i) h
 generalize ppF=PP at *
 generalize fcF=FC at *
 refine zab Tryz.mixed ⟨14,[],[1000000+100],[]⟩ Tryz.func136 ?_
 rw [Tryz.ntmps136]
 simp [go_sem]
 refine ⟨by kernel_rfl,?_⟩
 simp [go_sem,da1]
 refine ⟨⟨by omega,na⟩,?_⟩
 refine CallD.of (cI) ?_
 simp [go_sem]
 refine ⟨by kernel_rfl,?_⟩
 simp [go_sem]
 refine ⟨_,_,cM,?_⟩
 simp [go_sem]
 refine zac (7::9::10::11::13::List.range' 22 47) (fun i:Nat=>[(7,.own 2 38 (avs (X i))),(22,.int i)]) (fun i=>i<=37) (fun i=>37-i) 0 (by simp) (by simp [go_sem,x0]) (by simp [go_sem]) ?_
 intro i hi
 by_cases hil:i<37
 .have hii:(i:Int)<37:=by omega
  have dr:=pd i hil
  obtain ⟨r1,r2⟩:=zrW (i:=i+1) (by omega)
  have dw:=zae (a:=w) (v:=i+1) (by omega)
  have wN:isN (iat w (i+1)):=hw.Ns.get _
  have xl1:=xl i (by omega)
  have xN1:=xN i
  have xs1:=xs i hil
  have xa1:=xa i
  have hps:psR (i+1)=(ptR (i+1)).filter fun c=>!decide (c.2.2=1):=rfl
  have pk:=(zmK (i:=i+1) (by omega) (by omega)).1
  rw [hps] at xs1 pk
  generalize ptR (i+1)=R at *
  generalize hXI:X i=XI at *
  generalize Y i=YI at *
  have w0:=wN.1; have w1:=wN.2
  generalize hw1:iat w (i+1)=wi at *
  simp [go_sem,hii,dr,dw]
  refine ⟨nP,⟨by omega,by omega⟩,⟨by omega,by omega,nw⟩,?_⟩
  refine zac (11::13::List.range' 34 25) (fun j:Nat=>[(11,.int (psF XI a wi ((R.take j).filter fun c=>!decide (c.2.2=1)))),(34,.int j)]) (fun j=>j<=R.length) (fun j=>R.length-j) 0 (by simp) (by simp [go_sem,psF]) (by simp [go_sem]) ?_
  intro j hj
  by_cases hjl:j<R.length
  .have hji:(j:Int)<R.length:=by omega
   have cd:=zdV hjl
   have hmm:=memD (0,[],0) hjl
   obtain ⟨q1,q2,k1,k2⟩:=r2 _ hmm
   have k3:=fun h=>pk _ (List.mem_filter.2 ⟨hmm,h⟩)
   have tj:(R.take (j+1)).filter (fun c=>!decide (c.2.2=1))=(R.take j).filter (fun c=>!decide (c.2.2=1))++[R[j]?.getD (0,[],0)].filter (fun c=>!decide (c.2.2=1)):=by
    rw [<- List.filter_append,List.take_succ_eq_append_getElem hjl,List.getElem?_eq_getElem hjl]; rfl
   have rs:=zhP XI a wi ((R.take j).filter fun c=>!decide (c.2.2=1)) (R[j]?.getD (0,[],0))
   have bd:=zsk XI a wi ((R.take j).filter fun c=>!decide (c.2.2=1))
   have bl:((R.take j).filter fun c=>!decide (c.2.2=1)).length<=100:=by
    have:=List.length_filter_le (fun c:Ctp=>!decide (c.2.2=1)) (R.take j)
    rw [List.length_take] at this; omega
   have nR:¬ R.flatMap ctF=[]:=by intro e; have:=zbI R; rw [e] at this; simp at this; omega
   have lR:=zbI R
   generalize (R.take j).filter (fun c=>!decide (c.2.2=1))=F at *
   generalize R[j]?.getD (0,[],0)=c at *
   obtain ⟨n,l,t⟩:=c
   simp only [ctF] at cd q1 q2 k1 k2 k3 rs
   generalize hMC:R.flatMap ctF=MC at *
   by_cases ht:t=1
   .rw [List.filter_cons,if_neg (by simpa using ht),List.filter_nil,List.append_nil] at tj
    have hti:(t:Int)=1:=by omega
    simp [go_sem,hji,cd,hti]
    refine ⟨nR,⟨by omega,by omega⟩,j+1,by omega,by omega,zaa _ _ _ (by simp),?_⟩
    rw [tj]
    exact ⟨rfl,by omega⟩
   .rw [List.filter_cons,if_pos (by simpa using ht),List.filter_nil] at tj
    rw [<- tj] at rs
    have hti:¬ (t:Int)=1:=by omega
    have k4:=k3 (by simpa using ht)
    have cV:=zfC XI l xN1 (by omega) q1 (fun v hv=>by have:=k4 v hv; omega)
    rw [xl1] at cV
    have vN:=zpP XI l
    have aN:isN (iat a t):=ha.Ns.get t
    have dat:=zae (a:=a) (v:=t) (by omega)
    have f1:=zaw aN vN
    have c1:=zbE (iat a t*vlN XI l) f1.1 f1.2
    have m1:=zai (iat a t*vlN XI l)
    have f2:=zaw (show isN (n:Int) from ⟨by omega,by omega⟩) m1
    have c2:=zbE ((n:Int)*(iat a t*vlN XI l%10007)) f2.1 f2.2
    have m2:=zai ((n:Int)*(iat a t*vlN XI l%10007))
    have v1:=m2.1; have v2:=m2.2
    obtain ⟨f3,f4⟩:=f1
    obtain ⟨f5,f6⟩:=f2
    generalize psF XI a wi F=s at *
    generalize hp1:iat a t*vlN XI l%10007=p1 at *
    generalize hp2:(n:Int)*p1%10007=p2 at *
    generalize vlN XI l=y at *
    generalize iat a t=z at *
    simp [go_sem,hji,cd,hti]
    refine ⟨nR,by kernel_rfl,?_⟩
    simp [go_sem,dat]
    refine ⟨⟨by omega,na⟩,?_⟩
    refine CallD.of (cV) ?_
    simp [go_sem]
    refine ⟨⟨f3,f4⟩,?_⟩
    refine CallD.of (c1) ?_
    simp [go_sem]
    refine ⟨⟨f5,f6⟩,?_⟩
    refine CallD.of (c2) ?_
    simp [go_sem]
    refine ⟨⟨by omega,by omega⟩,?_⟩
    refine ⟨by kernel_rfl,?_⟩
    simp [go_sem]
    refine ⟨⟨by omega,by omega⟩,j+1,by omega,by omega,zaa _ _ _ (by simp),?_⟩
    rw [rs]
    exact ⟨rfl,by omega⟩
  .have e:j=R.length:=by omega
   subst e
   have hji:¬ (R.length:Int)<R.length:=by omega
   have rm:=zuj XI a wi (R.filter fun c=>!decide (c.2.2=1))
   have bd:=zsk XI a wi (R.filter fun c=>!decide (c.2.2=1))
   have bl:(R.filter fun c=>!decide (c.2.2=1)).length<=100:=by
    have:=List.length_filter_le (fun c:Ctp=>!decide (c.2.2=1)) R
    omega
   have re:rowI (iat XI) (iat a) (R.filter fun c=>!decide (c.2.2=1))%10007=rowI (iat YI) (iat a) (R.filter fun c=>!decide (c.2.2=1))%10007:=zde fun c hc=>⟨fun v hv=>by rw [xa1 v (by have:=pk c hc v hv; omega)],rfl⟩
   have vE:psF XI a wi (R.filter fun c=>!decide (c.2.2=1))%10007*q%10007=(wi-rowI (iat YI) (iat a) (R.filter fun c=>!decide (c.2.2=1)))*q%10007:=by
    refine zas ?_ rfl
    rw [Int.emod_emod_of_dvd _ (Int.dvd_refl _),rm]
    omega
   rw [<- vE] at xs1
   rw [List.take_length]
   generalize psF XI a wi (R.filter fun c=>!decide (c.2.2=1))=s at *
   have cN:=zbE s (by omega) (by omega)
   have sN:=zai s
   have f1:=zaw sN qN
   have c2:=zbE (s%10007*q) f1.1 f1.2
   have m2:=zai (s%10007*q)
   obtain ⟨f3,f4⟩:=f1
   generalize s%10007=s1 at *
   generalize hv:s1*q%10007=v at *
   simp [go_sem,hji]
   refine ⟨⟨by omega,by omega⟩,?_⟩
   refine CallVC.of (cN) ?_
   simp [go_sem]
   refine ⟨⟨f3,f4⟩,?_⟩
   refine CallVC.of (c2) ?_
   simp [go_sem]
   refine ⟨⟨by omega,by omega⟩,by omega,⟨by omega,by omega⟩,i+1,by omega,by omega,(Off.reset (by intro x hx; simp at hx |-; omega) (by simp) (by simp [go_sem,zaa])),?_⟩
   rw [<- xs1]
   exact ⟨zaK _ _ _,by omega⟩
 .have e:i=37:=by omega
  subst e
  simp [go_sem]
def suF (b a:List Int) (L:List Ctp):Int:=L.foldl (fun s c=>s+(c.1:Int)*(iat a c.2.2*vlN b c.2.1%10007)%10007) 0
theorem zkn (b a:List Int) (L:List Ctp) (c:Ctp):suF b a (L++[c])=suF b a L+(c.1:Int)*(iat a c.2.2*vlN b c.2.1%10007)%10007:=by simp [suF]
theorem zhT (b a:List Int) (L:List Ctp):(0<=suF b a L/\suF b a L<=10006*L.length)/\suF b a L%10007=rowI (iat b) (iat a) L%10007:=by
 generalize hn:L.length=n
 induction n generalizing L with
 | zero=>rw [List.length_eq_zero_iff.1 hn]; exact ⟨⟨Int.le_refl _,by show (0:Int)<=_; omega⟩,rfl⟩
 | succ n ih =>
  rcases List.eq_nil_or_concat L with rfl | ⟨h,c,rfl⟩
  .simp at hn
  .rw [List.concat_eq_append] at hn |-
   obtain ⟨i1,i2⟩:=ih h (by simpa using hn)
   rw [zkn,zck]
   have e:(c.1:Int)*(iat a c.2.2*vlN b c.2.1%10007)%10007=(c.1:Int)*(prI (iat b) c.2.1*iat a c.2.2)%10007:=by
    refine zas rfl ?_
    rw [Int.emod_emod_of_dvd _ (Int.dvd_refl _),Int.mul_comm]
    exact zas (zjW b c.2.1) rfl
   rw [e]
   generalize (c.1:Int)*(prI (iat b) c.2.1*iat a c.2.2)=z at *
   generalize suF b a h=p at *
   generalize rowI (iat b) (iat a) h=r at *
   omega
theorem zkE (b a:List Int) {i:Nat} (h:i<37):(sbS b a).take (i+2)=(sbS b a).take (i+1)++[suF b a (ptR (i+1))%10007]:=by
 have l:(sbS b a).length=38:=(ziz b a).1
 rw [List.take_succ_eq_append_getElem (by omega)]
 congr 2
 have k:=zaN (sbI (iat b) (iat a)) (i:=i+1) (by omega)
 have e:(sbS b a)[i+1]?=some (iat (sbS b a) (i+1)):=by
  unfold iat
  rw [List.getElem?_eq_getElem (by omega)]; rfl
 rw [List.getElem?_eq_getElem (by omega)] at e
 rw [Option.some.inj e,(zhT b a _).2]
 refine k.trans ?_
 unfold sbI
 rw [if_neg (by omega)]
theorem znn (b a:List Int) (ha:N38 a):(sbS b a).take 1=[iat a 0]:=by
 have k:=zaN (sbI (iat b) (iat a)) (i:=0) (by omega)
 have h0:=ha.at 0
 have l:(sbS b a).length=38:=(ziz b a).1
 unfold sbI at k
 rw [if_pos rfl,Int.emod_eq_of_lt h0.1 h0.2] at k
 rw [<- k]
 show _=[iat (sbS b a) 0]
 unfold iat
 rw [List.take_succ_eq_append_getElem (by omega),List.getElem?_eq_getElem (by omega)]
 rfl
theorem zqh (b a:List Int) (hb:N38 b) (ha:N38 a):Con Tryz.prog 99 [.sl 37 ppF,.sl b.length (avs b),.sl a.length (avs a)] (.own 2 38 (avs (sbS b a))):=by
 have la:=ha.1
 have na:=ha.ne
 have lb:=hb.1
 have nb:=hb.ne
 have da1:=zae (a:=a) (v:=0) (by omega)
 rw [List.drop_zero,Nat.zero_add,List.drop_one] at da1
 have x0:=znn b a ha
 have xs:=fun i h=>zkE b a (i:=i) h
 have xl:(sbS b a).take 38=sbS b a:=List.take_of_length_le (by rw [(ziz b a).1]; omega)
 have a0:isN (iat a 0):=ha.Ns.get _
 have nP:=zsb
 have pd:=fun i h=>zkU (i:=i) h
 have sl:=(ziz b a).1
 generalize sbS b a=X at *
 generalize ppF=PP at *
 generalize iat a 0=v0 at *
 refine zab Tryz.mixed ⟨13,[],[],[]⟩ Tryz.func99 ?_
 rw [Tryz.ntmps99]
 simp [go_sem]
 simp [go_sem,da1]
 rw [<- da1]
 refine ⟨⟨by omega,na⟩,?_⟩
 refine zac (7::9::10::12::List.range' 19 34) (fun i:Nat=>[(7,.own 2 (i+1) (avs (X.take (i+1)))),(19,.int i)]) (fun i=>i<=37) (fun i=>37-i) 0 (by simp) (by simp [go_sem,x0,avs]) (by simp [go_sem]) ?_
 intro i hi
 by_cases hil:i<37
 .have hii:(i:Int)<37:=by omega
  have dr:=pd i hil
  obtain ⟨r1,r2⟩:=zrW (i:=i+1) (by omega)
  have xs1:=xs i hil
  have lX:(X.take (i+1)).length=i+1:=by rw [List.length_take]; omega
  generalize X.take (i+1)=XI at *
  generalize ptR (i+1)=R at *
  simp [go_sem,hii,dr]
  refine ⟨nP,?_⟩
  refine zac (10::12::List.range' 25 22) (fun j:Nat=>[(10,.int (suF b a (R.take j))),(25,.int j)]) (fun j=>j<=R.length) (fun j=>R.length-j) 0 (by simp) (by simp [go_sem,suF]) (by simp [go_sem]) ?_
  intro j hj
  by_cases hjl:j<R.length
  .have hji:(j:Int)<R.length:=by omega
   have cd:=zdV hjl
   have hmm:=memD (0,[],0) hjl
   obtain ⟨q1,q2,k1,k2⟩:=r2 _ hmm
   have tj:R.take (j+1)=R.take j++[R[j]?.getD (0,[],0)]:=by
    rw [List.take_succ_eq_append_getElem hjl,List.getElem?_eq_getElem hjl]; rfl
   have rs:=zkn b a (R.take j) (R[j]?.getD (0,[],0))
   rw [<- tj] at rs
   have bd:=(zhT b a (R.take j)).1
   have bl:(R.take j).length<=100:=by rw [List.length_take]; omega
   have nR:¬ R.flatMap ctF=[]:=by intro e; have:=zbI R; rw [e] at this; simp at this; omega
   have lR:=zbI R
   generalize R.take j=F at *
   generalize R[j]?.getD (0,[],0)=c at *
   obtain ⟨n,l,t⟩:=c
   simp only [ctF] at cd q1 q2 k1 k2 rs
   generalize hMC:R.flatMap ctF=MC at *
   have cV:=zfC b l hb.Ns (by omega) q1 (fun v hv=>by have:=k1 v hv; omega)
   have vN:=zpP b l
   have aN:isN (iat a t):=ha.Ns.get t
   have dat:=zae (a:=a) (v:=t) (by omega)
   have f1:=zaw aN vN
   have c1:=zbE (iat a t*vlN b l) f1.1 f1.2
   have m1:=zai (iat a t*vlN b l)
   have f2:=zaw (show isN (n:Int) from ⟨by omega,by omega⟩) m1
   have c2:=zbE ((n:Int)*(iat a t*vlN b l%10007)) f2.1 f2.2
   have m2:=zai ((n:Int)*(iat a t*vlN b l%10007))
   have v1:=m2.1; have v2:=m2.2
   obtain ⟨f3,f4⟩:=f1
   obtain ⟨f5,f6⟩:=f2
   generalize suF b a F=s at *
   generalize hp1:iat a t*vlN b l%10007=p1 at *
   generalize hp2:(n:Int)*p1%10007=p2 at *
   generalize vlN b l=y at *
   generalize iat a t=z at *
   simp [go_sem,hji,cd]
   refine ⟨nR,by kernel_rfl,?_⟩
   simp [go_sem,dat]
   refine ⟨⟨by omega,na⟩,?_⟩
   refine CallD.of (cV) ?_
   simp [go_sem]
   refine ⟨⟨f3,f4⟩,?_⟩
   refine CallD.of (c1) ?_
   simp [go_sem]
   refine ⟨⟨f5,f6⟩,?_⟩
   refine CallD.of (c2) ?_
   simp [go_sem]
   refine ⟨⟨by omega,by omega⟩,?_⟩
   refine ⟨by kernel_rfl,?_⟩
   simp [go_sem]
   refine ⟨⟨by omega,by omega⟩,j+1,by omega,by omega,zaa _ _ _ (by simp),?_⟩
   rw [rs]
   exact ⟨rfl,by omega⟩
  .have e:j=R.length:=by omega
   subst e
   have hji:¬ (R.length:Int)<R.length:=by omega
   have bd:=(zhT b a R).1
   rw [List.take_length]
   generalize suF b a R=s at *
   have cN:=zbE s (by omega) (by omega)
   generalize s%10007=s1 at *
   simp [go_sem,hji]
   refine CallVC.of (cN) ?_
   simp [go_sem]
   refine ⟨⟨by omega,by omega,by omega⟩,⟨by omega,by omega⟩,i+1,by omega,by omega,(Off.reset (by intro x hx; simp at hx |-; omega) (by simp) (by simp [go_sem,zaa])),?_⟩
   rw [xs1,zal]
   exact ⟨⟨rfl,rfl⟩,by omega⟩
 .have e:i=37:=by omega
  subst e
  rw [xl]
  simp [go_sem]
def smE (b a:List Int):Int:=if mapB b=true/\mapB a=true then if iat b 0=0 then 0 else 5 else 1
def smX (b a:List Int):List Int:=if smE b a=0 then sbS b a else []
theorem zwc {b a:List Int} (h:smE b a=0):Inf b/\N38 a:=by
 unfold smE at h
 split at h
 .rename_i k
  split at h
  .rename_i k2; exact ⟨⟨zgv k.1,k2⟩,zgv k.2⟩
  .simp at h
 .simp at h
theorem zkb (b a:List Int) (hb:b.length<=1048576) (ha:a.length<=1048576):GCon Tryz.prog 89 [.sl b.length (avs b),.own 25 1 [.sl a.length (avs a)]] (.int (smE b a)) [.any,.any]:=by
 have cB:=zds b (by omega)
 have cA:=zds a (by omega)
 have hE:smE b a=if mapB b=true/\mapB a=true then if iat b 0=0 then 0 else 5 else 1:=rfl
 have b0:mapB b=true->(avs b).drop 0=.int (iat b 0)::avs (b.drop 1)/\¬ b=[]/\0<b.length:=fun h=>by
  have h:=zgv h
  exact ⟨zae (a:=b) (v:=0) (by rw [h.1]; omega),h.ne,by rw [h.1]; omega⟩
 rw [hE]
 generalize mapB b=mb at *
 generalize mapB a=ma at *
 generalize iat b 0=z at *
 refine zaf Tryz.mixed ⟨7,[],[],[]⟩ [] Tryz.func89 ?_
 rw [Tryz.ntmps89]
 simp [go_sem]
 refine zac (4::6::List.range' 12 8) (fun k:Nat=>[(12,.int k),(4,if k=0 then .int 0 else .int 0)]) (fun k=>k<=2/\(1<=k->ma=true)/\(2<=k->mb=true)) (fun k=>2-k) 0 (by simp) (by simp [go_sem]) (by simp [go_sem]) ?_
 rintro k ⟨hk,k1,k2⟩
 rcases (show k=0\/k=1\/k=2 by omega) with rfl | rfl | rfl
 .simp [go_sem]
  refine CallVC.of (cA) ?_
  simp [go_sem]
  cases ma with
  | false =>
   simp [go_sem]
  | true =>
   simp [go_sem]
   exact ⟨1,by simp,by omega,zaa _ _ _ (by simp),rfl⟩
 .rw [k1 (by omega)] at *
  simp [go_sem]
  refine CallVC.of (cB) ?_
  simp [go_sem]
  cases mb with
  | false =>
   simp [go_sem]
  | true =>
   simp [go_sem]
   exact ⟨2,by simp,by omega,zaa _ _ _ (by simp),rfl⟩
 .obtain ⟨b0,b1,b2⟩:=b0 (k2 (by omega))
  rw [k1 (by omega),k2 (by omega)]
  rw [List.drop_zero] at b0
  simp [go_sem,b0]
  refine ⟨b2,?_⟩
  by_cases hz:z=0
  .simp [go_sem,hz]
  .simp [go_sem,hz]
theorem zcR (b a:List Int) (hb:b.length<=1048576) (ha:a.length<=1048576) :
  Con Tryz.prog 29 [.sl b.length (avs b),.sl a.length (avs a)] (.tup [.own 2 (smX b a).length (avs (smX b a)),.int (smE b a)]):=by
 have c1:=zkb b a hb ha
 by_cases he:smE b a=0
 .obtain ⟨k1,k2⟩:=zwc he
  have cF:=za6
  have cM:=zcW
  have c2:=zqh b a k1.1 k2
  have eX:smX b a=sbS b a:=by unfold smX; rw [if_pos he]
  have l:=(ziz b a).1
  rw [eX,he,l]
  rw [he] at c1
  clear eX he l
  generalize sbS b a=X at *
  generalize ppF=PP at *
  generalize fcF=FC at *
  refine zab Tryz.mixed ⟨7,[],[1000000+89,1000000+71,1000000+100],[]⟩ Tryz.func29 ?_
  rw [Tryz.ntmps29]
  simp [go_sem]
  refine ⟨_,_,c1,?_⟩
  simp [go_sem]
  refine ⟨_,_,cF,?_⟩
  simp [go_sem]
  refine ⟨_,_,cM,?_⟩
  simp [go_sem]
  refine CallVC.of (c2) ?_
  simp [go_sem]
 .have eX:smX b a=[]:=by unfold smX; rw [if_neg he]
  rw [eX]
  have n1:smE b a=1\/smE b a=5:=by unfold smE at he |-; split <;> (try split) <;> simp_all
  clear eX
  generalize smE b a=E at *
  show Con _ _ _ (.tup [.own 2 0 [],.int E])
  refine Con.n1 _ ?_
  refine zab Tryz.mixed ⟨7,[],[1000000+89,1000000+71,1000000+100],[]⟩ Tryz.func29 ?_
  rw [Tryz.ntmps29]
  simp [go_sem]
  refine ⟨_,_,c1,?_⟩
  simp [go_sem]
  simp [go_sem,he]
theorem zdz (t:List Int) (i:Nat) (hi:i<t.length) (hl:t.length<=1000) (hb:∀ x∈t,0<=x/\x<=1000):Con Tryz.prog 249 [.sl t.length (avs t),.int i] (.int (parK t (iat t i) i)):=by
 have di:=zae hi
 have bi:0<=iat t i/\iat t i<=1000:=hb _ (memD 0 hi)
 have ng:¬ t=[]:=by rintro rfl; simp at hi
 generalize hx:iat t i=x at *
 clear hx
 generalize hF:parK t x i=F
 refine zab Tryz.mixed ⟨6,[],[],[]⟩ Tryz.func249 ?_
 rw [Tryz.ntmps249]
 simp [go_sem]
 refine ⟨⟨by omega,by omega⟩,?_⟩
 refine zac (4::5::List.range' 8 15) (fun k:Nat=>[(5,.int ((k:Int)-1))]) (fun k=>k<=i/\parK t x k=F) (fun k=>k) i ⟨Nat.le_refl _,hF⟩ (by simp [go_sem]) (by simp [go_sem]) ?_
 rintro k ⟨h1,h2⟩
 cases k with
 | zero =>
  have e:parK t x 0 = -1:=rfl
  rw [e] at h2
  subst h2
  simp [go_sem]
 | succ k =>
  have dk:=zae (a:=t) (v:=k) (by omega)
  have bk:0<=iat t k/\iat t k<=1000:=hb _ (memD 0 (show k<t.length by omega))
  have e1:((k+1:Nat):Int)-1=k:=by omega
  rw [e1]
  rw [show parK t x (k+1)=if iat t k=x-1 then (k:Int) else parK t x k from rfl] at h2
  generalize iat t k=y at *
  by_cases hy:y=x-1
  .rw [if_pos hy] at h2
   subst h2
   simp [go_sem]
   refine ⟨by kernel_rfl,?_⟩
   simp [go_sem,di,dk,hy]
   refine ⟨⟨by omega,ng⟩,⟨hi,ng⟩,⟨by omega,by omega⟩,?_⟩
   refine ⟨by kernel_rfl,?_⟩
   simp [go_sem]
  .rw [if_neg hy] at h2
   simp [go_sem]
   refine ⟨by kernel_rfl,?_⟩
   simp [go_sem,di,dk,hy]
   refine ⟨⟨by omega,ng⟩,⟨hi,ng⟩,⟨by omega,by omega⟩,?_⟩
   refine ⟨by kernel_rfl,?_⟩
   simp [go_sem]
   exact ⟨⟨by omega,by omega⟩,k,⟨by omega,h2⟩,by omega,zaa _ _ _ (by simp),by omega⟩
def blA (L:List Bool):List AV:=L.map fun b=>.val (.bool b)
@[simp] theorem zxZ (L:List Bool):(blA L).length=L.length:=by simp [blA]
theorem zuh {L:List Bool} {k:Nat} (h:k<L.length):(blA L)[k]?=some (.val (.bool (L[k]?.getD false))):=by
 unfold blA
 rw [List.getElem?_map,List.getElem?_eq_getElem h]; rfl
theorem zor (L:List Bool) (k:Nat) (b:Bool):(blA L).set k (.val (.bool b))=blA (L.set k b):=by simp [blA,List.map_set]
def pcS (t:List Int) (m r:Nat) (s:List Int × List Bool) (i:Nat):List Int × List Bool :=
 if (r:Int)<=parK t (iat t i) i/\s.2[(parK t (iat t i) i).toNat]?.getD false=true/\m / 2 ^ i%2=0 then (s.1++[iat t i-iat t r],s.2.set i true) else s
def pcG (t:List Int) (m r:Nat):Nat->List Int × List Bool
 | 0=>([0],(List.replicate t.length false).set r true)
 | n+1=>pcS t m r (pcG t m r n) (r+1+n)
theorem zj2 (t:List Int) (m r:Nat):∀ n,(pcG t m r n).1.length<=n+1/\(pcG t m r n).2.length=t.length
 | 0=>by simp [pcG]
 | n+1=>by
  obtain ⟨h1,h2⟩:=zj2 t m r n
  unfold pcG pcS
  split
  .simp [h2]; omega
  .exact ⟨by omega,h2⟩
def pcL (t:List Int) (m r:Nat):List Int:=(pcG t m r (t.length-r-1)).1
theorem zjN (t:List Int) (m:Nat) {r:Nat} (hr:r<t.length) (hl:t.length<=6):(pcL t m r).length<=6:=by
 have:=(zj2 t m r (t.length-r-1)).1; unfold pcL; omega
def pcV (t:List Int) (m r:Nat):List Int:=canF 6 (pcL t m r)
theorem zlC (t:List Int) (m r:Nat) (hr:r<t.length) (hl:t.length<=6) (hb:∀ x∈t,0<=x/\x<=1000) (hm:m<1000) (hv:Lv (pcL t m r)) :
  Con Tryz.prog 251 [.sl t.length (avs t),.int m,.int r] (.own 2 (pcV t m r).length (avs (pcV t m r))):=by
 have gl:=zj2 t m r
 have l6:=zjN t m hr hl
 have lV:(pcV t m r).length=(pcL t m r).length:=zaF 6 _ hv (by omega)
 rw [lV]
 have cC:=zaW 6 (pcL t m r) (by omega) hv l6
 rw [show canF 6 (pcL t m r)=pcV t m r from rfl] at cC
 clear lV l6
 generalize pcV t m r=V at *
 have pe:pcG t m r (t.length-r-1)=(pcL t m r,(pcG t m r (t.length-r-1)).2):=rfl
 have p0:pcG t m r 0=([0],(List.replicate t.length false).set r true):=rfl
 have ps:∀ n,pcG t m r (n+1)=pcS t m r (pcG t m r n) (r+1+n):=fun _=>rfl
 have ng:¬ t=[]:=by rintro rfl; simp at hr
 have i0:List.replicate t.length (AV.val (.bool false))=blA (List.replicate t.length false):=by simp [blA]
 generalize pcL t m r=PL at *
 generalize hG:pcG t m r=G at *
 clear hv
 refine zab Tryz.mixed ⟨11,[],[],[]⟩ Tryz.func251 ?_
 rw [Tryz.ntmps251]
 simp [go_sem]
 refine ⟨⟨by omega,by omega⟩,hr,⟨by omega,by omega⟩,?_⟩
 rw [i0,zor]
 refine zac (7::9::10::8::List.range' 20 41) (fun n:Nat=>[(7,.own 2 (G n).1.length (avs (G n).1)),(8,.own 4 t.length (blA (G n).2)),(9,.int ((r+1+n:Nat):Int))]) (fun n=>r+1+n<=t.length) (fun n=>t.length-n) 0 (by omega) (by simp [go_sem,p0,avs]) (by simp [go_sem]) ?_
 intro n hn
 obtain ⟨g1,g2⟩:=gl n
 by_cases hnl:r+1+n<t.length
 .have di:=zae (a:=t) (v:=r+1+n) hnl
  have dr:=zae (a:=t) (v:=r) hr
  have bi:0<=iat t (r+1+n)/\iat t (r+1+n)<=1000:=hb _ (memD 0 hnl)
  have br:0<=iat t r/\iat t r<=1000:=hb _ (memD 0 hr)
  have cP:=zdz t (r+1+n) hnl (by omega) hb
  have bq:=zeb t (iat t (r+1+n)) (r+1+n)
  have s1:=ps n
  unfold pcS at s1
  have bl:=zfM (m:=m) (i:=r+1+n) (by omega) (by omega)
  have hni:((r+1+n:Nat):Int)<t.length:=by omega
  generalize parK t (iat t (r+1+n)) (r+1+n)=q at *
  generalize iat t (r+1+n)=x at *
  generalize iat t r=y at *
  generalize hi:r+1+n=i at *
  generalize hg1:G (n+1)=g1 at *
  generalize G n=g at *
  obtain ⟨o,B⟩:=g
  simp only at g1 g2 s1
  simp [go_sem,hni]
  refine CallVC.of (cP) ?_
  simp [go_sem]
  have hw:IntKind.wrap .u64 (i:Int)=i:=zc2 (by omega) (by omega)
  by_cases h1:(r:Int)<=q
  .obtain ⟨k,rfl⟩:∃ k:Nat,q=k:=⟨q.toNat,by omega⟩
   rw [Int.toNat_natCast] at s1
   have gk:=zuh (L:=B) (k:=k) (by omega)
   have hkl:k<t.length:=by omega
   cases hbk:B[k]?.getD false with
   | false =>
    rw [hbk] at gk s1
    rw [if_neg (by simp)] at s1
    simp -implicitDefEqProofs [go_sem,h1,gk]
    refine ⟨hkl,⟨by omega,by omega⟩,n+1,by omega,by omega,zaa _ _ _ (by simp),?_⟩
    rw [hg1,s1]
    exact ⟨⟨rfl,rfl⟩,rfl,by omega⟩
   | true =>
    rw [hbk] at gk s1
    rcases Nat.mod_two_eq_zero_or_one (m / 2 ^ i) with h2 | h2
    .rw [h2] at bl s1
     rw [if_pos ⟨h1,rfl,rfl⟩] at s1
     simp -implicitDefEqProofs [go_sem,h1,gk,hw,bl]
     refine ⟨hkl,hnl,by omega,by kernel_rfl,?_⟩
     simp [go_sem,di,dr]
     refine ⟨⟨hnl,ng⟩,⟨hr,ng⟩,⟨by omega,by omega⟩,⟨by omega,by omega⟩,?_⟩
     refine ⟨by kernel_rfl,?_⟩
     simp [go_sem]
     refine ⟨⟨by omega,by omega⟩,n+1,by omega,by omega,zaa _ _ _ (by simp),?_⟩
     rw [hg1,s1]
     simp [avs,zor]
     omega
    .rw [h2] at bl s1
     rw [if_neg (by simp)] at s1
     simp -implicitDefEqProofs [go_sem,h1,gk,hw,bl]
     refine ⟨hkl,⟨by omega,by omega⟩,n+1,by omega,by omega,zaa _ _ _ (by simp),?_⟩
     rw [hg1,s1]
     exact ⟨⟨rfl,rfl⟩,rfl,by omega⟩
  .rw [if_neg (fun h=>h1 h.1)] at s1
   simp -implicitDefEqProofs [go_sem,h1]
   refine ⟨⟨by omega,by omega⟩,n+1,by omega,by omega,zaa _ _ _ (by simp),?_⟩
   rw [hg1,s1]
   exact ⟨⟨rfl,rfl⟩,rfl,by omega⟩
 .have e:t.length-r-1=n:=by omega
  rw [e] at pe
  rw [pe]
  generalize r+1+n=i at *
  have hni:¬ (i:Int)<t.length:=by omega
  simp [go_sem,hni]
  refine CallVC.of (cC) ?_
  simp [go_sem]
def psL (t:List Int) (m:Nat):Nat->List (List Int)
 | 0=>[]
 | i+1=>psL t m i++if i=0\/m / 2 ^ i%2=1 then [pcV t m i] else []
theorem zjM (t:List Int) (m:Nat):∀ i,(psL t m i).length<=i
 | 0=>by simp [psL]
 | i+1=>by
  have:=zjM t m i
  unfold psL
  split <;> simp <;> omega
theorem zmD {t:List Int} {m:Nat}:∀ {i:Nat},∀ b∈psL t m i,∃ r,r<i/\b=pcV t m r
 | 0,b,h=>by simp [psL] at h
 | i+1,b,h=>by
  unfold psL at h
  rcases List.mem_append.1 h with h | h
  .obtain ⟨r,h1,h2⟩:=zmD b h
   exact ⟨r,by omega,h2⟩
  .split at h
   .exact ⟨i,by omega,by simpa using h⟩
   .simp at h
theorem zjV (t:List Int) (m:Nat) (h0:0<t.length) (hl:t.length<=6) (hb:∀ x∈t,0<=x/\x<=1000) (hm:m<1000) (hv:∀ r,r<t.length->Lv (pcL t m r)) :
  GCon Tryz.prog 191 [.sl t.length (avs t),.int m] (.sl (psL t m t.length).length (mat (srtT (psL t m t.length)))) [.any,.any]:=by
 have cP:=fun r h=>zlC t m r h hl hb hm (hv r h)
 have c0:=cP 0 h0
 have lL:=zjM t m
 have cS:=zfJ (psL t m t.length) (fun b hb=>by
  obtain ⟨r,h1,rfl⟩:=zmD b hb
  have:=zaF 6 _ (hv r h1) (zjN t m h1 hl)
  have:=zjN t m h1 hl
  unfold pcV; omega) (by have:=lL t.length; omega)
 have s0:psL t m 1=[pcV t m 0]:=rfl
 have ss:∀ i,psL t m (i+1)=psL t m i++if i=0\/m / 2 ^ i%2=1 then [pcV t m i] else []:=fun _=>rfl
 generalize hL:psL t m=L at *
 generalize hV:pcV t m=V at *
 refine zaf Tryz.mixed ⟨7,[30],[1000000+252],[]⟩ [] Tryz.func191 ?_
 rw [Tryz.ntmps191]
 simp [go_sem]
 refine CallVC.of (c0) ?_
 simp [go_sem]
 refine zac (5::6::List.range' 11 19) (fun i:Nat=>[(5,.own 25 (L i).length (omat (L i))),(6,.int i)]) (fun i=>1<=i/\i<=t.length) (fun i=>t.length-i) 1 (by omega) (by simp [go_sem,s0,omat]) (by simp [go_sem]) ?_
 rintro i ⟨h1,h2⟩
 have ll:=lL i
 by_cases hil:i<t.length
 .have hii:(i:Int)<t.length:=by omega
  have bl:=zfM (m:=m) (i:=i) (by omega) (by omega)
  have hw:IntKind.wrap .u64 (i:Int)=i:=zc2 (by omega) (by omega)
  have s1:=ss i
  have cI:=cP i hil
  rcases Nat.mod_two_eq_zero_or_one (m / 2 ^ i) with h2 | h2
  .rw [h2] at bl s1
   rw [if_neg (by omega),List.append_nil] at s1
   simp [go_sem,hii,hw,bl]
   refine ⟨⟨by omega,by omega⟩,i+1,by omega,by omega,zaa _ _ _ (by simp),?_⟩
   rw [s1]
   exact ⟨⟨rfl,rfl⟩,by omega⟩
  .rw [h2] at bl s1
   rw [if_pos (by omega)] at s1
   simp [go_sem,hii,hw,bl]
   refine CallVC.of (cI) ?_
   simp [go_sem]
   refine ⟨⟨by omega,by omega⟩,⟨by omega,by omega⟩,i+1,by omega,by omega,zaa _ _ _ (by simp),?_⟩
   rw [s1]
   simp [omat]
 .have e:i=t.length:=by omega
  subst e
  have hii:¬ (t.length:Int)<t.length:=by omega
  simp [go_sem,hii]
  refine ⟨_,_,cS,?_⟩
  simp [go_sem]
def skN (t:List Int) (m:Nat):Nat->Int->Int->Int
 | 0,_,l=>l
 | n+1,k,l=>if 0<k then skN t m n (parK t (iat t k.toNat) k.toNat) (if m / 2 ^ k.toNat%2=1 then l+1 else l) else l
def skL (t:List Int) (m:Nat):Nat->List Int
 | 0=>[]
 | i+1=>skL t m i++if i=0 then [0] else if m / 2 ^ i%2=1 then [skN t m i (parK t (iat t i) i) 1] else []
theorem znj (t:List Int) (m:Nat):∀ i,(skL t m i).length<=i
 | 0=>by simp [skL]
 | i+1=>by
  have:=znj t m i
  unfold skL
  split
  .simp; omega
  .split <;> simp <;> omega
def skV (t:List Int) (m:Nat):List Int:=canF 6 (skL t m t.length)
theorem zhh (t:List Int) (m:Nat) (h0:0<t.length) (hl:t.length<=6) (hb:∀ x∈t,0<=x/\x<=1000) (hm:m<1000) (hv:Lv (skL t m t.length)) :
  Con Tryz.prog 190 [.sl t.length (avs t),.int m] (.own 2 (skV t m).length (avs (skV t m))):=by
 have lL:=znj t m
 have cC:=zaW 6 (skL t m t.length) (by omega) hv (by have:=lL t.length; omega)
 have lV:(skV t m).length=(skL t m t.length).length:=zaF 6 _ hv (by have:=lL t.length; omega)
 rw [lV]
 rw [show canF 6 (skL t m t.length)=skV t m from rfl] at cC
 clear lV hv
 generalize skV t m=V at *
 have s0:skL t m 1=[0]:=rfl
 have ss:∀ i,1<=i->skL t m (i+1)=skL t m i++if m / 2 ^ i%2=1 then [skN t m i (parK t (iat t i) i) 1] else []:=fun i hi=>by
  show skL t m i++(if i=0 then [0] else _)=_
  rw [if_neg (by omega)]
 generalize hL:skL t m=L at *
 refine zab Tryz.mixed ⟨9,[],[],[]⟩ Tryz.func190 ?_
 rw [Tryz.ntmps190]
 simp [go_sem]
 refine zac (5::6::7::8::List.range' 10 32) (fun i:Nat=>[(5,.own 2 (L i).length (avs (L i))),(6,.int i)]) (fun i=>1<=i/\i<=t.length) (fun i=>t.length-i) 1 (by omega) (by simp [go_sem,s0,avs]) (by simp [go_sem]) ?_
 rintro i ⟨h1,h2⟩
 have ll:=lL i
 by_cases hil:i<t.length
 .have hii:(i:Int)<t.length:=by omega
  have bl:=zfM (m:=m) (i:=i) (by omega) (by omega)
  have hw:IntKind.wrap .u64 (i:Int)=i:=zc2 (by omega) (by omega)
  have s1:=ss i h1
  have cI:=zdz t i hil (by omega) hb
  have bq:=zeb t (iat t i) i
  rcases Nat.mod_two_eq_zero_or_one (m / 2 ^ i) with h2 | h2
  .rw [h2] at bl s1
   rw [if_neg (by omega),List.append_nil] at s1
   simp [go_sem,hii,hw,bl]
   refine ⟨⟨by omega,by omega⟩,i+1,by omega,by omega,zaa _ _ _ (by simp),?_⟩
   rw [s1]
   exact ⟨⟨rfl,rfl⟩,by omega⟩
  .rw [h2] at bl s1
   rw [if_pos (by omega)] at s1
   generalize hF:skN t m i (parK t (iat t i) i) 1=F at *
   generalize parK t (iat t i) i=q at *
   simp [go_sem,hii,hw,bl]
   refine CallVC.of (cI) ?_
   simp [go_sem]
   refine zac (7::8::List.range' 25 13) (fun x:Int × Int=>[(8,.int x.1),(7,.int x.2)]) (fun x=>(-1<=x.1/\x.1<i/\1<=x.2/\x.1+x.2<=i)/\∃ n:Nat,x.1<n/\skN t m n x.1 x.2=F) (fun x=>(x.1+1).toNat) (q,1) ⟨by omega,i,by omega,hF⟩ (by simp [go_sem]) (by simp [go_sem]) ?_
   rintro ⟨k,l⟩ ⟨⟨b1,b2,b3,b4⟩,n,n1,n2⟩
   simp only at b1 b2 b3 b4 n1 n2
   by_cases hk:0<k
   .obtain ⟨k,rfl⟩:∃ k':Nat,k=k':=⟨k.toNat,by omega⟩
    obtain ⟨n,rfl⟩:∃ n',n=n'+1:=⟨n-1,by omega⟩
    rw [skN,if_pos hk,Int.toNat_natCast] at n2
    have hkl:k<t.length:=by omega
    have hk2:0<k:=by omega
    have cK:=zdz t k hkl (by omega) hb
    have bk:=zeb t (iat t k) k
    have bl2:=zfM (m:=m) (i:=k) (by omega) (by omega)
    have hw2:IntKind.wrap .u64 (k:Int)=k:=zc2 (by omega) (by omega)
    generalize parK t (iat t k) k=q2 at *
    rcases Nat.mod_two_eq_zero_or_one (m / 2 ^ k) with h3 | h3
    .rw [h3] at bl2 n2
     rw [if_neg (by omega)] at n2
     simp [go_sem,hk2,hw2,bl2]
     refine CallVC.of (cK) ?_
     simp [go_sem]
     exact ⟨q2,l,⟨by omega,n,by omega,n2⟩,by omega,zaa _ _ _ (by simp),by simp⟩
    .rw [h3] at bl2 n2
     rw [if_pos rfl] at n2
     simp [go_sem,hk2,hw2,bl2]
     refine ⟨⟨by omega,by omega⟩,?_⟩
     refine CallVC.of (cK) ?_
     simp [go_sem]
     exact ⟨q2,l+1,⟨by omega,n,by omega,n2⟩,by omega,zaa _ _ _ (by simp),by simp⟩
   .have hF2:l=F:=by
     cases n with
     | zero=>exact n2
     | succ n=>rw [skN,if_neg hk] at n2; exact n2
    subst hF2
    simp [go_sem,hk]
    refine ⟨⟨by omega,by omega⟩,⟨by omega,by omega⟩,i+1,by omega,by omega,(Off.reset (by intro x hx; simp at hx |-; omega) (by simp) (by simp [go_sem,zaa])),?_⟩
    rw [s1]
    simp [avs]
 .have e:i=t.length:=by omega
  subst e
  have hii:¬ (t.length:Int)<t.length:=by omega
  simp [go_sem,hii]
  refine CallVC.of (cC) ?_
  simp [go_sem]
def fiZ (x:List Int):Int:=fdL (trN 6) x 0+1
def mkC (t:List Int) (m:Nat):Ctp:=(1,(srtT (psL t m t.length)).map fun x=>(fiZ x).toNat,(fiZ (skV t m)).toNat)
def mkL (t:List Int) (n:Nat):List Ctp:=(List.range n).map fun k=>mkC t (2*k)
def vaP (i:Nat):Py:=[(1,[38+i])]
def mkOk (t:List Int) (m:Nat):Bool :=
 ((List.range t.length).all fun r=>lv0 (pcL t m r)) && (lv0 (skL t m t.length) && (decide (1<=fiZ (skV t m)) && (decide (fiZ (skV t m)<=37) && (srtT (psL t m t.length)).all fun x=>decide (1<=fiZ x) && decide (fiZ x<=37))))
theorem zqr:((trN 6).all fun t=>decide (0<t.length) && (decide (t.length<=6) && ((t.all fun x=>decide (0<=x) && decide (x<=1000)) && (List.range (2 ^ (t.length-1))).all fun k=>mkOk t (2*k))))=true:=by decide +kernel
theorem ztO:((List.range 37).all fun i=>decide (rowP (vb 0) vaP (mkL ((trN 6)[i]?.getD []) (2 ^ (((trN 6)[i]?.getD []).length-1)))=rowP (vb 0) vaP (ptR (i+1))))=true:=by decide +kernel
theorem ztY {t:List Int} (h:t∈trN 6):0<t.length/\t.length<=6/\(∀ x∈t,0<=x/\x<=1000)/\∀ k,k<2 ^ (t.length-1)->(∀ r,r<t.length->Lv (pcL t (2*k) r))/\Lv (skL t (2*k) t.length)/\(1<=fiZ (skV t (2*k))/\fiZ (skV t (2*k))<=37) /\
  ∀ x∈srtT (psL t (2*k) t.length),1<=fiZ x/\fiZ x<=37:=by
 have k:=List.all_eq_true.1 zqr t h
 simp only [Bool.and_eq_true,decide_eq_true_eq,List.all_eq_true,List.mem_range] at k
 obtain ⟨k1,k2,k3,k4⟩:=k
 refine ⟨k1,k2,k3,fun n hn=>?_⟩
 have k:=k4 n hn
 unfold mkOk at k
 simp only [Bool.and_eq_true,decide_eq_true_eq,List.all_eq_true,List.mem_range] at k
 obtain ⟨q1,q2,q3,q4,q5⟩:=k
 exact ⟨fun r hr=>zg0 (q1 r hr),zg0 q2,⟨q3,q4⟩,q5⟩
def sbpF (b:List Int) (o:Int) (L:List Nat):Int:=L.foldl (fun o v=>o*iat b v%10007) o
theorem zi6 (b:List Int) (o:Int) (L:List Nat) (v:Nat):sbpF b o (L++[v])=sbpF b o L*iat b v%10007:=by simp [sbpF]
theorem ziQ (b:List Int):∀ L,sbpF b 0 L=0
 | []=>rfl
 | v::L=>by
  show sbpF b (0*iat b v%10007) L=0
  rw [Int.zero_mul]
  exact ziQ b L
theorem zqb (b:List Int) (o:Int) (L M:List Nat):sbpF b o (L++M)=sbpF b (sbpF b o L) M:=by simp [sbpF]
theorem zlp (b:List Int) (o:Int) (ho:isN o) (L:List Nat):isN (sbpF b o L)/\sbpF b o L%10007=o*prI (iat b) L%10007:=by
 generalize hn:L.length=n
 induction n generalizing L with
 | zero=>rw [List.length_eq_zero_iff.1 hn]; exact ⟨ho,by simp [sbpF,prI]⟩
 | succ n ih =>
  rcases List.eq_nil_or_concat L with rfl | ⟨h,x,rfl⟩
  .simp at hn
  .rw [List.concat_eq_append] at hn |-
   rw [zi6,zhz,Int.emod_emod_of_dvd _ (Int.dvd_refl _),<- Int.mul_assoc]
   exact ⟨zai _,zas (ih h (by simpa using hn)).2 rfl⟩
def sbtF (b a:List Int) (L:List Ctp):Int:=L.foldl (fun s c=>(s+sbpF b (iat a c.2.2) c.2.1)%10007) 0
theorem zi0 (b a:List Int) (L:List Ctp) (c:Ctp):sbtF b a (L++[c])=(sbtF b a L+sbpF b (iat a c.2.2) c.2.1)%10007:=by simp [sbtF]
theorem zkG {b a:List Int} (ha:Ns a) (L:List Ctp) (h1:∀ c∈L,c.1=1):isN (sbtF b a L)/\sbtF b a L=rowI (iat b) (iat a) L%10007:=by
 generalize hn:L.length=n
 induction n generalizing L with
 | zero=>rw [List.length_eq_zero_iff.1 hn]; exact ⟨(show isN 0 from ⟨by decide,by decide⟩),rfl⟩
 | succ n ih =>
  rcases List.eq_nil_or_concat L with rfl | ⟨h,c,rfl⟩
  .simp at hn
  .rw [List.concat_eq_append] at hn h1 |-
   obtain ⟨i1,i2⟩:=ih h (fun c hc=>h1 c (by simp [hc])) (by simpa using hn)
   have e:=(zlp b (iat a c.2.2) (ha.get _) c.2.1).2
   have c1:=h1 c (by simp)
   rw [zi0,zck,c1]
   refine ⟨zai _,?_⟩
   rw [i2]
   rw [Int.mul_comm (prI _ _)]
   generalize iat a c.2.2*prI (iat b) c.2.1=z at *
   generalize sbpF b (iat a c.2.2) c.2.1=y at *
   generalize rowI (iat b) (iat a) h=r at *
   omega
theorem znr (t:List Int) (n:Nat):∀ c∈mkL t n,c.1=1:=fun c hc=>by
 obtain ⟨k,_,rfl⟩:=List.mem_map.1 hc
 rfl
theorem zq1 (t:List Int) (n:Nat):mkL t (n+1)=mkL t n++[mkC t (2*n)]:=by simp [mkL,List.range_succ]
theorem zpu {b a:List Int} (hb:Inf b) (ha:N38 a) {i:Nat} (hi:i<37):sbtF b a (mkL ((trN 6)[i]?.getD []) (2 ^ (((trN 6)[i]?.getD []).length-1)))=suF b a (ptR (i+1))%10007:=by
 rw [(zkG ha.Ns _ (znr _ _)).2,(zhT b a _).2]
 have e:=of_decide_eq_true (List.all_eq_true.1 ztO i (List.mem_range.2 hi))
 let r:Nat->Int:=fun v=>if v<38 then iat b v else iat a (v-38)
 have h1:∀ v,v<38->evp r (vb 0 v)%10007=iat b v%10007:=fun v hv=>zie (by rw [hb.2]; rfl) (fun j hj=>by show (if 0+j<38 then _ else _)=_; rw [Nat.zero_add,if_pos hj]) hv
 have h2:∀ v,v<38->evp r (vaP v)%10007=iat a v%10007:=fun v hv=>by
  have e:r (38+v)=iat a v:=by
   show (if 38+v<38 then _ else iat a (38+v-38))=_
   rw [if_neg (by omega),Nat.add_sub_cancel_left]
  simp [vaP,evp,evm,e]
 have hT:=(ztY (t:=(trN 6)[i]?.getD []) (memD [] (by rw [zaJ]; exact hi))).2.2.2
 have e1:=zer r (mkL ((trN 6)[i]?.getD []) (2 ^ (((trN 6)[i]?.getD []).length-1))) (fun c hc=>by
  obtain ⟨k,hk,rfl⟩:=List.mem_map.1 hc
  obtain ⟨_,_,q1,q2⟩:=hT k (List.mem_range.1 hk)
  refine ⟨fun v hv=>h1 v ?_,h2 _ (by show (fiZ _).toNat<38; omega)⟩
  obtain ⟨x,hx,rfl⟩:=List.mem_map.1 hv
  have:=q2 x hx
  show (fiZ x).toNat<38
  omega)
 have e2:=zer r (ptR (i+1)) (fun c hc=>⟨fun v hv=>h1 v ((zkD (by omega) c hc).1 v hv),h2 _ (zkD (by omega) c hc).2⟩)
 rw [<- e1,e,e2]
theorem zf4 (b a:List Int) (hb:Inf b) (ha:N38 a):Con Tryz.prog 102 [.sl b.length (avs b),.sl a.length (avs a)] (.own 2 38 (avs (sbS b a))):=by
 have la:=ha.1
 have na:=ha.ne
 have lb:=hb.1.1
 have nb:=hb.1.ne
 have da1:=zae (a:=a) (v:=0) (by omega)
 rw [List.drop_zero,Nat.zero_add,List.drop_one] at da1
 have cA:=zb4 6 (by omega)
 have l6:=zaJ
 have x0:=znn b a ha
 have xs:=fun i h=>zkE b a (i:=i) h
 have xl:(sbS b a).take 38=sbS b a:=List.take_of_length_le (by rw [(ziz b a).1]; omega)
 have st:=fun i h=>zpu hb ha (i:=i) h
 have mt:=fun t h=>ztY (t:=t) h
 have cFi:=fun x=>zf7 (trN 6) x (by rw [l6]; omega) (fun r hr=>by have:=(ztY hr).2.1; omega)
 rw [l6] at cFi
 have sl:=(ziz b a).1
 have nT:¬ trN 6=[]:=by intro e; rw [e] at l6; simp at l6
 have hfz:∀ x,fiZ x=fdL (trN 6) x 0+1:=fun _=>rfl
 generalize sbS b a=X at *
 refine zab Tryz.mixed ⟨14,[6],[1000000+191],[]⟩ Tryz.func102 ?_
 rw [Tryz.ntmps102]
 simp [go_sem]
 simp [go_sem,da1]
 rw [<- da1]
 refine ⟨⟨by omega,na⟩,?_⟩
 refine CallVC.of (cA) ?_
 simp [go_sem]
 refine zac (5::List.range' 7 7++List.range' 19 59) (fun i:Nat=>[(5,.own 2 (i+1) (avs (X.take (i+1)))),(7,.int i)]) (fun i=>i<=37) (fun i=>37-i) 0 (by simp) (by simp [go_sem,x0,avs]) (by simp [go_sem]) ?_
 intro i hi
 by_cases hil:i<37
 .have hii:(i:Int)<37:=by omega
  have hl:i<(trN 6).length:=by omega
  have om:=zak hl
  have hm:=memD [] hl
  obtain ⟨t1,t2,t3,t4⟩:=mt _ hm
  have st1:=st i hil
  have xs1:=xs i hil
  have lX:(X.take (i+1)).length=i+1:=by rw [List.length_take]; omega
  generalize X.take (i+1)=XI at *
  generalize hT:(trN 6)[i]?.getD []=t at *
  simp [go_sem,hii,l6,om]
  refine ⟨nT,?_⟩
  refine zac (9::10::11::12::13::List.range' 29 45) (fun k:Nat=>[(9,.int (sbtF b a (mkL t k))),(10,.int ((2*k:Nat):Int))]) (fun k=>k<=2 ^ (t.length-1)) (fun k=>2 ^ (t.length-1)-k) 0 (by simp) (by simp [go_sem,sbtF,mkL]) (by simp [go_sem]) ?_
  intro k hk
  have p6:2 ^ (t.length-1)<=2 ^ 5:=Nat.pow_le_pow_right (by omega) (by omega)
  have p7:2*2 ^ (t.length-1)=2 ^ t.length:=by rw [Nat.mul_comm,<- Nat.pow_succ]; congr 1; omega
  have hsh:=znd t.length t2
  have hw:IntKind.wrap .u64 (t.length:Int)=t.length:=zc2 (by omega) (by omega)
  obtain ⟨sN,_⟩:=zkG ha.Ns (mkL t k) (znr t k) (b:=b)
  by_cases hkl:k<2 ^ (t.length-1)
  .obtain ⟨q1,q2,⟨q3,q4⟩,q5⟩:=t4 k hkl
   have hki:((2*k:Nat):Int)<((2 ^ t.length:Nat):Int):=by omega
   have cSk:=zhh t (2*k) t1 t2 t3 (by omega) q2
   have cPi:=zjV t (2*k) t1 t2 t3 (by omega) q1
   have cF1:=cFi (skV t (2*k))
   have ms:=zq1 t k
   have ss:=zi0 b a (mkL t k) (mkC t (2*k))
   rw [<- ms] at ss
   have eC:mkC t (2*k)=(1,(srtT (psL t (2*k) t.length)).map (fun x=>(fiZ x).toNat),(fiZ (skV t (2*k))).toNat):=rfl
   have lP:(psL t (2*k) t.length).length<=6:=Nat.le_trans (zjM _ _ _) t2
   have lS:=zcy (psL t (2*k) t.length)
   rw [<- lS] at lP cPi
   obtain ⟨z,hz⟩:∃ z:Nat,fiZ (skV t (2*k))=z:=⟨(fiZ (skV t (2*k))).toNat,by omega⟩
   have hz2:fdL (trN 6) (skV t (2*k)) 0=(z:Int)-1:=by have:=hfz (skV t (2*k)); omega
   rw [hz] at eC q3 q4
   rw [Int.toNat_natCast] at eC
   have dz:=zae (a:=a) (v:=z) (by omega)
   have oN:isN (iat a z):=ha.Ns.get z
   rw [hz2] at cF1
   clear hz hz2 ms t4 q1 q2 lS
   generalize srtT (psL t (2*k) t.length)=PS at *
   generalize skV t (2*k)=SK at *
   rw [eC] at ss
   simp only at ss
   generalize hc1:mkL t (k+1)=M1 at *
   generalize hs1:sbtF b a M1=s1 at *
   generalize sbtF b a (mkL t k)=s0 at *
   have oA:=fun L=>zlp b (iat a z) oN L
   have uk:∀ {s:Int},s=s1->s=sbtF b a (mkL t (k+1)):=fun h=>by rw [hc1,hs1]; exact h
   clear hs1 hc1
   generalize iat a z=o at *
   generalize hmk:2*k=m at *
   generalize 2 ^ t.length=E at *
   simp [go_sem,hw,hsh,hki]
   refine CallVC.of (cSk) ?_
   simp [go_sem]
   refine CallVC.of (cF1) ?_
   simp [go_sem]
   simp [go_sem,dz]
   refine ⟨by omega,⟨by omega,na⟩,?_⟩
   refine ⟨_,_,cPi,?_⟩
   simp [go_sem]
   have nP:PS.length=0->PS=[]:=fun h=>List.length_eq_zero_iff.1 h
   refine zac (11::13::List.range' 49 22) (fun j:Nat=>[(11,.int (sbpF b o ((PS.map fun x=>(fiZ x).toNat).take j))),(13,.int j)]) (fun j=>j<=PS.length) (fun j=>PS.length-j) 0 (by simp) (by simp [go_sem,sbpF]) (by simp [go_sem]) ?_
   intro j hj
   have pN:=(oA ((PS.map fun x=>(fiZ x).toNat).take j)).1
   have fin:∀ s2:Int,s2=sbpF b o (PS.map fun x=>(fiZ x).toNat)->s1=(s0+s2)%10007:=fun s2 h=>by rw [h]; exact ss
   by_cases hjl:j<PS.length
   .have hji:(j:Int)<PS.length:=by omega
    have md:=zak hjl
    have hx:=memD [] hjl
    obtain ⟨x1,x2⟩:=q5 _ hx
    have tk:(PS.map fun x=>(fiZ x).toNat).take (j+1)=(PS.map fun x=>(fiZ x).toNat).take j++[(fiZ (PS[j]?.getD [])).toNat]:=by
     rw [List.take_succ_eq_append_getElem (by simpa using hjl),List.getElem_map,List.getElem?_eq_getElem hjl]; rfl
    have nPS:¬ PS=[]:=by rintro rfl; simp at hjl
    have eP:sbpF b o (PS.map fun x=>(fiZ x).toNat)=sbpF b (sbpF b o ((PS.map fun x=>(fiZ x).toNat).take j)) ((PS.map fun x=>(fiZ x).toNat).drop j):=by rw [<- zqb,List.take_append_drop]
    have nx:=zi6 b o ((PS.map fun x=>(fiZ x).toNat).take j) (fiZ (PS[j]?.getD [])).toNat
    rw [<- tk] at nx
    have cF2:=cFi (PS[j]?.getD [])
    obtain ⟨v,hv⟩:∃ v:Nat,fiZ (PS[j]?.getD [])=v:=⟨(fiZ (PS[j]?.getD [])).toNat,by omega⟩
    have hv2:fdL (trN 6) (PS[j]?.getD []) 0=(v:Int)-1:=by have:=hfz (PS[j]?.getD []); omega
    rw [hv2] at cF2
    rw [hv,Int.toNat_natCast] at nx
    rw [hv] at x1 x2
    have db:=zae (a:=b) (v:=v) (by omega)
    have bN:isN (iat b v):=hb.1.Ns.get v
    have uj:∀ {s:Int},s=sbpF b o ((PS.map fun x=>(fiZ x).toNat).take j)*iat b v%10007->s=sbpF b o ((PS.map fun x=>(fiZ x).toNat).take (j+1)):=fun h=>by rw [nx]; exact h
    clear nx tk hv hv2
    generalize sbpF b o ((PS.map fun x=>(fiZ x).toNat).take j)=pa at *
    generalize PS[j]?.getD []=x at *
    by_cases hp:pa=0
    .have fi:=fin 0 (by rw [eP,hp,ziQ])
     subst hp
     have cAd:=zb8 s0 0 (by unfold fits; have:=sN.1; have:=sN.2; omega)
     rw [<- fi] at cAd
     simp [go_sem,hji]
     refine CallVC.of (cAd) ?_
     simp [go_sem]
     refine ⟨⟨by omega,by omega⟩,k+1,by omega,by omega,(Off.reset (by intro x hx; simp at hx |-; omega) (by simp) (by simp [go_sem,zaa])),?_⟩
     exact ⟨uk rfl,by omega⟩
    .have fm:=zaw pN bN
     have cMu:=zaZ pa (iat b v) fm
     generalize iat b v=y at *
     simp [go_sem,hji,hp,md]
     refine ⟨nPS,?_⟩
     refine CallVC.of (cF2) ?_
     simp [go_sem]
     simp [go_sem,db]
     refine ⟨by omega,⟨by omega,nb⟩,?_⟩
     refine CallVC.of (cMu) ?_
     simp [go_sem]
     refine ⟨⟨by omega,by omega⟩,j+1,by omega,by omega,zaa _ _ _ (by simp),?_⟩
     exact ⟨uj rfl,by omega⟩
   .have e:j=PS.length:=by omega
    subst e
    have hji:¬ (PS.length:Int)<PS.length:=by omega
    have tkl:(PS.map fun x=>(fiZ x).toNat).take PS.length=PS.map fun x=>(fiZ x).toNat:=List.take_of_length_le (by simp)
    rw [tkl] at pN |-
    have fi:=fin _ rfl
    generalize sbpF b o (PS.map fun x=>(fiZ x).toNat)=pa at *
    have cAd:=zb8 s0 pa (by unfold fits; have:=sN.1; have:=sN.2; have:=pN.1; have:=pN.2; omega)
    rw [<- fi] at cAd
    simp [go_sem,hji]
    refine CallVC.of (cAd) ?_
    simp [go_sem]
    refine ⟨⟨by omega,by omega⟩,k+1,by omega,by omega,(Off.reset (by intro x hx; simp at hx |-; omega) (by simp) (by simp [go_sem,zaa])),?_⟩
    exact ⟨uk rfl,by omega⟩
  .have e:k=2 ^ (t.length-1):=by omega
   have hki:¬ ((2*k:Nat):Int)<((2 ^ t.length:Nat):Int):=by omega
   have e2:sbtF b a (mkL t k)=suF b a (ptR (i+1))%10007:=by rw [e]; exact st1
   rw [<- e2] at xs1
   generalize sbtF b a (mkL t k)=s0 at *
   clear e e2 st1 p7 p6 t4
   generalize 2*k=m at *
   generalize 2 ^ t.length=E at *
   simp [go_sem,hw,hsh,hki]
   refine ⟨⟨by omega,by omega,by omega⟩,⟨by omega,by omega⟩,i+1,by omega,by omega,(by repeat (first | exact zaa _ _ _ (by simp) | (refine Off.reset (by intro x hx; simp at hx |-; omega) (by simp) ?_; simp -failIfUnchanged [go_sem,zaa]))),?_⟩
   rw [xs1,zal]
   exact ⟨⟨rfl,rfl⟩,by omega⟩
 .have e:i=37:=by omega
  subst e
  rw [xl]
  simp [go_sem,l6]
theorem zsZ:pw 1 10005=1:=by
 have:=zrm 1
 rw [show ((1:Nat):Int)=1 from rfl] at this
 rw [<- this]; decide +kernel
theorem zdP (a:List Int) (ha:Ch a):Con Tryz.prog 88 [.agg [.sl 37 (mat (trN 6)),.sl 37 fcF],.sl a.length (avs a)] (.own 2 38 (avs (logS a))):=by
 have c1:=zeh
 have c2:=zib exaS a zaL.1 ha.1
 rw [zn1,zsZ,ztK ha,zaL.1.1] at c2
 generalize logS a=X at *
 generalize exaS=E at *
 generalize fcF=FC at *
 refine zab Tryz.mixed ⟨5,[],[],[]⟩ Tryz.func88 ?_
 rw [Tryz.ntmps88]
 simp [go_sem]
 refine ⟨by kernel_rfl,?_⟩
 refine CallD.of (c1) ?_
 simp [go_sem]
 refine CallD.of (c2) ?_
 simp [go_sem]
 refine ⟨by kernel_rfl,?_⟩
 simp [go_sem]
theorem zhm (a:List Int) (ha:Ch a):Con Tryz.prog 19 [.sl a.length (avs a)] (.tup [.own 2 38 (avs (logS a)),.int 0]):=by
 have c1:=zaz a (by rw [ha.1.1]; omega)
 rw [ha.ck] at c1
 have cF:=za6
 have c2:=zdP a ha
 generalize logS a=E at *
 generalize fcF=FC at *
 refine zab Tryz.mixed ⟨5,[],[1000000+71],[]⟩ Tryz.func19 ?_
 rw [Tryz.ntmps19]
 simp [go_sem]
 refine CallVC.of (c1) ?_
 simp [go_sem]
 refine ⟨_,_,cF,?_⟩
 simp [go_sem]
 refine CallVC.of (c2) ?_
 simp [go_sem]
def raF (b x:List Int) (L:List Ctp):Int:=L.foldl (fun s c=>s+(c.1:Int)*(iat b (c.2.1.headD 0)*iat x c.2.2%10007)%10007) 0
theorem zhd (b x:List Int) (L:List Ctp) (c:Ctp):raF b x (L++[c])=raF b x L+(c.1:Int)*(iat b (c.2.1.headD 0)*iat x c.2.2%10007)%10007:=by simp [raF]
theorem zsy (b x:List Int) (L:List Ctp):0<=raF b x L/\raF b x L<=10006*L.length:=by
 generalize hn:L.length=n
 induction n generalizing L with
 | zero=>rw [List.length_eq_zero_iff.1 hn]; exact ⟨Int.le_refl 0,by show (0:Int)<=_; omega⟩
 | succ n ih =>
  rcases List.eq_nil_or_concat L with rfl | ⟨h,y,rfl⟩
  .simp at hn
  .rw [List.concat_eq_append] at hn |-
   obtain ⟨i1,i2⟩:=ih h (by simpa using hn)
   rw [zhd]
   omega
theorem zuG (b x:List Int) (L:List Ctp):raF b x L%10007=ra7 b x L%10007:=by
 generalize hn:L.length=n
 induction n generalizing L with
 | zero=>rw [List.length_eq_zero_iff.1 hn]; rfl
 | succ n ih =>
  rcases List.eq_nil_or_concat L with rfl | ⟨h,y,rfl⟩
  .simp at hn
  .rw [List.concat_eq_append] at hn |-
   have:=ih h (by simpa using hn)
   rw [zhd,zeY]
   omega
theorem zsM (b x:List Int) (hb:N38 b) (hx:N38 x) :
  Con Tryz.prog 174 [.agg [.sl 37 (mat (trN 6)),.sl 37 fcF],.sl b.length (avs b),.sl x.length (avs x)] (.own 2 38 (avs (mk38 (acI (iat b) (iat x))))):=by
 have t1:=zch (acI (iat b) (iat x)) (i:=0) (by omega)
 have e0:acI (iat b) (iat x) 0%10007=0:=by unfold acI; rw [if_pos rfl]; rfl
 rw [List.take_zero,List.nil_append,e0] at t1
 have tk:=fun i (h:i<38)=>zch (acI (iat b) (iat x)) h
 have ta:=zkY (acI (iat b) (iat x))
 have lo:(mk38 (acI (iat b) (iat x))).length=38:=(za8 _).1
 have lb:=hb.1
 have lx:=hx.1
 have nb:=hb.ne
 have nx:=hx.ne
 have nF:=zr3
 have hF:=fun i h=>zhn (i:=i) h
 generalize hO:mk38 (acI (iat b) (iat x))=O at *
 generalize fcF=FC at *
 refine zab Tryz.mixed ⟨13,[],[],[]⟩ Tryz.func174 ?_
 rw [Tryz.ntmps174]
 simp [go_sem]
 refine zac (7::9::10::12::List.range' 17 41) (fun i:Nat=>[(7,.own 2 (i+1) (avs (O.take (i+1)))),(17,.int i)]) (fun i=>i<=37) (fun i=>37-i) 0 (by simp) (by simp [go_sem,t1,avs]) (by simp [go_sem]) ?_
 intro i hi
 by_cases hil:i<37
 .have hii:(i:Int)<37:=by omega
  have dr:=hF i hil
  obtain ⟨r1,r2⟩:=zne (i:=i+1) (by omega)
  have rk:=zcK (i:=i+1) (by omega)
  have tk1:=tk (i+1) (by omega)
  have cv:acI (iat b) (iat x) (i+1)=rowI (iat b) (iat x) (c1R (i+1)):=by unfold acI; rw [if_neg (by omega)]
  rw [cv] at tk1
  have hc1:c1R (i+1)=(ctR (i+1)).filter fun c=>decide (c.2.1.length=1):=rfl
  rw [hc1] at tk1
  generalize ctR (i+1)=R at *
  simp [go_sem,hii,dr]
  refine ⟨nF,?_⟩
  refine zac (10::12::List.range' 23 29) (fun j:Nat=>[(10,.int (raF b x ((R.take j).filter fun c=>decide (c.2.1.length=1)))),(23,.int j)]) (fun j=>j<=R.length) (fun j=>R.length-j) 0 (by simp) (by simp [go_sem,raF]) (by simp [go_sem]) ?_
  intro j hj
  by_cases hjl:j<R.length
  .have hji:(j:Int)<R.length:=by omega
   have cd:=zdV hjl
   have hmm:=memD (0,[],0) hjl
   obtain ⟨q1,q2⟩:=r2 _ hmm
   obtain ⟨k1,k2⟩:=rk _ hmm
   have tj:(R.take (j+1)).filter (fun c=>decide (c.2.1.length=1))=(R.take j).filter (fun c=>decide (c.2.1.length=1))++[R[j]?.getD (0,[],0)].filter (fun c=>decide (c.2.1.length=1)):=by
    rw [<- List.filter_append,List.take_succ_eq_append_getElem hjl,List.getElem?_eq_getElem hjl]; rfl
   have rs:=zhd b x ((R.take j).filter fun c=>decide (c.2.1.length=1)) (R[j]?.getD (0,[],0))
   have bd:=zsy b x ((R.take j).filter fun c=>decide (c.2.1.length=1))
   have bl:((R.take j).filter fun c=>decide (c.2.1.length=1)).length<=100:=by
    have:=List.length_filter_le (fun c:Ctp=>decide (c.2.1.length=1)) (R.take j)
    rw [List.length_take] at this; omega
   have nR:¬ R.flatMap ctF=[]:=by intro e; have:=zbI R; rw [e] at this; simp at this; omega
   have lR:=zbI R
   generalize (R.take j).filter (fun c=>decide (c.2.1.length=1))=X at *
   generalize R[j]?.getD (0,[],0)=c at *
   obtain ⟨n,l,t⟩:=c
   simp only [ctF] at cd q1 q2 k1 k2 rs
   generalize hMC:R.flatMap ctF=MC at *
   by_cases hl1:l.length=1
   .rw [List.filter_cons,if_pos (by simpa using hl1),List.filter_nil] at tj
    rw [<- tj] at rs
    obtain ⟨v,rfl⟩:∃ v,l=[v]:=List.length_eq_one_iff.1 hl1
    have hv:v<38:=k1 v (by simp)
    have bN:isN (iat b v):=hb.Ns.get v
    have xN:isN (iat x t):=hx.Ns.get t
    have dbv:=zae (a:=b) (v:=v) (by omega)
    have dxt:=zae (a:=x) (v:=t) (by omega)
    have f1:=zaw bN xN
    have c1:=zbE (iat b v*iat x t) f1.1 f1.2
    have m1:=zai (iat b v*iat x t)
    have f2:=zaw (show isN (n:Int) from ⟨by omega,by omega⟩) m1
    have c2:=zbE ((n:Int)*(iat b v*iat x t%10007)) f2.1 f2.2
    have m2:=zai ((n:Int)*(iat b v*iat x t%10007))
    have w1:=m2.1; have w2:=m2.2
    have en:nvs [v]=[(v:Int)]:=rfl
    have en2:avs [(v:Int)]=[AV.int v]:=rfl
    rw [en,en2] at cd
    simp only [List.headD_cons] at rs
    generalize raF b x X=s at *
    obtain ⟨f3,f4⟩:=f1
    obtain ⟨f5,f6⟩:=f2
    generalize hp1:iat b v*iat x t%10007=p1 at *
    generalize hp2:(n:Int)*p1%10007=p2 at *
    generalize iat b v=y at *
    generalize iat x t=z at *
    simp [go_sem,hji,cd]
    refine ⟨nR,by kernel_rfl,?_⟩
    simp [go_sem,dbv,dxt]
    refine ⟨⟨by omega,nb⟩,⟨by omega,nx⟩,?_⟩
    refine ⟨⟨f3,f4⟩,?_⟩
    refine CallD.of (c1) ?_
    simp [go_sem]
    refine ⟨⟨f5,f6⟩,?_⟩
    refine CallD.of (c2) ?_
    simp [go_sem]
    refine ⟨⟨by omega,by omega⟩,?_⟩
    refine ⟨by kernel_rfl,?_⟩
    simp [go_sem]
    refine ⟨⟨by omega,by omega⟩,j+1,by omega,by omega,zaa _ _ _ (by simp),?_⟩
    rw [rs]
    exact ⟨rfl,by omega⟩
   .rw [List.filter_cons,if_neg (by simpa using hl1),List.filter_nil,List.append_nil] at tj
    have hli:¬ (l.length:Int)=1:=by omega
    simp [go_sem,hji,cd,hl1,hli]
    refine ⟨nR,⟨by omega,by omega⟩,j+1,by omega,by omega,zaa _ _ _ (by simp),?_⟩
    rw [tj]
    exact ⟨rfl,by omega⟩
  .have e:j=R.length:=by omega
   subst e
   have hji:¬ (R.length:Int)<R.length:=by omega
   have rm:=zow b x (R.filter fun c=>decide (c.2.1.length=1)) (fun c hc=>by simpa using (List.mem_filter.1 hc).2)
   have rf:=zuG b x (R.filter fun c=>decide (c.2.1.length=1))
   have bd:=zsy b x (R.filter fun c=>decide (c.2.1.length=1))
   have bl:(R.filter fun c=>decide (c.2.1.length=1)).length<=100:=by
    have:=List.length_filter_le (fun c:Ctp=>decide (c.2.1.length=1)) R
    omega
   rw [<- rm,<- rf] at tk1
   rw [List.take_length]
   generalize raF b x (R.filter fun c=>decide (c.2.1.length=1))=s at *
   have cN:=zbE s (by omega) (by omega)
   simp [go_sem,hji]
   refine CallVC.of (cN) ?_
   simp [go_sem]
   refine ⟨⟨by omega,by omega,by omega⟩,⟨by omega,by omega⟩,i+1,by omega,by omega,(Off.reset (by intro x hx; simp at hx |-; omega) (by simp) (by simp [go_sem,zaa])),?_⟩
   rw [tk1,zal]
   exact ⟨⟨rfl,rfl⟩,by omega⟩
 .have e:i=37:=by omega
  subst e
  rw [ta]
  simp [go_sem]
theorem zxu (a b:List Int) (k:Int):zfv a b k=adL a b k:=by
 unfold zfv adL tb
 refine List.map_congr_left fun i _=>?_
 show (iat a i+k%10007*iat b i)%10007=(iat a i+k*iat b i%10007)%10007
 refine za5 rfl ?_
 rw [Int.emod_emod_of_dvd _ (Int.dvd_refl _)]
 exact zas (Int.emod_emod_of_dvd _ (Int.dvd_refl _)) rfl
theorem fr8 {k:Nat} (hk:k<=6):pw (fact k) 10005=ifI k:=by
 have h:=fr7 hk
 have f6:0<=fact k/\fact k<10007:=by
  have ok:(List.range 7).all (fun k=>decide (0<=fact k) && decide (fact k<10007))=true:=by decide
  have h:=List.all_eq_true.1 ok k (List.mem_range.2 (by omega))
  simpa using h
 have pN:=pw_N (fact k) 10005
 have:=pN.1; have:=pN.2
 rw [Int.emod_eq_of_lt f6.1 f6.2] at h
 generalize pw (fact k) 10005=v at *
 omega
theorem zro (b:List Int) (hb:N38 b):Con Tryz.prog 90 [.agg [.sl 37 (mat (trN 6)),.sl 37 fcF],.sl b.length (avs b)] (.own 2 38 (avs (expS b))):=by
 have cU:=ziA
 have e0:ex7 b 0=zbq:=rfl
 have e1:xs7 b 0=zbq:=rfl
 have cA:=fun k=>zsM b (xs7 b k) hb (ziT b k)
 have eA:∀ k,mk38 (acI (iat b) (iat (xs7 b k)))=xs7 b (k+1):=fun k=>rfl
 have iN:∀ k,k<=6->isN (ifI k):=fun k hk=>by rw [<- fr8 hk]; exact pw_N _ _
 have cS:=fun k (hk:k+1<=6)=>zst (ex7 b k) (xs7 b (k+1)) (ifI (k+1)) (zfi b k).Ns (ziT b (k+1)).Ns (by have:=iN _ hk; exact ⟨by have:=this.1; omega,by have:=this.2; omega⟩) (by rw [(zfi b k).1]; omega) (by rw [(zfi b k).1,(ziT b (k+1)).1]; omega)
 have eS:∀ k,zfv (ex7 b k) (xs7 b (k+1)) (ifI (k+1))=ex7 b (k+1):=fun k=>by rw [zxu]; rfl
 have lx:=fun k=>(ziT b k).1
 have le:=fun k=>(zfi b k).1
 have lb:=hb.1
 simp only [eA,lx] at cA
 simp only [eS,le,lx] at cS
 rw [<- zoO]
 generalize ex7 b=E at *
 generalize xs7 b=X at *
 generalize fcF=FC at *
 have cU1:=cU
 rw [<- e0] at cU
 rw [<- e1] at cU1
 refine zab Tryz.mixed ⟨8,[],[],[]⟩ Tryz.func90 ?_
 rw [Tryz.ntmps90]
 simp [go_sem]
 refine CallVC.of (cU) ?_
 simp [go_sem]
 refine CallVC.of (cU1) ?_
 simp [go_sem]
 refine zac (5::6::7::List.range' 10 14) (fun k:Nat=>[(5,.own 2 38 (avs (E k))),(6,.own 2 38 (avs (X k))),(7,.int (k+1))]) (fun k=>k<=6) (fun k=>6-k) 0 (by simp) (by simp [go_sem]) (by simp [go_sem]) ?_
 intro k hk
 by_cases hk6:k<6
 .have hki:(k:Int)+1<=6:=by omega
  have c1:=cA k
  have c2:=cS k (by omega)
  have cF:=zjB (k+1) (by omega)
  have f6:0<=fact (k+1)/\fact (k+1)<10007:=by
   have ok:(List.range 7).all (fun k=>decide (0<=fact k) && decide (fact k<10007))=true:=by decide
   have h:=List.all_eq_true.1 ok (k+1) (List.mem_range.2 (by omega))
   simpa using h
  have cR:=ztx (fact (k+1)) ⟨f6.1,by omega⟩
  rw [fr8 (k:=k+1) (by omega)] at cR
  have ek:((k+1:Nat):Int)=(k:Int)+1:=by omega
  rw [ek] at cF
  generalize fact (k+1)=w at *
  generalize ifI (k+1)=q at *
  simp [go_sem,hki]
  refine CallVC.of (c1) ?_
  simp [go_sem]
  refine CallVC.of (cF) ?_
  simp [go_sem]
  refine CallVC.of (cR) ?_
  simp [go_sem]
  refine CallVC.of (c2) ?_
  simp [go_sem]
  exact ⟨⟨by omega,by omega⟩,k+1,by omega,by omega,zaa _ _ _ (by simp),rfl,rfl,by omega⟩
 .have e:k=6:=by omega
  subst e
  simp [go_sem]
theorem zlU (b:List Int) (hb:N38 b) (h0:iat b 0=0):GCon Tryz.prog 89 [.sl b.length (avs b),.val (.slice none 0 0)] (.int 0) [.any,.any]:=by
 have cM:=zds b (by rw [hb.1]; omega)
 rw [hb.mapB] at cM
 have lb:=hb.1
 have nb:=hb.ne
 have b0:=zae (a:=b) (v:=0) (by omega)
 rw [List.drop_zero,h0] at b0
 refine zaf Tryz.mixed ⟨7,[],[],[]⟩ [] Tryz.func89 ?_
 rw [Tryz.ntmps89]
 simp [go_sem]
 refine zac (4::6::List.range' 12 8) (fun k:Nat=>[(12,.int k)]) (fun k=>k<=1) (fun k=>1-k) 0 (by simp) (by simp [go_sem]) (by simp [go_sem]) ?_
 intro k hk
 by_cases hk0:k=0
 .subst hk0
  simp [go_sem]
  refine CallVC.of (cM) ?_
  simp [go_sem]
  exact ⟨1,by omega,by omega,zaa _ _ _ (by simp),rfl⟩
 .have e:k=1:=by omega
  subst e
  simp [go_sem,b0]
  omega
theorem ztU (a:List Int) (n:Nat):dfS (lgS a n) (kpS ((n+1:Nat):Int) (dfS a (expS (lgS a n)) (-1))) 1=lgS a (n+1):=by
 refine N38.ext (zmu _ _ _) (zoz _ _) fun i hi=>?_
 rw [zk6 hi,zsq hi,zk6 hi,lgS,zaN _ hi]
 by_cases h:nd i=n+1
 .rw [if_pos h,if_pos (by omega)]
  generalize iat (expS (lgS a n)) i=e
  generalize iat (lgS a n) i=l
  generalize iat a i=x
  omega
 .rw [if_neg h,if_neg (by omega)]
  generalize iat (lgS a n) i=l
  omega
theorem zmA (n:Nat) (p:Int):Con Tryz.prog 216 [.int n,.fptr [.int p]] (.bool (decide ((n:Int)=p))):=by
 refine zab Tryz.mixed ⟨4,[],[],[]⟩ Tryz.func216 ?_
 rw [Tryz.ntmps216]
 simp [go_sem]
theorem zrh (a:List Int) (ha:N38 a):Con Tryz.prog 138 [.agg [.sl 37 (mat (trN 6)),.sl 37 fcF],.sl a.length (avs a)] (.own 2 38 (avs (logS a))):=by
 have cE:=fun n=>zro (lgS a n) (zoz a n)
 have lN:=fun n=>zoz a n
 have eN:=fun n=>(zbi (lgS a n)).1
 have cP:=fun n=>zfd a (expS (lgS a n)) (-1) ha (eN n) ⟨by decide,by decide⟩
 have cK:=fun n:Nat=>zvW 216 ((n+1:Nat):Int) ((n+1:Nat):Int) (dfS a (expS (lgS a n)) (-1)) (zmu _ _ _) (fun k _=>zmA k _)
 have cQ:=fun n:Nat=>zfd (lgS a n) (kpS ((n+1:Nat):Int) (dfS a (expS (lgS a n)) (-1))) 1 (lN n) (znY _ _) ⟨by decide,by decide⟩
 have l1:=fun n=>(lN n).1
 have l2:=fun n=>(eN n).1
 have l3:=fun n=>(zmu a (expS (lgS a n)) (-1)).1
 have l4:=fun n:Nat=>(znY ((n+1:Nat):Int) (dfS a (expS (lgS a n)) (-1))).1
 have st:=ztU a
 have z0:avs (lgS a 0)=List.replicate 38 (.int 0):=by kernel_rfl
 have eL:lgS a 6=logS a:=rfl
 rw [<- eL]
 simp only [st,l1,l2,l3,l4] at cE cP cK cQ
 generalize lgS a=X at *
 generalize fcF=FC at *
 refine zab Tryz.mixed ⟨8,[],[],[]⟩ Tryz.func138 ?_
 rw [Tryz.ntmps138]
 simp [go_sem]
 refine zac (5::6::7::List.range' 9 16) (fun n:Nat=>[(5,.own 2 38 (avs (X n))),(6,.box 2 [.int (n+1)])]) (fun n=>n<=6) (fun n=>6-n) 0 (by simp) (by simp [go_sem,z0]) (by simp [go_sem]) ?_
 intro n hn
 by_cases hil:n<6
 .have hii:(n:Int)+1<=6:=by omega
  have cE:=cE n
  have cP:=cP n
  have cK:=cK n
  have cQ:=cQ n
  have ec:((n+1:Nat):Int)=(n:Int)+1:=by omega
  rw [ec] at cK cQ
  generalize kpS ((n:Int)+1) (dfS a (expS (X n)) (-1))=K at *
  generalize dfS a (expS (X n)) (-1)=D at *
  generalize expS (X n)=E at *
  simp [go_sem,hii]
  refine ⟨by kernel_rfl,?_⟩
  refine CallD.of (cE) ?_
  simp [go_sem]
  refine CallD.of (cP) ?_
  simp [go_sem]
  refine CallD.of (cK) ?_
  simp [go_sem]
  refine ⟨by kernel_rfl,?_⟩
  simp [go_sem]
  refine CallVC.of (cQ) ?_
  simp [go_sem]
  exact ⟨⟨by omega,by omega⟩,n+1,by omega,by omega,zaa _ _ _ (by simp),rfl,by omega⟩
 .have e:n=6:=by omega
  subst e
  simp [go_sem]
theorem zp8 (a:List Int) (ha:Ch a):Con Tryz.prog 54 [.sl a.length (avs a)] (.tup [.own 2 38 (avs (logS a)),.int 0]):=by
 have c1:=zaz a (by rw [ha.1.1]; omega)
 rw [ha.ck] at c1
 have cF:=za6
 have c2:=zrh a ha.1
 generalize logS a=E at *
 generalize fcF=FC at *
 refine zab Tryz.mixed ⟨5,[],[1000000+71],[]⟩ Tryz.func54 ?_
 rw [Tryz.ntmps54]
 simp [go_sem]
 refine CallVC.of (c1) ?_
 simp [go_sem]
 refine ⟨_,_,cF,?_⟩
 simp [go_sem]
 refine CallVC.of (c2) ?_
 simp [go_sem]
def suS:List Int:=mk38 fun i=>if i=1 then 1 else 0
theorem zqG:N38 suS:=za8 _
theorem zcb:Con Tryz.prog 55 [] (.own 2 38 (avs suS)):=by
 have e:avs suS=(List.replicate 38 (AV.int 0)).set 1 (.int 1):=by kernel_rfl
 rw [e]
 refine zab Tryz.mixed ⟨2,[],[],[]⟩ Tryz.func55 ?_
 rw [Tryz.ntmps55]
 simp [go_sem]
theorem zmh (a:List Int) (ha:Ch a):Con Tryz.prog 51 [.sl a.length (avs a)] (.tup [.own 2 38 (avs (dfS (logS a) suS (-1))),.int 0]):=by
 have c1:=zaz a (by rw [ha.1.1]; omega)
 rw [ha.ck] at c1
 have cF:=za6
 have c2:=zdP a ha
 have c3:=zcb
 have n1:=(ze7 a).1
 have c4:=zfd (logS a) suS (-1) n1 zqG ⟨by decide,by decide⟩
 rw [n1.1,zqG.1] at c4
 generalize dfS (logS a) suS (-1)=D at *
 generalize logS a=E at *
 generalize suS=U at *
 generalize fcF=FC at *
 refine zab Tryz.mixed ⟨5,[],[1000000+71],[]⟩ Tryz.func51 ?_
 rw [Tryz.ntmps51]
 simp [go_sem]
 refine CallVC.of (c1) ?_
 simp [go_sem]
 refine ⟨_,_,cF,?_⟩
 simp [go_sem]
 refine CallVC.of (c2) ?_
 simp [go_sem]
 refine CallVC.of (c3) ?_
 simp [go_sem]
 refine CallVC.of (c4) ?_
 simp [go_sem]
theorem zlP (a:List Int) (ha:a.length<=9223372036854775807) (hk:¬ ckC a=0):Con Tryz.prog 51 [.sl a.length (avs a)] (.tup [.own 2 0 [],.int (ckC a)]):=by
 have c1:=zaz a ha
 refine Con.n1 _ ?_
 generalize ckC a=k at *
 refine zab Tryz.mixed ⟨5,[],[1000000+71],[]⟩ Tryz.func51 ?_
 rw [Tryz.ntmps51]
 simp [go_sem]
 refine CallVC.of (c1) ?_
 simp [go_sem]
 simp [go_sem,hk]
theorem zhQ (a:List Int) (ha:a.length<=9223372036854775807) (hk:¬ ckC a=0):Con Tryz.prog 19 [.sl a.length (avs a)] (.tup [.own 2 0 [],.int (ckC a)]):=by
 have c1:=zaz a ha
 refine Con.n1 _ ?_
 generalize ckC a=k at *
 refine zab Tryz.mixed ⟨5,[],[1000000+71],[]⟩ Tryz.func19 ?_
 rw [Tryz.ntmps19]
 simp [go_sem]
 refine CallVC.of (c1) ?_
 simp [go_sem]
 simp [go_sem,hk]
theorem zgp (a:List Int) (ha:a.length<=9223372036854775807) (hk:¬ ckC a=0):Con Tryz.prog 52 [.sl a.length (avs a)] (.tup [.own 2 0 [],.int (ckC a)]):=by
 have c1:=zaz a ha
 refine Con.n1 _ ?_
 generalize ckC a=k at *
 refine zab Tryz.mixed ⟨6,[],[1000000+71],[]⟩ Tryz.func52 ?_
 rw [Tryz.ntmps52]
 simp [go_sem]
 refine CallVC.of (c1) ?_
 simp [go_sem]
 simp [go_sem,hk]
theorem zgf (a:List Int) (ha:Ch a) (h1:iat a 1=0):Con Tryz.prog 52 [.sl a.length (avs a)] (.tup [.own 2 0 [],.int 5]):=by
 have c1:=zaz a (by rw [ha.1.1]; omega)
 rw [ha.ck] at c1
 have la:=ha.1.1
 have na:=ha.1.ne
 have d1:=zae (a:=a) (v:=1) (by omega)
 rw [h1,List.drop_one] at d1
 refine Con.n1 _ ?_
 refine zab Tryz.mixed ⟨6,[],[1000000+71],[]⟩ Tryz.func52 ?_
 rw [Tryz.ntmps52]
 simp [go_sem]
 refine CallVC.of (c1) ?_
 simp [go_sem]
 simp [go_sem,d1]
 exact ⟨by omega,na⟩
theorem zgj (a:List Int) (ha:Ch a) (h1:¬ iat a 1=0):Con Tryz.prog 52 [.sl a.length (avs a)] (.tup [.own 2 38 (avs (fitS (pw (iat a 1) 10005) a exaS)),.int 0]):=by
 have c1:=zaz a (by rw [ha.1.1]; omega)
 rw [ha.ck] at c1
 have la:=ha.1.1
 have na:=ha.1.ne
 have d1:=zae (a:=a) (v:=1) (by omega)
 rw [List.drop_one] at d1
 have cF:=za6
 have c2:=zeh
 have c3:=zib a exaS ha.1 zaL.1
 rw [zaL.1.1] at c3
 generalize fitS (pw (iat a 1) 10005) a exaS=X at *
 generalize exaS=E at *
 generalize fcF=FC at *
 generalize iat a 1=x at *
 refine zab Tryz.mixed ⟨6,[],[1000000+71],[]⟩ Tryz.func52 ?_
 rw [Tryz.ntmps52]
 simp [go_sem]
 refine CallVC.of (c1) ?_
 simp [go_sem]
 simp [go_sem,d1,h1]
 refine ⟨⟨by omega,na⟩,?_⟩
 refine ⟨_,_,cF,?_⟩
 simp [go_sem]
 refine ⟨by kernel_rfl,?_⟩
 refine CallD.of (c2) ?_
 simp [go_sem]
 refine CallD.of (c3) ?_
 simp [go_sem]
 refine ⟨by kernel_rfl,?_⟩
 simp [go_sem]
theorem zuz (b:List Int) (hb:N38 b):dfS (dfS b suS (-1)) (mlS suS 1) 1=b:=by
 refine N38.ext (zmu _ _ _) hb fun i hi=>?_
 rw [zk6 hi,zk6 hi,zwC hi]
 generalize iat suS i=u
 generalize iat b i=x
 omega
theorem chk8:(List.range 8).all (fun n=>chkT 200 (upTo (n+1)))=true:=by decide +kernel
theorem len8:(List.range 9).all (fun n=>decide ((trN n).length<=200))=true/\(trN 8).length=200:=⟨by decide +kernel,by decide +kernel⟩
theorem zlT:Con Tryz.prog 80 [.int 8] (.own 25 200 (omat (trN 8))):=by
 have e8:((8:Nat):Int)=8:=rfl
 have ck:=fun n (h:n<8)=>List.all_eq_true.1 chk8 n (List.mem_range.2 h)
 have ln:=fun n (h:n<=8)=>of_decide_eq_true (List.all_eq_true.1 len8.1 n (List.mem_range.2 (by omega)))
 refine zab Tryz.mixed ⟨5,[],[],[]⟩ Tryz.func80 ?_
 rw [Tryz.ntmps80]
 simp [go_sem]
 refine zac ([3,4]++List.range' 6 9) (fun i:Nat=>[(3,.own 25 (trN i).length (omat (trN i))),(4,.int (i+1))]) (fun i=>i<=8) (fun i=>8-i) 0 (by simp) (by simp [go_sem,trN,omat]) (by simp [go_sem]) ?_
 intro i hi
 have l0:=ln i (by omega)
 by_cases hin:i<8
 .have hii:(i:Int)+1<=8:=by omega
  have cT:=ziy (i+1) 200 (by omega) (by omega) (ck i hin)
  have l1:=ln (i+1) (by omega)
  have ts:=zd2 i
  have tl:=congrArg List.length ts
  rw [List.length_append] at tl
  have ot:omat (trN (i+1))=omat (trN i)++omat (genT 200 (upTo (i+1))):=by rw [ts]; simp [omat]
  have ec:((i+1:Nat):Int)=(i:Int)+1:=by omega
  rw [ec] at cT
  generalize genT 200 (upTo (i+1))=G at *
  simp [go_sem,hii]
  refine CallVC.of (cT) ?_
  simp [go_sem]
  exact ⟨⟨by omega,by omega⟩,⟨by omega,by omega⟩,i+1,by omega,by omega,zaa _ _ _ (by simp),by rw [tl,ot]; exact ⟨rfl,rfl⟩,by omega⟩
 .have e:i=8:=by omega
  subst e
  have hii:¬ (8:Int)+1<=8:=by omega
  have l8:=len8.2
  simp [go_sem,hii]
  exact l8
theorem zwz {i:Nat} (h:i<37):((trN 8)[i]?.getD []).length=nd (i+1):=by
 have e:trN 8=trN 6++(genT 200 (upTo 7)++genT 200 (upTo 8)):=by rw [zd2 7,zd2 6,List.append_assoc]
 rw [e,List.getElem?_append_left (by rw [zaJ]; exact h)]
 exact zgP h
theorem zrA (i:Nat) (hi:i<37):GCon Tryz.prog 137 [.int i] (.tup [.sl (nd (i+1)) (avs ((trN 8)[i]?.getD [])),.int 0]) [.any]:=by
 have cI:=ziJ i 0 199
 have e:(decide ((0:Int)<=i) && decide ((i:Int)<=199))=true:=by simp; omega
 rw [e] at cI
 have cT:=zlT
 have l8:=len8.2
 have hl:i<(trN 8).length:=by omega
 have md:=zak hl
 have ne:¬ trN 8=[]:=by intro e; rw [e] at hl; simp at hl
 rw [zwz hi] at md
 generalize nd (i+1)=n at *
 generalize (trN 8)[i]?.getD []=t at *
 generalize trN 8=L at *
 refine zaf Tryz.mixed ⟨4,[7],[],[]⟩ [] Tryz.func137 ?_
 rw [Tryz.ntmps137]
 simp [go_sem]
 refine CallVC.of (cI) ?_
 simp [go_sem]
 refine CallVC.of (cT) ?_
 simp [go_sem]
 simp [go_sem,md]
 exact ⟨by omega,ne⟩
def szS:List Int:=mk38 fun i=>nd i
theorem zwE {i:Nat} (h:i<38):iat szS i=nd i:=by
 have:=zdD h
 unfold szS
 rw [zaN _ h]; omega
theorem zqZ:Con Tryz.prog 53 [] (.own 2 38 (avs szS)):=by
 have cT:=fun i h=>zrA i h
 have tk:=fun i (h:i<38)=>zch (fun i=>(nd i:Int)) h
 have lS:szS.length=38:=(za8 _).1
 have t1:szS.take 1=[0]:=by kernel_rfl
 have ta:szS.take 38=szS:=List.take_of_length_le (by omega)
 have eS:mk38 (fun i=>(nd i:Int))=szS:=rfl
 rw [eS] at tk
 generalize szS=X at *
 generalize trN 8=L at *
 refine zab Tryz.mixed ⟨5,[],[1000000+137],[]⟩ Tryz.func53 ?_
 rw [Tryz.ntmps53]
 simp [go_sem]
 refine zac (0::1::2::3::4::List.range' 6 21) (fun i:Nat=>[(1,.own 2 (i+1) (avs (X.take (i+1)))),(2,.int i)]) (fun i=>i<=37) (fun i=>37-i) 0 (by simp) (by simp [go_sem,t1,avs]) (by simp [go_sem]) ?_
 intro i hi
 by_cases hil:i<37
 .have hii:(i:Int)<37:=by omega
  have cT:=cT i hil
  have tk:=tk (i+1) (by omega)
  have n1:=zik (i:=i+1) (by omega) (by omega)
  have n6:=zdD (i:=i+1) (by omega)
  have ev:((nd (i+1):Nat):Int)%10007=nd (i+1):=by omega
  rw [ev] at tk
  generalize nd (i+1)=n at *
  have nz:¬ (n:Int)=0:=by omega
  have nz2:¬ n=0:=by omega
  simp [go_sem,hii]
  refine ⟨_,_,cT,?_⟩
  simp [go_sem]
  simp [go_sem,nz,nz2]
  refine ⟨⟨by omega,by omega,by omega⟩,⟨by omega,by omega⟩,i+1,by omega,by omega,zaa _ _ _ (by simp),?_,by omega⟩
  rw [tk,zal]
  exact ⟨rfl,rfl⟩
 .have e:i=37:=by omega
  subst e
  rw [ta]
  simp [go_sem]
def fiN (a w:List Int):Nat->List Int
 | 0=>zrS
 | n+1=>mk38 fun i=>if nd i=n+1 then (iat w i-iat (sbS (fiN a w n) a) i)%10007*pw (iat a 1) 10005 else iat (fiN a w n) i
theorem zhp (a w:List Int):∀ n,Inf (fiN a w n)
 | 0=>⟨za8 _,zvo (by omega)⟩
 | n+1=>⟨za8 _,by
  rw [fiN,zaN _ (by decide),if_neg (by show ¬ 0=n+1; omega),(zhp a w n).2]; rfl⟩
theorem zmF (l:List Int) (i:Nat) (h:i<l.length):l.set i (l[i]?.getD 0)=l:=by
 rw [List.getElem?_eq_getElem h]; simp
theorem zqw (a w:List Int) (ha:N38 a) (hw:N38 w):Con Tryz.prog 135 [.sl a.length (avs a),.sl w.length (avs w)] (.own 2 38 (avs (fiN a w 6))):=by
 have cA:=zb4 6 (by omega)
 have l6:=zaJ
 have e6:((6:Nat):Int)=6:=rfl
 rw [e6,l6] at cA
 have cS:=fun n=>zf4 (fiN a w n) a (zhp a w n) ha
 have fN:=fun n=>(zhp a w n).1
 have sN:=fun n=>ziz (fiN a w n) a
 have lf:=fun n=>(fN n).1
 have la:=ha.1
 have lw:=hw.1
 have na:=ha.ne
 have nw:=hw.ne
 have z0:avs (fiN a w 0)=List.replicate 38 (.int 0):=by kernel_rfl
 have at_:∀ n i,i<38->iat (fiN a w (n+1)) i=(if nd i=n+1 then (iat w i-iat (sbS (fiN a w n) a) i)%10007*pw (iat a 1) 10005 else iat (fiN a w n) i)%10007:=fun n i h=>zaN _ h
 have nds:=fun p h=>zgP (p:=p) h
 have cI:=zks (iat a 1) (ha.Ns.get 1)
 have iN:=pw_N (iat a 1) 10005
 have d1:=zae (a:=a) (v:=1) (by omega)
 rw [List.drop_one] at d1
 simp only [lf] at cS
 generalize hSb:(fun n=>sbS (fiN a w n) a)=S at *
 have eS:∀ n,sbS (fiN a w n) a=S n:=fun n=>by rw [<- hSb]
 simp only [eS] at cS at_ sN
 clear hSb eS
 generalize fiN a w=X at *
 generalize pw (iat a 1) 10005=q at *
 generalize iat a 1=a1 at *
 refine zab Tryz.mixed ⟨10,[],[],[]⟩ Tryz.func135 ?_
 rw [Tryz.ntmps135]
 simp [go_sem]
 refine CallVC.of (cA) ?_
 simp [go_sem]
 refine zac (6::7::8::9::List.range' 12 40) (fun n:Nat=>[(6,.own 2 38 (avs (X n))),(7,.int (n+1))]) (fun n=>n<=6) (fun n=>6-n) 0 (by simp) (by simp [go_sem,z0]) (by simp [go_sem]) ?_
 intro n hn
 by_cases hil:n<6
 .have hii:(n:Int)+1<=6:=by omega
  have cS:=cS n
  have sN:=sN n
  have at_:=at_ n
  have xN:=fN n
  have yN:=fN (n+1)
  have o0:ovL (X (n+1)) (X n) 38 1=X n:=by
   refine List.ext_getElem (by rw [zjw,xN.1]) fun k h1 h2=>?_
   have hk:k<38:=by rw [zjw] at h1; exact h1
   have e:=at_ 0 (by omega)
   rw [if_neg (by show ¬ 0=n+1; omega)] at e
   have r:=xN.at 0
   unfold iat at e r
   simp only [ovL,tb,List.getElem_map,List.getElem_range]
   by_cases hk0:k<1
   .rw [if_pos hk0]
    have:k=0:=by omega
    subst this
    rw [e,Int.emod_eq_of_lt r.1 r.2,List.getElem?_eq_getElem h2]; rfl
   .rw [if_neg hk0,List.getElem?_eq_getElem h2]; rfl
  have oe:ovL (X (n+1)) (X n) 38 38=X (n+1):=zmM yN.1
  have os:=fun j (h:j<38)=>zpr (new:=X (n+1)) (old:=X n) (s:=38) (j:=j) h
  have og:=fun j (h:j<38)=>zoG (new:=X (n+1)) (old:=X n) (s:=38) (j:=j) h
  have ol:=fun j=>zjw (X (n+1)) (X n) 38 j
  simp [go_sem,hii]
  refine CallVC.of (cS) ?_
  simp [go_sem]
  refine zac (6::9::List.range' 19 33) (fun i:Nat=>[(6,.own 2 38 (avs (ovL (X (n+1)) (X n) 38 (i+1)))),(9,.int i)]) (fun i=>i<=37) (fun i=>37-i) 0 (by simp) (by simp [go_sem,o0]) (by simp [go_sem]) ?_
  intro i hi
  by_cases hil2:i<37
  .have hi2:(i:Int)<37:=by omega
   have hl:i<(trN 6).length:=by omega
   have om:=zb1 hl
   have tl:=nds i hil2
   rw [tl] at om
   have d2:=zae (a:=w) (v:=i+1) (by omega)
   have lS:=sN.1
   have d3:(avs (S n))[i+1]?=some (.int (iat (S n) (i+1))):=zbd (by omega)
   have n1:isN (iat w (i+1)):=hw.Ns.get _
   have n2:isN (iat (S n) (i+1)):=sN.Ns.get _
   have c1:=ze6 (iat w (i+1)) (iat (S n) (i+1)) (zeV n1 n2)
   have n3:isN ((iat w (i+1)-iat (S n) (i+1))%10007):=zai _
   have c2:=zaZ ((iat w (i+1)-iat (S n) (i+1))%10007) q (zaw n3 iN)
   have a1:=at_ (i+1) (by omega)
   have o1:=os (i+1) (by omega)
   have o2:=og (i+1) (by omega)
   have ev:(X (n+1))[i+1]?.getD 0=iat (X (n+1)) (i+1):=rfl
   have eo:(X n)[i+1]?.getD 0=iat (X n) (i+1):=rfl
   rw [ev] at o1
   rw [eo] at o2
   have rx:=xN.at (i+1)
   have l2:=ol (i+1)
   generalize iat (X (n+1)) (i+1)=v at *
   generalize iat (X n) (i+1)=v0 at *
   generalize (iat w (i+1)-iat (S n) (i+1))%10007=x1 at *
   generalize iat w (i+1)=x at *
   generalize iat (S n) (i+1)=y at *
   have n6:=zdD (i:=i+1) (by omega)
   generalize nd (i+1)=k at *
   generalize (trN 6)[i]?.getD []=t at *
   by_cases hk:k=n+1
   .rw [if_pos hk] at a1
    have hki:(k:Int)=n+1:=by omega
    rw [<- a1] at c2
    simp [go_sem,hi2,om,hki]
    refine ⟨by kernel_rfl,⟨by omega,by omega⟩,⟨by omega,by omega,nw⟩,?_⟩
    simp [go_sem,d2,d3]
    refine ⟨⟨by omega,by omega⟩,⟨by omega,by omega⟩,?_⟩
    refine CallD.of (c1) ?_
    simp [go_sem]
    refine ⟨⟨by omega,na⟩,?_⟩
    simp [go_sem,d1]
    refine CallD.of (cI) ?_
    simp [go_sem]
    refine CallD.of (c2) ?_
    simp [go_sem]
    refine ⟨⟨by omega,by omega⟩,by omega,?_⟩
    refine ⟨by kernel_rfl,?_⟩
    simp [go_sem]
    exact ⟨⟨by omega,by omega⟩,i+1,by omega,by omega,zaa _ _ _ (by simp),by rw [<- o1]; exact zaK _ _ _,by omega⟩
   .rw [if_neg hk,Int.emod_eq_of_lt rx.1 rx.2] at a1
    have hki:¬ (k:Int)=n+1:=by omega
    have same:ovL (X (n+1)) (X n) 38 (i+1+1)=ovL (X (n+1)) (X n) 38 (i+1):=by
     rw [<- o1,a1,<- o2]
     exact zmF _ _ (by rw [l2]; omega)
    simp [go_sem,hi2,om,hki]
    exact ⟨⟨by omega,by omega⟩,i+1,by omega,by omega,zaa _ _ _ (by simp),by rw [same],by omega⟩
  .have e:i=37:=by omega
   subst e
   have hi2:¬ (37:Int)<37:=by omega
   rw [oe]
   simp [go_sem,hi2]
   exact ⟨⟨by omega,by omega⟩,n+1,by omega,by omega,(Off.reset (by intro x hx; simp at hx |-; omega) (by simp) (by simp [go_sem,zaa])),rfl,by omega⟩
 .have e:n=6:=by omega
  subst e
  simp [go_sem]
def sfX7 (a:List Int):List Int:=if ckC a=0 then fiN exaS a 6 else []
theorem zgg (a:List Int) (ha:a.length<=9223372036854775807):Con Tryz.prog 50 [.sl a.length (avs a)] (.tup [.own 2 (sfX7 a).length (avs (sfX7 a)),.int (ckC a)]):=by
 have cK:=zoV a ha
 by_cases hk:ckC a=0
 .have hA:=zse hk
  unfold sfX7
  rw [if_pos hk,hk,(zhp _ _ _).1.1]
  rw [hk] at cK
  have cE:=zgM
  have cF:=zqw exaS a zaL.1 hA.1
  rw [zaL.1.1] at cF
  generalize fiN exaS a 6=X at *
  generalize exaS=E at *
  refine zab Tryz.mixed ⟨5,[],[],[]⟩ Tryz.func50 ?_
  rw [Tryz.ntmps50]
  simp [go_sem]
  refine CallVC.of (cK) ?_
  simp [go_sem]
  refine CallVC.of (cE) ?_
  simp [go_sem]
  refine CallVC.of (cF) ?_
  simp [go_sem]
 .unfold sfX7
  rw [if_neg hk]
  refine Con.n1 _ ?_
  generalize ckC a=k at *
  refine zab Tryz.mixed ⟨5,[],[],[]⟩ Tryz.func50 ?_
  rw [Tryz.ntmps50]
  simp [go_sem]
  refine CallVC.of (cK) ?_
  simp [go_sem]
  simp [go_sem,hk]
def tr6 (i:Nat):List Int:=(trN 6)[i]?.getD []
def pl6 (i k:Nat):Int:=ixT (trN 6) (grF (tr6 i) (tr6 k))+1
def g4 (i k:Nat):Pr4:=(i+1,k+1,(pl6 i k).toNat,(pl6 k i).toNat)
def rowG (i:Nat):List Pr4:=(List.range (i+1)).map (g4 i)
def zrw (n:Nat):List Pr4:=(List.range n).flatMap rowG
def gOk (i k:Nat):Bool:=decide (6<nd (i+1)+nd (k+1)) || (grOk (tr6 i) (tr6 k) && (grOk (tr6 k) (tr6 i) && (decide (0<=pl6 i k) && (decide (pl6 i k<38) && (decide (0<=pl6 k i) && decide (pl6 k i<38))))))
theorem zts:(List.range 37).all (fun i=>(List.range (i+1)).all fun k=>gOk i k)=true:=by decide +kernel
theorem zp0:(zrw 37).filter (fun p=>decide (nd2 p<=6))=gfT:=by decide +kernel
theorem zvc {i k:Nat} (hi:i<37) (hk:k<=i) (h:¬ 6<nd (i+1)+nd (k+1)):grOk (tr6 i) (tr6 k)=true/\grOk (tr6 k) (tr6 i)=true/\(0<=pl6 i k/\pl6 i k<38)/\(0<=pl6 k i/\pl6 k i<38):=by
 have e:=List.all_eq_true.1 (List.all_eq_true.1 zts i (List.mem_range.2 hi)) k (List.mem_range.2 (by omega))
 unfold gOk at e
 simp only [Bool.or_eq_true,Bool.and_eq_true,decide_eq_true_eq] at e
 obtain ⟨e1,e2,e3,e4,e5,e6⟩:=e.resolve_left h
 exact ⟨e1,e2,⟨e3,e4⟩,e5,e6⟩
theorem zrO (f:Pr4->Bool) (m:Nat) (p:Pr4):bpF f m p<=m:=by
 unfold bpF
 split
 .exact Nat.le_refl _
 .split
  .exact Nat.le_refl _
  .omega
theorem zgw (f:Pr4->Bool):∀ (L:List Pr4) (m:Nat),L.foldl (bpF f) m<=m
 | [],m=>Nat.le_refl _
 | p::L,m=>Nat.le_trans (zgw f L (bpF f m p)) (zrO f m p)
theorem zi3 (f:Pr4->Bool):∀ (L:List Pr4) (m:Nat),m<=6->L.foldl (bpF f) m=(L.filter fun p=>decide (nd2 p<=6)).foldl (bpF f) m
 | [],m,_=>rfl
 | p::L,m,h=>by
  rw [List.foldl_cons,zi3 f L _ (Nat.le_trans (zrO f m p) h),List.filter_cons]
  by_cases hp:nd2 p<=6
  .rw [if_pos (by simpa using hp),List.foldl_cons]
  .rw [if_neg (by simpa using hp)]
   congr 1
   unfold bpF
   rw [if_pos (by omega)]
theorem zuu (f:Pr4->Bool):(zrw 37).foldl (bpF f) 6=bpS f gfT:=by
 rw [zi3 f _ 6 (by omega),zp0]; rfl
def bpM (f:Pr4->Bool) (i k:Nat):Nat:=(zrw i++(rowG i).take k).foldl (bpF f) 6
theorem zwh (f:Pr4->Bool) (i k:Nat):bpM f i k<=6:=zgw f _ 6
theorem zq2 (f:Pr4->Bool) {i k:Nat} (h:k<=i):bpM f i (k+1)=bpF f (bpM f i k) (g4 i k):=by
 have t:(rowG i).take (k+1)=(rowG i).take k++[g4 i k]:=by
  rw [List.take_succ_eq_append_getElem (by simp [rowG]; omega)]
  simp [rowG]
 unfold bpM
 rw [t,<- List.append_assoc,List.foldl_append]; rfl
theorem zt8 (f:Pr4->Bool) (i:Nat):bpM f i (i+1)=bpM f (i+1) 0:=by
 unfold bpM
 rw [List.take_of_length_le (by simp [rowG]),List.take_zero,List.append_nil]
 congr 1
 simp [zrw,List.range_succ]
theorem zx4 (f:Pr4->Bool):bpM f 0 0=6:=rfl
theorem zvx (f:Pr4->Bool):bpM f 37 0=bpS f gfT:=by
 unfold bpM
 rw [List.take_zero,List.append_nil]; exact zuu f
theorem zwn {L:List (List Int)} {i k:Nat} (h:k<L.length) (hk:k<=i):((mat L).take (i+1)).drop k=.sl (L[k]?.getD []).length (avs (L[k]?.getD []))::((mat L).take (i+1)).drop (k+1):=by
 have l:(mat L).length=L.length:=by simp [mat]
 rw [List.drop_take,zak h,show i+1-k=(i-k)+1 by omega,List.take_succ_cons,List.drop_take,show i+1-(k+1)=i-k by omega]
 simp [mat,List.map_drop]
def wnB (w:Int->Int->Int) (a:List Int) (p:Pr4):Bool:=decide ((iat a p.2.2.1+iat a p.2.2.2)%10007=w (iat a p.1) (iat a p.2.1))
theorem zeJ (g:FuncId) (w:Int->Int->Int) (a:List Int) (ha:N38 a) (hW:∀ x y,isN x->isN y->Con Tryz.prog g [.int x,.int y] (.int (w x y))) :
  Con Tryz.prog 217 [.agg [.sl 37 (mat (trN 6)),.sl 37 fcF],.sl a.length (avs a),.val (.func (.func g) #[] #[])] (.int (bpS (wnB w a) gfT)):=by
 have la:=ha.1
 have na:=ha.ne
 have l6:=zaJ
 have ok:=fun i k hi hk h=>zvc (i:=i) (k:=k) hi hk h
 have cP:=fun t (h:t.length<=1000)=>zeA (trN 6) 37 fcF t (by rw [zaJ]; omega) (fun r hr=>by have:=(zeK hr).2.1; omega) h
 simp only [l6] at cP
 have st:=fun i k (h:k<=i)=>zq2 (wnB w a) h
 have rw_:=zt8 (wnB w a)
 have b6:=zwh (wnB w a)
 have m0:=zx4 (wnB w a)
 have hB:∀ p,wnB w a p=decide ((iat a p.2.2.1+iat a p.2.2.2)%10007=w (iat a p.1) (iat a p.2.1)):=fun p=>rfl
 rw [<- zvx]
 have e4:∀ i k,g4 i k=(i+1,k+1,(pl6 i k).toNat,(pl6 k i).toNat):=fun i k=>rfl
 have tl:=fun i (h:i<37)=>zgP h
 generalize bpM (wnB w a)=M at *
 generalize fcF=FC at *
 refine zab Tryz.mixed ⟨15,[],[],[]⟩ Tryz.func217 ?_
 rw [Tryz.ntmps217]
 simp [go_sem]
 refine zac (7::8::9::10::11::12::13::14::List.range' 18 65) (fun i:Nat=>[(7,.int (M i 0)),(18,.int i)]) (fun i=>i<=37) (fun i=>37-i) 0 (by simp) (by simp [go_sem,m0]) (by simp [go_sem]) ?_
 intro i hi
 by_cases hil:i<37
 .have hii:(i:Int)<37:=by omega
  have hl:i<(trN 6).length:=by omega
  have md:=zak hl
  have ne:¬ trN 6=[]:=by intro e; rw [e] at hl; simp at hl
  have ti:=tl i hil
  have eU:(trN 6)[i]?.getD []=tr6 i:=rfl
  rw [eU] at md ti
  have nt:¬ (mat (trN 6)).take (i+1)=[]:=by intro e; have:=congrArg List.length e; simp [mat] at this; rw [this] at hl; simp at hl
  simp [go_sem,hii,md]
  refine ⟨ne,⟨by omega,by omega⟩,⟨by omega,by omega⟩,?_⟩
  refine zac (7::10::11::12::13::14::List.range' 29 53) (fun k:Nat=>[(7,.int (M i k)),(29,.int k)]) (fun k=>k<=i+1) (fun k=>i+1-k) 0 (by simp) (by simp [go_sem]) (by simp [go_sem]) ?_
  intro k hk
  by_cases hkl:k<i+1
  .have hki:(k:Int)<(i:Int)+1:=by omega
   have mk:=zwn (L:=trN 6) (i:=i) (k:=k) (by omega) (by omega)
   have eV:(trN 6)[k]?.getD []=tr6 k:=rfl
   have tk:=tl k (by omega)
   rw [eV] at mk tk
   have n1:=zdD (i:=i+1) (by omega)
   have n2:=zdD (i:=k+1) (by omega)
   have np:=zik (i:=i+1) (by omega) (by omega)
   have L1:Con Tryz.prog 155 [.sl (tr6 i).length (avs (tr6 i))] (.int (nd (i+1))):=by rw [<- ti]; exact ze0 _ _ (by omega)
   have L2:Con Tryz.prog 155 [.sl (tr6 k).length (avs (tr6 k))] (.int (nd (k+1))):=by rw [<- tk]; exact ze0 _ _ (by omega)
   have s1:=st i k (by omega)
   have m6:=b6 i k
   unfold bpF at s1
   have d2:nd2 (g4 i k)=nd (i+1)+nd (k+1):=rfl
   rw [d2] at s1
   by_cases hm:M i k<nd (i+1)+nd (k+1)
   .rw [if_pos hm] at s1
    have hmi:(M i k:Int)<(nd (i+1):Int)+nd (k+1):=by omega
    simp [go_sem,hki,mk]
    refine ⟨ne,?_⟩
    refine CallVC.of (L1) ?_
    simp [go_sem]
    refine CallVC.of (L2) ?_
    simp [go_sem]
    refine ⟨⟨by omega,by omega⟩,?_⟩
    simp [go_sem,hmi]
    exact ⟨⟨by omega,by omega⟩,k+1,by omega,by omega,zaa _ _ _ (by simp),by rw [s1],by omega⟩
   .rw [if_neg hm] at s1
    obtain ⟨g1,g2,⟨q1,q2⟩,q3,q4⟩:=ok i k hil (by omega) (by omega)
    simp [go_sem,hki,mk]
    refine ⟨ne,?_⟩
    have hmi:¬ (M i k:Int)<(nd (i+1):Int)+nd (k+1):=by omega
    have G1:=zi9 (tr6 i) (tr6 k) g1
    have G2:=zi9 (tr6 k) (tr6 i) g2
    have gl1:(grF (tr6 i) (tr6 k)).length<=1000:=by
     unfold grOk at g1
     simp only [Bool.and_eq_true,decide_eq_true_eq] at g1
     exact g1.2.2.2.2.2.2
    have gl2:(grF (tr6 k) (tr6 i)).length<=1000:=by
     unfold grOk at g2
     simp only [Bool.and_eq_true,decide_eq_true_eq] at g2
     exact g2.2.2.2.2.2.2
    have P1:Con Tryz.prog 162 [.agg [.sl 37 (mat (trN 6)),.sl 37 FC],.sl (grF (tr6 i) (tr6 k)).length (avs (grF (tr6 i) (tr6 k)))] (.int (pl6 i k)):=cP _ gl1
    have P2:Con Tryz.prog 162 [.agg [.sl 37 (mat (trN 6)),.sl 37 FC],.sl (grF (tr6 k) (tr6 i)).length (avs (grF (tr6 k) (tr6 i)))] (.int (pl6 k i)):=cP _ gl2
    have hBB:=hB (g4 i k)
    rw [e4] at hBB s1
    simp only at hBB
    obtain ⟨x,hx⟩:∃ x:Nat,pl6 i k=x:=⟨(pl6 i k).toNat,by omega⟩
    obtain ⟨y,hy⟩:∃ y:Nat,pl6 k i=y:=⟨(pl6 k i).toNat,by omega⟩
    rw [hx] at P1 q1 q2
    rw [hy] at P2 q3 q4
    rw [hx,hy,Int.toNat_natCast,Int.toNat_natCast] at hBB s1
    clear e4 hx hy
    have dx:=zae (a:=a) (v:=x) (by omega)
    have dy:=zae (a:=a) (v:=y) (by omega)
    have di:=zae (a:=a) (v:=i+1) (by omega)
    have dk:=zae (a:=a) (v:=k+1) (by omega)
    have nx:=ha.Ns.get x
    have ny:=ha.Ns.get y
    have fx:fits (iat a x+iat a y):=zdU nx ny
    have cN:=zbE (iat a x+iat a y) fx.1 fx.2
    have cW:=hW (iat a (i+1)) (iat a (k+1)) (ha.Ns.get _) (ha.Ns.get _)
    generalize wnB w a (i+1,k+1,x,y)=bB at *
    generalize (iat a x+iat a y)%10007=z1 at *
    generalize w (iat a (i+1)) (iat a (k+1))=z2 at *
    generalize iat a x=ax at *
    generalize iat a y=ay at *
    generalize iat a (i+1)=ai at *
    generalize iat a (k+1)=ak at *
    generalize grF (tr6 i) (tr6 k)=T1 at *
    generalize grF (tr6 k) (tr6 i)=T2 at *
    refine CallVC.of (L1) ?_
    simp [go_sem]
    refine CallVC.of (L2) ?_
    simp [go_sem]
    refine ⟨⟨by omega,by omega⟩,?_⟩
    simp [go_sem,hmi]
    refine ⟨by kernel_rfl,?_⟩
    refine CallD.of (G1) ?_
    simp [go_sem]
    refine CallD.of (P1) ?_
    simp [go_sem]
    refine ⟨by kernel_rfl,?_⟩
    simp [go_sem]
    refine ⟨by kernel_rfl,?_⟩
    refine CallD.of (G2) ?_
    simp [go_sem]
    refine CallD.of (P2) ?_
    simp [go_sem]
    refine ⟨by kernel_rfl,?_⟩
    simp [go_sem]
    refine ⟨by kernel_rfl,⟨by omega,na⟩,?_⟩
    simp [go_sem,dx]
    refine ⟨⟨by omega,na⟩,?_⟩
    simp [go_sem,dy]
    refine ⟨⟨fx.1,fx.2⟩,?_⟩
    refine CallD.of (cN) ?_
    simp [go_sem]
    refine ⟨⟨by omega,by omega⟩,⟨by omega,by omega,na⟩,?_⟩
    simp [go_sem,di]
    refine ⟨⟨by omega,by omega⟩,⟨by omega,by omega,na⟩,?_⟩
    simp [go_sem,dk]
    refine CallD.of (cW) ?_
    simp [go_sem]
    refine ⟨by kernel_rfl,?_⟩
    simp [go_sem]
    by_cases hz:z1=z2
    .rw [decide_eq_true hz] at hBB
     rw [hBB,if_pos rfl] at s1
     simp [go_sem,hz]
     exact ⟨⟨by omega,by omega⟩,k+1,by omega,by omega,zaa _ _ _ (by simp),by rw [s1],by omega⟩
    .rw [decide_eq_false hz] at hBB
     rw [hBB,if_neg (by decide)] at s1
     simp [go_sem,hz]
     exact ⟨⟨by omega,by omega⟩,⟨by omega,by omega⟩,k+1,by omega,by omega,zaa _ _ _ (by simp),by rw [s1]; omega,by omega⟩
  .have e:k=i+1:=by omega
   subst e
   have hki:¬ ((i+1:Nat):Int)<(i:Int)+1:=by omega
   rw [rw_]
   simp [go_sem]
   exact ⟨⟨by omega,by omega⟩,i+1,by omega,by omega,(Off.reset (by intro x hx; simp at hx |-; omega) (by simp) (by simp [go_sem,zaa])),rfl,by omega⟩
 .have e:i=37:=by omega
  subst e
  simp [go_sem]
theorem zx7 (a:List Int):bpS (wnB (fun x y=>x*y%10007) a) gfT=bpS (sycB a) gfT:=rfl
theorem zxg (b:List Int):bpS (wnB (fun _ _=>0) b) gfT=bpS (hamB b) gfT:=rfl
theorem zwH (x y:Int) (hx:isN x) (hy:isN y):Con Tryz.prog 218 [.int x,.int y] (.int (x*y%10007)):=by
 have f:=zaw hx hy
 have c:=zbE (x*y) f.1 f.2
 refine zab Tryz.mixed ⟨5,[],[],[]⟩ Tryz.func218 ?_
 rw [Tryz.ntmps218]
 simp [go_sem]
 refine ⟨⟨f.1,f.2⟩,?_⟩
 refine CallVC.of (c) ?_
 simp [go_sem]
theorem zv7 (x y:Int):Con Tryz.prog 219 [.int x,.int y] (.int 0):=by
 refine zab Tryz.mixed ⟨5,[],[],[]⟩ Tryz.func219 ?_
 rw [Tryz.ntmps219]
 simp [go_sem]
theorem zgl (a:List Int) (ha:N38 a):Con Tryz.prog 139 [.agg [.sl 37 (mat (trN 6)),.sl 37 fcF],.sl a.length (avs a)] (.int (bpS (sycB a) gfT)):=by
 have c:=zeJ 218 (fun x y=>x*y%10007) a ha (fun x y hx hy=>zwH x y hx hy)
 rw [zx7] at c
 generalize bpS (sycB a) gfT=n at *
 generalize fcF=FC at *
 refine zab Tryz.mixed ⟨5,[],[],[]⟩ Tryz.func139 ?_
 rw [Tryz.ntmps139]
 simp [go_sem]
 refine CallVC.of (c) ?_
 simp [go_sem]
theorem zfp (b:List Int) (hb:N38 b):Con Tryz.prog 140 [.agg [.sl 37 (mat (trN 6)),.sl 37 fcF],.sl b.length (avs b)] (.int (bpS (hamB b) gfT)):=by
 have c:=zeJ 219 (fun _ _=>0) b hb (fun x y _ _=>zv7 x y)
 rw [zxg] at c
 generalize bpS (hamB b) gfT=n at *
 generalize fcF=FC at *
 refine zab Tryz.mixed ⟨5,[],[],[]⟩ Tryz.func140 ?_
 rw [Tryz.ntmps140]
 simp [go_sem]
 refine CallVC.of (c) ?_
 simp [go_sem]
theorem zgi (a:List Int) (ha:Ch a):Con Tryz.prog 56 [.sl a.length (avs a)] (.tup [.int (bpS (sycB a) gfT),.int 0]):=by
 have c1:=zaz a (by rw [ha.1.1]; omega)
 rw [ha.ck] at c1
 have cF:=za6
 have c2:=zgl a ha.1
 generalize bpS (sycB a) gfT=n at *
 generalize fcF=FC at *
 refine zab Tryz.mixed ⟨5,[],[1000000+71],[]⟩ Tryz.func56 ?_
 rw [Tryz.ntmps56]
 simp [go_sem]
 refine CallVC.of (c1) ?_
 simp [go_sem]
 refine ⟨_,_,cF,?_⟩
 simp [go_sem]
 refine CallVC.of (c2) ?_
 simp [go_sem]
theorem zf9 (b:List Int) (hb:Inf b):Con Tryz.prog 57 [.sl b.length (avs b)] (.tup [.int (bpS (hamB b) gfT),.int 0]):=by
 have c1:=zlU b hb.1 hb.2
 have cF:=za6
 have c2:=zfp b hb.1
 generalize bpS (hamB b) gfT=n at *
 generalize fcF=FC at *
 refine zab Tryz.mixed ⟨5,[],[1000000+71,1000000+89],[]⟩ Tryz.func57 ?_
 rw [Tryz.ntmps57]
 simp [go_sem]
 refine ⟨_,_,c1,?_⟩
 simp [go_sem]
 refine ⟨_,_,cF,?_⟩
 simp [go_sem]
 refine CallVC.of (c2) ?_
 simp [go_sem]
def enF (t:List Int) (x:Int) (e:Nat):Nat:=e+((t.drop e).takeWhile fun y=>decide (x<y)).length
def enT (t:List Int) (k:Nat):Nat:=enF t (iat t k) (k+1)
theorem zp9 {t:List Int} {x:Int} {e:Nat} (h:e<t.length):enF t x e=if x<iat t e then enF t x (e+1) else e:=by
 unfold enF
 have d:t.drop e=iat t e::t.drop (e+1):=by
  rw [List.drop_eq_getElem_cons h]; unfold iat; rw [List.getElem?_eq_getElem h]; rfl
 rw [d,List.takeWhile_cons]
 by_cases hx:x<iat t e
 .rw [if_pos (by simpa using hx),if_pos hx]; simp; omega
 .rw [if_neg (by simpa using hx),if_neg hx]; rfl
theorem ztg {t:List Int} {x:Int} {e:Nat} (h:t.length<=e):enF t x e=e:=by
 unfold enF
 rw [List.drop_eq_nil_of_le h]; rfl
theorem zil (t:List Int) (x:Int) {e:Nat} (h:e<=t.length):e<=enF t x e/\enF t x e<=t.length:=by
 unfold enF
 have:((t.drop e).takeWhile fun y=>decide (x<y)).length<=(t.drop e).length:=List.Sublist.length_le (List.takeWhile_sublist _)
 rw [List.length_drop] at this
 omega
theorem zfg (t:List Int) (k:Nat) (hk:k<t.length) (hl:t.length<=1000):Con Tryz.prog 377 [.sl t.length (avs t),.int k] (.int (enT t k)):=by
 have ng:¬ t=[]:=by rintro rfl; simp at hk
 have dk:=zae hk
 generalize hF:enT t k=F
 unfold enT at hF
 generalize iat t k=x at *
 refine zab Tryz.mixed ⟨6,[],[],[]⟩ Tryz.func377 ?_
 rw [Tryz.ntmps377]
 simp [go_sem]
 refine ⟨⟨by omega,by omega⟩,?_⟩
 refine zac (5::List.range' 8 17) (fun e:Nat=>[(5,.int e)]) (fun e=>k+1<=e/\e<=t.length/\enF t x e=F) (fun e=>t.length-e) (k+1) ⟨Nat.le_refl _,by omega,hF⟩ (by simp [go_sem]) (by simp [go_sem]) ?_
 rintro e ⟨h1,h2,h3⟩
 by_cases he:e<t.length
 .have hei:(e:Int)<t.length:=by omega
  have de:=zae he
  rw [zp9 he] at h3
  generalize iat t e=y at *
  refine ⟨by kernel_rfl,?_⟩
  simp [go_sem,hei,de,dk]
  refine ⟨ng,⟨hk,ng⟩,?_⟩
  refine ⟨by kernel_rfl,?_⟩
  simp [go_sem]
  by_cases hx:x<y
  .rw [if_pos hx] at h3
   simp [go_sem,hx]
   exact ⟨⟨by omega,by omega⟩,e+1,⟨by omega,by omega,h3⟩,by omega,zaa _ _ _ (by simp),by omega⟩
  .rw [if_neg hx] at h3
   subst h3
   simp [go_sem,hx]
 .have hei:¬ (e:Int)<t.length:=by omega
  rw [ztg (by omega)] at h3
  subst h3
  refine ⟨by kernel_rfl,?_⟩
  simp [go_sem,hei]
  refine ⟨by kernel_rfl,?_⟩
  simp [go_sem]
def grL (u v:List Int):List Int:=u.take (enT u 0)++(v.map fun x=>iat u 0+1+x)++u.drop (enT u 0)
theorem zlF (u v:List Int) (hu:0<u.length) (lu:u.length<=100) (lv:v.length<=100) (bu:0<=iat u 0/\iat u 0<=1000) (bv:∀ x∈v,0<=x/\x<=1000) (hL:Lv (grL u v)) (l6:(grL u v).length<=6) :
  Con Tryz.prog 378 [.sl u.length (avs u),.int 0,.sl v.length (avs v)] (.own 2 (canF 6 (grL u v)).length (avs (canF 6 (grL u v)))):=by
 have cE:=zfg u 0 hu (by omega)
 have cC:=zaW 6 (grL u v) (by omega) hL l6
 rw [zaF 6 _ hL l6]
 have eb:=zil u (iat u 0) (e:=1) (by omega)
 have hG:grL u v=u.take (enT u 0)++(v.map fun x=>iat u 0+1+x)++u.drop (enT u 0):=rfl
 have ee:enT u 0=enF u (iat u 0) 1:=rfl
 rw [<- ee] at eb
 have d0:=zae hu
 rw [List.drop_zero,Nat.zero_add,List.drop_one] at d0
 have ng:¬ u=[]:=by rintro rfl; simp at hu
 generalize canF 6 (grL u v)=C at *
 generalize grL u v=G at *
 generalize enT u 0=e at *
 have lt:(u.take e).length=e:=by rw [List.length_take]; omega
 have cO:=zbp (u.take e) (by omega)
 rw [lt] at cO
 generalize iat u 0=x at *
 refine zab Tryz.mixed ⟨10,[],[],[]⟩ Tryz.func378 ?_
 rw [Tryz.ntmps378]
 simp [go_sem]
 refine CallVC.of (cE) ?_
 simp [go_sem]
 refine ⟨eb.2,?_⟩
 rw [show List.take e (avs u)=avs (u.take e) from by simp [avs,List.map_take]]
 refine CallVC.of (cO) ?_
 simp [go_sem]
 refine zac (8::9::List.range' 17 19) (fun i:Nat=>[(8,.own 2 (e+i) (avs (u.take e++(v.map fun y=>x+1+y).take i))),(9,.int i)]) (fun i=>i<=v.length) (fun i=>v.length-i) 0 (by simp) (by simp [go_sem]) (by simp [go_sem]) ?_
 intro i hi
 by_cases hil:i<v.length
 .have hii:(i:Int)<v.length:=by omega
  have di:=zae hil
  have by_:=bv (iat v i) (memD 0 hil)
  have tk:(v.map fun y=>x+1+y).take (i+1)=(v.map fun y=>x+1+y).take i++[x+1+iat v i]:=by
   rw [List.take_add_one]; simp [hil,iat]
  have nv:¬ v=[]:=by rintro rfl; simp at hil
  have lk:((v.map fun y=>x+1+y).take i).length=i:=by simp; omega
  generalize (v.map fun y=>x+1+y).take i=W at *
  generalize iat v i=y at *
  simp [go_sem,hii]
  refine ⟨by kernel_rfl,?_⟩
  simp [go_sem,d0,di]
  refine ⟨⟨hu,ng⟩,⟨by omega,by omega⟩,⟨hil,nv⟩,⟨by omega,by omega⟩,⟨by omega,by omega,by omega⟩,?_⟩
  refine ⟨by kernel_rfl,?_⟩
  simp [go_sem]
  refine ⟨⟨by omega,by omega⟩,i+1,by omega,by omega,zaa _ _ _ (by simp),?_⟩
  rw [tk]
  simp [avs]
  omega
 .have e2:i=v.length:=by omega
  subst e2
  have hii:¬ (v.length:Int)<v.length:=by omega
  have tv:(v.map fun y=>x+1+y).take v.length=v.map fun y=>x+1+y:=List.take_of_length_le (by simp)
  have eG:avs (u.take e++v.map fun y=>x+1+y)++List.take (u.length-e) (List.drop e (avs u))=avs G:=by
   rw [show List.drop e (avs u)=avs (u.drop e) from by simp [avs,List.map_drop],List.take_of_length_le (l:=avs (u.drop e)) (by simp),hG]; simp [avs]
  have lG:e+v.length+(u.length-e)=G.length:=by rw [hG]; simp; omega
  simp [go_sem,hii,tv]
  refine ⟨eb.2,⟨by first | omega | (simp; omega),by omega,by omega⟩,?_⟩
  rw [eG,lG,zcB]
  refine CallVC.of (cC) ?_
  simp [go_sem]
def brT (t:List Int) (k:Nat):List Int:=((t.take (enT t k)).drop k).map fun x=>x-iat t k
def rsT (t:List Int) (k:Nat):List Int:=t.take k++t.drop (enT t k)
def paT (t:List Int) (k:Nat):Nat:=(parK t (iat t k) k).toNat
def tuF:Nat->List Int->Nat->List Int
 | 0,_,_=>[]
 | n+1,t,k=>if k=0 then canF 6 t else canF 6 (grL (brT t k) (tuF n (rsT t k) (paT t k)))
def tuOk:Nat->List Int->Nat->Bool
 | 0,_,_=>false
 | n+1,t,k=>(decide (k<t.length) && (decide (t.length<=6) && t.all fun x=>decide (0<=x) && decide (x<=1000))) &&
  if k=0 then lv0 t else decide (0<=parK t (iat t k) k) && (tuOk n (rsT t k) (paT t k) && (lv0 (grL (brT t k) (tuF n (rsT t k) (paT t k))) && (decide ((grL (brT t k) (tuF n (rsT t k) (paT t k))).length<=6) && (decide (iat (brT t k) 0=0) && (tuF n (rsT t k) (paT t k)).all fun x=>decide (0<=x) && decide (x<=1000)))))
theorem zdE:∀ (n:Nat) (t:List Int) (k:Nat),tuOk n t k=true->Con Tryz.prog 353 [.sl t.length (avs t),.int k] (.own 2 (tuF n t k).length (avs (tuF n t k)))
 | 0,t,k,h=>by simp [tuOk] at h
 | n+1,t,k,h=>by
  unfold tuOk at h
  simp only [Bool.and_eq_true,decide_eq_true_eq,List.all_eq_true] at h
  obtain ⟨⟨hk,l6,bt⟩,h⟩:=h
  unfold tuF
  by_cases k0:k=0
  .subst k0
   rw [if_pos rfl] at h |-
   have hv:=zg0 h
   have cC:=zaW 6 t (by omega) hv l6
   rw [zaF 6 t hv l6]
   refine zab Tryz.mixed ⟨10,[],[],[]⟩ Tryz.func353 ?_
   rw [Tryz.ntmps353]
   simp [go_sem]
   refine CallVC.of (cC) ?_
   simp [go_sem]
  .rw [if_neg k0] at h |-
   simp only [Bool.and_eq_true,decide_eq_true_eq,List.all_eq_true] at h
   obtain ⟨p0,hr,hv,hl,b0,bv⟩:=h
   have cR:=zdE n (rsT t k) (paT t k) hr
   have hv:=zg0 hv
   have pb:=zeb t (iat t k) k
   have hpa:(paT t k:Int)=parK t (iat t k) k:=by unfold paT; omega
   have eb:=zil t (iat t k) (e:=k+1) (by omega)
   have ee:enT t k=enF t (iat t k) (k+1):=rfl
   rw [<- ee] at eb
   have lb:(brT t k).length=enT t k-k:=by unfold brT; simp; omega
   have cG:=zlF (brT t k) (tuF n (rsT t k) (paT t k)) (by omega) (by omega) (by
    have e:(grL (brT t k) (tuF n (rsT t k) (paT t k))).length=(brT t k).length+(tuF n (rsT t k) (paT t k)).length:=by
     have:=zil (brT t k) (iat (brT t k) 0) (e:=1) (by omega)
     have ee:enT (brT t k) 0=enF (brT t k) (iat (brT t k) 0) 1:=rfl
     rw [<- ee] at this
     unfold grL; simp; omega
    omega) (by rw [b0]; decide) bv hv hl
   have hBr:brT t k=((t.take (enT t k)).drop k).map fun x=>x-iat t k:=rfl
   have hRs:rsT t k=t.take k++t.drop (enT t k):=rfl
   have cE:=zfg t k hk (by omega)
   have cO:=zbp (t.take k) (by simp; omega)
   have lk:(t.take k).length=k:=by rw [List.length_take]; omega
   rw [lk] at cO
   rw [<- hpa] at pb
   have dk:=zae hk
   have bk:0<=iat t k/\iat t k<=1000:=bt _ (memD 0 hk)
   have ng:¬ t=[]:=by rintro rfl; simp at hk
   generalize canF 6 (grL (brT t k) (tuF n (rsT t k) (paT t k)))=C at *
   generalize tuF n (rsT t k) (paT t k)=V at *
   generalize brT t k=B at *
   generalize rsT t k=R at *
   generalize hP:paT t k=q at *
   generalize enT t k=e at *
   have hF:=hpa.symm
   generalize iat t k=x at *
   have k1:¬ (k:Int)=0:=by omega
   refine zab Tryz.mixed ⟨10,[],[],[]⟩ Tryz.func353 ?_
   rw [Tryz.ntmps353]
   simp [go_sem]
   simp [go_sem,k0]
   refine ⟨⟨by omega,by omega⟩,?_⟩
   refine zac (5::List.range' 16 12) (fun j:Nat=>[(5,.int ((j:Int)-1))]) (fun j=>j<=k/\parK t x j=q) (fun j=>j) k ⟨Nat.le_refl _,hF⟩ (by simp [go_sem]) (by simp [go_sem]) ?_
   rintro j ⟨h1,h2⟩
   cases j with
   | zero =>
    have e:parK t x 0 = -1:=rfl
    rw [e] at h2
    omega
   | succ j =>
    have dj:=zae (a:=t) (v:=j) (by omega)
    have bj:0<=iat t j/\iat t j<=1000:=bt _ (memD 0 (show j<t.length by omega))
    have e1:((j+1:Nat):Int)-1=j:=by omega
    rw [e1]
    rw [show parK t x (j+1)=if iat t j=x-1 then (j:Int) else parK t x j from rfl] at h2
    generalize iat t j=y at *
    by_cases hy:y=x-1
    .rw [if_pos hy] at h2
     have hjq:j=q:=by omega
     subst hjq
     refine ⟨by kernel_rfl,?_⟩
     simp [go_sem,dk,dj,hy]
     refine ⟨⟨by omega,ng⟩,⟨hk,ng⟩,⟨by omega,by omega⟩,?_⟩
     refine ⟨by kernel_rfl,?_⟩
     simp [go_sem]
     refine CallVC.of (cE) ?_
     simp [go_sem]
     refine zac (7::8::List.range' 33 17) (fun i:Nat=>[(7,.own 2 i (avs (B.take i))),(8,.int ((k+i:Nat):Int))]) (fun i=>k+i<=e) (fun i=>e-i) 0 (by omega) (by simp [go_sem]) (by simp [go_sem]) ?_
     intro i hi
     by_cases hie:k+i<e
     .have hii:((k+i:Nat):Int)<e:=by omega
      have hkl:k+i<t.length:=by omega
      have di:=zae hkl
      have bi:0<=iat t (k+i)/\iat t (k+i)<=1000:=bt _ (memD 0 hkl)
      have tk:B.take (i+1)=B.take i++[iat t (k+i)-x]:=by
       rw [List.take_add_one,hBr]
       have h2:i<((t.take e).drop k).length:=by simp; omega
       rw [List.getElem?_map,List.getElem?_drop,List.getElem?_take_of_lt hie]
       unfold iat
       rw [List.getElem?_eq_getElem hkl]; rfl
      have lB:(B.take i).length=i:=by rw [List.length_take]; omega
      generalize B.take i=B1 at *
      generalize iat t (k+i)=z at *
      generalize hm:k+i=m at *
      simp [go_sem,hii]
      refine ⟨by kernel_rfl,?_⟩
      simp [go_sem,di,dk]
      refine ⟨⟨hkl,ng⟩,⟨hk,ng⟩,⟨by omega,by omega⟩,⟨lB,by omega,by omega⟩,?_⟩
      refine ⟨by kernel_rfl,?_⟩
      simp [go_sem]
      refine ⟨⟨by omega,by omega⟩,i+1,by omega,by omega,zaa _ _ _ (by simp),?_⟩
      rw [tk,zal]
      exact ⟨⟨rfl,rfl⟩,by omega⟩
     .have e2:i=B.length:=by omega
      subst e2
      have hii:¬ (k:Int)+(B.length:Int)<e:=by omega
      rw [List.take_length]
      simp [go_sem,hii]
      refine ⟨by kernel_rfl,by omega,?_⟩
      rw [show List.take k (avs t)=avs (t.take k) from by simp [avs,List.map_take]]
      refine CallD.of (cO) ?_
      simp [go_sem]
      refine ⟨eb.2,⟨by omega,by omega,by omega⟩,?_⟩
      refine ⟨by kernel_rfl,?_⟩
      simp [go_sem]
      have eR:avs (t.take k)++List.take (t.length-e) (List.drop e (avs t))=avs R:=by
       rw [show List.drop e (avs t)=avs (t.drop e) from by simp [avs,List.map_drop],List.take_of_length_le (l:=avs (t.drop e)) (by simp),hRs]; simp [avs]
      have lR:k+(t.length-e)=R.length:=by rw [hRs]; simp; omega
      rw [eR,lR]
      simp [go_sem]
      refine CallVC.of (cR) ?_
      simp [go_sem]
      refine CallVC.of (cG) ?_
      simp [go_sem]
    .rw [if_neg hy] at h2
     refine ⟨by kernel_rfl,?_⟩
     simp [go_sem,dk,dj,hy]
     refine ⟨⟨by omega,ng⟩,⟨hk,ng⟩,⟨by omega,by omega⟩,?_⟩
     refine ⟨by kernel_rfl,?_⟩
     simp [go_sem]
     exact ⟨⟨by omega,by omega⟩,j,⟨by omega,h2⟩,by omega,zaa _ _ _ (by simp),by omega⟩
theorem zqT (t:List Int) (k:Nat) (hk:k<t.length) (l6:t.length<=6) (bt:∀ x∈t,0<=x/\x<=1000) (hv:Lv (rsT t k)) (hw:Lv (brT t k)) :
  Con Tryz.prog 387 [.sl t.length (avs t),.int k] (.tup [.own 2 (canF 6 (rsT t k)).length (avs (canF 6 (rsT t k))),.own 2 (canF 6 (brT t k)).length (avs (canF 6 (brT t k)))]):=by
 have eb:=zil t (iat t k) (e:=k+1) (by omega)
 have ee:enT t k=enF t (iat t k) (k+1):=rfl
 rw [<- ee] at eb
 have lb:(brT t k).length=enT t k-k:=by unfold brT; simp; omega
 have hBr:brT t k=((t.take (enT t k)).drop k).map fun x=>x-iat t k:=rfl
 have hRs:rsT t k=t.take k++t.drop (enT t k):=rfl
 have lr:(rsT t k).length<=6:=by rw [hRs]; simp; omega
 have cE:=zfg t k hk (by omega)
 have cO:=zbp (t.take k) (by simp; omega)
 have lk:(t.take k).length=k:=by rw [List.length_take]; omega
 rw [lk] at cO
 have c1:=zaW 6 (rsT t k) (by omega) hv lr
 have c2:=zaW 6 (brT t k) (by omega) hw (by omega)
 rw [zaF 6 _ hv lr,zaF 6 _ hw (by omega)]
 have dk:=zae hk
 have bk:0<=iat t k/\iat t k<=1000:=bt _ (memD 0 hk)
 have ng:¬ t=[]:=by rintro rfl; simp at hk
 generalize canF 6 (rsT t k)=C at *
 generalize canF 6 (brT t k)=D at *
 generalize brT t k=B at *
 generalize rsT t k=R at *
 generalize enT t k=e at *
 generalize iat t k=x at *
 refine zab Tryz.mixed ⟨9,[],[],[]⟩ Tryz.func387 ?_
 rw [Tryz.ntmps387]
 simp [go_sem]
 refine CallVC.of (cE) ?_
 simp [go_sem]
 refine zac (7::8::List.range' 14 17) (fun i:Nat=>[(7,.own 2 i (avs (B.take i))),(8,.int ((k+i:Nat):Int))]) (fun i=>k+i<=e) (fun i=>e-i) 0 (by omega) (by simp [go_sem]) (by simp [go_sem]) ?_
 intro i hi
 by_cases hie:k+i<e
 .have hii:((k+i:Nat):Int)<e:=by omega
  have hkl:k+i<t.length:=by omega
  have di:=zae hkl
  have bi:0<=iat t (k+i)/\iat t (k+i)<=1000:=bt _ (memD 0 hkl)
  have tk:B.take (i+1)=B.take i++[iat t (k+i)-x]:=by
   rw [List.take_add_one,hBr]
   have h2:i<((t.take e).drop k).length:=by simp; omega
   rw [List.getElem?_map,List.getElem?_drop,List.getElem?_take_of_lt hie]
   unfold iat
   rw [List.getElem?_eq_getElem hkl]; rfl
  have lB:(B.take i).length=i:=by rw [List.length_take]; omega
  generalize B.take i=B1 at *
  generalize iat t (k+i)=z at *
  generalize hm:k+i=m at *
  simp [go_sem,hii]
  refine ⟨by kernel_rfl,?_⟩
  simp [go_sem,di,dk]
  refine ⟨⟨hkl,ng⟩,⟨hk,ng⟩,⟨by omega,by omega⟩,⟨lB,by omega,by omega⟩,?_⟩
  refine ⟨by kernel_rfl,?_⟩
  simp [go_sem]
  refine ⟨⟨by omega,by omega⟩,i+1,by omega,by omega,zaa _ _ _ (by simp),?_⟩
  rw [tk,zal]
  exact ⟨⟨rfl,rfl⟩,by omega⟩
 .have e2:i=B.length:=by omega
  subst e2
  have hii:¬ (k:Int)+(B.length:Int)<e:=by omega
  have eR:avs (t.take k)++List.take (t.length-e) (List.drop e (avs t))=avs R:=by
   rw [show List.drop e (avs t)=avs (t.drop e) from by simp [avs,List.map_drop],List.take_of_length_le (l:=avs (t.drop e)) (by simp),hRs]; simp [avs]
  have lR:k+(t.length-e)=R.length:=by rw [hRs]; simp; omega
  rw [List.take_length]
  simp [go_sem,hii]
  refine ⟨by kernel_rfl,by omega,?_⟩
  rw [show List.take k (avs t)=avs (t.take k) from by simp [avs,List.map_take]]
  refine CallD.of (cO) ?_
  simp [go_sem]
  refine ⟨eb.2,⟨by omega,by omega,by omega⟩,?_⟩
  rw [eR,lR,zcB]
  refine CallD.of (c1) ?_
  simp [go_sem]
  refine CallD.of (c2) ?_
  simp [go_sem]
  refine ⟨by kernel_rfl,?_⟩
  simp [go_sem]
abbrev Ctd:=List Int × Int
def ctd (s:Ctd):List AV:=[.sl s.1.length (avs s.1),.int s.2]
theorem zd8 (L:List Ctd):(L.flatMap ctd).length=L.length*2:=by
 induction L with
 | nil=>rfl
 | cons s X ih=>rw [List.flatMap_cons,List.length_append,ih,List.length_cons]; simp [ctd]; omega
theorem zlf {L:List Ctd} {i:Nat} (h:i<L.length):(L.flatMap ctd).drop (i*2)=ctd (L[i]?.getD ([],0))++(L.drop (i+1)).flatMap ctd:=by
 have e1:((L.take i).flatMap ctd).length=i*2:=by rw [zd8,List.length_take,Nat.min_eq_left (by omega)]
 have e2:L.drop i=L[i]?.getD ([],0)::L.drop (i+1):=by rw [List.drop_eq_getElem_cons h]; simp [h]
 have e3:L.flatMap ctd=(L.take i).flatMap ctd++(L.drop i).flatMap ctd:=by rw [<- List.flatMap_append,List.take_append_drop]
 rw [e3,List.drop_append_of_le_length (by omega),e2,List.flatMap_cons,List.drop_eq_nil_of_le (by omega),List.nil_append]
theorem zo4 (L:List Ctd):frzL (L.flatMap ctd)=L.flatMap ctd:=by
 induction L with
 | nil=>rfl
 | cons s X ih=>rw [List.flatMap_cons]; simp only [ctd,List.cons_append,List.nil_append,frzL,frz,zcB]; rw [ih]
def atF (L:List Ctd) (t:List Int) (k:Nat):Nat:=k+((L.drop k).takeWhile fun s=>ltT s.1 t).length
theorem zru {L:List Ctd} {t:List Int} {k:Nat} (h:k<L.length):atF L t k=if ltT (L[k]?.getD ([],0)).1 t=true then atF L t (k+1) else k:=by
 unfold atF
 have e2:L.drop k=L[k]?.getD ([],0)::L.drop (k+1):=by rw [List.drop_eq_getElem_cons h]; simp [h]
 rw [e2,List.takeWhile_cons]
 split
 .rw [List.length_cons]; omega
 .rfl
theorem zsP {L:List Ctd} {t:List Int} {k:Nat} (h:L.length<=k):atF L t k=k:=by
 unfold atF
 rw [List.drop_eq_nil_of_le h]; rfl
def pt4 (L:List Ctd) (t:List Int) (a:Nat):Nat->List Ctd
 | 0=>[]
 | i+1=>pt4 L t a i++(if i=a/\¬ (L[i]?.getD ([],0)).1=t then [(t,1)] else [])++[((L[i]?.getD ([],0)).1,if (L[i]?.getD ([],0)).1=t then (L[i]?.getD ([],0)).2+1 else (L[i]?.getD ([],0)).2)]
def put4 (L:List Ctd) (t:List Int):List Ctd:=pt4 L t (atF L t 0) L.length++if atF L t 0=L.length then [(t,1)] else []
theorem zmC (L:List Ctd) (t:List Int) (a:Nat):∀ i,(pt4 L t a i).length<=i*2
 | 0=>by simp [pt4]
 | i+1=>by
  have:=zmC L t a i
  unfold pt4
  split <;> simp <;> omega
theorem zpE (L:List Ctd) (t:List Int) (hl:L.length<=1000) (ht:t.length<=1000) (hL:∀ s∈L,s.1.length<=1000/\0<=s.2/\s.2<=1000) :
  GCon Tryz.prog 352 [.sl L.length (L.flatMap ctd),.sl t.length (avs t),.int 1] (.sl (put4 L t).length ((put4 L t).flatMap ctd)) [.any,.any,.any]:=by
 refine GCon.frzR (r:=.own 258 (put4 L t).length ((put4 L t).flatMap ctd)) ?_ (by simp [frz,zo4])
 have cB:=fun i (h:i<L.length)=>zcz (L[i]?.getD ([],0)).1 t (by have:=(hL _ (memD (([],0):Ctd) h)).1; omega) (by omega)
 have cS:=fun i (h:i<L.length)=>zci (L[i]?.getD ([],0)).1 t (by have:=(hL _ (memD (([],0):Ctd) h)).1; omega)
 have cO:=zbp t (by omega)
 have pl:=zmC L t (atF L t 0)
 have p0:pt4 L t (atF L t 0) 0=[]:=rfl
 have ps:∀ i,pt4 L t (atF L t 0) (i+1)=pt4 L t (atF L t 0) i++(if i=atF L t 0/\¬ (L[i]?.getD ([],0)).1=t then [(t,1)] else [])++[((L[i]?.getD ([],0)).1,if (L[i]?.getD ([],0)).1=t then (L[i]?.getD ([],0)).2+1 else (L[i]?.getD ([],0)).2)]:=fun _=>rfl
 have hR:put4 L t=pt4 L t (atF L t 0) L.length++if atF L t 0=L.length then [(t,1)] else []:=rfl
 generalize put4 L t=R at *
 generalize pt4 L t (atF L t 0)=O at *
 generalize hA:atF L t 0=a at *
 have nL:∀ i,i<L.length->¬ L.flatMap ctd=[]:=fun i h e=>by have:=zd8 L; rw [e] at this; simp at this; omega
 have lL:=zd8 L
 have dr:=fun i (h:i<L.length)=>zlf h
 refine zaf Tryz.mixed ⟨11,[48,86],[],[]⟩ [] Tryz.func352 ?_
 rw [Tryz.ntmps352]
 simp [go_sem]
 refine zac (7::List.range' 11 15) (fun k:Nat=>[(7,.int k)]) (fun k=>k<=L.length/\atF L t k=a) (fun k=>L.length-k) 0 ⟨by omega,hA⟩ (by simp [go_sem]) (by simp [go_sem]) ?_
 rintro k ⟨hk,ha⟩
 by_cases hkl:k<L.length
 .have hki:(k:Int)<L.length:=by omega
  rw [zru hkl] at ha
  have cB:=cB k hkl
  have dk:=dr k hkl
  have nk:=nL k hkl
  generalize hs0:L[k]?.getD ([],0)=s at *
  obtain ⟨sa,sc⟩:=s
  simp only [ctd] at dk cB ha
  generalize hMC0:L.flatMap ctd=MC at *
  simp [go_sem,hki,dk]
  refine ⟨nk,?_⟩
  refine CallVC.of (cB) ?_
  simp [go_sem]
  cases hv:ltT sa t with
  | true =>
   rw [hv,if_pos rfl] at ha
   simp [go_sem]
   exact ⟨⟨by omega,by omega⟩,k+1,⟨by omega,ha⟩,by omega,zaa _ _ _ (by simp),by omega⟩
  | false =>
   rw [hv,if_neg (by decide)] at ha
   clear hs0 dk nk
   simp [go_sem]
   subst ha
   clear hA
   refine zac (8::9::10::List.range' 27 53) (fun i:Nat=>[(8,.own 258 (O i).length ((O i).flatMap ctd)),(9,.int i)]) (fun i=>i<=L.length) (fun i=>L.length-i) 0 (by simp) (by simp [go_sem,p0]) (by simp [go_sem]) ?_
   intro i hi
   have li:=pl i
   by_cases hil:i<L.length
   .have hii:(i:Int)<L.length:=by omega
    have dr:=dr i hil
    have nL:=nL i hil
    have cS:=cS i hil
    have hm:=hL _ (memD (([],0):Ctd) hil)
    have pz:=ps i
    have lC:=zd8 (O i)
    generalize L[i]?.getD ([],0)=s at *
    obtain ⟨sa,sc⟩:=s
    simp only [ctd] at dr cS hm pz
    generalize hO1:O (i+1)=O1 at *
    generalize O i=Oi at *
    generalize hC:Oi.flatMap ctd=C at *
    by_cases hs:sa=t
    .subst hs
     simp only [decide_true] at cS
     rw [if_neg (by simp),if_pos rfl,List.append_nil] at pz
     by_cases hia:(i:Int)=k
     .have e:i=k:=by omega
      subst e
      simp [go_sem,hii,dr]
      refine ⟨nL,?_⟩
      refine CallVC.of (cS) ?_
      simp [go_sem,dr]
      refine ⟨by kernel_rfl,⟨hil,nL⟩,?_⟩
      refine ⟨by kernel_rfl,?_⟩
      simp [go_sem]
      simp [go_sem,dr]
      refine ⟨⟨hil,nL⟩,?_⟩
      refine CallVC.of (cS) ?_
      simp [go_sem]
      refine ⟨⟨by omega,by omega⟩,⟨by omega,by omega,by omega⟩,⟨by omega,by omega⟩,i+1,by omega,by omega,zaa _ _ _ (by simp),?_⟩
      first
       | rw [hO1,pz,List.flatMap_append,hC]
       | rw [pz,List.flatMap_append,hC]
      simp [ctd]
     .simp [go_sem,hii,hia,dr]
      refine ⟨by kernel_rfl,nL,?_⟩
      refine ⟨by kernel_rfl,?_⟩
      simp [go_sem]
      simp [go_sem,dr]
      refine ⟨⟨hil,nL⟩,?_⟩
      refine CallVC.of (cS) ?_
      simp [go_sem]
      refine ⟨⟨by omega,by omega⟩,⟨by omega,by omega,by omega⟩,⟨by omega,by omega⟩,i+1,by omega,by omega,zaa _ _ _ (by simp),?_⟩
      first
       | rw [hO1,pz,List.flatMap_append,hC]
       | rw [pz,List.flatMap_append,hC]
      simp [ctd]
    .rw [decide_eq_false hs] at cS
     rw [if_neg hs] at pz
     by_cases hia:(i:Int)=k
     .have e:i=k:=by omega
      subst e
      simp [go_sem,hii,dr]
      rw [if_pos ⟨rfl,hs⟩] at pz
      refine ⟨nL,?_⟩
      refine CallVC.of (cS) ?_
      simp [go_sem]
      refine CallVC.of (cO) ?_
      simp [go_sem,dr]
      refine ⟨⟨by omega,by omega,by omega⟩,by kernel_rfl,⟨hil,nL⟩,?_⟩
      refine ⟨by kernel_rfl,?_⟩
      simp [go_sem]
      simp [go_sem,dr]
      refine ⟨⟨hil,nL⟩,?_⟩
      refine CallVC.of (cS) ?_
      simp [go_sem]
      refine ⟨⟨by first | omega | (simp; omega),by omega,by omega⟩,⟨by omega,by omega⟩,i+1,by omega,by omega,zaa _ _ _ (by simp),?_⟩
      first
       | rw [hO1,pz,List.flatMap_append,List.flatMap_append,hC]
       | rw [pz,List.flatMap_append,List.flatMap_append,hC]
      simp [ctd]
     .simp [go_sem,hii,hia,dr]
      refine ⟨by kernel_rfl,nL,?_⟩
      refine ⟨by kernel_rfl,?_⟩
      simp [go_sem]
      simp [go_sem,dr]
      refine ⟨⟨hil,nL⟩,?_⟩
      refine CallVC.of (cS) ?_
      simp [go_sem]
      rw [if_neg (by omega),List.append_nil] at pz
      refine ⟨⟨by omega,by omega,by omega⟩,⟨by omega,by omega⟩,i+1,by omega,by omega,zaa _ _ _ (by simp),?_⟩
      first
       | rw [hO1,pz,List.flatMap_append,hC]
       | rw [pz,List.flatMap_append,hC]
      simp [ctd]
   .have e:i=L.length:=by omega
    subst e
    have hii:¬ (L.length:Int)<L.length:=by omega
    have hkk:¬ (k:Int)=L.length:=by omega
    rw [if_neg (by omega),List.append_nil] at hR
    rw [hR]
    simp [go_sem,hii,hkk]
 .have e:k=L.length:=by omega
  subst e
  rw [zsP (Nat.le_refl _)] at ha
  have hki:¬ (L.length:Int)<L.length:=by omega
  simp [go_sem,hki]
  subst ha
  clear hA
  refine zac (8::9::10::List.range' 27 53) (fun i:Nat=>[(8,.own 258 (O i).length ((O i).flatMap ctd)),(9,.int i)]) (fun i=>i<=L.length) (fun i=>L.length-i) 0 (by simp) (by simp [go_sem,p0]) (by simp [go_sem]) ?_
  intro i hi
  have li:=pl i
  by_cases hil:i<L.length
  .have hii:(i:Int)<L.length:=by omega
   have dr:=dr i hil
   have nL:=nL i hil
   have cS:=cS i hil
   have hm:=hL _ (memD (([],0):Ctd) hil)
   have pz:=ps i
   have lC:=zd8 (O i)
   generalize L[i]?.getD ([],0)=s at *
   obtain ⟨sa,sc⟩:=s
   simp only [ctd] at dr cS hm pz
   generalize hMC:L.flatMap ctd=MC at *
   generalize hO1:O (i+1)=O1 at *
   generalize O i=Oi at *
   generalize hC:Oi.flatMap ctd=C at *
   by_cases hs:sa=t
   .subst hs
    simp only [decide_true] at cS
    rw [if_neg (by simp),if_pos rfl,List.append_nil] at pz
    by_cases hia:(i:Int)=L.length
    .exfalso; omega
    .simp [go_sem,hii,hia,dr]
     refine ⟨by kernel_rfl,nL,?_⟩
     refine ⟨by kernel_rfl,?_⟩
     simp [go_sem]
     simp [go_sem,dr]
     refine ⟨⟨hil,nL⟩,?_⟩
     refine CallVC.of (cS) ?_
     simp [go_sem]
     refine ⟨⟨by omega,by omega⟩,⟨by omega,by omega,by omega⟩,⟨by omega,by omega⟩,i+1,by omega,by omega,zaa _ _ _ (by simp),?_⟩
     first
      | rw [hO1,pz,List.flatMap_append,hC]
      | rw [pz,List.flatMap_append,hC]
     simp [ctd]
   .rw [decide_eq_false hs] at cS
    rw [if_neg hs] at pz
    by_cases hia:(i:Int)=L.length
    .exfalso; omega
    .simp [go_sem,hii,hia,dr]
     refine ⟨by kernel_rfl,nL,?_⟩
     refine ⟨by kernel_rfl,?_⟩
     simp [go_sem]
     simp [go_sem,dr]
     refine ⟨⟨hil,nL⟩,?_⟩
     refine CallVC.of (cS) ?_
     simp [go_sem]
     rw [if_neg (by omega),List.append_nil] at pz
     refine ⟨⟨by omega,by omega,by omega⟩,⟨by omega,by omega⟩,i+1,by omega,by omega,zaa _ _ _ (by simp),?_⟩
     first
      | rw [hO1,pz,List.flatMap_append,hC]
      | rw [pz,List.flatMap_append,hC]
     simp [ctd]
  .have e:i=L.length:=by omega
   subst e
   have hii:¬ (L.length:Int)<L.length:=by omega
   have lC:=zd8 (O L.length)
   rw [if_pos rfl] at hR
   rw [hR,List.flatMap_append]
   generalize (O L.length).flatMap ctd=C at *
   simp [go_sem,hii]
   refine CallVC.of (cO) ?_
   simp [go_sem]
   exact ⟨⟨by omega,by omega,by omega⟩,rfl⟩
def rtF (t:List Int):Nat->List Ctd
 | 0=>[]
 | n+1=>put4 (rtF t n) (tuF 6 t n)
def rtOk (t:List Int):Bool:=decide (1<=t.length) && (decide (t.length<=6) && ((List.range t.length).all fun k=>tuOk 6 t k && (decide ((tuF 6 t k).length<=1000) && (decide ((rtF t k).length<=1000) && (rtF t k).all fun s=>decide (s.1.length<=1000) && (decide (0<=s.2) && decide (s.2<=1000))))))
theorem zn0 {t:List Int} (h:rtOk t=true):1<=t.length/\t.length<=6/\∀ k,k<t.length->tuOk 6 t k=true/\(tuF 6 t k).length<=1000/\(rtF t k).length<=1000/\∀ s∈rtF t k,s.1.length<=1000/\0<=s.2/\s.2<=1000:=by
 unfold rtOk at h
 simp only [Bool.and_eq_true,decide_eq_true_eq,List.all_eq_true,List.mem_range] at h
 exact h
theorem zqJ (L:List Ctd) (u:List Int) (hl:L.length<=1000) (hu:u.length<=1000) (hL:∀ s∈L,s.1.length<=1000/\0<=s.2/\s.2<=1000):GCon Tryz.prog 352 [.sl L.length (L.flatMap ctd),.own 2 u.length (avs u),.int 1] (.sl (put4 L u).length ((put4 L u).flatMap ctd)) [.any,.any,.any]:=by
 have h:=zpE L u hl hu hL
 refine GCon.frzA (args:=[.sl L.length (L.flatMap ctd),.own 2 u.length (avs u),.int 1]) (outs:=[.any,.any,.any]) ?_
 simpa [frzL,frz,zcB,zo4] using h
theorem zms (t:List Int) (h:rtOk t=true):GCon Tryz.prog 314 [.sl t.length (avs t)] (.sl (rtF t t.length).length ((rtF t t.length).flatMap ctd)) [.any]:=by
 obtain ⟨t1,t6,hk⟩:=zn0 h
 obtain ⟨m,hm⟩:∃ m,t.length=m+1:=⟨t.length-1,by omega⟩
 have cT:=fun k (h:k<t.length)=>zdE 6 t k (hk k h).1
 have cP:∀ k,k<t.length->GCon Tryz.prog 352 [.sl (rtF t k).length ((rtF t k).flatMap ctd),.own 2 (tuF 6 t k).length (avs (tuF 6 t k)),.int 1] (.sl (rtF t (k+1)).length ((rtF t (k+1)).flatMap ctd)) [.any,.any,.any]:=fun k h=>zqJ (rtF t k) (tuF 6 t k) (hk k h).2.2.1 (hk k h).2.1 (hk k h).2.2.2
 have r0:rtF t 0=[]:=rfl
 generalize rtF t=R at *
 generalize tuF 6 t=U at *
 clear hk h
 refine zaf Tryz.mixed ⟨5,[5],[1000000+352],[]⟩ [] Tryz.func314 ?_
 rw [Tryz.ntmps314]
 simp [go_sem]
 refine zac (3::4::List.range' 6 11) (fun k:Nat=>[(3,.sl (R k).length ((R k).flatMap ctd)),(4,.int k)]) (fun k=>k<=t.length) (fun k=>t.length-k) 0 (by simp) (by simp [go_sem,r0]) (by simp [go_sem]) ?_
 intro k hk
 by_cases hkl:k<t.length
 .have hki:(k:Int)<t.length:=by omega
  have cT:=cT k hkl
  have cP:=cP k hkl
  simp [go_sem,hki]
  refine CallVC.of (cT) ?_
  simp [go_sem]
  refine ⟨_,_,cP,?_⟩
  simp [go_sem]
  exact ⟨⟨by omega,by omega⟩,k+1,by omega,by omega,zaa _ _ _ (by simp),⟨rfl,rfl⟩,by omega⟩
 .have e:k=t.length:=by omega
  subst e
  have hki:¬ (t.length:Int)<t.length:=by omega
  simp [go_sem,hki]
def dbA (t:List Int) (k:Nat):Bool:=decide ((rsT t k).length=(brT t k).length) && decide (tuF 6 (rsT t k) (paT t k)=canF 6 (brT t k))
def dbT (t:List Int):Bool:=(List.range t.length).any fun k=>decide (1<=k) && dbA t k
def dbOk (t:List Int):Bool:=decide (1<=t.length) && (decide (t.length<=6) && ((t.all fun x=>decide (0<=x) && decide (x<=1000)) && (List.range t.length).all fun k=>decide (k=0) || (decide (0<=parK t (iat t k) k) && (lv0 (rsT t k) && (lv0 (brT t k) && (tuOk 6 (rsT t k) (paT t k) && decide ((tuF 6 (rsT t k) (paT t k)).length<=1000)))))))
theorem zjL (t:List Int) (h:dbOk t=true):Con Tryz.prog 376 [.sl t.length (avs t)] (.bool (dbT t)):=by
 unfold dbOk at h
 simp only [Bool.and_eq_true,Bool.or_eq_true,decide_eq_true_eq,List.all_eq_true,List.mem_range] at h
 obtain ⟨t1,t6,bt,hk⟩:=h
 have ng:¬ t=[]:=by rintro rfl; simp at t1
 have yes:∀ k,1<=k->k<t.length->dbA t k=true->dbT t=true:=fun k h1 h2 h3=>by
  unfold dbT
  rw [List.any_eq_true]
  exact ⟨k,List.mem_range.2 h2,by rw [h3,Bool.and_true]; simpa using h1⟩
 have no:(∀ k,1<=k->k<t.length->dbA t k=false)->dbT t=false:=fun h=>by
  unfold dbT
  rw [List.any_eq_false]
  intro k hk
  by_cases h1:1<=k
  .rw [h k h1 (List.mem_range.1 hk)]; simp
  .simp [h1]
 generalize dbT t=D at *
 refine zab Tryz.mixed ⟨9,[],[],[]⟩ Tryz.func376 ?_
 rw [Tryz.ntmps376]
 simp [go_sem]
 refine zac (2::3::4::5::6::7::8::List.range' 9 49) (fun k:Nat=>[(3,.int k)]) (fun k=>(1<=k/\k<=t.length)/\∀ j,1<=j->j<k->dbA t j=false) (fun k=>t.length-k) 1 ⟨by omega,fun j h1 h2=>by omega⟩ (by simp [go_sem]) (by simp [go_sem]) ?_
 rintro k ⟨⟨k1,k2⟩,hn⟩
 by_cases hkl:k<t.length
 .have hki:(k:Int)<t.length:=by omega
  obtain ⟨p0,v1,v2,o1,lu⟩:=(hk k hkl).resolve_left (by omega)
  have v1:=zg0 v1
  have v2:=zg0 v2
  have cC:=zqT t k hkl t6 bt v1 v2
  have cT:=zdE 6 (rsT t k) (paT t k) o1
  have cE:=zfg t k hkl (by omega)
  have cO:=zbp (t.take k) (by simp; omega)
  have lk:(t.take k).length=k:=by rw [List.length_take]; omega
  rw [lk] at cO
  have eb:=zil t (iat t k) (e:=k+1) (by omega)
  have ee:enT t k=enF t (iat t k) (k+1):=rfl
  rw [<- ee] at eb
  have lr:(rsT t k).length<=6:=by unfold rsT; simp; omega
  have lb:(brT t k).length<=6:=by unfold brT; simp; omega
  have cl1:=zaF 6 _ v1 lr
  have cl2:=zaF 6 _ v2 lb
  have cS:=zci (tuF 6 (rsT t k) (paT t k)) (canF 6 (brT t k)) (by omega)
  have hA:dbA t k=(decide ((rsT t k).length=(brT t k).length) && decide (tuF 6 (rsT t k) (paT t k)=canF 6 (brT t k))):=rfl
  have hyes:=yes k k1 hkl
  have hno:dbA t k=false->∀ j,1<=j->j<k+1->dbA t j=false:=fun h j h1 h2=>by
   rcases Nat.lt_or_ge j k with h3 | h3
   .exact hn j h1 h3
   .have:j=k:=by omega
    subst this; exact h
  have hRs:rsT t k=t.take k++t.drop (enT t k):=rfl
  have hpa:(paT t k:Int)=parK t (iat t k) k:=by unfold paT; omega
  have hF:=hpa.symm
  have pb:=zeb t (iat t k) k
  rw [<- hpa] at pb
  have dk:=zae hkl
  have bk:0<=iat t k/\iat t k<=1000:=bt _ (memD 0 hkl)
  rw [cl1,cl2] at cC
  generalize dbA t k=dA at *
  generalize decide (tuF 6 (rsT t k) (paT t k)=canF 6 (brT t k))=bS at *
  generalize canF 6 (rsT t k)=C1 at *
  generalize canF 6 (brT t k)=C2 at *
  generalize tuF 6 (rsT t k) (paT t k)=V at *
  generalize rsT t k=R at *
  generalize brT t k=B at *
  generalize paT t k=q at *
  generalize enT t k=e at *
  generalize iat t k=x at *
  simp [go_sem,hki]
  refine CallVC.of (cC) ?_
  simp [go_sem]
  refine ⟨⟨by omega,by omega⟩,?_⟩
  refine zac (6::List.range' 23 12) (fun j:Nat=>[(6,.int ((j:Int)-1))]) (fun j=>j<=k/\parK t x j=q) (fun j=>j) k ⟨Nat.le_refl _,hF⟩ (by simp [go_sem]) (by simp [go_sem]) ?_
  rintro j ⟨h1,h2⟩
  cases j with
  | zero =>
   have e:parK t x 0 = -1:=rfl
   rw [e] at h2
   omega
  | succ j =>
   have dj:=zae (a:=t) (v:=j) (by omega)
   have bj:0<=iat t j/\iat t j<=1000:=bt _ (memD 0 (show j<t.length by omega))
   have e1:((j+1:Nat):Int)-1=j:=by omega
   rw [e1]
   rw [show parK t x (j+1)=if iat t j=x-1 then (j:Int) else parK t x j from rfl] at h2
   generalize iat t j=y at *
   by_cases hy:y=x-1
   .rw [if_pos hy] at h2
    have hjq:j=q:=by omega
    subst hjq
    refine ⟨by kernel_rfl,?_⟩
    simp [go_sem,dk,dj,hy]
    refine ⟨⟨by omega,ng⟩,⟨hkl,ng⟩,⟨by omega,by omega⟩,?_⟩
    refine ⟨by kernel_rfl,?_⟩
    simp [go_sem]
    refine CallVC.of (cE) ?_
    simp [go_sem]
    refine ⟨by kernel_rfl,by omega,?_⟩
    rw [show List.take k (avs t)=avs (t.take k) from by simp [avs,List.map_take]]
    refine CallD.of (cO) ?_
    simp [go_sem]
    refine ⟨eb.2,⟨by omega,by omega,by omega⟩,?_⟩
    refine ⟨by kernel_rfl,?_⟩
    simp [go_sem]
    have eR:avs (t.take k)++List.take (t.length-e) (List.drop e (avs t))=avs R:=by
     rw [show List.drop e (avs t)=avs (t.drop e) from by simp [avs,List.map_drop],List.take_of_length_le (l:=avs (t.drop e)) (by simp),hRs]; simp [avs]
    have lR:k+(t.length-e)=R.length:=by rw [hRs]; simp; omega
    rw [eR,lR]
    by_cases hl:R.length=B.length
    .rw [decide_eq_true hl,Bool.true_and] at hA
     simp [go_sem,hl]
     rw [hl] at cT
     rw [cl2] at cS
     refine CallVC.of (cT) ?_
     simp [go_sem]
     refine CallVC.of (cS) ?_
     simp [go_sem]
     cases bS with
     | true =>
      rw [hyes hA]
      simp [go_sem]
     | false =>
      have hA:=hno hA
      simp [go_sem]
      exact ⟨⟨by omega,by omega⟩,k+1,⟨⟨by omega,by omega⟩,hA⟩,by omega,(Off.reset (by intro x hx; simp at hx |-; omega) (by simp) (by simp [go_sem,zaa])),by omega⟩
    .rw [decide_eq_false hl,Bool.false_and] at hA
     have hli:¬ (R.length:Int)=B.length:=by omega
     have hA:=hno hA
     simp [go_sem,hli]
     exact ⟨⟨by omega,by omega⟩,k+1,⟨⟨by omega,by omega⟩,hA⟩,by omega,(Off.reset (by intro x hx; simp at hx |-; omega) (by simp) (by simp [go_sem,zaa])),by omega⟩
   .rw [if_neg hy] at h2
    refine ⟨by kernel_rfl,?_⟩
    simp [go_sem,dk,dj,hy]
    refine ⟨⟨by omega,ng⟩,⟨hkl,ng⟩,⟨by omega,by omega⟩,?_⟩
    refine ⟨by kernel_rfl,?_⟩
    simp [go_sem]
    exact ⟨⟨by omega,by omega⟩,j,⟨by omega,h2⟩,by omega,zaa _ _ _ (by simp),by omega⟩
 .have e:k=t.length:=by omega
  subst e
  have hki:¬ (t.length:Int)<t.length:=by omega
  rw [no hn]
  simp [go_sem,hki]
def rt0 (t:List Int):List Int:=((rtF t t.length)[0]?.getD ([],0)).1
def isFr (t:List Int):Bool:=decide (rt0 t=t) && !dbT t
def freT (n:Nat):List (List Int):=(genT 200 (upTo n)).filter isFr
def zhA (t:List Int):Bool:=rtOk t && (dbOk t && (decide (1<=(rtF t t.length).length) && decide ((rt0 t).length<=1000)))
theorem zuf:(List.range 6).all (fun n=>decide ((genT 200 (upTo (n+1))).length<=1000) && (genT 200 (upTo (n+1))).all zhA)=true:=by decide +kernel
theorem zsR:(trN 6).all zhA=true:=by decide +kernel
theorem zkC {t:List Int} (h:zhA t=true):rtOk t=true/\dbOk t=true/\(rt0 t).length<=1000/\∃ (m:Nat) (c:Int) (Y:List AV),(rtF t t.length).length=m+1/\(rtF t t.length).flatMap ctd=.sl (rt0 t).length (avs (rt0 t))::.int c::Y:=by
 unfold zhA at h
 simp only [Bool.and_eq_true,decide_eq_true_eq] at h
 obtain ⟨h1,h2,h3,h4⟩:=h
 refine ⟨h1,h2,h4,(rtF t t.length).length-1,((rtF t t.length)[0]?.getD ([],0)).2,((rtF t t.length).drop 1).flatMap ctd,by omega,?_⟩
 have:=zlf (L:=rtF t t.length) (i:=0) (by omega)
 rw [Nat.zero_mul,List.drop_zero] at this
 rw [this]; rfl
theorem zeu {t:List Int} (h:zhA t=true):∃ (m:Nat) (c:Int) (Y:List AV),GCon Tryz.prog 314 [.sl t.length (avs t)] (.sl (m+1) (.sl (rt0 t).length (avs (rt0 t))::.int c::Y)) [.any]:=by
 obtain ⟨h1,h2,h3,m,c,Y,h4,h5⟩:=zkC h
 have cR:=zms t h1
 rw [h4,h5] at cR
 exact ⟨m,c,Y,cR⟩
theorem zrp {L:List (List Int)} {f:List Int->Bool} {i:Nat} (h:i<L.length):(L.take (i+1)).filter f=(L.take i).filter f++if f (L[i]?.getD [])=true then [L[i]?.getD []] else []:=by
 rw [List.take_succ_eq_append_getElem h,List.filter_append,List.getElem?_eq_getElem h,Option.getD_some]
 congr 1
 simp only [List.filter_cons,List.filter_nil]
theorem zoL (n:Nat) (h1:1<=n) (h6:n<=6):GCon Tryz.prog 351 [.int n] (.own 25 (freT n).length (mat (freT n))) [.any]:=by
 have cT:=zgS n h1 h6
 have ok:=List.all_eq_true.1 zuf (n-1) (List.mem_range.2 (by omega))
 rw [show n-1+1=n by omega,Bool.and_eq_true,decide_eq_true_eq,List.all_eq_true] at ok
 obtain ⟨lL,ok⟩:=ok
 unfold freT
 have tl:=fun i (h:i<(genT 200 (upTo n)).length)=>zrp (f:=isFr) h
 generalize genT 200 (upTo n)=L at *
 refine zaf Tryz.mixed ⟨6,[7],[1000000+314],[]⟩ [] Tryz.func351 ?_
 rw [Tryz.ntmps351]
 simp [go_sem]
 refine CallVC.of (cT) ?_
 simp [go_sem]
 refine zac (4::5::List.range' 9 34) (fun i:Nat=>[(4,.own 25 ((L.take i).filter isFr).length (mat ((L.take i).filter isFr))),(5,.int i)]) (fun i=>i<=L.length) (fun i=>L.length-i) 0 (by simp) (by simp [go_sem,mat]) (by simp [go_sem]) ?_
 intro i hi
 by_cases hil:i<L.length
 .have hii:(i:Int)<L.length:=by omega
  have ne:¬ L=[]:=by rintro rfl; simp at hil
  have md:=zak hil
  have t1:=tl i hil
  have okt:=ok _ (memD [] hil)
  obtain ⟨m,c,Y,cR⟩:=zeu okt
  obtain ⟨o1,o2,o3,_⟩:=zkC okt
  have cS:=zci (rt0 (L[i]?.getD [])) (L[i]?.getD []) (by omega)
  have cD:=zjL _ o2
  have eF:isFr (L[i]?.getD [])=(decide (rt0 (L[i]?.getD [])=L[i]?.getD []) && !dbT (L[i]?.getD [])):=rfl
  generalize isFr (L[i]?.getD [])=F at *
  generalize dbT (L[i]?.getD [])=D at *
  generalize decide (rt0 (L[i]?.getD [])=L[i]?.getD [])=E at *
  generalize rt0 (L[i]?.getD [])=z at *
  generalize L[i]?.getD []=t at *
  cases E with
  | false =>
   rw [Bool.false_and] at eF
   subst eF
   simp [go_sem,hii,md]
   refine ⟨by kernel_rfl,ne,?_⟩
   refine ⟨_,_,cR,?_⟩
   simp [go_sem]
   refine ⟨⟨hil,ne⟩,?_⟩
   simp [go_sem,md]
   refine CallD.of (cS) ?_
   simp [go_sem]
   refine ⟨by kernel_rfl,?_⟩
   simp [go_sem]
   rw [if_neg (by decide),List.append_nil] at t1
   exact ⟨⟨by omega,by omega⟩,i+1,by omega,by omega,zaa _ _ _ (by simp),by rw [t1]; exact ⟨rfl,rfl⟩,by omega⟩
  | true =>
   rw [Bool.true_and] at eF
   cases D with
   | true =>
    have eF:F=false:=eF
    subst eF
    simp [go_sem,hii,md]
    refine ⟨by kernel_rfl,ne,?_⟩
    refine ⟨_,_,cR,?_⟩
    simp [go_sem]
    refine ⟨⟨hil,ne⟩,?_⟩
    simp [go_sem,md]
    refine CallD.of (cS) ?_
    simp [go_sem]
    refine ⟨⟨hil,ne⟩,?_⟩
    simp [go_sem,md]
    refine CallD.of (cD) ?_
    simp [go_sem]
    refine ⟨by kernel_rfl,?_⟩
    simp [go_sem]
    rw [if_neg (by decide),List.append_nil] at t1
    exact ⟨⟨by omega,by omega⟩,i+1,by omega,by omega,zaa _ _ _ (by simp),by rw [t1]; exact ⟨rfl,rfl⟩,by omega⟩
   | false =>
    have eF:F=true:=eF
    subst eF
    simp [go_sem,hii,md]
    refine ⟨by kernel_rfl,ne,?_⟩
    refine ⟨_,_,cR,?_⟩
    simp [go_sem]
    refine ⟨⟨hil,ne⟩,?_⟩
    simp [go_sem,md]
    refine CallD.of (cS) ?_
    simp [go_sem]
    refine ⟨⟨hil,ne⟩,?_⟩
    simp [go_sem,md]
    refine CallD.of (cD) ?_
    simp [go_sem]
    refine ⟨by kernel_rfl,?_⟩
    simp [go_sem]
    refine ⟨⟨hil,ne⟩,?_⟩
    simp [go_sem,md]
    rw [if_pos rfl] at t1
    have lf:=List.length_filter_le isFr (L.take i)
    rw [List.length_take] at lf
    have tl:=congrArg List.length t1
    rw [List.length_append] at tl
    exact ⟨⟨by omega,by omega⟩,⟨by omega,by omega⟩,i+1,by omega,by omega,zaa _ _ _ (by simp),by rw [t1]; exact ⟨by simp,by simp [mat]⟩,by omega⟩
 .have e:i=L.length:=by omega
  subst e
  have hii:¬ (L.length:Int)<L.length:=by omega
  rw [List.take_length]
  simp [go_sem,hii]
end Go.Proofs.YthhdollpkieknaaGreat

