/- Texts of the own layer and contracts, part 7: W58 W12 W13 V2 V1 W1 W3 W14 W15 W6 W7 W9 W10 W19 W37 W38 W59 W62 W60 W63 W64 W86 W42 W61 E56 W80 W84 W85 O W2 L53. -/
import Derived.Test.YthhdollpkieknaaGreatRows
import Derived.WalkKit
import Derived.ProofKit
import Derived.OpenShut
import Derived.Test.YthhdollpkieknaaGreatM6
set_option linter.unusedSectionVars false
set_option linter.unusedVariables false
set_option linter.unusedSimpArgs false
set_option maxHeartbeats 4000000
set_option maxRecDepth 100000
namespace Go.Proofs.YthhdollpkieknaaGreat
open Go.Abs
def s7F:List AV:=.sl 0 []::fcF
theorem zjr {i:Nat} (h0:0<i) (h:i<38):s7F.drop i=.sl (ctR i).length ((ctR i).flatMap ctF)::s7F.drop (i+1):=by
 obtain ⟨j,rfl⟩:∃ j,i=j+1:=⟨i-1,by omega⟩
 unfold s7F
 rw [List.drop_succ_cons,List.drop_succ_cons,zgN (by omega)]
def pr7 (a:List Int) (x:Int) (l:List Nat):Int:=l.foldl (fun o v=>o*iat a v%10007) x
theorem zgK (a:List Int) (x:Int) (l:List Nat) (v:Nat):pr7 a x (l++[v])=pr7 a x l*iat a v%10007:=by simp [pr7]
theorem ztS (a:List Int) {x:Int} (hx:isN x) (l:List Nat):isN (pr7 a x l):=by
 rcases List.eq_nil_or_concat l with rfl | ⟨h,y,rfl⟩
 .exact hx
 .rw [List.concat_eq_append,zgK]; exact zak _
theorem zro (a:List Int) (x:Int) (l:List Nat):pr7 a x l%10007=x*prI (iat a) l%10007:=by
 generalize hn:l.length=n
 induction n generalizing l with
 | zero=>rw [List.length_eq_zero_iff.1 hn]; simp [pr7,prI]
 | succ n ih =>
  rcases List.eq_nil_or_concat l with rfl | ⟨h,y,rfl⟩
  .simp at hn
  .rw [List.concat_eq_append] at hn |-
   rw [zgK,zgr,Int.emod_emod_of_dvd _ (Int.dvd_refl _),<- Int.mul_assoc]
   exact zag (ih h (by simpa using hn)) rfl
def rs7 (a b:List Int) (L:List Ctp):Int:=L.foldl (fun s c=>(s+pr7 a ((c.1:Int)*iat b c.2.2%10007) c.2.1)%10007) 0
theorem zgW (a b:List Int) (L:List Ctp) (c:Ctp):rs7 a b (L++[c])=(rs7 a b L+pr7 a ((c.1:Int)*iat b c.2.2%10007) c.2.1)%10007:=by simp [rs7]
theorem ztz (a b:List Int) (L:List Ctp):isN (rs7 a b L):=by
 rcases List.eq_nil_or_concat L with rfl | ⟨h,y,rfl⟩
 .show isN 0; exact ⟨by decide,by decide⟩
 .rw [List.concat_eq_append,zgW]; exact zak _
theorem zrj (a b:List Int) (L:List Ctp):rs7 a b L%10007=rowI (iat a) (iat b) L%10007:=by
 generalize hn:L.length=n
 induction n generalizing L with
 | zero=>rw [List.length_eq_zero_iff.1 hn]; rfl
 | succ n ih =>
  rcases List.eq_nil_or_concat L with rfl | ⟨h,c,rfl⟩
  .simp at hn
  .rw [List.concat_eq_append] at hn |-
   rw [zgW,zdw,Int.emod_emod_of_dvd _ (Int.dvd_refl _)]
   refine zbt (ih h (by simpa using hn)) ?_
   rw [zro,show (c.1:Int)*(prI (iat a) c.2.1*iat b c.2.2)=(c.1:Int)*iat b c.2.2*prI (iat a) c.2.1 by ac_rfl]
   exact zag (Int.emod_emod_of_dvd _ (Int.dvd_refl _)) rfl
theorem znk (a b:List Int) (m:Nat) (hm:1<=m) (hm2:m<=38) (ha:N38 a) (hb:N38 b) (ha1:iat a 0=1) (FC:List AV) (hF:∀ i,0<i->i<m->FC.drop i=.sl (ctR i).length ((ctR i).flatMap ctF)::FC.drop (i+1)) (nF:¬ FC=[]) :
  Con Tryz.prog 270 [.sl m FC,.sl a.length (avs a),.sl b.length (avs b)] (.own 2 m (avs ((cvS a b).take m))):=by
 have a0:=zae (a:=a) (v:=0) (by rw [ha.1]; omega)
 have b0:=zae (a:=b) (v:=0) (by rw [hb.1]; omega)
 rw [List.drop_zero,List.drop_one,ha1] at a0
 rw [List.drop_zero,List.drop_one] at b0
 have t1:=zbw (cvI (iat a) (iat b)) (i:=0) (by omega)
 rw [List.take_zero,List.nil_append,cvI,if_pos rfl,Int.emod_eq_of_lt (hb.at 0).1 (hb.at 0).2] at t1
 have tk:=fun i (h:i<38)=>zbw (cvI (iat a) (iat b)) h
 have la:=ha.1
 have lb:=hb.1
 have na:=ha.ne
 have nb:=hb.ne
 have bN0:isN (iat b 0):=hb.Ns.get 0
 have c0:=zaO 1 (iat b 0) (zay (show isN 1 from ⟨by decide,by decide⟩) bN0)
 have e0:(1*iat b 0)%10007=iat b 0:=by rw [Int.one_mul,Int.emod_eq_of_lt (hb.at 0).1 (hb.at 0).2]
 rw [e0] at c0
 show Con Tryz.prog _ _ (.own _ m (avs ((mk38 (cvI (iat a) (iat b))).take m)))
 have lo:(mk38 (cvI (iat a) (iat b))).length=38:=(zbc _).1
 generalize hO:mk38 (cvI (iat a) (iat b))=O at *
 refine zab Tryz.mixed ⟨13,[],[],[]⟩ Tryz.func270 ?_
 rw [Tryz.ntmps270]
 simp [go_sem]
 refine ⟨by kernel_rfl,?_⟩
 simp [go_sem,a0,b0]
 refine ⟨⟨by omega,na⟩,by omega,?_⟩
 refine CallD.of (c0) ?_
 simp [go_sem]
 refine ⟨by kernel_rfl,?_⟩
 simp [go_sem]
 have dra:∀ v,v<38->(AV.int 1::avs a.tail).drop v=.int (iat a v)::avs (a.drop (v+1)):=fun v hv=>by rw [<- a0]; exact zae (by omega)
 have drb:∀ v,v<38->(AV.int (iat b 0)::avs b.tail).drop v=.int (iat b v)::avs (b.drop (v+1)):=fun v hv=>by rw [<- b0]; exact zae (by omega)
 refine zac (List.range' 7 6++List.range' 21 71) (fun i:Nat=>[(7,.own 2 i (avs (O.take i))),(8,.int i)]) (fun i=>1<=i/\i<=m) (fun i=>m-i) 1 (by simp; omega) (by simp [go_sem,t1,avs]) (by simp [go_sem]) ?_
 rintro i ⟨hi1,hi⟩
 by_cases hil:i<m
 .have hii:(i:Int)<m:=by omega
  have dr:=hF i hi1 hil
  obtain ⟨r1,r2⟩:=zkc (i:=i) (by omega)
  have rk:=zdd (i:=i) (by omega)
  have tk1:=tk i (by omega)
  have cv:cvI (iat a) (iat b) i=rowI (iat a) (iat b) (ctR i):=by unfold cvI; rw [if_neg (by omega)]
  rw [cv,<- zrj] at tk1
  generalize ctR i=R at *
  simp [go_sem,hii]
  refine zac (9::10::11::12::List.range' 27 61) (fun j:Nat=>[(9,.int (rs7 a b (R.take j))),(10,.int j)]) (fun j=>j<=R.length) (fun j=>R.length-j) 0 (by simp) (by simp [go_sem,rs7]) (by simp [go_sem]) ?_
  intro j hj
  by_cases hjl:j<R.length
  .have hji:(j:Int)<R.length:=by omega
   have cd:=zeB hjl
   have hmm:=memD (0,[],0) hjl
   obtain ⟨q1,q2⟩:=r2 _ hmm
   obtain ⟨k1,k2⟩:=rk _ hmm
   have tj:R.take (j+1)=R.take j++[R[j]?.getD (0,[],0)]:=by
    rw [List.take_succ_eq_append_getElem hjl,List.getElem?_eq_getElem hjl]; rfl
   have rs:=zgW a b (R.take j) (R[j]?.getD (0,[],0))
   rw [<- tj] at rs
   have sN:=ztz a b (R.take j)
   have nR:¬ R.flatMap ctF=[]:=by intro e; have:=zcq R; rw [e] at this; simp at this; omega
   have lR:=zcq R
   generalize R[j]?.getD (0,[],0)=c at *
   obtain ⟨n,l,t⟩:=c
   simp only [ctF] at cd q1 q2 k1 k2 rs
   have bN:isN (iat b t):=hb.Ns.get t
   have c1:=zaO (n:Int) (iat b t) (zay (show isN (n:Int) from ⟨by omega,by omega⟩) bN)
   have xN:=zak ((n:Int)*iat b t)
   have dbt:=drb t k2
   generalize rs7 a b (R.take j)=s at *
   generalize hMC:R.flatMap ctF=MC at *
   have cd1:MC.drop (j*3+1)=AV.sl l.length (avs (nvs l))::AV.int t::(R.drop (j+1)).flatMap ctF:=by
    have:=congrArg (List.drop 1) cd
    rw [List.drop_drop] at this
    exact this
   have cd2:MC.drop (j*3+2)=AV.int t::(R.drop (j+1)).flatMap ctF:=by
    have:=congrArg (List.drop 2) cd
    rw [List.drop_drop] at this
    exact this
   generalize hx:(n:Int)*iat b t%10007=x at *
   generalize iat b t=y at *
   simp [go_sem,dr,hji,cd,cd2,dbt]
   refine ⟨⟨hil,nF⟩,by kernel_rfl,⟨hil,nF⟩,nR,⟨hil,nF⟩,nR,by omega,?_⟩
   refine CallD.of (c1) ?_
   simp [go_sem]
   refine ⟨by kernel_rfl,?_⟩
   simp [go_sem]
   rw [hx] at *
   refine zac (11::12::List.range' 56 29) (fun k:Nat=>[(11,.int (pr7 a x (l.take k))),(12,.int k)]) (fun k=>k<=l.length) (fun k=>l.length-k) 0 (by simp) (by simp [go_sem,pr7]) (by simp [go_sem]) ?_
   intro k hk
   by_cases hkl:k<l.length
   .have hki:(k:Int)<l.length:=by omega
    have hv:=k1 _ (memD 0 hkl)
    have tl:l.take (k+1)=l.take k++[l[k]?.getD 0]:=by
     rw [List.take_succ_eq_append_getElem hkl,List.getElem?_eq_getElem hkl]; rfl
    have ps:=zgK a x (l.take k) (l[k]?.getD 0)
    rw [<- tl] at ps
    have pN:=ztS a xN (l.take k)
    have aN:isN (iat a (l[k]?.getD 0)):=ha.Ns.get _
    have c2:=zaO (pr7 a x (l.take k)) (iat a (l[k]?.getD 0)) (zay pN aN)
    have dl:=zap (show k<(nvs l).length by rw [zea]; exact hkl)
    rw [zqg hkl] at dl
    have nl:¬ nvs l=[]:=by intro e; have:=zea l; rw [e] at this; simp at this; omega
    have dav:=dra _ hv
    generalize l[k]?.getD 0=v at *
    generalize pr7 a x (l.take k)=p at *
    generalize iat a v=w at *
    simp [go_sem,dr,cd1,hki,dl,dav]
    refine ⟨⟨hil,nF⟩,⟨hjl,nR⟩,⟨hil,nF⟩,⟨hjl,nR⟩,nl,by omega,?_⟩
    refine CallVC.of (c2) ?_
    simp [go_sem]
    exact ⟨⟨by omega,by omega⟩,k+1,by omega,by omega,zaa _ _ _ (by simp),by rw [ps],by omega⟩
   .have e:k=l.length:=by omega
    subst e
    have hki:¬ (l.length:Int)<l.length:=by omega
    have pN:=ztS a xN l
    have q1:=pN.1; have q2:=pN.2; have q3:=sN.1; have q4:=sN.2
    have c3:=zcp s (pr7 a x l) ⟨by omega,by omega⟩
    rw [List.take_length]
    generalize pr7 a x l=p at *
    simp [go_sem,dr,cd1,hki]
    refine ⟨⟨hil,nF⟩,⟨hjl,nR⟩,?_⟩
    refine CallVC.of (c3) ?_
    simp [go_sem]
    exact ⟨⟨by omega,by omega⟩,j+1,by omega,by omega,(Off.reset (by intro x hx; simp at hx |-; omega) (by simp) (by simp [go_sem,zaa])),by rw [rs],by omega⟩
  .have e:j=R.length:=by omega
   subst e
   have hji:¬ (R.length:Int)<R.length:=by omega
   have sN:=ztz a b R
   rw [Int.emod_eq_of_lt sN.1 sN.2] at tk1
   rw [List.take_length]
   generalize rs7 a b R=s at *
   simp [go_sem,dr,hji]
   refine ⟨⟨hil,nF⟩,⟨by omega,by omega,by omega⟩,⟨by omega,by omega⟩,i+1,⟨by omega,by omega⟩,by omega,(Off.reset (by intro x hx; simp at hx |-; omega) (by simp) (by simp [go_sem,zaa])),?_⟩
   rw [tk1,zav]
   exact ⟨⟨rfl,rfl⟩,by omega⟩
 .have e:i=m:=by omega
  subst e
  have hii:¬ (i:Int)<i:=by omega
  simp [go_sem,hii]
theorem zqv:¬ s7F=[]:=by unfold s7F; simp
theorem zm5 (a b:List Int) (ha:Ch a) (hb:N38 b):Con Tryz.prog 270 [.sl 38 s7F,.sl a.length (avs a),.sl b.length (avs b)] (.own 2 38 (avs (cvS a b))):=by
 have c:=znk a b 38 (by omega) (by omega) ha.1 hb ha.2 s7F (fun i h0 h=>zjr h0 h) zqv
 rw [show (cvS a b).take 38=cvS a b from (znx a b).take] at c
 exact c
def ra7 (b x:List Int) (L:List Ctp):Int:=L.foldl (fun s c=>(s+(c.1:Int)*(iat b (c.2.1.headD 0)*iat x c.2.2%10007)%10007)%10007) 0
theorem zgw (b x:List Int) (L:List Ctp) (c:Ctp):ra7 b x (L++[c])=(ra7 b x L+(c.1:Int)*(iat b (c.2.1.headD 0)*iat x c.2.2%10007)%10007)%10007:=by simp [ra7]
theorem zug (b x:List Int) (L:List Ctp):isN (ra7 b x L):=by
 rcases List.eq_nil_or_concat L with rfl | ⟨h,y,rfl⟩
 .show isN 0; exact ⟨by decide,by decide⟩
 .rw [List.concat_eq_append,zgw]; exact zak _
theorem zsp (b x:List Int) (L:List Ctp):(∀ c∈L,c.2.1.length=1)->ra7 b x L%10007=rowI (iat b) (iat x) L%10007:=by
 generalize hn:L.length=n
 induction n generalizing L with
 | zero=>intro _; rw [List.length_eq_zero_iff.1 hn]; rfl
 | succ n ih =>
  intro hL
  rcases List.eq_nil_or_concat L with rfl | ⟨h,c,rfl⟩
  .simp at hn
  .rw [List.concat_eq_append] at hn hL |-
   rw [zgw,zdw,Int.emod_emod_of_dvd _ (Int.dvd_refl _)]
   refine zbt (ih h (by simpa using hn) fun d hd=>hL d (by simp [hd])) ?_
   obtain ⟨n,l,t⟩:=c
   have h1:l.length=1:=hL (n,l,t) (by simp)
   obtain ⟨v,rfl⟩:∃ v,l=[v]:=List.length_eq_one_iff.1 h1
   rw [Int.emod_emod_of_dvd _ (Int.dvd_refl _)]
   refine zag rfl ?_
   rw [Int.emod_emod_of_dvd _ (Int.dvd_refl _)]
   simp [prI]
theorem zoM (b x:List Int) (hb:N38 b) (hx:N38 x) :
  Con Tryz.prog 310 [.sl 38 s7F,.sl b.length (avs b),.sl x.length (avs x)] (.own 2 38 (avs (mk38 (acI (iat b) (iat x))))):=by
 have t1:=zbw (acI (iat b) (iat x)) (i:=0) (by omega)
 have e0:acI (iat b) (iat x) 0%10007=0:=by unfold acI; rw [if_pos rfl]; rfl
 rw [List.take_zero,List.nil_append,e0] at t1
 have tk:=fun i (h:i<38)=>zbw (acI (iat b) (iat x)) h
 have ta:=zjv (acI (iat b) (iat x))
 have lo:(mk38 (acI (iat b) (iat x))).length=38:=(zbc _).1
 have lb:=hb.1
 have lx:=hx.1
 have nb:=hb.ne
 have nx:=hx.ne
 have nF:=zqv
 have hF:=fun i h0 h=>zjr (i:=i) h0 h
 generalize hO:mk38 (acI (iat b) (iat x))=O at *
 generalize s7F=FC at *
 refine zab Tryz.mixed ⟨12,[],[],[]⟩ Tryz.func310 ?_
 rw [Tryz.ntmps310]
 simp [go_sem]
 refine zac (List.range' 7 5++List.range' 13 48) (fun i:Nat=>[(7,.own 2 i (avs (O.take i))),(8,.int i)]) (fun i=>1<=i/\i<=38) (fun i=>38-i) 1 (by simp) (by simp [go_sem,t1,avs]) (by simp [go_sem]) ?_
 rintro i ⟨hi1,hi⟩
 by_cases hil:i<38
 .have hii:(i:Int)<38:=by omega
  have dr:=hF i hi1 hil
  obtain ⟨r1,r2⟩:=zkc (i:=i) (by omega)
  have rk:=zdd (i:=i) (by omega)
  have tk1:=tk i (by omega)
  have cv:acI (iat b) (iat x) i=rowI (iat b) (iat x) (c1R i):=by unfold acI; rw [if_neg (by omega)]
  rw [cv] at tk1
  have hc1:c1R i=(ctR i).filter fun c=>decide (c.2.1.length=1):=rfl
  rw [hc1] at tk1
  generalize ctR i=R at *
  simp [go_sem,hii]
  refine zac (9::10::11::List.range' 19 38) (fun j:Nat=>[(9,.int (ra7 b x ((R.take j).filter fun c=>decide (c.2.1.length=1)))),(10,.int j)]) (fun j=>j<=R.length) (fun j=>R.length-j) 0 (by simp) (by simp [go_sem,ra7]) (by simp [go_sem]) ?_
  intro j hj
  by_cases hjl:j<R.length
  .have hji:(j:Int)<R.length:=by omega
   have cd:=zeB hjl
   have hmm:=memD (0,[],0) hjl
   obtain ⟨q1,q2⟩:=r2 _ hmm
   obtain ⟨k1,k2⟩:=rk _ hmm
   have tj:(R.take (j+1)).filter (fun c=>decide (c.2.1.length=1))=(R.take j).filter (fun c=>decide (c.2.1.length=1))++[R[j]?.getD (0,[],0)].filter (fun c=>decide (c.2.1.length=1)):=by
    rw [<- List.filter_append,List.take_succ_eq_append_getElem hjl,List.getElem?_eq_getElem hjl]; rfl
   have rs:=zgw b x ((R.take j).filter fun c=>decide (c.2.1.length=1)) (R[j]?.getD (0,[],0))
   have sN:=zug b x ((R.take j).filter fun c=>decide (c.2.1.length=1))
   have nR:¬ R.flatMap ctF=[]:=by intro e; have:=zcq R; rw [e] at this; simp at this; omega
   have lR:=zcq R
   generalize (R.take j).filter (fun c=>decide (c.2.1.length=1))=X at *
   generalize R[j]?.getD (0,[],0)=c at *
   obtain ⟨n,l,t⟩:=c
   simp only [ctF] at cd q1 q2 k1 k2 rs
   generalize hMC:R.flatMap ctF=MC at *
   by_cases hl1:l.length=1
   .rw [List.filter_cons,if_pos (by simpa using hl1),List.filter_nil] at tj
    rw [<- tj] at rs
    obtain ⟨v,rfl⟩:∃ v,l=[v]:=List.length_eq_one_iff.1 hl1
    have hv:v<38:=k1 v (by simp)
    have bN:isN (iat b v):=hb.Ns.get v
    have xN:isN (iat x t):=hx.Ns.get t
    have dbv:=zae (a:=b) (v:=v) (by omega)
    have dxt:=zae (a:=x) (v:=t) (by omega)
    have c1:=zaO (iat b v) (iat x t) (zay bN xN)
    have m1:=zak (iat b v*iat x t)
    have c2:=zaO (n:Int) (iat b v*iat x t%10007) (zay (show isN (n:Int) from ⟨by omega,by omega⟩) m1)
    have m2:=zak ((n:Int)*(iat b v*iat x t%10007))
    have w1:=m2.1; have w2:=m2.2; have w3:=sN.1; have w4:=sN.2
    have c3:=zcp (ra7 b x X) ((n:Int)*(iat b v*iat x t%10007)%10007) ⟨by omega,by omega⟩
    have en:nvs [v]=[(v:Int)]:=rfl
    have en2:avs [(v:Int)]=[AV.int v]:=rfl
    rw [en,en2] at cd
    simp only [List.headD_cons] at rs
    generalize ra7 b x X=s at *
    generalize hp1:iat b v*iat x t%10007=p1 at *
    generalize hp2:(n:Int)*p1%10007=p2 at *
    generalize iat b v=y at *
    generalize iat x t=z at *
    simp [go_sem,dr,hji,cd]
    refine ⟨⟨hii,nF⟩,nR,by kernel_rfl,?_⟩
    simp [go_sem,dbv,dxt]
    refine ⟨⟨by omega,nb⟩,⟨by omega,nx⟩,?_⟩
    refine CallD.of (c1) ?_
    simp [go_sem]
    refine CallD.of (c2) ?_
    simp [go_sem]
    refine CallD.of (c3) ?_
    simp [go_sem]
    refine ⟨by kernel_rfl,?_⟩
    simp [go_sem]
    refine ⟨⟨by omega,by omega⟩,j+1,by omega,by omega,zaa _ _ _ (by simp),?_⟩
    rw [rs]
    exact ⟨rfl,by omega⟩
   .rw [List.filter_cons,if_neg (by simpa using hl1),List.filter_nil,List.append_nil] at tj
    have hli:¬ (l.length:Int)=1:=by omega
    simp [go_sem,dr,hji,cd,hl1,hli]
    refine ⟨⟨hii,nF⟩,nR,⟨by omega,by omega⟩,j+1,by omega,by omega,zaa _ _ _ (by simp),?_⟩
    rw [tj]
    exact ⟨rfl,by omega⟩
  .have e:j=R.length:=by omega
   subst e
   have hji:¬ (R.length:Int)<R.length:=by omega
   have rm:=zsp b x (R.filter fun c=>decide (c.2.1.length=1)) (fun c hc=>by simpa using (List.mem_filter.1 hc).2)
   have sN:=zug b x (R.filter fun c=>decide (c.2.1.length=1))
   rw [<- rm,Int.emod_eq_of_lt sN.1 sN.2] at tk1
   rw [List.take_length]
   generalize ra7 b x (R.filter fun c=>decide (c.2.1.length=1))=s at *
   simp [go_sem,dr,hji]
   refine ⟨⟨hii,nF⟩,⟨by omega,by omega,by omega⟩,⟨by omega,by omega⟩,i+1,⟨by omega,by omega⟩,by omega,(Off.reset (by intro x hx; simp at hx |-; omega) (by simp) (by simp [go_sem,zaa])),?_⟩
   rw [tk1,zav]
   exact ⟨⟨rfl,rfl⟩,by omega⟩
 .have e:i=38:=by omega
  subst e
  rw [ta]
  simp [go_sem]
def xs7 (b:List Int):Nat->List Int
 | 0=>zaU
 | k+1=>mk38 (acI (iat b) (iat (xs7 b k)))
def ex7 (b:List Int):Nat->List Int
 | 0=>zaU
 | k+1=>adL (ex7 b k) (xs7 b (k+1)) (ifI (k+1))
theorem zuY {a b:List Int} (k:Int) (ha:a.length=38):N38 (adL a b k):=⟨by rw [zgq,ha],fun x hx=>by
 obtain ⟨i,_,rfl⟩:=List.mem_map.1 hx
 have:=zak (iat a i+k*iat b i%10007)
 exact ⟨this.1,by have:=this.2; omega⟩⟩
theorem zp5 (b:List Int):∀ k,N38 (xs7 b k)
 | 0=>zb0.1
 | k+1=>zbc _
theorem zjf (b:List Int):∀ k,N38 (ex7 b k)
 | 0=>zb0.1
 | k+1=>zuY _ (zjf b k).1
theorem ziZ (b:List Int):∀ k i,i<38->iat (xs7 b k) i%10007=xpI (iat b) k i%10007
 | 0,i,hi=>by
  show iat zaU i%10007=unJ i%10007
  rw [zmo hi]; rfl
 | k+1,i,hi=>by
  rw [xs7,zb3 _ hi,xpI]
  exact ztC hi (fun _ _=>rfl) (fun j hj=>ziZ b k j hj)
theorem zts {a b:List Int} (k:Int) {i:Nat} (h:i<a.length):iat (adL a b k) i=(iat a i+k*iat b i%10007)%10007:=by
 show (adL a b k)[i]?.getD 0=_
 simp [adL,h]
theorem zcV (b:List Int) (k:Nat) {i:Nat} (hi:i<38):iat (ex7 b (k+1)) i%10007=(iat (ex7 b k) i+xpI (iat b) (k+1) i*ifI (k+1))%10007:=by
 rw [ex7,zts _ (by rw [(zjf b k).1]; exact hi),Int.emod_emod_of_dvd _ (Int.dvd_refl _)]
 refine zbt rfl ?_
 rw [Int.emod_emod_of_dvd _ (Int.dvd_refl _),Int.mul_comm]
 exact zag (ziZ b (k+1) i hi) rfl
theorem zsJ (b:List Int):ex7 b 6=expS b:=by
 refine (zjf b 6).ext (zeT b).1 fun i hi=>?_
 rw [zpP b hi]
 have s1:=zcV b 0 hi
 have s2:=zcV b 1 hi
 have s3:=zcV b 2 hi
 have s4:=zcV b 3 hi
 have s5:=zcV b 4 hi
 have s6:=zcV b 5 hi
 have s0:iat (ex7 b 0) i%10007=xpI (iat b) 0 i%10007:=ziZ b 0 i hi
 unfold expI
 simp only [Nat.zero_add,Nat.reduceAdd] at s1 s2 s3 s4 s5 s6
 generalize xpI (iat b) 1 i*ifI 1=x1 at *
 generalize xpI (iat b) 2 i*ifI 2=x2 at *
 generalize xpI (iat b) 3 i*ifI 3=x3 at *
 generalize xpI (iat b) 4 i*ifI 4=x4 at *
 generalize xpI (iat b) 5 i*ifI 5=x5 at *
 generalize xpI (iat b) 6 i*ifI 6=x6 at *
 omega
theorem fr7 {k:Nat} (hk:k<=6):1%10007*pw (fact k%10007) 10005%10007=ifI k:=by
 have ok:(List.range 7).all (fun k=>decide (1%10007*((fp 15 (fact k%10007).toNat 10005:Nat):Int)%10007=ifI k) && decide (0<=fact k%10007))=true:=by decide +kernel
 have h:=List.all_eq_true.1 ok k (List.mem_range.2 (by omega))
 simp only [Bool.and_eq_true,decide_eq_true_eq] at h
 have e:=zsL (fact k%10007).toNat
 rw [Int.toNat_of_nonneg h.2] at e
 rw [<- e]
 exact h.1
theorem zgL (b:List Int) (hb:N38 b):Con Tryz.prog 262 [.sl 38 s7F,.sl b.length (avs b)] (.own 2 38 (avs (expS b))):=by
 have cU:=zio
 have e0:ex7 b 0=zaU:=rfl
 have e1:xs7 b 0=zaU:=rfl
 have cA:=fun k=>zoM b (xs7 b k) hb (zp5 b k)
 have eA:∀ k,mk38 (acI (iat b) (iat (xs7 b k)))=xs7 b (k+1):=fun k=>rfl
 have iN:∀ k,k<=6->isN (ifI k):=fun k hk=>by rw [<- fr7 hk]; exact zak _
 have cS:=fun k (hk:k+1<=6)=>zo7 (ex7 b k) (xs7 b (k+1)) (ifI (k+1)) (zjf b k).Ns (zp5 b (k+1)).Ns (iN _ hk) (by rw [(zjf b k).1]; omega) (by rw [(zjf b k).1,(zp5 b (k+1)).1]; omega)
 have eS:∀ k,adL (ex7 b k) (xs7 b (k+1)) (ifI (k+1))=ex7 b (k+1):=fun k=>rfl
 have lx:=fun k=>(zp5 b k).1
 have le:=fun k=>(zjf b k).1
 have lb:=hb.1
 simp only [eA,lx] at cA
 simp only [eS,le,lx] at cS
 rw [<- zsJ]
 generalize ex7 b=E at *
 generalize xs7 b=X at *
 generalize s7F=FC at *
 have cU1:=cU
 rw [<- e0] at cU
 rw [<- e1] at cU1
 refine zab Tryz.mixed ⟨8,[],[],[]⟩ Tryz.func262 ?_
 rw [Tryz.ntmps262]
 simp [go_sem]
 refine CallVC.of (cU) ?_
 simp [go_sem]
 refine CallVC.of (cU1) ?_
 simp [go_sem]
 refine zac (5::6::7::List.range' 10 14) (fun k:Nat=>[(5,.own 2 38 (avs (E k))),(6,.own 2 38 (avs (X k))),(7,.int (k+1))]) (fun k=>k<=6) (fun k=>6-k) 0 (by simp) (by simp [go_sem]) (by simp [go_sem]) ?_
 intro k hk
 by_cases hk6:k<6
 .have hki:(k:Int)+1<=6:=by omega
  have c1:=cA k
  have c2:=cS k (by omega)
  have cF:=zfH (k+1) (by omega)
  have f6:=ztx (n:=k+1) (by omega)
  have cR:=zbA 1 (fact (k+1)) ⟨by omega,by omega⟩ ⟨by omega,by omega⟩
  rw [fr7 (k:=k+1) (by omega)] at cR
  have ek:((k+1:Nat):Int)=(k:Int)+1:=by omega
  rw [ek] at cF
  generalize fact (k+1)=w at *
  generalize ifI (k+1)=q at *
  simp [go_sem,hki]
  refine CallVC.of (c1) ?_
  simp [go_sem]
  refine CallVC.of (cF) ?_
  simp [go_sem]
  refine CallVC.of (cR) ?_
  simp [go_sem]
  refine CallVC.of (c2) ?_
  simp [go_sem]
  exact ⟨⟨by omega,by omega⟩,k+1,by omega,by omega,zaa _ _ _ (by simp),rfl,rfl,by omega⟩
 .have e:k=6:=by omega
  subst e
  simp [go_sem]
end Go.Proofs.YthhdollpkieknaaGreat


namespace Go.Proofs.YthhdollpkieknaaGreat
open Go.Abs
def frI (p q:Int):Int:=p%10007*pw (q%10007) 10005%10007
theorem znN (p q:Int):isN (frI p q):=zak _
def sqL (s:Nat) (q:Int) (l:List Int):List (List Int):=(List.range s).map fun i=>tb (fun k=>frI (l[i*s+k]?.getD 0) q) s
def rwL (q:Int) (l:List Int):List Int:=tb (fun i=>frI (l[i]?.getD 0) q) l.length
theorem zvM {i k s:Nat} (hi:i<s) (hk:k<s):i*s+k<s*s:=by
 have h:(i+1)*s<=s*s:=Nat.mul_le_mul_right s (by omega)
 rw [Nat.succ_mul] at h
 omega
theorem zkh {l:List Int} (h:∀ x∈l,fits x) (k:Nat):fits (l[k]?.getD 0):=by
 rcases Nat.lt_or_ge k l.length with hk | hk
 .exact h _ (by simp [hk])
 .rw [List.getElem?_eq_none hk]; exact ⟨by simp,by simp⟩
theorem zi0 (s:Nat) (q:Int) (l:List Int) (hs:s<=8) (hl:l.length=s*s) (hq:fits q) (hN:∀ x∈l,fits x) :
  Con Tryz.prog 307 [.int s,.int q,.sl l.length (avs l)] (.own 25 s (omat (sqL s q l))):=by
 have hd:sqL s q l=(List.range s).map fun i=>tb (fun k=>frI (l[i*s+k]?.getD 0) q) s:=rfl
 have h64:s*s<=64:=by
  have:=Nat.mul_le_mul hs hs
  omega
 rw [hd]
 refine zab Tryz.mixed ⟨11,[],[],[]⟩ Tryz.func307 ?_
 rw [Tryz.ntmps307]
 simp [go_sem]
 refine zac ([7,8,9,10]++List.range' 12 28) (fun i:Nat=>[(7,.own 25 i (omat ((List.range i).map fun i=>tb (fun k=>frI (l[i*s+k]?.getD 0) q) s))),(8,.int i)]) (fun i=>i<=s) (fun i=>s-i) 0 (by simp) (by simp [go_sem,omat]) (by simp [go_sem]) ?_
 intro i hi
 by_cases his:i<s
 .have hii:(i:Int)<s:=by omega
  have os:=ze2 (fun i=>tb (fun k=>frI (l[i*s+k]?.getD 0) q) s) i
  rw [zth] at os
  simp [go_sem,hii]
  refine zac ([9,10]++List.range' 18 18) (fun k:Nat=>[(9,.own 2 k (avs (tb (fun k=>frI (l[i*s+k]?.getD 0) q) k))),(10,.int k)]) (fun k=>k<=s) (fun k=>s-k) 0 (by simp) (by simp [go_sem]) (by simp [go_sem]) ?_
  intro k hk
  by_cases hks:k<s
  .have hki:(k:Int)<s:=by omega
   have hx:i*s+k<l.length:=by rw [hl]; exact zvM his hks
   have ec:(i:Int)*(s:Int)=((i*s:Nat):Int):=by simp
   have hm:i*s<=64:=by omega
   have ts:=zgu (fun k=>frI (l[i*s+k]?.getD 0) q) k
   have fx:=zkh hN (i*s+k)
   have cF:=zbA (l[i*s+k]?.getD 0) q fx hq
   have fe:frI (l[i*s+k]?.getD 0) q=l[i*s+k]?.getD 0%10007*pw (q%10007) 10005%10007:=rfl
   rw [<- fe] at cF
   have dr:=zap hx
   have ne:¬ l=[]:=by rintro rfl; simp at hx
   generalize hz:i*s=z at *
   rw [List.getD_eq_getElem?_getD] at dr
   generalize l[z+k]?.getD 0=x at *
   have et:((z:Int)+(k:Int)).toNat=z+k:=by omega
   simp [go_sem,hki,ec,et,dr]
   refine ⟨by omega,⟨by omega,by omega⟩,⟨by omega,by omega,ne⟩,?_⟩
   refine CallVC.of (cF) ?_
   simp [go_sem]
   exact ⟨by omega,by omega,k+1,by omega,by omega,zaa _ _ _ (by simp),by rw [ts,zav]; exact ⟨rfl,rfl⟩,by omega⟩
  .have e:k=s:=by omega
   subst e
   simp [go_sem]
   exact ⟨⟨by omega,by omega⟩,by omega,i+1,by omega,by omega,(Off.reset (by intro x hx; simp at hx |-; omega) (by simp) (by simp [go_sem,zaa])),by rw [os]; exact ⟨rfl,rfl⟩,by omega⟩
 .have e:i=s:=by omega
  subst e
  simp [go_sem]
theorem zpu (q:Int) (l:List Int) (hl:l.length<=64) (hq:fits q) (hN:∀ x∈l,fits x) :
  Con Tryz.prog 308 [.int q,.sl l.length (avs l)] (.own 2 l.length (avs (rwL q l))):=by
 have hd:rwL q l=tb (fun i=>frI (l[i]?.getD 0) q) l.length:=rfl
 rw [hd]
 refine zab Tryz.mixed ⟨7,[],[],[]⟩ Tryz.func308 ?_
 rw [Tryz.ntmps308]
 simp [go_sem]
 refine zac ([5,6]++List.range' 8 15) (fun i:Nat=>[(5,.own 2 i (avs (tb (fun i=>frI (l[i]?.getD 0) q) i))),(6,.int i)]) (fun i=>i<=l.length) (fun i=>l.length-i) 0 (by simp) (by simp [go_sem]) (by simp [go_sem]) ?_
 intro i hi
 by_cases hil:i<l.length
 .have hii:(i:Int)<l.length:=by omega
  have ts:=zgu (fun i=>frI (l[i]?.getD 0) q) i
  have fx:=zkh hN i
  have cF:=zbA (l[i]?.getD 0) q fx hq
  have fe:frI (l[i]?.getD 0) q=l[i]?.getD 0%10007*pw (q%10007) 10005%10007:=rfl
  rw [<- fe] at cF
  have dr:=zap hil
  have ne:¬ l=[]:=by rintro rfl; simp at hil
  rw [List.getD_eq_getElem?_getD] at dr
  generalize l[i]?.getD 0=x at *
  simp [go_sem,hii,dr]
  refine ⟨ne,?_⟩
  refine CallVC.of (cF) ?_
  simp [go_sem]
  exact ⟨by omega,by omega,i+1,by omega,by omega,zaa _ _ _ (by simp),by rw [ts,zav]; exact ⟨rfl,rfl⟩,by omega⟩
 .have e:i=l.length:=by omega
  simp [go_sem,e]
theorem zlE (a k:Int) (hk:0<=k) (hk2:k<=9223372036854775807):RCon Tryz.prog 309 [.int a,.int k] (fun r o=>o=[.any,.any]/\∃ x:Int,-1<=x/\x<=10006/\r=.int x):=by
 refine zaC Tryz.mixed ⟨6,[],[],[]⟩ [] Tryz.func309 ?_
 rw [Tryz.ntmps309]
 simp [go_sem]
 refine zac (List.range' 4 12) (fun i:Nat=>[(5,.int i)]) (fun i=>i<=10007) (fun i=>10007-i) 0 (by simp) (by simp [go_sem]) (by simp [go_sem]) ?_
 intro i hi
 by_cases h:i<10007
 .have hii:(i:Int)<10007:=by omega
  have cP:=zeI i k ⟨by omega,by omega⟩ hk hk2
  simp [go_sem,hii]
  refine CallVC.of (cP) ?_
  simp [go_sem]
  refine ⟨fun h=>?_,fun h=>?_⟩ <;> simp at h
  .simp [go_sem]
   omega
  .simp [go_sem]
   exact ⟨⟨by omega,by omega⟩,i+1,by omega,by omega,zaa _ _ _ (by simp),by omega⟩
 .have hii:¬ (i:Int)<10007:=by omega
  simp [go_sem,hii]
end Go.Proofs.YthhdollpkieknaaGreat


namespace Go.Proofs.YthhdollpkieknaaGreat
open Go.Abs
theorem zqX {s:Nat} (q p:Int) (l b:List Int) (h1:1<=s) (h8:s<=8) (hb:b.length=s):Tab (sqL s q l) (rwL p b):=by
 have bl:(rwL p b).length=s:=by simp [rwL,hb]
 refine ⟨by omega,by omega,by rw [bl]; simp [sqL],tb_N fun k _=>znN _ _,fun r hr=>?_⟩
 obtain ⟨i,_,rfl⟩:=List.mem_map.1 hr
 exact ⟨by rw [bl]; simp,tb_N fun k _=>znN _ _⟩
theorem zrw (s:Nat) (q:Int) (l:List Int):(sqL s q l).length=s:=by simp [sqL]
theorem zst (p:Int) (b:List Int):(rwL p b).length=b.length:=by simp [rwL]
def Tb8 (A:List (List Int)) (B:List Int):Prop:=Tab A B
theorem za0 (s:Nat) (q p:Int) (l b:List Int) (h1:1<=s) (h8:s<=8) (hb:b.length=s) :
  ∃ (A:List (List Int)) (B:List Int),Tb8 A B/\(s=A.length/\omat (sqL s q l)=omat A)/\s=B.length/\rwL p b=B :=
 ⟨sqL s q l,rwL p b,zqX q p l b h1 h8 hb,⟨(zrw s q l).symm,rfl⟩,by rw [zst]; exact hb.symm,rfl⟩
theorem zkX (nm:ByteArray):RCon Tryz.prog 260 [.val (.string nm)] (fun r o=>o=[.any]/\∃ (A:List (List Int)) (B:List Int),Tb8 A B/\r=.agg [.own 25 A.length (omat A),.own 2 B.length (avs B)]):=by
 have sq:=fun (s:Nat) (q:Int) (l:List Int) (h1:s<=8) (h2:l.length=s*s) (h3:fits q) (h4:∀ x∈l,fits x)=>zi0 s q l h1 h2 h3 h4
 have rw_:=fun (q:Int) (l:List Int) (h1:l.length<=64) (h3:fits q) (h4:∀ x∈l,fits x)=>zpu q l h1 h3 h4
 have f1:fits 1:=⟨by omega,by omega⟩
 have ff:∀ n:Int,-100<=n->n<=100->fits n:=fun n h1 h2=>⟨by omega,by omega⟩
 refine zaC Tryz.mixed ⟨5,[],[2000000+309],[]⟩ [] Tryz.func260 ?_
 rw [Tryz.ntmps260]
 simp [go_sem]
 refine ⟨fun h=>?_,fun h=>?_⟩
 .simp [go_sem]
  refine CallVC.of (sq 1 1 [0] (by omega) rfl (ff _ (by omega) (by omega)) (by simp [fits])) ?_
  simp [go_sem]
  refine CallVC.of (rw_ 1 [1] (by simp) (ff _ (by omega) (by omega)) (by simp [fits])) ?_
  simp [go_sem]
  exact za0 1 1 1 [0] [1] (by omega) (by omega) rfl
 simp [go_sem]
 refine ⟨fun h=>?_,fun h=>?_⟩
 .simp [go_sem]
  refine ⟨_,zlE 3 2 (by omega) (by omega),?_⟩
  rintro _ _ ⟨rfl,x,hx1,hx2,rfl⟩
  have n6:=znN 1 6
  have n4:=znN 1 4
  have c6:=zbA 1 6 f1 (ff _ (by omega) (by omega))
  have c4:=zbA 1 4 f1 (ff _ (by omega) (by omega))
  have e6:frI 1 6=1%10007*pw (6%10007) 10005%10007:=rfl
  have e4:frI 1 4=1%10007*pw (4%10007) 10005%10007:=rfl
  rw [<- e6] at c6
  rw [<- e4] at c4
  generalize frI 1 6=y at *
  generalize frI 1 4=z at *
  have fm:fits (x*y):=by
   have h1:x*y<=10006*y:=Int.mul_le_mul_of_nonneg_right hx2 n6.1
   have h2 : -1*y<=x*y:=Int.mul_le_mul_of_nonneg_right hx1 n6.1
   have:=n6.1
   have:=n6.2
   exact ⟨by omega,by omega⟩
  have cm:=zaO x y fm
  have nm':isN (x*y%10007):=zak _
  generalize x*y%10007=u at *
  have fs:fits (z-u):=zc9 n4 nm'
  have fa:fits (z+u):=zeD n4 nm'
  have cs:=zc8 z u fs
  have ca:=zcp z u fa
  have ns:isN ((z-u)%10007):=zak _
  have na:isN ((z+u)%10007):=zak _
  generalize (z-u)%10007=v at *
  generalize (z+u)%10007=w at *
  simp [go_sem]
  refine CallVC.of (c6) ?_
  simp [go_sem]
  refine CallVC.of (cm) ?_
  simp [go_sem]
  refine CallVC.of (c4) ?_
  simp [go_sem]
  refine CallVC.of (cs) ?_
  simp [go_sem]
  refine CallVC.of (ca) ?_
  simp [go_sem]
  refine CallVC.of (rw_ 2 [1,1] (by simp) (ff _ (by omega) (by omega)) (by simp [fits])) ?_
  simp [go_sem]
  have hT:Tab [[z,v],[w,z]] (rwL 2 [1,1]):=by
   refine ⟨by simp [rwL],by simp [rwL],by simp [rwL],tb_N fun k _=>znN _ _,fun r hr=>?_⟩
   simp at hr
   rcases hr with rfl | rfl
   .refine ⟨by simp [rwL],fun x hx=>?_⟩
    simp at hx
    rcases hx with rfl | rfl <;> assumption
   .refine ⟨by simp [rwL],fun x hx=>?_⟩
    simp at hx
    rcases hx with rfl | rfl <;> assumption
  exact ⟨[[z,v],[w,z]],rwL 2 [1,1],hT,by simp [omat,avs],by simp [rwL]⟩
 simp [go_sem]
 refine ⟨fun h=>?_,fun h=>?_⟩
 .simp [go_sem]
  refine CallVC.of (sq 2 1 [0,0,1,0] (by omega) rfl (ff _ (by omega) (by omega)) (by simp [fits])) ?_
  simp [go_sem]
  refine CallVC.of (rw_ 2 [1,1] (by simp) (ff _ (by omega) (by omega)) (by simp [fits])) ?_
  simp [go_sem]
  exact za0 2 1 2 [0,0,1,0] [1,1] (by omega) (by omega) rfl
 simp [go_sem]
 refine ⟨fun h=>?_,fun h=>?_⟩
 .simp [go_sem]
  refine CallVC.of (sq 1 1 [1] (by omega) rfl (ff _ (by omega) (by omega)) (by simp [fits])) ?_
  simp [go_sem]
  refine CallVC.of (rw_ 1 [1] (by simp) (ff _ (by omega) (by omega)) (by simp [fits])) ?_
  simp [go_sem]
  exact za0 1 1 1 [1] [1] (by omega) (by omega) rfl
 simp [go_sem]
 refine ⟨fun h=>?_,fun h=>?_⟩
 .simp [go_sem]
  refine CallVC.of (sq 3 2 [0,0,0,1,0,0,-2,4,0] (by omega) rfl (ff _ (by omega) (by omega)) (by simp [fits])) ?_
  simp [go_sem]
  refine CallVC.of (rw_ 6 [1,4,1] (by simp) (ff _ (by omega) (by omega)) (by simp [fits])) ?_
  simp [go_sem]
  exact za0 3 2 6 [0,0,0,1,0,0,-2,4,0] [1,4,1] (by omega) (by omega) rfl
 simp [go_sem]
 refine ⟨fun h=>?_,fun h=>?_⟩
 .simp [go_sem]
  refine CallVC.of (sq 3 24 [0,0,0,5,8,-1,4,16,4] (by omega) rfl (ff _ (by omega) (by omega)) (by simp [fits])) ?_
  simp [go_sem]
  refine CallVC.of (rw_ 6 [1,4,1] (by simp) (ff _ (by omega) (by omega)) (by simp [fits])) ?_
  simp [go_sem]
  exact za0 3 24 6 [0,0,0,5,8,-1,4,16,4] [1,4,1] (by omega) (by omega) rfl
 simp [go_sem]
 refine ⟨fun h=>?_,fun h=>?_⟩
 .simp [go_sem]
  refine CallVC.of (sq 1 2 [1] (by omega) rfl (ff _ (by omega) (by omega)) (by simp [fits])) ?_
  simp [go_sem]
  refine CallVC.of (rw_ 1 [1] (by simp) (ff _ (by omega) (by omega)) (by simp [fits])) ?_
  simp [go_sem]
  exact za0 1 2 1 [1] [1] (by omega) (by omega) rfl
 simp [go_sem]
 refine ⟨fun h=>?_,fun h=>?_⟩
 .simp [go_sem]
  refine CallVC.of (sq 2 2 [0,0,1,0] (by omega) rfl (ff _ (by omega) (by omega)) (by simp [fits])) ?_
  simp [go_sem]
  refine CallVC.of (rw_ 1 [0,1] (by simp) (ff _ (by omega) (by omega)) (by simp [fits])) ?_
  simp [go_sem]
  exact za0 2 2 1 [0,0,1,0] [0,1] (by omega) (by omega) rfl
 simp [go_sem]
 refine ⟨fun h=>?_,fun h=>?_⟩
 .simp [go_sem]
  refine CallVC.of (sq 2 12 [5,-1,9,3] (by omega) rfl (ff _ (by omega) (by omega)) (by simp [fits])) ?_
  simp [go_sem]
  refine CallVC.of (rw_ 4 [3,1] (by simp) (ff _ (by omega) (by omega)) (by simp [fits])) ?_
  simp [go_sem]
  exact za0 2 12 4 [5,-1,9,3] [3,1] (by omega) (by omega) rfl
 simp [go_sem]
 refine ⟨fun h=>?_,fun h=>?_⟩
 .simp [go_sem]
  refine CallVC.of (sq 2 3 [0,0,2,0] (by omega) rfl (ff _ (by omega) (by omega)) (by simp [fits])) ?_
  simp [go_sem]
  refine CallVC.of (rw_ 4 [1,3] (by simp) (ff _ (by omega) (by omega)) (by simp [fits])) ?_
  simp [go_sem]
  exact za0 2 3 4 [0,0,2,0] [1,3] (by omega) (by omega) rfl
 simp [go_sem]
 refine ⟨fun h=>?_,fun h=>?_⟩
 .simp [go_sem]
  refine CallVC.of (sq 4 2 [0,0,0,0,1,0,0,0,0,1,0,0,0,0,2,0] (by omega) rfl (ff _ (by omega) (by omega)) (by simp [fits])) ?_
  simp [go_sem]
  refine CallVC.of (rw_ 6 [1,2,2,1] (by simp) (ff _ (by omega) (by omega)) (by simp [fits])) ?_
  simp [go_sem]
  exact za0 4 2 6 [0,0,0,0,1,0,0,0,0,1,0,0,0,0,2,0] [1,2,2,1] (by omega) (by omega) rfl
 simp [go_sem]
 refine CallVC.of (sq 2 2 [0,0,1,1] (by omega) rfl (ff _ (by omega) (by omega)) (by simp [fits])) ?_
 simp [go_sem]
 refine CallVC.of (rw_ 2 [1,1] (by simp) (ff _ (by omega) (by omega)) (by simp [fits])) ?_
 simp [go_sem]
 exact za0 2 2 2 [0,0,1,1] [1,1] (by omega) (by omega) rfl
end Go.Proofs.YthhdollpkieknaaGreat


namespace Go.Proofs.YthhdollpkieknaaGreat
open Go.Abs
end Go.Proofs.YthhdollpkieknaaGreat


namespace Go.Proofs.YthhdollpkieknaaGreat
open Go.Abs
end Go.Proofs.YthhdollpkieknaaGreat


namespace Go.Proofs.YthhdollpkieknaaGreat
open Go.Abs
def DrP (n:Nat) (p:List Mon):Prop:=p.length<=3/\∀ m∈p,WOk n 3 m
def DrS (z:Int) (f:List (List Mon)):Prop := -1<=z/\z<=4/\f.length<=4/\∀ p∈f,p.length<=4/\∀ m∈p,m.2.length<=3
theorem DrS.of {n:Nat} {f:List (List Mon)} (hn:n<=3) (hl:f.length<=3) (h:∀ p∈f,DrP n p) {z:Int} (h1 : -1<=z) (h2:z<=4):DrS z f :=
 ⟨h1,h2,by omega,fun p hp=>⟨by have:=(h p hp).1; omega,fun m hm=>by have:=((h p hp).2 m hm).len; omega⟩⟩
end Go.Proofs.YthhdollpkieknaaGreat


namespace Go.Proofs.YthhdollpkieknaaGreat
open Go.Abs
theorem RCon.fz {P:Program} {f:FuncId} {args:List AV} {R:AV->List AV->Prop} (h:RCon P f args R):RCon P f args (fun r o=>∃ r0,R r0 o/\r=frz r0):=by
 refine ⟨h.1,fun w vs os F0 hl hn ho hF hr=>(h.2 w vs os F0 hl hn ho hF hr).mono ?_⟩
 rintro e w' ⟨r,o,hR,v,orr,oo,F',k1,k2,k3,k4,k5,k6,k7,k8,k9⟩
 refine ⟨frz r,o,⟨r,hR,rfl⟩,v,[],oo,fun b=>F' b\/b∈orr,k1,k2,fun b hb=>.inl (k3 b hb),fun b hb=>hb.elim (k4 b) (fun hb=>.inr ⟨(k9 b (.inl hb)).1,(k9 b (.inl hb)).2.1⟩),fun tm oss=>(k5 tm oss).frz (fun b h=>.inl h) (fun b h=>.inr h),fun tm oss=>?_,k7,?_,fun b hb=>?_⟩
 .have:=RepTL.kl (w':=w') (F':=fun b=>F' b\/b∈orr) (tm':=tm) (oss':=oss) [] (fun b hb=>.inl hb) (fun _ _ _ _ h=>h) (k6 tm oss) (fun _ _=>rfl)
  rwa [zcC] at this
 .simpa using (List.nodup_append.1 k8).2.1
 .rcases hb with hb | hb
  .simp at hb
  .obtain ⟨j1,j2,j3⟩:=k9 b (.inr hb)
   exact ⟨j1,j2,fun hf=>hf.elim j3 (fun hf=>(List.nodup_append.1 k8).2.2 b hf b hb rfl)⟩
end Go.Proofs.YthhdollpkieknaaGreat


namespace Go.Proofs.YthhdollpkieknaaGreat
open Go.Abs
theorem zrz (cs:List ByteArray) (h:cs.length=12):∀ k,k<12->∃ b,(cs.map fun b=>AV.val (.string b))[k]?=some (.val (.string b)):=fun k hk=>⟨cs[k]?.getD default,by simp [h,hk]⟩
theorem zfK:RCon Tryz.prog 259 [] (fun r o=>o=[]/\∃ L:List AV,(∀ k,k<12->∃ b,L[k]?=some (.val (.string b)))/\r=.own 9 12 L):=by
 refine RCon.mono (R:=fun r o=>o=[]/\∃ cs:List ByteArray,cs.length=12/\r=.own 9 12 (cs.map fun b=>.val (.string b))) ?_ (fun r o h=>?_)
 .refine zaC Tryz.mixed ⟨1,[],[],[]⟩ [] Tryz.func259 ?_
  rw [Tryz.ntmps259]
  simp [go_sem]
  exact ⟨[_,_,_,_,_,_,_,_,_,_,_,_],rfl,rfl⟩
 .obtain ⟨h1,cs,h2,h3⟩:=h
  exact ⟨h1,_,zrz cs h2,h3⟩
def ptM:List (List Int)->AV
 | []=>.val (.slice none 0 0)
 | r::A=>.own 25 (A.length+1) (omat (r::A))
theorem zdU:ptM []=.val (.slice none 0 0):=rfl
theorem zc2 (r:List Int) (A:List (List Int)):ptM (r::A)=.own 25 (A.length+1) (omat (r::A)):=rfl
theorem ziR {A:List (List Int)} (h:1<=A.length):ptM A=.own 25 A.length (omat A):=by
 cases A with
 | nil=>simp at h
 | cons r A=>rfl
theorem Ns.set {l:List Int} (h:Ns l) (k:Nat) {x:Int} (hx:isN x):Ns (l.set k x):=fun y hy=>by
 rcases List.mem_or_eq_of_mem_set hy with hy | rfl
 .exact h y hy
 .exact hx
theorem zmQ (c:List Int) (σ:Src) (m:Int) (hc:Byt c) (hs:SOk σ) (hm:1<=m) (hm8:m<=8) :
  RCon Tryz.prog 204 [srcA c σ,.int m] (fun r o=>∃ (τ:Src) (A:List (List Int)) (B:List Int),SOk τ/\o=[srcA c τ,.any]/\Tb8 A B/\r=.agg [.own 25 A.length (omat A),.own 2 B.length (avs B)]):=by
 have c1:=zan c σ 2 hc hs
 have s1:=zaH hc hs 2
 simp only [zaz] at *
 by_cases h4:4<=m
 .refine zaC Tryz.mixed ⟨14,[],[1000000+183,1000000+221,2000000+259,2000000+260],[]⟩ [0] Tryz.func204 ?_
  rw [Tryz.ntmps204]
  simp [go_sem]
  simp [go_sem,h4]
  refine ⟨_,_,c1,?_⟩
  simp [go_sem]
  generalize nx1 c σ 2=v at *
  generalize nx2 c σ 2=τ0 at *
  by_cases v0:v=0
  .simp [go_sem,v0]
   refine ⟨_,zfK,?_⟩
   rintro _ _ ⟨rfl,L,hL,rfl⟩
   have c9:=zan c τ0 12 hc s1
   have s9:=zaH hc s1 12
   have b9:=zcn hc τ0 (n:=12) (by omega)
   obtain ⟨k,hk⟩:∃ k:Nat,nx1 c τ0 12=k:=⟨(nx1 c τ0 12).toNat,by omega⟩
   rw [hk] at c9 b9
   generalize nx2 c τ0 12=κ at *
   simp only [zaz] at c9
   obtain ⟨b,hA⟩:=hL k (by omega)
   simp [go_sem]
   refine ⟨_,_,c9,?_⟩
   simp [go_sem]
   simp [go_sem,hA]
   refine ⟨by omega,?_⟩
   refine ⟨_,zkX _,?_⟩
   rintro _ _ ⟨rfl,A,B,hT,rfl⟩
   simp [go_sem]
   exact ⟨κ.1,κ.2,s9,⟨rfl,rfl⟩,A,B,hT,⟨rfl,rfl⟩,rfl,rfl⟩
  .simp [go_sem,v0]
   have h0:=s1
   have c4:=zan c τ0 m hc h0
   have s4:=zaH hc h0 m
   have b4:=zcn hc τ0 (n:=m) (by omega)
   obtain ⟨N,hN⟩:∃ N:Nat,1+nx1 c τ0 m=N:=⟨(1+nx1 c τ0 m).toNat,by omega⟩
   generalize nx1 c τ0 m=v4 at *
   generalize nx2 c τ0 m=τ1 at *
   have N1:1<=N:=by omega
   have N8:N<=8:=by omega
   have c5:=zan c τ1 3 hc s4
   have s5:=zaH hc s4 3
   generalize nx1 c τ1 3=u at *
   generalize nx2 c τ1 3=τ2 at *
   have c6:=zbI c τ2 N hc s5 (by omega)
   have L6:=zet (f:=nbV c) (fun σ h=>zbW hc h) N τ2 s5
   generalize lsV (nbV c) N τ2=r6 at *
   obtain ⟨B0,τ3⟩:=r6
   simp only at L6 c6
   obtain ⟨lB,nB,s6⟩:=L6
   simp only [zaz] at c4 c5 c6
   refine ⟨_,_,c4,?_⟩
   simp [go_sem]
   refine ⟨⟨by omega,by omega⟩,?_⟩
   rw [hN]
   refine ⟨_,_,c5,?_⟩
   simp [go_sem]
   refine ⟨_,_,c6,?_⟩
   simp [go_sem]
   refine zac (0::8::List.range' 9 3++List.range' 40 38) (fun x:Src × List (List Int)=>[(0,.box 162 [.sl c.length (bys c),.int x.1.1,.val (.int .u64 x.1.2)]),(8,.box 27 [ptM x.2,.own 2 N (avs B0)]),(9,.int x.2.length)]) (fun x=>SOk x.1/\x.2.length<=N/\∀ r∈x.2,r.length=N/\Ns r) (fun x=>N-x.2.length) (τ3,[]) ⟨s6,by simp,by simp⟩ (by simp [go_sem,zdU]) (by simp [go_sem]) ?_
   rintro ⟨ρ,A⟩ ⟨h1,h2,h3⟩
   simp only at h1 h2 h3
   by_cases hA:A.length<N
   .have hAi:(A.length:Int)<N:=by omega
    have c7:=zbI c ρ N hc h1 (by omega)
    have L7:=zet (f:=nbV c) (fun σ h=>zbW hc h) N ρ h1
    generalize lsV (nbV c) N ρ=r7 at *
    obtain ⟨row0,κ⟩:=r7
    simp only at L7 c7
    obtain ⟨l7,n7,s7⟩:=L7
    simp only [zaz] at c7
    simp [go_sem,hAi]
    refine ⟨_,_,c7,?_⟩
    simp [go_sem]
    refine zac (10::11::List.range' 48 24) (fun x:List Int × Nat=>[(10,.own 2 N (avs x.1)),(11,.int x.2)]) (fun x=>x.1.length=N/\Ns x.1/\x.2<=N) (fun x=>N-x.2) (row0,0) ⟨l7,n7,by omega⟩ (by simp [go_sem]) (by simp [go_sem]) ?_
    rintro ⟨row,k⟩ ⟨g1,g2,g3⟩
    simp only at g1 g2 g3
    by_cases hk:k<N
    .have hki:(k:Int)<N:=by omega
     have hkr:k<row.length:=by omega
     have hS:=zaP row k 0
     by_cases u0:u=0
     .by_cases u1:(A.length:Int)<=k
      .simp -implicitDefEqProofs [go_sem,hki,u0,u1,hS]
       refine ⟨hkr,⟨by omega,by omega⟩,row.set k 0,k+1,⟨by simpa using g1,Ns.set g2 k ⟨by omega,by omega⟩,by omega⟩,by omega,zaa _ _ _ (by simp),rfl,by omega⟩
      .simp -implicitDefEqProofs [go_sem,hki,u0,u1]
       refine ⟨⟨by omega,by omega⟩,row,k+1,⟨g1,g2,by omega⟩,by omega,zaa _ _ _ (by simp),rfl,by omega⟩
     .by_cases u1:u=1
      .by_cases u2:(A.length:Int)<k
       .simp -implicitDefEqProofs [go_sem,hki,u0,u1,u2,hS]
        refine ⟨hkr,⟨by omega,by omega⟩,row.set k 0,k+1,⟨by simpa using g1,Ns.set g2 k ⟨by omega,by omega⟩,by omega⟩,by omega,zaa _ _ _ (by simp),rfl,by omega⟩
       .simp -implicitDefEqProofs [go_sem,hki,u0,u1,u2]
        refine ⟨⟨by omega,by omega⟩,row,k+1,⟨g1,g2,by omega⟩,by omega,zaa _ _ _ (by simp),rfl,by omega⟩
      .simp -implicitDefEqProofs [go_sem,hki,u0,u1]
       refine ⟨⟨by omega,by omega⟩,row,k+1,⟨g1,g2,by omega⟩,by omega,zaa _ _ _ (by simp),rfl,by omega⟩
    .have e:k=N:=by omega
     subst e
     simp [go_sem]
     have h3':∀ r∈A++[row],r.length=k/\Ns r:=fun r hr=>by
      rcases List.mem_append.1 hr with hr | hr
      .exact h3 r hr
      .simp at hr; subst hr; exact ⟨g1,g2⟩
     have os:omat (A++[row])=omat A++[.own 2 k (avs row)]:=by rw [zbu,za8,g1]
     rcases A with _ | ⟨r0,A⟩
     .simp [go_sem,zdU]
      refine ⟨κ.1,κ.2,[row],⟨s7,by simp; omega,by simpa using h3'⟩,by simp; omega,(by repeat (first | exact zaa _ _ _ (by simp) | (refine Off.reset (by intro x hx; simp at hx |-; omega) (by simp) ?_; simp -failIfUnchanged [go_sem,zaa]))),⟨⟨rfl,rfl⟩,by simp [zc2,za8,g1],by simp⟩⟩
     .simp only [List.length_cons] at hA h2 hAi
      have e5:ptM (r0::A++[row])=.own 25 (A.length+1+1) (omat (r0::A)++[.own 2 k (avs row)]):=by
       show AV.own _ ((A++[row]).length+1) (omat (r0::A++[row]))=_
       rw [os,List.length_append]; rfl
      simp [go_sem,zc2]
      refine ⟨⟨by omega,by omega⟩,⟨by omega,by omega⟩,κ.1,κ.2,r0::A++[row],⟨s7,by simp; omega,h3'⟩,by simp; omega,(by repeat (first | exact zaa _ _ _ (by simp) | (refine Off.reset (by intro x hx; simp at hx |-; omega) (by simp) ?_; simp -failIfUnchanged [go_sem,zaa]))),⟨⟨rfl,rfl⟩,e5.symm,by simp⟩⟩
   .have e:A.length=N:=by omega
    have hpt:=ziR (A:=A) (by omega)
    rw [hpt,e]
    have c8:=zan c ρ 2 hc h1
    have s8:=zaH hc h1 2
    generalize nx1 c ρ 2=v8 at *
    generalize nx2 c ρ 2=κ at *
    simp only [zaz] at c8
    have fin:∀ B:List Int,B.length=N->Ns B->∃ a b,SOk (a,b)/\((κ.1:Int)=a/\κ.2=b)/\∃ A' B',Tb8 A' B'/\(N=A'.length/\omat A=omat A')/\N=B'.length/\B=B':=fun B hB nB=>by
     refine ⟨κ.1,κ.2,s8,⟨rfl,rfl⟩,A,B,⟨by omega,by omega,by omega,nB,fun r hr=>?_⟩,⟨e.symm,rfl⟩,hB.symm,rfl⟩
     rw [hB]; exact h3 r hr
    simp [go_sem,e]
    refine ⟨_,_,c8,?_⟩
    simp [go_sem]
    by_cases v80:v8=0
    .simp [go_sem,v80]
     refine zac (12::13::List.range' 81 12) (fun x:Int × Nat=>[(12,.int x.1),(13,.int x.2)]) (fun x=>isN x.1/\1<=x.2/\x.2<=N) (fun x=>N-x.2) (0,1) ⟨⟨by simp,by simp⟩,by simp,by simp; omega⟩ (by simp [go_sem]) (by simp [go_sem]) ?_
     rintro ⟨q,i⟩ ⟨g1,g2,g3⟩
     simp only at g1 g2 g3
     by_cases hi:i<N
     .have hii:(i:Int)<N:=by omega
      have hib:i<B0.length:=by omega
      have hb:=nB.get i
      have fa:=zeD g1 hb
      have cA:=zcp q (B0[i]?.getD 0) fa
      have hat:=zbC hib
      generalize B0[i]?.getD 0=b at *
      simp [go_sem,hii,hat]
      refine CallVC.of (cA) ?_
      simp [go_sem]
      exact ⟨⟨by omega,by omega⟩,(q+b)%10007,i+1,⟨zak _,by omega,by omega⟩,by omega,zaa _ _ _ (by simp),rfl,by omega⟩
     .have hii:¬ (i:Int)<N:=by omega
      have cS:=zc8 1 q (zc9 ⟨by omega,by omega⟩ g1)
      have nS:isN ((1-q)%10007):=zak _
      generalize (1-q)%10007=x at *
      have hset:=zaP B0 0 x
      simp [go_sem,hii]
      refine ⟨by kernel_rfl,?_⟩
      refine CallD.of (cS) ?_
      simp [go_sem]
      refine ⟨by omega,by omega,?_⟩
      refine ⟨by kernel_rfl,?_⟩
      simp [go_sem]
      simp only [hset]
      obtain ⟨a,b,k1,k2,A',B',k3,k4,k5,k6⟩:=fin (B0.set 0 x) (by simpa using lB) (Ns.set nB 0 nS)
      exact ⟨a,b,k1,k2,A',B',k3,k4,k5,by rw [k6]⟩
    .simp [go_sem,v80]
     exact fin B0 lB nB
 .refine zaC Tryz.mixed ⟨14,[],[1000000+183,1000000+221,2000000+259,2000000+260],[]⟩ [0] Tryz.func204 ?_
  rw [Tryz.ntmps204]
  simp [go_sem]
  simp [go_sem,h4]
  have τ0h:∃ τ0:Src,τ0=σ:=⟨σ,rfl⟩
  obtain ⟨τ0,rfl⟩:=τ0h
  have h0:=hs
  clear c1 s1 hs
  have c4:=zan c τ0 m hc h0
  have s4:=zaH hc h0 m
  have b4:=zcn hc τ0 (n:=m) (by omega)
  obtain ⟨N,hN⟩:∃ N:Nat,1+nx1 c τ0 m=N:=⟨(1+nx1 c τ0 m).toNat,by omega⟩
  generalize nx1 c τ0 m=v4 at *
  generalize nx2 c τ0 m=τ1 at *
  have N1:1<=N:=by omega
  have N8:N<=8:=by omega
  have c5:=zan c τ1 3 hc s4
  have s5:=zaH hc s4 3
  generalize nx1 c τ1 3=u at *
  generalize nx2 c τ1 3=τ2 at *
  have c6:=zbI c τ2 N hc s5 (by omega)
  have L6:=zet (f:=nbV c) (fun σ h=>zbW hc h) N τ2 s5
  generalize lsV (nbV c) N τ2=r6 at *
  obtain ⟨B0,τ3⟩:=r6
  simp only at L6 c6
  obtain ⟨lB,nB,s6⟩:=L6
  simp only [zaz] at c4 c5 c6
  refine ⟨_,_,c4,?_⟩
  simp [go_sem]
  refine ⟨⟨by omega,by omega⟩,?_⟩
  rw [hN]
  refine ⟨_,_,c5,?_⟩
  simp [go_sem]
  refine ⟨_,_,c6,?_⟩
  simp [go_sem]
  refine zac (0::8::List.range' 9 3++List.range' 40 38) (fun x:Src × List (List Int)=>[(0,.box 162 [.sl c.length (bys c),.int x.1.1,.val (.int .u64 x.1.2)]),(8,.box 27 [ptM x.2,.own 2 N (avs B0)]),(9,.int x.2.length)]) (fun x=>SOk x.1/\x.2.length<=N/\∀ r∈x.2,r.length=N/\Ns r) (fun x=>N-x.2.length) (τ3,[]) ⟨s6,by simp,by simp⟩ (by simp [go_sem,zdU]) (by simp [go_sem]) ?_
  rintro ⟨ρ,A⟩ ⟨h1,h2,h3⟩
  simp only at h1 h2 h3
  by_cases hA:A.length<N
  .have hAi:(A.length:Int)<N:=by omega
   have c7:=zbI c ρ N hc h1 (by omega)
   have L7:=zet (f:=nbV c) (fun σ h=>zbW hc h) N ρ h1
   generalize lsV (nbV c) N ρ=r7 at *
   obtain ⟨row0,κ⟩:=r7
   simp only at L7 c7
   obtain ⟨l7,n7,s7⟩:=L7
   simp only [zaz] at c7
   simp [go_sem,hAi]
   refine ⟨_,_,c7,?_⟩
   simp [go_sem]
   refine zac (10::11::List.range' 48 24) (fun x:List Int × Nat=>[(10,.own 2 N (avs x.1)),(11,.int x.2)]) (fun x=>x.1.length=N/\Ns x.1/\x.2<=N) (fun x=>N-x.2) (row0,0) ⟨l7,n7,by omega⟩ (by simp [go_sem]) (by simp [go_sem]) ?_
   rintro ⟨row,k⟩ ⟨g1,g2,g3⟩
   simp only at g1 g2 g3
   by_cases hk:k<N
   .have hki:(k:Int)<N:=by omega
    have hkr:k<row.length:=by omega
    have hS:=zaP row k 0
    by_cases u0:u=0
    .by_cases u1:(A.length:Int)<=k
     .simp -implicitDefEqProofs [go_sem,hki,u0,u1,hS]
      refine ⟨hkr,⟨by omega,by omega⟩,row.set k 0,k+1,⟨by simpa using g1,Ns.set g2 k ⟨by omega,by omega⟩,by omega⟩,by omega,zaa _ _ _ (by simp),rfl,by omega⟩
     .simp -implicitDefEqProofs [go_sem,hki,u0,u1]
      refine ⟨⟨by omega,by omega⟩,row,k+1,⟨g1,g2,by omega⟩,by omega,zaa _ _ _ (by simp),rfl,by omega⟩
    .by_cases u1:u=1
     .by_cases u2:(A.length:Int)<k
      .simp -implicitDefEqProofs [go_sem,hki,u0,u1,u2,hS]
       refine ⟨hkr,⟨by omega,by omega⟩,row.set k 0,k+1,⟨by simpa using g1,Ns.set g2 k ⟨by omega,by omega⟩,by omega⟩,by omega,zaa _ _ _ (by simp),rfl,by omega⟩
      .simp -implicitDefEqProofs [go_sem,hki,u0,u1,u2]
       refine ⟨⟨by omega,by omega⟩,row,k+1,⟨g1,g2,by omega⟩,by omega,zaa _ _ _ (by simp),rfl,by omega⟩
     .simp -implicitDefEqProofs [go_sem,hki,u0,u1]
      refine ⟨⟨by omega,by omega⟩,row,k+1,⟨g1,g2,by omega⟩,by omega,zaa _ _ _ (by simp),rfl,by omega⟩
   .have e:k=N:=by omega
    subst e
    simp [go_sem]
    have h3':∀ r∈A++[row],r.length=k/\Ns r:=fun r hr=>by
     rcases List.mem_append.1 hr with hr | hr
     .exact h3 r hr
     .simp at hr; subst hr; exact ⟨g1,g2⟩
    have os:omat (A++[row])=omat A++[.own 2 k (avs row)]:=by rw [zbu,za8,g1]
    rcases A with _ | ⟨r0,A⟩
    .simp [go_sem,zdU]
     refine ⟨κ.1,κ.2,[row],⟨s7,by simp; omega,by simpa using h3'⟩,by simp; omega,(by repeat (first | exact zaa _ _ _ (by simp) | (refine Off.reset (by intro x hx; simp at hx |-; omega) (by simp) ?_; simp -failIfUnchanged [go_sem,zaa]))),⟨⟨rfl,rfl⟩,by simp [zc2,za8,g1],by simp⟩⟩
    .simp only [List.length_cons] at hA h2 hAi
     have e5:ptM (r0::A++[row])=.own 25 (A.length+1+1) (omat (r0::A)++[.own 2 k (avs row)]):=by
      show AV.own _ ((A++[row]).length+1) (omat (r0::A++[row]))=_
      rw [os,List.length_append]; rfl
     simp [go_sem,zc2]
     refine ⟨⟨by omega,by omega⟩,⟨by omega,by omega⟩,κ.1,κ.2,r0::A++[row],⟨s7,by simp; omega,h3'⟩,by simp; omega,(by repeat (first | exact zaa _ _ _ (by simp) | (refine Off.reset (by intro x hx; simp at hx |-; omega) (by simp) ?_; simp -failIfUnchanged [go_sem,zaa]))),⟨⟨rfl,rfl⟩,e5.symm,by simp⟩⟩
  .have e:A.length=N:=by omega
   have hpt:=ziR (A:=A) (by omega)
   rw [hpt,e]
   have c8:=zan c ρ 2 hc h1
   have s8:=zaH hc h1 2
   generalize nx1 c ρ 2=v8 at *
   generalize nx2 c ρ 2=κ at *
   simp only [zaz] at c8
   have fin:∀ B:List Int,B.length=N->Ns B->∃ a b,SOk (a,b)/\((κ.1:Int)=a/\κ.2=b)/\∃ A' B',Tb8 A' B'/\(N=A'.length/\omat A=omat A')/\N=B'.length/\B=B':=fun B hB nB=>by
    refine ⟨κ.1,κ.2,s8,⟨rfl,rfl⟩,A,B,⟨by omega,by omega,by omega,nB,fun r hr=>?_⟩,⟨e.symm,rfl⟩,hB.symm,rfl⟩
    rw [hB]; exact h3 r hr
   simp [go_sem,e]
   refine ⟨_,_,c8,?_⟩
   simp [go_sem]
   by_cases v80:v8=0
   .simp [go_sem,v80]
    refine zac (12::13::List.range' 81 12) (fun x:Int × Nat=>[(12,.int x.1),(13,.int x.2)]) (fun x=>isN x.1/\1<=x.2/\x.2<=N) (fun x=>N-x.2) (0,1) ⟨⟨by simp,by simp⟩,by simp,by simp; omega⟩ (by simp [go_sem]) (by simp [go_sem]) ?_
    rintro ⟨q,i⟩ ⟨g1,g2,g3⟩
    simp only at g1 g2 g3
    by_cases hi:i<N
    .have hii:(i:Int)<N:=by omega
     have hib:i<B0.length:=by omega
     have hb:=nB.get i
     have fa:=zeD g1 hb
     have cA:=zcp q (B0[i]?.getD 0) fa
     have hat:=zbC hib
     generalize B0[i]?.getD 0=b at *
     simp [go_sem,hii,hat]
     refine CallVC.of (cA) ?_
     simp [go_sem]
     exact ⟨⟨by omega,by omega⟩,(q+b)%10007,i+1,⟨zak _,by omega,by omega⟩,by omega,zaa _ _ _ (by simp),rfl,by omega⟩
    .have hii:¬ (i:Int)<N:=by omega
     have cS:=zc8 1 q (zc9 ⟨by omega,by omega⟩ g1)
     have nS:isN ((1-q)%10007):=zak _
     generalize (1-q)%10007=x at *
     have hset:=zaP B0 0 x
     simp [go_sem,hii]
     refine ⟨by kernel_rfl,?_⟩
     refine CallD.of (cS) ?_
     simp [go_sem]
     refine ⟨by omega,by omega,?_⟩
     refine ⟨by kernel_rfl,?_⟩
     simp [go_sem]
     simp only [hset]
     obtain ⟨a,b,k1,k2,A',B',k3,k4,k5,k6⟩:=fin (B0.set 0 x) (by simpa using lB) (Ns.set nB 0 nS)
     exact ⟨a,b,k1,k2,A',B',k3,k4,k5,by rw [k6]⟩
   .simp [go_sem,v80]
    exact fin B0 lB nB
end Go.Proofs.YthhdollpkieknaaGreat


namespace Go.Proofs.YthhdollpkieknaaGreat
open Go.Abs
theorem RCon.rep {P:Program} {f:FuncId} {args:List AV} {R R':AV->List AV->Prop} (h:RCon P f args R)
  (hR:∀ r o,R r o->∃ r',R' r' o/\∀ (w:World) (F:Nat->Prop) (tm:Nat->Value) (oss:Nat->List Nat) (v:Value) (os:List Nat),RepT P w F tm oss r v os->RepT P w F tm oss r' v os):RCon P f args R':=by
 refine ⟨h.1,fun w vs os F0 hl hn ho hF hr=>(h.2 w vs os F0 hl hn ho hF hr).mono ?_⟩
 rintro e w' ⟨r,o,hr0,v,orr,oo,F',k1,k2,k3,k4,k5,k6⟩
 obtain ⟨r',h1,h2⟩:=hR r o hr0
 exact ⟨r',o,h1,v,orr,oo,F',k1,k2,k3,k4,fun tm oss=>h2 _ _ _ _ _ _ (k5 tm oss),k6⟩
end Go.Proofs.YthhdollpkieknaaGreat


namespace Go.Proofs.YthhdollpkieknaaGreat
open Go.Abs
end Go.Proofs.YthhdollpkieknaaGreat


namespace Go.Proofs.YthhdollpkieknaaGreat
open Go.Abs
end Go.Proofs.YthhdollpkieknaaGreat


namespace Go.Proofs.YthhdollpkieknaaGreat
open Go.Abs
end Go.Proofs.YthhdollpkieknaaGreat


namespace Go.Proofs.YthhdollpkieknaaGreat
open Go.Abs
end Go.Proofs.YthhdollpkieknaaGreat


namespace Go.Proofs.YthhdollpkieknaaGreat
open Go.Abs
end Go.Proofs.YthhdollpkieknaaGreat


namespace Go.Proofs.YthhdollpkieknaaGreat
open Go.Abs
end Go.Proofs.YthhdollpkieknaaGreat


namespace Go.Proofs.YthhdollpkieknaaGreat
open Go.Abs
def spV (c:List Int) (σ:Src):Int × Src :=
 if nx1 c σ 30=0 then (pk c (nx2 c σ 30) [-1,10007,1099511627776,-4611686018427387904],nx2 c (nx2 c σ 30) 4) else nbV c (nx2 c σ 30)
theorem zs1 {c:List Int} (hc:Byt c) {σ:Src} (hs:SOk σ):SOk (spV c σ).2:=by
 have s1:=zaH hc hs 30
 unfold spV
 split
 .exact zaH hc s1 4
 .exact (zbW hc s1).2
theorem zk8 (c:List Int) (σ:Src) (hc:Byt c) (hs:SOk σ):GCon Tryz.prog 265 [srcA c σ] (.int (spV c σ).1) [srcA c (spV c σ).2]:=by
 have s1:=zaH hc hs 30
 have c1:=zan c σ 30 hc hs
 have c2:=zdt c (nx2 c σ 30) [-1,10007,1099511627776,-4611686018427387904] hc s1 (by simp) (by simp)
 have c3:=zbr c (nx2 c σ 30) hc s1
 unfold spV
 have e3:(([-1,10007,1099511627776,-4611686018427387904]:List Int).length:Int)=4:=rfl
 rw [e3] at c2
 generalize pk c (nx2 c σ 30) [-1,10007,1099511627776,-4611686018427387904]=pv at *
 generalize nbV c (nx2 c σ 30)=nv at *
 generalize nx2 c (nx2 c σ 30) 4=t4 at *
 generalize nx2 c σ 30=t1 at *
 generalize nx1 c σ 30=v1 at *
 unfold srcA at *
 by_cases h0:v1=0
 .rw [if_pos h0]
  refine zaj Tryz.mixed ⟨3,[],[1000000+183,1000000+98,1000000+184],[]⟩ [0] Tryz.func265 ?_
  rw [Tryz.ntmps265]
  simp [go_sem]
  refine ⟨_,_,c1,?_⟩
  simp [go_sem]
  simp [go_sem,h0]
  refine ⟨_,_,c2,?_⟩
  simp [go_sem]
 .rw [if_neg h0]
  refine zaj Tryz.mixed ⟨3,[],[1000000+183,1000000+98,1000000+184],[]⟩ [0] Tryz.func265 ?_
  rw [Tryz.ntmps265]
  simp [go_sem]
  refine ⟨_,_,c1,?_⟩
  simp [go_sem]
  simp [go_sem,h0]
  refine ⟨_,_,c3,?_⟩
  simp [go_sem]
end Go.Proofs.YthhdollpkieknaaGreat


namespace Go.Proofs.YthhdollpkieknaaGreat
open Go.Abs
theorem zes:∀ (n:Nat) (t:List Int),Lv t->t.length<=1048576->zgt n t=true->Con Tryz.prog 210 [.sl t.length (avs t)] (.int (denF n t))
 | 0,t,hL,hl,hd=>by simp [zgt] at hd
 | n+1,t,hL,hl,hd=>by
  have cB:=zc0 t hl hL
  rw [zgt,Bool.and_eq_true] at hd
  obtain ⟨hd1,hd2⟩:=hd
  have ih:=fun b (hb:b∈brs t)=>zes n b (zbY hL hb).1 (by have:=(zbY hL hb).2; omega) (List.all_eq_true.1 hd1 b hb)
  have bd:∀ j,j<=(brs t).length->0<=denK n t j/\denK n t j<=1000000:=fun j hj=>by
   have:=List.all_eq_true.1 hd2 j (by simp; omega)
   simpa using this
  have hs:=fun j (h:j<(brs t).length)=>zhB n h
  have k0:denK n t 0=t.length:=by simp [denK]
  have ke:denK n t (brs t).length=denF (n+1) t:=by rw [denK,List.take_length,denF]
  have hcnt:(brs t).length<t.length:=ze5 hL
  rw [<- ke]
  generalize denK n t=K at *
  generalize brs t=L at *
  refine zab Tryz.mixed ⟨6,[],[],[]⟩ Tryz.func210 ?_
  rw [Tryz.ntmps210]
  simp [go_sem]
  refine CallVC.of (cB) ?_
  simp [go_sem]
  refine zac (3::5::List.range' 10 13) (fun i:Nat=>[(3,.int (K i)),(5,.int i)]) (fun i=>i<=L.length) (fun i=>L.length-i) 0 (by simp) (by simp [go_sem,k0]) (by simp [go_sem]) ?_
  intro i hi
  by_cases hiL:i<L.length
  .have hii:(i:Int)<L.length:=by omega
   have hb:L[i]?.getD []∈L:=by simp [hiL]
   have cD:=ih _ hb
   have hg:=zbF hiL
   have b0:=bd i hi
   have b1:=bd (i+1) hiL
   have h1:=hs i hiL
   generalize denF n (L[i]?.getD [])=d at *
   generalize hk1:K (i+1)=k1 at *
   generalize K i=k at *
   simp [go_sem,hii,hg]
   refine CallVC.of (cD) ?_
   simp [go_sem]
   rw [<- h1]
   exact ⟨⟨by omega,by omega⟩,⟨by omega,by omega⟩,i+1,by omega,by omega,zaa _ _ _ (by simp),hk1.symm,by omega⟩
  .have e:i=L.length:=by omega
   subst e
   have hii:¬ (L.length:Int)<L.length:=by omega
   simp [go_sem,hii]
theorem zd2:Con Tryz.prog 121 [] (.own 2 38 (avs exaS)):=by
 have cA:=zbZ 6 (by omega)
 have l6:=zaQ
 have e6:((6:Nat):Int)=6:=rfl
 rw [e6,l6] at cA
 have tk:∀ i,i<37->exaS.take (i+2)=exaS.take (i+1)++[iat exaS (i+1)]:=fun i hi=>by
  have l:=zal.1.1
  rw [List.take_succ_eq_append_getElem (by omega)]
  unfold iat
  rw [List.getElem?_eq_getElem (by omega)]; rfl
 have ta:exaS.take 38=exaS:=zal.1.take
 have t1:exaS.take 1=[1]:=by kernel_rfl
 have lo:=zal.1.1
 have at6:=fun t h=>zim (t:=t) h
 have xa:=fun p h=>zqy (p:=p) h
 generalize exaS=O at *
 refine zab Tryz.mixed ⟨4,[],[],[]⟩ Tryz.func121 ?_
 rw [Tryz.ntmps121]
 simp [go_sem]
 refine CallVC.of (cA) ?_
 simp [go_sem]
 refine zac (2::3::List.range' 6 15) (fun i:Nat=>[(2,.own 2 (i+1) (avs (O.take (i+1)))),(3,.int i)]) (fun i=>i<=37) (fun i=>37-i) 0 (by simp) (by simp [go_sem,t1,avs]) (by simp [go_sem]) ?_
 intro i hi
 by_cases hil:i<37
 .have hii:(i:Int)<37:=by omega
  have hl:i<(trN 6).length:=by omega
  have og:=zbF hl
  have hm:=memD [] hl
  obtain ⟨d1,d2,d3⟩:=at6 _ hm
  have cD:=zes 8 _ d1 (by omega) d3
  obtain ⟨w1,w2⟩:=zqS hm
  have cF:=zbA 1 (denF 8 ((trN 6)[i]?.getD [])) ⟨by omega,by omega⟩ ⟨by omega,by omega⟩
  have pN:=pw_N (denF 8 ((trN 6)[i]?.getD [])%10007) 10005
  have e:(1:Int)%10007*pw (denF 8 ((trN 6)[i]?.getD [])%10007) 10005%10007=iat O (i+1):=by
   rw [<- xa i hil]
   have:=pN.1; have:=pN.2
   generalize pw (denF 8 ((trN 6)[i]?.getD [])%10007) 10005=v at *
   omega
  rw [e] at cF
  have t2:=tk i hil
  generalize iat O (i+1)=v at *
  generalize (trN 6)[i]?.getD []=t at *
  generalize denF 8 t=d at *
  simp [go_sem,hii,og]
  refine CallVC.of (cD) ?_
  simp [go_sem]
  refine CallVC.of (cF) ?_
  simp [go_sem]
  refine ⟨⟨by omega,by omega,by omega⟩,⟨by omega,by omega⟩,i+1,by omega,by omega,zaa _ _ _ (by simp),?_⟩
  rw [t2,zav]
  exact ⟨⟨rfl,rfl⟩,by omega⟩
 .have e:i=37:=by omega
  subst e
  rw [ta]
  simp [go_sem]
def DrM (first:Int) (a:List Int):Prop:=a.length=38/\iat a 0=first/\∀ i,1<=i->isN (iat a i)
theorem DrM.set {first:Int} {a:List Int} (h:DrM first a) {i:Nat} {x:Int} (hi:1<=i) (hx:isN x):DrM first (a.set i x):=by
 obtain ⟨h1,h2,h3⟩:=h
 refine ⟨by rw [List.length_set,h1],?_,fun j hj=>?_⟩
 .unfold iat at *
  rw [List.getElem?_set_ne (by omega)]; exact h2
 .unfold iat at *
  by_cases e:i=j
  .subst e
   by_cases hl:i<a.length
   .rw [List.getElem?_set_self hl]; exact hx
   .rw [List.getElem?_eq_none (by rw [List.length_set]; omega)]; exact ⟨by decide,by decide⟩
  .rw [List.getElem?_set_ne e]; exact h3 j hj
theorem DrM.first {f g:Int} {a:List Int} (h:DrM f a):DrM g (a.set 0 g):=by
 obtain ⟨h1,h2,h3⟩:=h
 refine ⟨by rw [List.length_set,h1],?_,fun j hj=>?_⟩
 .unfold iat
  rw [List.getElem?_set_self (by omega)]; rfl
 .unfold iat at *
  rw [List.getElem?_set_ne (by omega)]; exact h3 j hj
theorem N38.drm {a:List Int} (h:N38 a):DrM (iat a 0) a:=⟨h.1,rfl,fun i _=>h.Ns.get i⟩
theorem DrM.n38 {first:Int} {a:List Int} (hf:isN first) (h:DrM first a):N38 a:=⟨h.1,fun x hx=>by
 obtain ⟨i,hi,rfl⟩:=List.getElem_of_mem hx
 rcases Nat.eq_zero_or_pos i with rfl | h0
 .have e:=h.2.1
  unfold iat at e
  rw [List.getElem?_eq_getElem hi,Option.getD_some] at e
  rw [e]; exact ⟨hf.1,by have:=hf.2; omega⟩
 .have e:=h.2.2 i h0
  unfold iat at e
  rw [List.getElem?_eq_getElem hi,Option.getD_some] at e
  exact ⟨e.1,by have:=e.2; omega⟩⟩
def zlM (first:Int):List Int:=first::List.replicate 37 0
theorem zvI (first:Int):DrM first (zlM first):=⟨rfl,rfl,fun i hi=>by
 obtain ⟨j,rfl⟩:∃ j,i=j+1:=⟨i-1,by omega⟩
 unfold zlM iat
 rw [List.getElem?_cons_succ]
 by_cases h:j<37
 .rw [List.getElem?_replicate_of_lt h]; exact ⟨by decide,by decide⟩
 .rw [List.getElem?_eq_none (by simp; omega)]; exact ⟨by decide,by decide⟩⟩
theorem DrM.cons {first:Int} {l:List Int} (hl:l.length=37) (hN:Ns l):DrM first (first::l):=⟨by rw [List.length_cons,hl],rfl,fun i hi=>by
 obtain ⟨j,rfl⟩:∃ j,i=j+1:=⟨i-1,by omega⟩
 unfold iat
 rw [List.getElem?_cons_succ]
 exact hN.get j⟩
theorem zhP (c:List Int) (σ:Src) (first:Int) (hc:Byt c) (hs:SOk σ) (hf:isN first) :
  RCon Tryz.prog 261 [srcA c σ,.int first] (fun r o=>∃ (τ:Src) (a:List Int),SOk τ/\o=[srcA c τ,.any]/\DrM first a/\r=.own 2 38 (avs a)):=by
 have c1:=zan c σ 6 hc hs
 have s1:=zaH hc hs 6
 have b1:=zcn hc σ (n:=6) (by omega)
 simp only [zaz] at *
 refine zaC Tryz.mixed ⟨8,[],[1000000+183,1000000+184,1000000+221],[]⟩ [0] Tryz.func261 ?_
 rw [Tryz.ntmps261]
 simp [go_sem]
 refine ⟨_,_,c1,?_⟩
 simp [go_sem]
 generalize nx1 c σ 6=v at *
 generalize nx2 c σ 6=τ0 at *
 by_cases v0:v=0
 .subst v0
  simp [go_sem]
  refine CallVC.of (zd2) ?_
  simp [go_sem]
  refine ⟨by rw [zal.1.1]; omega,?_⟩
  rw [zaP]
  have d1:DrM first (exaS.set 0 first):=zal.1.drm.first
  have c2:=zan c τ0 2 hc s1
  have s2:=zaH hc s1 2
  simp only [zaz] at c2
  generalize exaS.set 0 first=a at *
  refine ⟨_,_,c2,?_⟩
  simp [go_sem]
  generalize nx1 c τ0 2=v2 at *
  generalize nx2 c τ0 2=τ2 at *
  by_cases w:v2=0
  .have c3:=zbr c τ2 hc s2
   obtain ⟨n3,s3⟩:=zbW hc s2
   simp only [zaz] at c3
   have c4:=zf7 a (nbV c τ2).1 (d1.n38 hf) n3
   generalize nbV c τ2=q at *
   rw [d1.1] at c4
   simp [go_sem,w]
   refine ⟨_,_,c3,?_⟩
   simp [go_sem]
   refine CallVC.of (c4) ?_
   simp [go_sem]
   have d4:DrM first (scS q.1 a):=by
    have:=(zex q.1 a).drm
    have e:iat (scS q.1 a) 0=first:=by
     unfold scS
     rw [za9 _ (by decide),d1.2.1]
     show first*q.1 ^ 0%10007=first
     rw [Int.pow_zero,Int.mul_one,Int.emod_eq_of_lt hf.1 (by have:=hf.2; omega)]
    rw [e] at this
    exact this
   generalize scS q.1 a=a3 at *
   have cN:=zan c q.2 3 hc s3
   have sN:=zaH hc s3 3
   have bN:=zcn hc q.2 (n:=3) (by omega)
   simp only [zaz] at cN
   refine ⟨_,_,cN,?_⟩
   simp [go_sem]
   obtain ⟨k0,hk0⟩:∃ k:Nat,nx1 c q.2 3=k:=⟨(nx1 c q.2 3).toNat,by omega⟩
   rw [hk0] at bN |-
   generalize nx2 c q.2 3=τ3 at *
   refine zac (0::5::6::List.range' 27 11) (fun x:Src × List Int × Nat=>[(0,.box 162 [.sl c.length (bys c),.int x.1.1,.val (.int .u64 x.1.2)]),(5,.own 2 38 (avs x.2.1)),(6,.int x.2.2)]) (fun x=>SOk x.1/\DrM first x.2.1/\x.2.2<=10) (fun x=>x.2.2) (τ3,a3,k0) ⟨sN,d4,by simp only; omega⟩ (by simp [go_sem]) (by simp [go_sem]) ?_
   rintro ⟨τ4,a4,k⟩ ⟨h1,h2,h3⟩
   simp only at h1 h2 h3
   by_cases hk:0<k
   .have hki:(0:Int)<k:=by omega
    have c6:=zan c τ4 37 hc h1
    have s6:=zaH hc h1 37
    have b6:=zcn hc τ4 (n:=37) (by omega)
    obtain ⟨u,hu⟩:∃ u:Nat,nx1 c τ4 37=u:=⟨(nx1 c τ4 37).toNat,by omega⟩
    rw [hu] at c6 b6
    generalize nx2 c τ4 37=τ6 at *
    have c7:=zbr c τ6 hc s6
    obtain ⟨n7,s7⟩:=zbW hc s6
    simp only [zaz] at c6 c7
    generalize nbV c τ6=q7 at *
    have d7:=h2.set (i:=u+1) (x:=q7.1) (by omega) n7
    have l4:=h2.1
    simp [go_sem,hk]
    refine ⟨_,_,c6,?_⟩
    simp [go_sem]
    refine ⟨⟨by omega,by omega⟩,?_⟩
    refine ⟨_,_,c7,?_⟩
    simp [go_sem]
    have eu:(1+(u:Int)).toNat=u+1:=by omega
    rw [eu]
    refine ⟨⟨by omega,by omega⟩,by omega,⟨by omega,by omega⟩,q7.2.1,q7.2.2,a4.set (u+1) q7.1,k-1,⟨s7,d7,by omega⟩,by omega,zaa _ _ _ (by simp),?_⟩
    have ek:(k:Int)-1=((k-1:Nat):Int):=by omega
    exact ⟨⟨rfl,rfl⟩,zaP _ _ _,ek⟩
   .have e:k=0:=by omega
    subst e
    simp [go_sem]
    exact ⟨τ4.1,τ4.2,h1,⟨rfl,rfl⟩,h2⟩
  .simp [go_sem,w]
   have cN:=zan c τ2 3 hc s2
   have sN:=zaH hc s2 3
   have bN:=zcn hc τ2 (n:=3) (by omega)
   simp only [zaz] at cN
   refine ⟨_,_,cN,?_⟩
   simp [go_sem]
   obtain ⟨k0,hk0⟩:∃ k:Nat,nx1 c τ2 3=k:=⟨(nx1 c τ2 3).toNat,by omega⟩
   rw [hk0] at bN |-
   generalize nx2 c τ2 3=τ3 at *
   refine zac (0::5::6::List.range' 27 11) (fun x:Src × List Int × Nat=>[(0,.box 162 [.sl c.length (bys c),.int x.1.1,.val (.int .u64 x.1.2)]),(5,.own 2 38 (avs x.2.1)),(6,.int x.2.2)]) (fun x=>SOk x.1/\DrM first x.2.1/\x.2.2<=10) (fun x=>x.2.2) (τ3,a,k0) ⟨sN,d1,by simp only; omega⟩ (by simp [go_sem]) (by simp [go_sem]) ?_
   rintro ⟨τ4,a4,k⟩ ⟨h1,h2,h3⟩
   simp only at h1 h2 h3
   by_cases hk:0<k
   .have hki:(0:Int)<k:=by omega
    have c6:=zan c τ4 37 hc h1
    have s6:=zaH hc h1 37
    have b6:=zcn hc τ4 (n:=37) (by omega)
    obtain ⟨u,hu⟩:∃ u:Nat,nx1 c τ4 37=u:=⟨(nx1 c τ4 37).toNat,by omega⟩
    rw [hu] at c6 b6
    generalize nx2 c τ4 37=τ6 at *
    have c7:=zbr c τ6 hc s6
    obtain ⟨n7,s7⟩:=zbW hc s6
    simp only [zaz] at c6 c7
    generalize nbV c τ6=q7 at *
    have d7:=h2.set (i:=u+1) (x:=q7.1) (by omega) n7
    have l4:=h2.1
    simp [go_sem,hk]
    refine ⟨_,_,c6,?_⟩
    simp [go_sem]
    refine ⟨⟨by omega,by omega⟩,?_⟩
    refine ⟨_,_,c7,?_⟩
    simp [go_sem]
    have eu:(1+(u:Int)).toNat=u+1:=by omega
    rw [eu]
    refine ⟨⟨by omega,by omega⟩,by omega,⟨by omega,by omega⟩,q7.2.1,q7.2.2,a4.set (u+1) q7.1,k-1,⟨s7,d7,by omega⟩,by omega,zaa _ _ _ (by simp),?_⟩
    have ek:(k:Int)-1=((k-1:Nat):Int):=by omega
    exact ⟨⟨rfl,rfl⟩,zaP _ _ _,ek⟩
   .have e:k=0:=by omega
    subst e
    simp [go_sem]
    exact ⟨τ4.1,τ4.2,h1,⟨rfl,rfl⟩,h2⟩
 .by_cases v1:v=1
  .subst v1
   simp [go_sem]
   have cN:=zan c τ0 4 hc s1
   have sN:=zaH hc s1 4
   have bN:=zcn hc τ0 (n:=4) (by omega)
   simp only [zaz] at cN
   refine ⟨_,_,cN,?_⟩
   simp [go_sem]
   obtain ⟨k0,hk0⟩:∃ k:Nat,nx1 c τ0 4=k:=⟨(nx1 c τ0 4).toNat,by omega⟩
   rw [hk0] at bN |-
   generalize nx2 c τ0 4=τ3 at *
   have ek0:1+(k0:Int)=((k0+1:Nat):Int):=by omega
   refine ⟨⟨by omega,by omega⟩,?_⟩
   refine zac (0::5::7::List.range' 48 11) (fun x:Src × List Int × Nat=>[(0,.box 162 [.sl c.length (bys c),.int x.1.1,.val (.int .u64 x.1.2)]),(5,.own 2 38 (avs x.2.1)),(7,.int x.2.2)]) (fun x=>SOk x.1/\DrM first x.2.1/\x.2.2<=10) (fun x=>x.2.2) (τ3,zlM first,k0+1) ⟨sN,zvI first,by simp only; omega⟩ (by simp [go_sem]; exact ⟨rfl,by omega⟩) (by simp [go_sem]) ?_
   rintro ⟨τ4,a4,k⟩ ⟨h1,h2,h3⟩
   simp only at h1 h2 h3
   by_cases hk:0<k
   .have hki:(0:Int)<k:=by omega
    have c6:=zan c τ4 8 hc h1
    have s6:=zaH hc h1 8
    have b6:=zcn hc τ4 (n:=8) (by omega)
    obtain ⟨u,hu⟩:∃ u:Nat,nx1 c τ4 8=u:=⟨(nx1 c τ4 8).toNat,by omega⟩
    rw [hu] at c6 b6
    generalize nx2 c τ4 8=τ6 at *
    have c7:=zbr c τ6 hc s6
    obtain ⟨n7,s7⟩:=zbW hc s6
    simp only [zaz] at c6 c7
    generalize nbV c τ6=q7 at *
    have d7:=h2.set (i:=u+1) (x:=q7.1) (by omega) n7
    have l4:=h2.1
    simp [go_sem,hk]
    refine ⟨_,_,c6,?_⟩
    simp [go_sem]
    refine ⟨⟨by omega,by omega⟩,?_⟩
    refine ⟨_,_,c7,?_⟩
    simp [go_sem]
    have eu:(1+(u:Int)).toNat=u+1:=by omega
    rw [eu]
    refine ⟨⟨by omega,by omega⟩,by omega,⟨by omega,by omega⟩,q7.2.1,q7.2.2,a4.set (u+1) q7.1,k-1,⟨s7,d7,by omega⟩,by omega,zaa _ _ _ (by simp),?_⟩
    have ek:(k:Int)-1=((k-1:Nat):Int):=by omega
    exact ⟨⟨rfl,rfl⟩,zaP _ _ _,ek⟩
   .have e:k=0:=by omega
    subst e
    simp [go_sem]
    exact ⟨τ4.1,τ4.2,h1,⟨rfl,rfl⟩,h2⟩
  .simp [go_sem,v0,v1]
   have c5:=zbI c τ0 37 hc s1 (by omega)
   obtain ⟨g1,g2,g3⟩:=zet (f:=nbV c) (fun σ h=>zbW hc h) 37 τ0 s1
   simp only [zaz] at c5
   generalize lsV (nbV c) 37 τ0=q at *
   refine ⟨_,_,c5,?_⟩
   simp [go_sem]
   exact ⟨g1,q.2.1,q.2.2,g3,⟨rfl,rfl⟩,first::q.1,DrM.cons g1 g2,rfl⟩
def DrA (a:List Int):Prop:=37<=a.length/\a.length<=38/\∀ x∈a,fits x
theorem DrM.dra {f:Int} {a:List Int} (hf:isN f) (h:DrM f a):DrA a:=⟨by have:=h.1; omega,by have:=h.1; omega,fun x hx=>by
 have:=(h.n38 hf).2 x hx
 exact ⟨by omega,by omega⟩⟩
theorem DrA.set {a:List Int} {i:Nat} {x:Int} (h:DrA a) (hx:fits x):DrA (a.set i x):=⟨by rw [List.length_set]; exact h.1,by rw [List.length_set]; exact h.2.1,fun y hy=>by
 rcases List.mem_or_eq_of_mem_set hy with hy | rfl
 .exact h.2.2 y hy
 .exact hx⟩
theorem zoz {c:List Int} (hc:Byt c) {σ:Src} (hs:SOk σ):fits (spV c σ).1:=by
 have s1:=zaH hc hs 30
 unfold spV
 split
 .have b:=zcn hc (nx2 c σ 30) (n:=4) (by omega)
  obtain ⟨k,hk⟩:∃ k:Nat,nx1 c (nx2 c σ 30) 4=k:=⟨(nx1 c (nx2 c σ 30) 4).toNat,by omega⟩
  have e:pk c (nx2 c σ 30) [-1,10007,1099511627776,-4611686018427387904]=([-1,10007,1099511627776,-4611686018427387904]:List Int)[(nx1 c (nx2 c σ 30) 4).toNat]?.getD 0:=rfl
  simp only
  rw [e,hk]
  have:k=0\/k=1\/k=2\/k=3:=by omega
  rcases this with rfl | rfl | rfl | rfl <;> exact ⟨by decide,by decide⟩
 .have:=(zbW hc s1).1
  exact ⟨by have:=this.1; omega,by have:=this.2; omega⟩
theorem zhG (c:List Int) (σ:Src) (hc:Byt c) (hs:SOk σ) :
  RCon Tryz.prog 207 [srcA c σ] (fun r o=>∃ (τ:Src) (a:List Int),SOk τ/\o=[srcA c τ]/\DrA a/\(r=.sl a.length (avs a)\/r=.own 2 a.length (avs a))):=by
 have c1:=zhP c σ 1 hc hs ⟨by decide,by decide⟩
 simp only [zaz] at *
 refine zaC Tryz.mixed ⟨4,[25],[1000000+183,1000000+265,2000000+261],[]⟩ [0] Tryz.func207 ?_
 rw [Tryz.ntmps207]
 simp [go_sem]
 refine ⟨_,c1,?_⟩
 rintro _ _ ⟨τ0,a,s1,rfl,d1,rfl⟩
 have l1:=d1.1
 have dA:=d1.dra ⟨by decide,by decide⟩
 have c2:=zan c τ0 24 hc s1
 have s2:=zaH hc s1 24
 simp only [zaz] at *
 simp [go_sem]
 refine ⟨_,_,c2,?_⟩
 simp [go_sem]
 generalize nx1 c τ0 24=v at *
 generalize nx2 c τ0 24=τ2 at *
 by_cases v0:v=0
 .subst v0
  have c3:=zan c τ2 3 hc s2
  have s3:=zaH hc s2 3
  have b3:=zcn hc τ2 (n:=3) (by omega)
  simp only [zaz] at *
  simp [go_sem]
  refine ⟨_,_,c3,?_⟩
  simp [go_sem]
  exact ⟨by omega,(nx2 c τ2 3).1,(nx2 c τ2 3).2,s3,⟨rfl,rfl⟩,a.set 0 (nx1 c τ2 3),dA.set ⟨by omega,by omega⟩,by rw [List.length_set]; omega,zaP _ _ _⟩
 .by_cases v1:v=1
  .subst v1
   have c3:=zan c τ2 38 hc s2
   have s3:=zaH hc s2 38
   have b3:=zcn hc τ2 (n:=38) (by omega)
   obtain ⟨u,hu⟩:∃ u:Nat,nx1 c τ2 38=u:=⟨(nx1 c τ2 38).toNat,by omega⟩
   rw [hu] at c3 b3
   generalize nx2 c τ2 38=τ3 at *
   have c4:=zk8 c τ3 hc s3
   have s4:=zs1 hc s3
   have hs3:=s3
   simp only [zaz] at *
   simp [go_sem]
   refine ⟨_,_,c3,?_⟩
   simp [go_sem]
   refine ⟨_,_,c4,?_⟩
   simp [go_sem]
   exact ⟨by omega,by omega,(spV c τ3).2.1,(spV c τ3).2.2,s4,⟨rfl,rfl⟩,a.set u (spV c τ3).1,dA.set (zoz hc hs3),by rw [List.length_set]; omega,zaP _ _ _⟩
  .by_cases v2:v=2
   .subst v2
    simp [go_sem]
    refine ⟨τ2.1,τ2.2,s2,⟨rfl,rfl⟩,a.tail,⟨by rw [List.length_tail]; omega,by rw [List.length_tail]; omega,fun x hx=>dA.2.2 x (List.mem_of_mem_tail hx)⟩,by rw [List.length_tail]; omega,?_⟩
    have e:(avs a).tail=avs a.tail:=by unfold avs; rw [List.map_tail]
    rw [e,List.take_of_length_le (by rw [zss,List.length_tail]; omega)]
   .simp [go_sem,v0,v1,v2]
    exact ⟨τ2.1,τ2.2,s2,⟨rfl,rfl⟩,dA,l1.symm⟩
theorem DrM.n0 {a:List Int} (h:DrM 0 a):N38 a:=h.n38 ⟨by decide,by decide⟩
theorem zfQ (c:List Int) (σ:Src) (hc:Byt c) (hs:SOk σ) :
  RCon Tryz.prog 205 [srcA c σ] (fun r o=>∃ (τ:Src) (b:List Int),SOk τ/\o=[srcA c τ]/\DrM 0 b/\r=.own 2 38 (avs (expS b))):=by
 have cA:=zbZ 6 (by omega)
 have l6:=zaQ
 have e6:((6:Nat):Int)=6:=rfl
 rw [e6,l6] at cA
 have c1:=zhP c σ 0 hc hs ⟨by decide,by decide⟩
 have cC:=zfl
 have h7:AV.sl 38 (AV.sl 0 []::fcF)=.sl 38 s7F:=rfl
 rw [h7] at cC
 generalize hFC:s7F=FC at *
 simp only [zaz] at *
 refine zaC Tryz.mixed ⟨7,[],[1000000+183,1000000+212,2000000+261],[]⟩ [0] Tryz.func205 ?_
 rw [Tryz.ntmps205]
 simp [go_sem]
 refine CallVC.of (cA) ?_
 simp [go_sem]
 refine ⟨_,c1,?_⟩
 rintro _ _ ⟨τ0,a,s1,rfl,d1,rfl⟩
 have c2:=zan c τ0 4 hc s1
 have s2:=zaH hc s1 4
 simp only [zaz] at *
 simp [go_sem]
 refine ⟨_,_,c2,?_⟩
 simp [go_sem]
 generalize nx1 c τ0 4=v at *
 generalize nx2 c τ0 4=τ2 at *
 refine zac (4::6::List.range' 12 29) (fun x:List Int × Nat=>[(4,.own 2 38 (avs x.1)),(6,.int x.2)]) (fun x=>DrM 0 x.1/\x.2<=37) (fun x=>37-x.2) (a,0) ⟨d1,by simp only; omega⟩ (by simp [go_sem]) (by simp [go_sem]) ?_
 rintro ⟨b,i⟩ ⟨h1,h2⟩
 simp only at h1 h2
 by_cases hil:i<37
 .have hii:(i:Int)<37:=by omega
  have hl:i<(trN 6).length:=by omega
  have og:=zbF hl
  have e:=zhM hil
  have n1:=zm9 (i:=i+1) (by omega) (by omega)
  have n6:=zhe (i:=i+1) (by omega)
  have d0:=h1.set (i:=i+1) (x:=0) (by omega) ⟨by decide,by decide⟩
  have lb:=h1.1
  rw [e] at og
  generalize nd (i+1)=m at *
  generalize (trN 6)[i]?.getD []=t at *
  by_cases hm:m%2=0
  .have hmi:(m:Int).tmod 2=0:=by rw [Int.tmod_eq_emod_of_nonneg (by omega)]; omega
   simp -implicitDefEqProofs [go_sem,hii,og,hmi]
   refine ⟨⟨by omega,by omega⟩,⟨by omega,by omega⟩,by omega,⟨by omega,by omega⟩,b.set (i+1) 0,i+1,⟨d0,by omega⟩,by omega,zaa _ _ _ (by simp),?_⟩
   exact ⟨zaP _ _ _,by omega⟩
  .have hmi:¬ (m:Int).tmod 2=0:=by rw [Int.tmod_eq_emod_of_nonneg (by omega)]; omega
   by_cases hv:v=1
   .by_cases hm3:m=3
    .subst hm3
     simp -implicitDefEqProofs [go_sem,hii,og,hmi,hv]
     refine ⟨⟨by omega,by omega⟩,⟨by omega,by omega⟩,by omega,⟨by omega,by omega⟩,b.set (i+1) 0,i+1,⟨d0,by omega⟩,by omega,zaa _ _ _ (by simp),?_⟩
     exact ⟨zaP _ _ _,by omega⟩
    .have hm3i:¬ (m:Int)=3:=by omega
     simp -implicitDefEqProofs [go_sem,hii,og,hmi,hv,hm3i,hm3]
     exact ⟨⟨by omega,by omega⟩,b,i+1,⟨h1,by omega⟩,by omega,zaa _ _ _ (by simp),rfl,by omega⟩
   .simp -implicitDefEqProofs [go_sem,hii,og,hmi,hv]
    exact ⟨⟨by omega,by omega⟩,b,i+1,⟨h1,by omega⟩,by omega,zaa _ _ _ (by simp),rfl,by omega⟩
 .have ei:i=37:=by omega
  subst ei
  by_cases hv:0<v
  .have d0:=h1.set (i:=1) (x:=1) (by omega) ⟨by decide,by decide⟩
   have lb:=h1.1
   have cE:=zgL (b.set 1 1) d0.n0
   rw [d0.1,hFC] at cE
   simp [go_sem,hv]
   refine ⟨by omega,?_⟩
   rw [zaP]
   refine ⟨_,_,cC,?_⟩
   simp [go_sem]
   refine CallVC.of (cE) ?_
   simp [go_sem]
   exact ⟨τ2.1,τ2.2,s2,⟨rfl,rfl⟩,b.set 1 1,d0,rfl⟩
  .have cE:=zgL b h1.n0
   rw [h1.1,hFC] at cE
   simp [go_sem,hv]
   refine ⟨_,_,cC,?_⟩
   simp [go_sem]
   refine CallVC.of (cE) ?_
   simp [go_sem]
   exact ⟨τ2.1,τ2.2,s2,⟨rfl,rfl⟩,b,h1,rfl⟩
def DrG (g:List Int):Prop:=g.length<=10/\∀ x∈g,fits x
theorem DrG.ns {g:List Int} (hl:g.length<=10) (h:Ns g):DrG g:=⟨hl,fun x hx=>by have:=h x hx; exact ⟨by have:=this.1; omega,by have:=this.2; omega⟩⟩
end Go.Proofs.YthhdollpkieknaaGreat


namespace Go.Proofs.YthhdollpkieknaaGreat
open Go.Abs
end Go.Proofs.YthhdollpkieknaaGreat


namespace Go.Proofs.YthhdollpkieknaaGreat
open Go.Abs
end Go.Proofs.YthhdollpkieknaaGreat


namespace Go.Proofs.YthhdollpkieknaaGreat
open Go.Abs
theorem zmC (a:List Int) (ha:a.length<=9223372036854775807):Con Tryz.prog 129 [.sl a.length (avs a),.sl a.length (avs a)] (.int (ckC a)):=by
 have cM:=zls a ha
 unfold ckC
 by_cases hm:mapB a=true
 .rw [if_pos hm]
  rw [hm] at cM
  have hl:=(ze4 hm).1
  have na:¬ a=[]:=by rintro rfl; simp at hl
  have a0:=zae (a:=a) (v:=0) (by omega)
  rw [List.drop_zero] at a0
  by_cases h1:iat a 0=1
  .rw [if_pos h1]
   rw [h1] at a0
   refine zab Tryz.mixed ⟨5,[],[],[]⟩ Tryz.func129 ?_
   rw [Tryz.ntmps129]
   simp [go_sem]
   refine CallVC.of (cM) ?_
   simp [go_sem]
   refine CallVC.of (cM) ?_
   simp [go_sem]
   simp [go_sem,a0]
   exact ⟨by omega,na⟩
  .rw [if_neg h1]
   generalize iat a 0=x at *
   refine zab Tryz.mixed ⟨5,[],[],[]⟩ Tryz.func129 ?_
   rw [Tryz.ntmps129]
   simp [go_sem]
   refine CallVC.of (cM) ?_
   simp [go_sem]
   refine CallVC.of (cM) ?_
   simp [go_sem]
   simp [go_sem,a0,h1]
   exact ⟨by omega,na⟩
 .rw [if_neg hm]
  have hf:mapB a=false:=by simpa using hm
  rw [hf] at cM
  refine zab Tryz.mixed ⟨5,[],[],[]⟩ Tryz.func129 ?_
  rw [Tryz.ntmps129]
  simp [go_sem]
  refine CallVC.of (cM) ?_
  simp [go_sem]
theorem zfR (a b:List Int) (ha:Ch a) (hb:Ch b) :
  Con Tryz.prog 120 [.sl a.length (avs a),.sl b.length (avs b)] (.int (agS a b)):=by
 have la:=ha.1.1
 have lb:=hb.1.1
 have cA:=zbZ 6 (by omega)
 have l6:=zaQ
 have e6:((6:Nat):Int)=6:=rfl
 rw [e6,l6] at cA
 have a0:=ha.cons
 have b0:=hb.cons
 have na:=ha.1.ne
 have nb:=hb.1.ne
 have hA:agS a b=agI a b 37 1:=by
  unfold agS
  rw [agI,if_pos (ha.2.trans hb.2.symm)]
 refine zab Tryz.mixed ⟨7,[],[],[]⟩ Tryz.func120 ?_
 rw [Tryz.ntmps120]
 simp [go_sem]
 simp [go_sem,a0,b0]
 refine ⟨by kernel_rfl,⟨by omega,na⟩,by omega,?_⟩
 refine ⟨by kernel_rfl,?_⟩
 simp [go_sem]
 refine CallVC.of (cA) ?_
 simp [go_sem]
 refine zac (4::6::List.range' 15 23) (fun i:Nat=>[(6,.int i)]) (fun i=>i<=37/\agS a b=agI a b (37-i) (i+1)) (fun i=>37-i) 0 (by simp [hA]) (by simp [go_sem]) (by simp [go_sem]) ?_
 rintro i ⟨hi,hag⟩
 by_cases hil:i<37
 .have hii:(i:Int)<37:=by omega
  have da:=zae (a:=a) (v:=i+1) (by omega)
  have db:=zae (a:=b) (v:=i+1) (by omega)
  rw [a0,List.drop_succ_cons] at da
  rw [b0,List.drop_succ_cons] at db
  have og:=zbF (A:=trN 6) (k:=i) (by omega)
  rw [zhM hil] at og
  have n6:=zhe (i:=i+1) (by omega)
  obtain ⟨m,hm⟩:∃ m,37-i=m+1:=⟨36-i,by omega⟩
  rw [hm,agI] at hag
  have hm2:37-(i+1)=m:=by omega
  by_cases he:iat a (i+1)=iat b (i+1)
  .rw [if_pos he,<- hm2] at hag
   rw [he] at da
   generalize iat b (i+1)=x at *
   simp [go_sem,hii,da,db]
   refine ⟨by kernel_rfl,⟨by omega,by omega⟩,by omega,⟨by omega,by omega⟩,by omega,?_⟩
   refine ⟨by kernel_rfl,?_⟩
   simp [go_sem]
   refine ⟨⟨by omega,by omega⟩,i+1,⟨by omega,hag⟩,by omega,zaa _ _ _ (by simp),by omega⟩
  .rw [if_neg he] at hag
   generalize iat a (i+1)=x at *
   generalize iat b (i+1)=y at *
   generalize nd (i+1)=k at *
   simp [go_sem,hii,da,db]
   refine ⟨by kernel_rfl,⟨by omega,by omega⟩,by omega,⟨by omega,by omega⟩,by omega,?_⟩
   refine ⟨by kernel_rfl,?_⟩
   simp [go_sem]
   simp [go_sem,he,og]
   exact ⟨hii,⟨by omega,by omega⟩,hag.symm⟩
 .have e:i=37:=by omega
  subst e
  simp [go_sem]
  exact hag.symm
theorem N38.set {a:List Int} (h:N38 a) (i:Nat) (x:Int):N38 (a.set i (x%10007)):=⟨by rw [List.length_set]; exact h.1,fun y hy=>by
 rcases List.mem_or_eq_of_mem_set hy with hy | rfl
 .exact h.2 y hy
 .exact ⟨Int.emod_nonneg _ (by decide),Int.emod_lt_of_pos _ (by decide)⟩⟩
end Go.Proofs.YthhdollpkieknaaGreat


namespace Go.Proofs.YthhdollpkieknaaGreat
open Go.Abs
end Go.Proofs.YthhdollpkieknaaGreat


namespace Go.Proofs.YthhdollpkieknaaGreat
open Go.Abs
theorem zg9 (c:List Int) (σ:Src) (hc:Byt c) (hs:SOk σ) :
  RCon Tryz.prog 263 [srcA c σ,.int 3] (fun r o=>∃ (τ:Src) (A:List (List Int)) (B:List Int),SOk τ/\o=[srcA c τ,.any]/\Tb8 A B/\r=.agg [.own 25 A.length (omat A),.own 2 B.length (avs B)]):=by
 have c1:=zan c σ 3 hc hs
 have s1:=zaH hc hs 3
 have b1:=zcn hc σ (n:=3) (by omega)
 obtain ⟨N,hN⟩:∃ N:Nat,1+nx1 c σ 3=N:=⟨(1+nx1 c σ 3).toNat,by omega⟩
 generalize nx1 c σ 3=v at *
 generalize nx2 c σ 3=τ1 at *
 have N1:1<=N:=by omega
 have N8:N<=3:=by omega
 have c2:=zbI c τ1 N hc s1 (by omega)
 have L2:=zet (f:=nbV c) (fun σ h=>zbW hc h) N τ1 s1
 generalize lsV (nbV c) N τ1=r2 at *
 obtain ⟨B,τ2⟩:=r2
 simp only at L2 c2
 obtain ⟨lB,nB,s2⟩:=L2
 have hF:=zbA 1 2 ⟨by omega,by omega⟩ ⟨by omega,by omega⟩
 have nF:isN (1%10007*pw (2%10007) 10005%10007):=zak _
 generalize 1%10007*pw (2%10007) 10005%10007=h at *
 simp only [zaz] at c1 c2 |-
 refine zaC Tryz.mixed ⟨9,[],[1000000+183,1000000+221],[]⟩ [0] Tryz.func263 ?_
 rw [Tryz.ntmps263]
 simp [go_sem]
 refine ⟨_,_,c1,?_⟩
 simp [go_sem]
 refine ⟨⟨by omega,by omega⟩,?_⟩
 rw [hN]
 refine ⟨_,_,c2,?_⟩
 simp [go_sem]
 refine zac (5::6::7::8::List.range' 16 40) (fun A:List (List Int)=>[(5,.box 27 [ptM A,.own 2 N (avs B)]),(6,.int A.length)]) (fun A=>A.length<=N/\∀ r∈A,r.length=N/\Ns r) (fun A=>N-A.length) [] ⟨by simp,by simp⟩ (by simp [go_sem,zdU]) (by simp [go_sem]) ?_
 rintro A ⟨h2,h3⟩
 by_cases hA:A.length<N
 .have hAi:(A.length:Int)<N:=by omega
  have z0:avs (List.replicate N 0)=List.replicate N (.int 0):=by simp [avs]
  simp [go_sem,hAi]
  refine ⟨⟨by omega,by omega⟩,?_⟩
  refine zac (7::8::List.range' 27 13) (fun x:List Int × Nat=>[(7,.own 2 N (avs x.1)),(8,.int x.2)]) (fun x=>x.1.length=N/\Ns x.1/\x.2<=A.length) (fun x=>A.length-x.2) (List.replicate N 0,0) ⟨by simp,fun x hx=>by rw [List.mem_replicate] at hx; rw [hx.2]; exact ⟨by omega,by omega⟩,by omega⟩ (by simp [go_sem,z0]) (by simp [go_sem]) ?_
  rintro ⟨row,k⟩ ⟨g1,g2,g3⟩
  simp only at g1 g2 g3
  by_cases hk:k<A.length
  .have hki:(k:Int)<A.length:=by omega
   have gB:=zbC (xs:=B) (k:=k) (by omega)
   have nb:=nB.get k
   have hS:=zaP row k (B[k]?.getD 0)
   generalize B[k]?.getD 0=y at *
   simp [go_sem,hki,gB]
   exact ⟨by omega,by omega,⟨by omega,by omega⟩,row.set k y,k+1,⟨by simpa using g1,Ns.set g2 k nb,by omega⟩,by omega,zaa _ _ _ (by simp),hS,by omega⟩
  .have e:k=A.length:=by omega
   subst e
   have hb:A.length<B.length:=by omega
   have gB:=zbC (xs:=B) (k:=A.length) hb
   have nb:=nB.get A.length
   have cM:=zaO (B[A.length]?.getD 0) h (zay nb nF)
   have nM:isN (B[A.length]?.getD 0*h%10007):=zak _
   generalize B[A.length]?.getD 0*h%10007=q at *
   have hS:=zaP row A.length q
   generalize B[A.length]?.getD 0=y at *
   simp [go_sem]
   refine ⟨by kernel_rfl,?_⟩
   simp [go_sem,gB]
   refine ⟨hA,?_⟩
   refine CallD.of (hF) ?_
   simp [go_sem]
   refine CallD.of (cM) ?_
   simp [go_sem]
   refine ⟨hA,by omega,?_⟩
   refine ⟨by kernel_rfl,?_⟩
   simp [go_sem]
   rw [hS]
   have g4:(row.set A.length q).length=N:=by simpa using g1
   have g5:=Ns.set g2 A.length nM
   generalize row.set A.length q=row at *
   have h3':∀ r∈A++[row],r.length=N/\Ns r:=fun r hr=>by
    rcases List.mem_append.1 hr with hr | hr
    .exact h3 r hr
    .simp at hr; subst hr; exact ⟨g4,g5⟩
   have os:omat (A++[row])=omat A++[.own 2 N (avs row)]:=by rw [zbu,za8,g4]
   rcases A with _ | ⟨r0,A⟩
   .simp [go_sem,zdU]
    refine ⟨[row],⟨by simp; omega,by simpa using h3'⟩,by simp; omega,(Off.reset (by intro x hx; simp at hx |-; omega) (by simp) (by simp [go_sem,zaa])),?_⟩
    simp [zc2,za8,g4]
   .simp only [List.length_cons] at hA h2 hAi
    have e5:ptM (r0::A++[row])=.own 25 (A.length+1+1) (omat (r0::A)++[.own 2 N (avs row)]):=by
     show AV.own _ ((A++[row]).length+1) (omat (r0::A++[row]))=_
     rw [os,List.length_append]; rfl
    simp [go_sem,zc2]
    exact ⟨⟨by omega,by omega⟩,⟨by omega,by omega⟩,r0::A++[row],⟨by simp; omega,h3'⟩,by simp; omega,(Off.reset (by intro x hx; simp at hx |-; omega) (by simp) (by simp [go_sem,zaa])),e5.symm,by simp⟩
 .have e:A.length=N:=by omega
  have hpt:=ziR (A:=A) (by omega)
  rw [hpt,e]
  simp [go_sem]
  exact ⟨τ2.1,τ2.2,s2,⟨rfl,rfl⟩,A,B,⟨by omega,by omega,by omega,nB,fun r hr=>by rw [lB]; exact h3 r hr⟩,⟨e.symm,rfl⟩,lB.symm,rfl⟩
theorem zfz (c:List Int) (σ:Src) (hc:Byt c) (hs:SOk σ) :
  RCon Tryz.prog 206 [srcA c σ] (fun r o=>∃ (τ:Src) (a:List Int),SOk τ/\o=[srcA c τ]/\N38 a/\r=.own 2 38 (avs a)):=by
 have c1:=zan c σ 3 hc hs
 have s1:=zaH hc hs 3
 generalize nx1 c σ 3=v at *
 generalize nx2 c σ 3=τ1 at *
 have cD:=zg9 c τ1 hc s1
 have c2:=zbI c τ1 10 hc s1 (by omega)
 have L2:=zet (f:=nbV c) (fun σ h=>zbW hc h) 10 τ1 s1
 have e10:((10:Nat):Int)=10:=rfl
 rw [e10] at c2
 generalize lsV (nbV c) 10 τ1=r2 at *
 obtain ⟨B,τ2⟩:=r2
 simp only at L2 c2
 obtain ⟨lB,nB,s2⟩:=L2
 have c3:=zan c τ2 2 hc s2
 have s3:=zaH hc s2 2
 have cC:=zfl
 have h7:AV.sl 38 (AV.sl 0 []::fcF)=.sl 38 s7F:=rfl
 rw [h7] at cC
 have cE:=fun l=>zgL (mk12 l) (zqQ l)
 have lM:=fun l=>(zqQ l).1
 simp only [lM] at cE
 generalize s7F=FC at *
 generalize nx1 c τ2 2=u at *
 generalize nx2 c τ2 2=τ3 at *
 simp only [zaz] at *
 refine zaC Tryz.mixed ⟨5,[],[1000000+183,1000000+221,1000000+212,2000000+263],[]⟩ [0] Tryz.func206 ?_
 rw [Tryz.ntmps206]
 simp [go_sem]
 refine ⟨_,_,c1,?_⟩
 simp [go_sem]
 by_cases hv:v=0
 .simp [go_sem,hv]
  refine ⟨_,cD,?_⟩
  rintro _ _ ⟨τ,A,B',s9,rfl,hT,rfl⟩
  have cH:=zde A B' hT
  have nH:=zqx A B'
  generalize chr6 A B'=X at *
  simp [go_sem]
  refine CallVC.of (cH) ?_
  simp [go_sem]
  exact ⟨τ.1,τ.2,s9,⟨rfl,rfl⟩,nH⟩
 .simp [go_sem,hv]
  refine ⟨_,_,c2,?_⟩
  simp [go_sem]
  refine ⟨_,_,c3,?_⟩
  simp [go_sem]
  by_cases hu:u=0
  .simp [go_sem,hu]
   refine ⟨by omega,?_⟩
   have g0:(B.set 0 1).length=10/\Ns (B.set 0 1):=⟨by simpa using lB,Ns.set nB 0 ⟨by omega,by omega⟩⟩
   have hS:=zaP B 0 1
   rw [hS]
   generalize B.set 0 1=B0 at *
   refine zac (0::3::4::List.range' 18 14) (fun x:Src × List Int × Nat=>[(0,.box 162 [.sl c.length (bys c),.int x.1.1,.val (.int .u64 x.1.2)]),(3,.own 2 10 (avs x.2.1)),(4,.int x.2.2)]) (fun x=>SOk x.1/\(x.2.1.length=10/\Ns x.2.1)/\x.2.2<=10) (fun x=>10-x.2.2) (τ3,B0,1) ⟨s3,g0,by simp only; omega⟩ (by simp [go_sem]) (by simp [go_sem]) ?_
   rintro ⟨τ,l,k⟩ ⟨h1,⟨h2,h3⟩,h4⟩
   simp only at h1 h2 h3 h4
   by_cases hk:k<10
   .have hki:(k:Int)<10:=by omega
    have c6:=zan c τ 4 hc h1
    have s6:=zaH hc h1 4
    generalize nx1 c τ 4=w at *
    generalize nx2 c τ 4=τ6 at *
    simp only [zaz] at c6
    simp [go_sem,hki]
    refine ⟨_,_,c6,?_⟩
    simp [go_sem]
    have hS:=zaP l k 0
    by_cases hw:0<w
    .simp [go_sem,hw]
     exact ⟨by omega,by omega,⟨by omega,by omega⟩,τ6.1,τ6.2,l.set k 0,k+1,⟨s6,⟨by simpa using h2,Ns.set h3 k ⟨by omega,by omega⟩⟩,by omega⟩,by omega,zaa _ _ _ (by simp),⟨rfl,rfl⟩,hS,by omega⟩
    .have cM:=zfs l h2 h3
     rw [h2] at cM
     simp [go_sem,hw]
     refine ⟨_,_,cC,?_⟩
     simp [go_sem]
     refine CallVC.of (cM) ?_
     simp [go_sem]
     refine CallVC.of ((cE l)) ?_
     simp [go_sem]
     exact ⟨τ6.1,τ6.2,s6,⟨rfl,rfl⟩,(zeT _).1⟩
   .have e:k=10:=by omega
    subst e
    have cM:=zfs l h2 h3
    rw [h2] at cM
    simp [go_sem]
    refine ⟨_,_,cC,?_⟩
    simp [go_sem]
    refine CallVC.of (cM) ?_
    simp [go_sem]
    refine CallVC.of ((cE l)) ?_
    simp [go_sem]
    exact ⟨τ.1,τ.2,h1,⟨rfl,rfl⟩,(zeT _).1⟩
  .have cM:=zfs B lB nB
   rw [lB] at cM
   simp [go_sem,hu]
   refine ⟨_,_,cC,?_⟩
   simp [go_sem]
   refine CallVC.of (cM) ?_
   simp [go_sem]
   refine CallVC.of ((cE B)) ?_
   simp [go_sem]
   exact ⟨τ3.1,τ3.2,s3,⟨rfl,rfl⟩,(zeT _).1⟩
theorem N38.dra {a:List Int} (h:N38 a):DrA a:=⟨by rw [h.1]; omega,by rw [h.1]; omega,fun x hx=>by
 have:=h.2 x hx
 exact ⟨by omega,by omega⟩⟩
theorem zms (c:List Int) (σ:Src) (hc:Byt c) (hs:SOk σ) :
  RCon Tryz.prog 114 [srcA c σ] (fun r o=>∃ (τ:Src) (a:List Int),SOk τ/\o=[srcA c τ]/\DrA a/\(r=.sl a.length (avs a)\/r=.own 2 a.length (avs a))):=by
 have c1:=zan c σ 5 hc hs
 have s1:=zaH hc hs 5
 generalize nx1 c σ 5=v at *
 generalize nx2 c σ 5=τ1 at *
 have c2:=zmQ c τ1 4 hc s1 (by omega) (by omega)
 have c3:=zfQ c τ1 hc s1
 have c4:=zfz c τ1 hc s1
 have c5:=zhG c τ1 hc s1
 simp only [zaz] at *
 refine zaC Tryz.mixed ⟨3,[],[1000000+183,2000000+204,2000000+205,2000000+206,2000000+207],[]⟩ [0] Tryz.func114 ?_
 rw [Tryz.ntmps114]
 simp [go_sem]
 refine ⟨_,_,c1,?_⟩
 simp [go_sem]
 by_cases v0:v=0
 .simp [go_sem,v0]
  refine ⟨_,c2,?_⟩
  rintro _ _ ⟨τ,A,B,s9,rfl,hT,rfl⟩
  have cH:=zde A B hT
  have nH:=zqx A B
  generalize chr6 A B=X at *
  simp [go_sem]
  refine CallVC.of (cH) ?_
  simp [go_sem]
  exact ⟨τ.1,τ.2,s9,⟨rfl,rfl⟩,nH.dra,nH.1.symm⟩
 .by_cases v1:v=1
  .simp [go_sem,v0,v1]
   refine ⟨_,c3,?_⟩
   rintro _ _ ⟨τ,b,s9,rfl,d,rfl⟩
   have nE:=(zeT b).1
   simp [go_sem]
   exact ⟨τ.1,τ.2,s9,⟨rfl,rfl⟩,nE.dra,nE.1.symm⟩
  .by_cases v2:v=2
   .simp [go_sem,v0,v1,v2]
    refine ⟨_,c4,?_⟩
    rintro _ _ ⟨τ,b,s9,rfl,nE,rfl⟩
    simp [go_sem]
    exact ⟨τ.1,τ.2,s9,⟨rfl,rfl⟩,nE.dra,nE.1.symm⟩
   .simp [go_sem,v0,v1,v2]
    refine ⟨_,c5,?_⟩
    rintro _ _ ⟨τ,b,s9,rfl,nE,rfl | rfl⟩
    .simp [go_sem]
     exact ⟨τ.1,τ.2,s9,⟨rfl,rfl⟩,nE⟩
    .simp [go_sem]
     exact ⟨τ.1,τ.2,s9,⟨rfl,rfl⟩,nE⟩
theorem zdb (c:List Int) (hc:Byt c) :
  RCon Tryz.prog 38 [.sl c.length (bys c)] (fun r o=>o=[.any]/\∃ (a:List Int) (k:Int) (x:AV),DrA a/\fits k/\(x=.sl a.length (avs a)\/x=.own 2 a.length (avs a))/\r=.tup [x,.int k]):=by
 have c0:=zly c hc
 simp only [zaz] at *
 refine zaC Tryz.mixed ⟨5,[],[1000000+98,2000000+96,2000000+114],[]⟩ [] Tryz.func38 ?_
 rw [Tryz.ntmps38]
 simp [go_sem]
 refine ⟨_,c0,?_⟩
 rintro _ _ ⟨rfl,h,rfl⟩
 have s0:SOk ((0,h):Src):=by unfold SOk; simp
 have c1:=zms c (0,h) hc s0
 simp only [zaz] at *
 simp [go_sem]
 refine ⟨_,c1,?_⟩
 have two:∀ (τ:Src) (a:List Int),SOk τ->fits (pk c τ [2,2,3,3,4,5,100,1,101]):=fun τ a hs=>by
  unfold pk
  have:∀ x∈[(2:Int),2,3,3,4,5,100,1,101],fits x:=by
   intro x hx
   simp only [List.mem_cons,List.not_mem_nil,or_false] at hx
   rcases hx with rfl | rfl | rfl | rfl | rfl | rfl | rfl | rfl | rfl <;> exact ⟨by decide,by decide⟩
  rcases h:[(2:Int),2,3,3,4,5,100,1,101][(nx1 c τ ([(2:Int),2,3,3,4,5,100,1,101].length:Int)).toNat]? with _ | x
  .exact ⟨by decide,by decide⟩
  .exact this x (List.mem_of_getElem? h)
 rintro _ _ ⟨τ,a,s2,rfl,d,rfl | rfl⟩
 .have cP:=zdt c τ [2,2,3,3,4,5,100,1,101] hc s2 (by decide) (by decide)
  have f:=two τ a s2
  generalize pk c τ [2,2,3,3,4,5,100,1,101]=k at *
  simp only [zaz] at cP
  simp [go_sem]
  refine ⟨_,_,cP,?_⟩
  simp [go_sem]
  exact ⟨a,d,f,rfl,rfl⟩
 .have cP:=zdt c τ [2,2,3,3,4,5,100,1,101] hc s2 (by decide) (by decide)
  have f:=two τ a s2
  generalize pk c τ [2,2,3,3,4,5,100,1,101]=k at *
  simp only [zaz] at cP
  simp [go_sem]
  refine ⟨_,_,cP,?_⟩
  simp [go_sem]
  exact ⟨a,d,f,rfl,rfl⟩
theorem zdc (c:List Int) (hc:Byt c) :
  RCon Tryz.prog 38 [.sl c.length (bys c)] (fun r o=>o=[.any]/\∃ (a:List Int) (k:Int),DrA a/\fits k/\r=.tup [.sl a.length (avs a),.int k]):=by
 refine (RCon.fz (zdb c hc)).mono ?_
 rintro r o ⟨r0,⟨ho,a,k,x,h1,h2,hr,rfl⟩,rfl⟩
 refine ⟨ho,a,k,h1,h2,?_⟩
 rcases hr with rfl | rfl <;> simp [frz,frzL]
end Go.Proofs.YthhdollpkieknaaGreat


namespace Go.Proofs.YthhdollpkieknaaGreat
open Go.Abs
end Go.Proofs.YthhdollpkieknaaGreat


namespace Go.Proofs.YthhdollpkieknaaGreat
open Go.Abs
theorem zof (a:List Int) (ha:a.length<=9223372036854775807):Con Tryz.prog 47 [.sl a.length (avs a)] (.bool (decide (a.length=38))):=by
 have e:(decide (a.length=38))=decide ((a.length:Int)=38):=by congr 1; simp; omega
 rw [e]
 refine zab Tryz.mixed ⟨3,[],[],[]⟩ Tryz.func47 ?_
 rw [Tryz.ntmps47]
 simp [go_sem]
theorem ztQ (n:Int) (h0 : -9223372036854775808<=n) (h1:n<=9223372036854775807):Con Tryz.prog 133 [.int n] (.int (n%10007)):=by
 have e:=zi8 n
 have b:=zit n
 refine zab Tryz.mixed ⟨3,[],[],[]⟩ Tryz.func133 ?_
 rw [Tryz.ntmps133]
 simp [go_sem]
 simp [go_sem,e]
 omega
end Go.Proofs.YthhdollpkieknaaGreat


namespace Go.Proofs.YthhdollpkieknaaGreat
def kpS (n:Int) (a:List Int):List Int:=mk38 fun i=>if (nd i:Int)=n then iat a i else 0
def dfS (a b:List Int) (k:Int):List Int:=mk38 fun i=>iat a i+k%10007*iat b i
def mlS (a:List Int) (k:Int):List Int:=mk38 fun i=>iat a i*(k%10007)
def feS (a:List Int):List Int:=kpS (agS a exaS+1) (dfS a exaS (-1))
def zrS:List Int:=mk38 fun _=>0
theorem zqs {n:Int} {a:List Int} {i:Nat} (h:i<38):iat (kpS n a) i=(if (nd i:Int)=n then iat a i else 0)%10007:=za9 _ h
theorem zku {a b:List Int} {k:Int} {i:Nat} (h:i<38):iat (dfS a b k) i=(iat a i+k%10007*iat b i)%10007:=za9 _ h
theorem zlx {a:List Int} {k:Int} {i:Nat} (h:i<38):iat (mlS a k) i=iat a i*(k%10007)%10007:=za9 _ h
theorem zqw {i:Nat} (h:i<38):iat zrS i=0:=za9 _ h
theorem md_w {x y:Int}:x%10007=y%10007 ↔ ∃ t,x=y+10007*t:=by
 constructor
 .intro h
  exact ⟨(x-y) / 10007,by omega⟩
 .rintro ⟨t,rfl⟩; omega
theorem zqU {w Q v e a r:Int} (h1:w*Q%10007=1) (h2:(w-1)*v%10007=1) (h3:r%10007=(e+Q*(a-e))%10007):((r*(w%10007)%10007 + -1%10007*a)%10007*(v%10007))%10007=e%10007:=by
 obtain ⟨s,hs⟩:=(md_w (x:=w*Q) (y:=1)).1 (by omega)
 obtain ⟨t,ht⟩:=(md_w (x:=(w-1)*v) (y:=1)).1 (by omega)
 obtain ⟨u,hu⟩:=md_w.1 h3
 have k1:((r*(w%10007)%10007 + -1%10007*a)%10007*(v%10007))%10007=(r*w + -1*a)*v%10007:=by
  refine zag ?_ (Int.emod_emod_of_dvd _ (Int.dvd_refl _))
  rw [Int.emod_emod_of_dvd _ (Int.dvd_refl _)]
  refine zbt ?_ (zag (by decide) rfl)
  rw [Int.emod_emod_of_dvd _ (Int.dvd_refl _)]
  exact zag rfl (Int.emod_emod_of_dvd _ (Int.dvd_refl _))
 rw [k1]
 refine md_w.2 ⟨e*t+(s*(a-e)+w*u)*v,?_⟩
 grind
theorem zph {w v e r:Int} (h2:(w-1)*v%10007=1) (h3:r%10007=e%10007):((r*(w%10007)%10007 + -1%10007*e)%10007*(v%10007))%10007=e%10007:=by
 obtain ⟨t,ht⟩:=(md_w (x:=(w-1)*v) (y:=1)).1 (by omega)
 obtain ⟨u,hu⟩:=md_w.1 h3
 have k1:((r*(w%10007)%10007 + -1%10007*e)%10007*(v%10007))%10007=(r*w + -1*e)*v%10007:=by
  refine zag ?_ (Int.emod_emod_of_dvd _ (Int.dvd_refl _))
  rw [Int.emod_emod_of_dvd _ (Int.dvd_refl _)]
  refine zbt ?_ (zag (by decide) rfl)
  rw [Int.emod_emod_of_dvd _ (Int.dvd_refl _)]
  exact zag rfl (Int.emod_emod_of_dvd _ (Int.dvd_refl _))
 rw [k1]
 refine md_w.2 ⟨e*t+w*u*v,?_⟩
 grind
def xtS (a:List Int) (k:Nat) (q w v:Int):List Int:=mlS (dfS (mlS (pwrS (scS q a) k) w) a (-1)) v
theorem zvj (a:List Int) (k:Nat) (q w v:Int):N38 (xtS a k q w v):=zbc _
theorem zgM {k:Nat} {q:Int} (hq:(k:Int)*q%10007=1) (p:Nat):(k:Int) ^ p*q ^ p%10007=1:=by
 rw [<- Int.mul_pow]
 have:=zg0 (a:=(k:Int)*q) (b:=1) (by rw [hq]; rfl) p
 rw [Int.one_pow] at this
 exact this
theorem zrt {a:List Int} (ha:Ch a) {k:Nat} {q w v:Int} (hq:(k:Int)*q%10007=1) (hw:w%10007=(k:Int) ^ (agS a exaS).toNat%10007) (hv:(w-1)*v%10007=1) (hp:1<=agS a exaS) :
  (min (agS a exaS+1) 6<=agS (xtS a k q w v) exaS)/\(Sym a->min (agS a exaS+2) 6<=agS (xtS a k q w v) exaS):=by
 obtain ⟨b0,b6⟩:=zdf ha zal
 obtain ⟨p,hpe⟩:∃ p:Nat,agS a exaS=p:=⟨(agS a exaS).toNat,by omega⟩
 have sym:=zrF ha
 have hg:Agr a exaS p:=zfp (by omega)
 rw [hpe] at hw sym hp b6 |-
 rw [Int.toNat_natCast] at hw
 obtain ⟨f1,f2,f3⟩:=zgR ha hg hq
 have hwq:w*q ^ p%10007=1:=by rw [zag hw (rfl:q ^ p%10007=q ^ p%10007)]; exact zgM hq p
 have at_:∀ i,i<38->iat (xtS a k q w v) i=((iat (pwrS (scS q a) k) i*(w%10007)%10007 + -1%10007*iat a i)%10007*(v%10007))%10007:=fun i hi=>by
  unfold xtS
  rw [zlx hi,zku hi,zlx hi]
 have rg:∀ i,iat exaS i%10007=iat exaS i:=fun i=>by have:=zal.1.at i; omega
 have low:∀ i,i<38->nd i<=p->iat (xtS a k q w v) i=iat exaS i:=fun i hi hl=>by
  rw [at_ i hi,hg i hi hl,zph hv (by rw [f1 i hi hl]),rg]
 have mid:∀ i,i<38->nd i=p+1->iat (xtS a k q w v) i=iat exaS i:=fun i hi hl=>by
  rw [at_ i hi,zqU hwq hv (f2 i hi hl),rg]
 have A1:Agr (xtS a k q w v) exaS (p+1):=fun i hi hl=>by
  rcases Nat.lt_or_ge (nd i) (p+1) with h | h
  .exact low i hi (by omega)
  .exact mid i hi (by omega)
 have fin:∀ n:Nat,Agr (xtS a k q w v) exaS n->min (n:Int) 6<=agS (xtS a k q w v) exaS:=fun n h=>by
  by_cases h6:n<=6
  .have:=zht h h6; omega
  .have:=zht (n:=6) (fun i hi hl=>h i hi (by omega)) (by omega); omega
 refine ⟨by have:=fin _ A1; omega,fun sa=>?_⟩
 have s:=sym sa
 have:=fin (p+2) fun i hi hl=>by
  rcases Nat.lt_or_ge (nd i) (p+2) with h | h
  .exact A1 i hi (by omega)
  .rw [at_ i hi,zqU hwq hv (f3 sa (by omega) (by omega) i hi (by omega)),rg]
 omega
theorem zkz {a:List Int} (ha:Ch a) (hp:agS a exaS<6):∃ j,j<38/\(nd j:Int)=agS a exaS+1/\iat a j≠iat exaS j:=by
 rcases zez a exaS with ⟨h,_⟩ | ⟨j,h1,h2,h3,_⟩
 .omega
 .exact ⟨j,h1,by omega,h2⟩
theorem znn {a:List Int} {i:Nat} (hi:i<38):iat (feS a) i=if (nd i:Int)=agS a exaS+1 then (iat a i + -1*iat exaS i)%10007 else 0:=by
 unfold feS
 rw [zqs hi,zku hi]
 split
 .rw [Int.emod_emod_of_dvd _ (Int.dvd_refl _)]
  exact zbt rfl (zag (by decide) rfl)
 .rfl
theorem zvG {a:List Int} (ha:Ch a) (hp:agS a exaS<6):feS a≠zrS:=by
 obtain ⟨j,h1,h2,h3⟩:=zkz ha hp
 intro h
 have e:=znn (a:=a) h1
 rw [if_pos h2,h,zqw h1] at e
 have:=ha.1.at j
 have:=zal.1.at j
 omega
theorem zks {a:List Int} (ha:Ch a) {k:Nat} {q:Int} (hq:(k:Int)*q%10007=1) (hp:agS a exaS<6):agS (pwrS (scS q a) k) exaS=agS a exaS:=by
 obtain ⟨b0,b6⟩:=zdf ha zal
 obtain ⟨p,hpe⟩:∃ p:Nat,agS a exaS=p:=⟨(agS a exaS).toNat,by omega⟩
 obtain ⟨j,h1,h2,h3⟩:=zkz ha hp
 have hg:Agr a exaS p:=zfp (by omega)
 obtain ⟨f1,f2,f3⟩:=zgR ha hg hq
 have lo:=zht f1 (by omega)
 rw [hpe] at h2 |-
 by_cases hlt:(p:Int)<agS (pwrS (scS q a) k) exaS
 .exfalso
  have hA:Agr (pwrS (scS q a) k) exaS (p+1):=zfp (by omega)
  have e1:=hA j h1 (by omega)
  have e2:=f2 j h1 (by omega)
  rw [e1] at e2
  obtain ⟨s,hs⟩:=(md_w (x:=(k:Int) ^ p*q ^ p) (y:=1)).1 (by rw [zgM hq p]; rfl)
  obtain ⟨u,hu⟩:=md_w.1 e2
  have z:(iat a j-iat exaS j)%10007=0%10007:=by
   refine md_w.2 ⟨-s*(iat a j-iat exaS j)-(k:Int) ^ p*u,?_⟩
   grind
  have:=ha.1.at j
  have:=zal.1.at j
  omega
 .omega
theorem zsB {a:List Int} (ha:Ch a) {k:Nat} {q w:Int} (hq:(k:Int)*q%10007=1) (hw:w%10007=(k:Int) ^ (agS a exaS).toNat%10007) (hp:agS a exaS<6) :
  dfS zrS (mlS (feS (pwrS (scS q a) k)) w) 1=feS a:=by
 have ho:=zks ha hq hp
 obtain ⟨b0,b6⟩:=zdf ha zal
 obtain ⟨p,hpe⟩:∃ p:Nat,agS a exaS=p:=⟨(agS a exaS).toNat,by omega⟩
 have hg:Agr a exaS p:=zfp (by omega)
 rw [hpe,Int.toNat_natCast] at hw
 obtain ⟨f1,f2,f3⟩:=zgR ha hg hq
 have hwq:w*q ^ p%10007=1:=by rw [zag hw (rfl:q ^ p%10007=q ^ p%10007)]; exact zgM hq p
 refine N38.ext (zbc _) (zbc _) fun i hi=>?_
 show iat (dfS _ _ _) i%10007=iat (feS a) i%10007
 rw [zku hi,zlx hi,znn hi,znn hi,ho,zqw hi,hpe]
 by_cases hn:(nd i:Int)=p+1
 .rw [if_pos hn,if_pos hn]
  obtain ⟨s,hs⟩:=(md_w (x:=w*q ^ p) (y:=1)).1 (by omega)
  obtain ⟨u,hu⟩:=md_w.1 (f2 i hi (by omega))
  have k1:(0+1%10007*((iat (pwrS (scS q a) k) i + -1*iat exaS i)%10007*(w%10007)%10007))%10007%10007=((iat (pwrS (scS q a) k) i + -1*iat exaS i)*w)%10007:=by
   rw [show (1:Int)%10007=1 by decide,Int.one_mul,Int.zero_add]
   simp only [Int.emod_emod_of_dvd _ (Int.dvd_refl _)]
   exact zag (Int.emod_emod_of_dvd _ (Int.dvd_refl _)) (Int.emod_emod_of_dvd _ (Int.dvd_refl _))
  rw [k1,Int.emod_emod_of_dvd _ (Int.dvd_refl _)]
  refine md_w.2 ⟨s*(iat a i-iat exaS i)+u*w,?_⟩
  grind
 .rw [if_neg hn,if_neg hn]; simp
end Go.Proofs.YthhdollpkieknaaGreat


namespace Go.Proofs.YthhdollpkieknaaGreat
open Go.Abs
theorem zoR {a:List Int} (h:a.length=38) (b:List Int) (k:Int):zmr a b k=dfS a b k:=by
 unfold zmr dfS mk38 iat tb
 rw [h]
theorem zp1 {a:List Int} (h:a.length=38) (k:Int):znz a k=mlS a k:=by
 unfold znz mlS mk38 iat tb
 rw [h]
theorem zod (a b:List Int) (k:Int):N38 (dfS a b k):=zbc _
theorem zo1 (a:List Int) (k:Int):N38 (mlS a k):=zbc _
theorem ziy (n:Int) (a:List Int):N38 (kpS n a):=zbc _
theorem zgp (a b:List Int) (k:Int) (ha:N38 a) (hb:N38 b) (hk:fits k):Con Tryz.prog 84 [.sl a.length (avs a),.sl b.length (avs b),.int k] (.own 2 38 (avs (dfS a b k))):=by
 have h:=zsY a b k ha.Ns hb.Ns hk (by rw [ha.1]; omega) (by rw [ha.1,hb.1]; omega)
 rw [zoR ha.1] at h
 simpa only [ha.1] using h
theorem zdX (a:List Int) (k:Int) (ha:N38 a) (hk:fits k):Con Tryz.prog 79 [.sl a.length (avs a),.int k] (.own 2 38 (avs (mlS a k))):=by
 have h:=zpE a k ha.Ns hk (by rw [ha.1]; omega)
 rw [zp1 ha.1] at h
 simpa only [ha.1] using h
def rfC (a:List Int) (k m:Int):Int:=if mapB a=true then (if (decide (m<=k) && decide (k<=100))=true then (if iat a 0=1 then 0 else 5) else 2) else 1
theorem zh6 {a:List Int} {k m:Int} (h:rfC a k m=0):Ch a/\m<=k/\k<=100:=by
 unfold rfC at h
 split at h
 .rename_i hm
  split at h
  .rename_i h2
   rw [Bool.and_eq_true,decide_eq_true_eq,decide_eq_true_eq] at h2
   split at h
   .rename_i h1; exact ⟨⟨ze4 hm,h1⟩,h2⟩
   .omega
  .omega
 .omega
theorem zq1 {a:List Int} {k:Int} (h:rfC a k 2=0):rfC a k 1=0:=by
 obtain ⟨h1,h2,h3⟩:=zh6 h
 unfold rfC
 rw [if_pos h1.1.mapB,if_pos (by simp; omega),if_pos h1.2]
theorem zdQ (a:List Int) (k m:Int) (ha:a.length<=9223372036854775807):Con Tryz.prog 115 [.sl a.length (avs a),.int k,.int m] (.int (rfC a k m)):=by
 have cM:=zdr a ha
 have cI:=ze0 k m 100
 unfold rfC
 by_cases hm:mapB a=true
 .rw [if_pos hm]
  rw [hm] at cM
  have hl:=(ze4 hm).1
  have na:¬ a=[]:=by rintro rfl; simp at hl
  have a0:=zae (a:=a) (v:=0) (by omega)
  rw [List.drop_zero] at a0
  by_cases h2:(decide (m<=k) && decide (k<=100))=true
  .rw [if_pos h2]
   rw [h2] at cI
   by_cases h1:iat a 0=1
   .rw [if_pos h1]
    rw [h1] at a0
    refine zab Tryz.mixed ⟨7,[],[],[]⟩ Tryz.func115 ?_
    rw [Tryz.ntmps115]
    simp [go_sem]
    refine CallVC.of (cM) ?_
    simp [go_sem]
    refine CallVC.of (cI) ?_
    simp [go_sem]
    simp [go_sem,a0]
    exact ⟨by omega,na⟩
   .rw [if_neg h1]
    generalize iat a 0=x at *
    refine zab Tryz.mixed ⟨7,[],[],[]⟩ Tryz.func115 ?_
    rw [Tryz.ntmps115]
    simp [go_sem]
    refine CallVC.of (cM) ?_
    simp [go_sem]
    refine CallVC.of (cI) ?_
    simp [go_sem]
    simp [go_sem,a0,h1]
    exact ⟨by omega,na⟩
  .rw [if_neg h2]
   have hf:(decide (m<=k) && decide (k<=100))=false:=by simpa using h2
   rw [hf] at cI
   refine zab Tryz.mixed ⟨7,[],[],[]⟩ Tryz.func115 ?_
   rw [Tryz.ntmps115]
   simp [go_sem]
   refine CallVC.of (cM) ?_
   simp [go_sem]
   refine CallVC.of (cI) ?_
   simp [go_sem]
 .rw [if_neg hm]
  have hf:mapB a=false:=by simpa using hm
  rw [hf] at cM
  refine zab Tryz.mixed ⟨7,[],[],[]⟩ Tryz.func115 ?_
  rw [Tryz.ntmps115]
  simp [go_sem]
  refine CallVC.of (cM) ?_
  simp [go_sem]
def rfS (a:List Int) (k:Nat):List Int:=pwrS (scS (pw k 10005) a) k
theorem ztM (a:List Int) (k:Nat):N38 (rfS a k):=zj2 _ _
theorem zsk {k:Nat} (h1:1<=k) (h2:k<=100):(k:Int)*pw k 10005%10007=1:=zqf ⟨by omega,by omega⟩ (by omega)
theorem zh5 (a:List Int) (k:Nat) (ha:N38 a) (hk:k<=100) :
  Con Tryz.prog 117 [.agg [.sl 37 (mat (trN 6)),.sl 37 fcF],.sl a.length (avs a),.int k] (.own 2 38 (avs (rfS a k))):=by
 have cV:=zrA k ⟨by omega,by omega⟩
 have cS:=zf2 a (pw k 10005) ha (pw_N _ _)
 have cU:=zhR
 unfold rfS
 have sN:=zex (pw k 10005) a
 generalize scS (pw k 10005) a=Z at *
 have cC:=fun j=>zk1 (pwrS Z j) Z (zj2 Z j) sN
 have lj:=fun j=>(zj2 Z j).1
 have es:∀ j,cvS (pwrS Z j) Z=pwrS Z (j+1):=fun j=>rfl
 have e0:pwrS Z 0=zaU:=rfl
 have lz:=sN.1
 simp only [es,lj,lz] at cC
 generalize fcF=FC at *
 rw [<- e0] at cU
 generalize pwrS Z=X at *
 generalize pw k 10005=q at *
 refine zab Tryz.mixed ⟨9,[],[],[]⟩ Tryz.func117 ?_
 rw [Tryz.ntmps117]
 simp [go_sem]
 refine ⟨by kernel_rfl,?_⟩
 refine CallD.of (cV) ?_
 simp [go_sem]
 refine CallD.of (cS) ?_
 simp [go_sem]
 refine CallD.of (cU) ?_
 simp [go_sem]
 refine ⟨by kernel_rfl,?_⟩
 simp [go_sem]
 refine zac (8::List.range' 16 7) (fun i:Nat=>[(8,.own 2 38 (avs (X i))),(16,.int i)]) (fun i=>i<=k) (fun i=>k-i) 0 (by simp) (by simp [go_sem]) (by simp [go_sem]) ?_
 intro i hi
 by_cases hil:i<k
 .have hii:(i:Int)<k:=by omega
  simp [go_sem,hii]
  refine CallVC.of ((cC i)) ?_
  simp [go_sem]
  exact ⟨⟨by omega,by omega⟩,i+1,by omega,by omega,zaa _ _ _ (by simp),rfl,by omega⟩
 .have e:i=k:=by omega
  subst e
  simp [go_sem]
theorem ziE (a:List Int) (k:Nat) (ha:a.length<=9223372036854775807) (h0:rfC a k 1=0) :
  Con Tryz.prog 45 [.sl a.length (avs a),.int k] (.tup [.own 2 38 (avs (rfS a k)),.int 0]):=by
 have cK:=zdQ a k 1 ha
 rw [h0] at cK
 obtain ⟨h1,h2,h3⟩:=zh6 h0
 have cF:=zbe
 have cR:=zh5 a k h1.1 (by omega)
 generalize rfS a k=X at *
 generalize fcF=FC at *
 refine zab Tryz.mixed ⟨7,[],[1000000+71],[]⟩ Tryz.func45 ?_
 rw [Tryz.ntmps45]
 simp [go_sem]
 refine CallVC.of (cK) ?_
 simp [go_sem]
 refine ⟨_,_,cF,?_⟩
 simp [go_sem]
 refine CallVC.of (cR) ?_
 simp [go_sem]
def kpX (m:Int) (a:List Int) (i:Nat):List Int:=(kpS m a).take i++List.replicate (38-i) 0
theorem zlQ (m:Int) {a:List Int} (ha:N38 a) {i:Nat} (h:i<38):kpX m a (i+1)=if (nd i:Int)=m then (kpX m a i).set i (iat a i) else kpX m a i:=by
 have l:=(ziy m a).1
 have t:=List.take_succ_eq_append_getElem (l:=kpS m a) (i:=i) (by omega)
 have e:=zqs (n:=m) (a:=a) h
 have r:=ha.at i
 unfold iat at e
 rw [List.getElem?_eq_getElem (by omega),Option.getD_some] at e
 have lt:((kpS m a).take i).length=i:=by rw [List.length_take]; omega
 obtain ⟨d,hd⟩:∃ d,38-i=d+1:=⟨37-i,by omega⟩
 have hd2:38-(i+1)=d:=by omega
 unfold kpX
 rw [hd,hd2,t,e]
 split
 .rename_i hm
  have s:=zi4 (iat a i) ((kpS m a).take i) d
  rw [lt] at s
  rw [s]
  unfold iat at r |-
  rw [Int.emod_eq_of_lt r.1 r.2]
 .rw [List.replicate_succ]; simp
theorem ztF (m:Int) (a:List Int):kpX m a 0=List.replicate 38 0:=by simp [kpX]
theorem zqq (m:Int) (a:List Int):kpX m a 38=kpS m a:=by
 unfold kpX
 rw [List.take_of_length_le (by rw [(ziy m a).1]; exact Nat.le_refl _)]; simp
theorem zmF (m:Int) (a:List Int) {i:Nat} (h:i<=38):(kpX m a i).length=38:=by
 have l:=(ziy m a).1
 unfold kpX
 rw [List.length_append,List.length_take,List.length_replicate]; omega
theorem ztO (g:FuncId) (p m:Int) (a:List Int) (ha:N38 a) (hG:∀ n:Nat,n<=6->Con Tryz.prog g [.int n,.fptr [.int p]] (.bool (decide ((n:Int)=m)))) :
  Con Tryz.prog 127 [.agg [.sl 37 (mat (trN 6)),.sl 37 fcF],.sl a.length (avs a),.fn g [.fptr [.int p]]] (.own 2 38 (avs (kpS m a))):=by
 have cN:=fun p h=>zjg p h
 have la:=ha.1
 have st:=fun i (h:i<38)=>zlQ m ha h
 have ln:=fun i (h:i<=38)=>zmF m a h
 have k0:avs (kpX m a 0)=List.replicate 38 (.int 0):=by rw [ztF]; rfl
 rw [<- zqq]
 generalize kpX m a=X at *
 generalize fcF=FC at *
 refine zab Tryz.mixed ⟨10,[],[],[]⟩ Tryz.func127 ?_
 rw [Tryz.ntmps127]
 simp [go_sem]
 refine ⟨⟨by omega,by omega⟩,?_⟩
 refine zac (7::8::9::List.range' 15 15) (fun i:Nat=>[(7,.own 2 38 (avs (X i))),(15,.int i)]) (fun i=>i<=38) (fun i=>38-i) 0 (by simp) (by simp [go_sem,k0,la]) (by simp [go_sem]) ?_
 intro i hi
 by_cases hil:i<38
 .have hii:(i:Int)<a.length:=by omega
  have na:¬ a=[]:=by rintro rfl; simp at la
  have dr:=zae (a:=a) (v:=i) (by omega)
  have c1:=cN i hil
  have n6:=zhe (i:=i) hil
  have c2:=hG (nd i) n6
  have s1:=st i hil
  have l1:=ln i (by omega)
  by_cases hm:(nd i:Int)=m
  .rw [if_pos hm] at s1
   rw [decide_eq_true hm] at c2
   generalize nd i=n at *
   generalize iat a i=x at *
   simp [go_sem,hii,dr]
   refine ⟨na,?_⟩
   refine CallVC.of (c1) ?_
   simp [go_sem]
   refine CallVC.of (c2) ?_
   simp [go_sem]
   exact ⟨by omega,by omega,⟨by omega,by omega⟩,i+1,by omega,by omega,zaa _ _ _ (by simp),by rw [s1]; exact zaP _ _ _,by omega⟩
  .rw [if_neg hm] at s1
   rw [decide_eq_false hm] at c2
   generalize nd i=n at *
   generalize iat a i=x at *
   simp [go_sem,hii,dr]
   refine ⟨na,?_⟩
   refine CallVC.of (c1) ?_
   simp [go_sem]
   refine CallVC.of (c2) ?_
   simp [go_sem]
   exact ⟨⟨by omega,by omega⟩,i+1,by omega,by omega,zaa _ _ _ (by simp),by rw [s1],by omega⟩
 .have e:i=38:=by omega
  subst e
  have hii:¬ (38:Int)<a.length:=by omega
  simp [go_sem,hii]
theorem zgE (n:Nat) (p:Int) (hn:n<=6) (hp:0<=p) (hp6:p<=6):Con Tryz.prog 128 [.int n,.fptr [.int p]] (.bool (decide ((n:Int)=p+1))):=by
 refine zab Tryz.mixed ⟨4,[],[],[]⟩ Tryz.func128 ?_
 rw [Tryz.ntmps128]
 simp [go_sem]
 exact ⟨by omega,by omega⟩
def fiC (a:List Int):Int:=if ckC a=0 then (if agS a exaS=6 then 4 else 0) else ckC a
theorem zeq (a:List Int) (ha:Ch a) (hp:agS a exaS<6) :
  Con Tryz.prog 41 [.sl a.length (avs a)] (.tup [.own 2 38 (avs (feS a)),.int 0]):=by
 have c1:=zaV a (by rw [ha.1.1]; omega)
 rw [ha.ck] at c1
 have cF:=zbe
 have c2:=zcc
 have c3:=zcz a exaS ha.1 zal.1
 rw [zal.1.1] at c3
 obtain ⟨b0,b6⟩:=zdf ha zal
 have c4:=zgp a exaS (-1) ha.1 zal.1 ⟨by decide,by decide⟩
 rw [zal.1.1] at c4
 have c5:=ztO 128 (agS a exaS) (agS a exaS+1) (dfS a exaS (-1)) (zod _ _ _) (fun n hn=>zgE n _ hn b0 b6)
 rw [(zod a exaS (-1)).1] at c5
 unfold feS
 have hp6:¬ agS a exaS=6:=by omega
 generalize kpS (agS a exaS+1) (dfS a exaS (-1))=R at *
 generalize dfS a exaS (-1)=D at *
 generalize agS a exaS=X at *
 generalize exaS=E at *
 generalize fcF=FC at *
 refine zab Tryz.mixed ⟨8,[],[1000000+71],[]⟩ Tryz.func41 ?_
 rw [Tryz.ntmps41]
 simp [go_sem]
 refine CallVC.of (c1) ?_
 simp [go_sem]
 refine ⟨_,_,cF,?_⟩
 simp [go_sem]
 refine CallVC.of (c2) ?_
 simp [go_sem]
 refine CallVC.of (c3) ?_
 simp [go_sem]
 simp [go_sem,hp6]
 refine ⟨by kernel_rfl,?_⟩
 refine CallD.of (c4) ?_
 simp [go_sem]
 refine CallD.of (c5) ?_
 simp [go_sem]
 refine ⟨by kernel_rfl,?_⟩
 simp [go_sem]
def fiX (a:List Int):List Int:=if fiC a=0 then feS a else []
theorem zhC (a:List Int) (ha:a.length<=9223372036854775807) :
  Con Tryz.prog 41 [.sl a.length (avs a)] (.tup [.own 2 (fiX a).length (avs (fiX a)),.int (fiC a)]):=by
 by_cases hk:ckC a=0
 .have hA:=zqC hk
  by_cases hp:agS a exaS=6
  .have e:fiC a=4:=by unfold fiC; rw [if_pos hk,if_pos hp]
   unfold fiX
   rw [e,if_neg (by decide)]
   refine Con.n1 _ ?_
   have c1:=zaV a ha
   rw [hk] at c1
   have cF:=zbe
   have c2:=zcc
   have c3:=zcz a exaS hA.1 zal.1
   rw [zal.1.1,hp] at c3
   generalize exaS=E at *
   generalize fcF=FC at *
   refine zab Tryz.mixed ⟨8,[],[1000000+71],[]⟩ Tryz.func41 ?_
   rw [Tryz.ntmps41]
   simp [go_sem]
   refine CallVC.of (c1) ?_
   simp [go_sem]
   refine ⟨_,_,cF,?_⟩
   simp [go_sem]
   refine CallVC.of (c2) ?_
   simp [go_sem]
   refine CallVC.of (c3) ?_
   simp [go_sem]
  .have b:=zdf hA zal
   have e:fiC a=0:=by unfold fiC; rw [if_pos hk,if_neg hp]
   unfold fiX
   rw [e,if_pos rfl]
   have l:(feS a).length=38:=(ziy _ _).1
   rw [l]
   exact zeq a hA (by omega)
 .have e:fiC a=ckC a:=by unfold fiC; rw [if_neg hk]
  unfold fiX
  rw [e,if_neg hk]
  refine Con.n1 _ ?_
  have c1:=zaV a ha
  generalize ckC a=k at *
  refine zab Tryz.mixed ⟨8,[],[1000000+71],[]⟩ Tryz.func41 ?_
  rw [Tryz.ntmps41]
  simp [go_sem]
  refine CallVC.of (c1) ?_
  simp [go_sem]
  simp [go_sem,hk]
theorem zhc (a k:Int) (ha:isN a) (h0:0<=k) (h1:k<=1000):Con Tryz.prog 46 [.int a,.int k] (.tup [.int (pw a k),.int 0]):=by
 have cN:=zd6 a
 rw [decide_eq_true (show 0<=a/\a<=10006 by obtain ⟨x,y⟩:=ha; omega)] at cN
 have cI:=ze0 k (-1000000000) 1000000000
 have e:(decide ((-1000000000:Int)<=k) && decide (k<=1000000000))=true:=by simp; omega
 rw [e] at cI
 have cP:=zom a k ha h0 (by omega)
 generalize pw a k=v at *
 have hk:¬ k<0:=by omega
 by_cases a0:a=0
 .subst a0
  refine zab Tryz.mixed ⟨6,[],[],[]⟩ Tryz.func46 ?_
  rw [Tryz.ntmps46]
  simp [go_sem]
  refine CallVC.of (cN) ?_
  simp [go_sem]
  refine CallVC.of (cI) ?_
  simp [go_sem]
  simp [go_sem,hk]
  refine CallVC.of (cP) ?_
  simp [go_sem]
 .refine zab Tryz.mixed ⟨6,[],[],[]⟩ Tryz.func46 ?_
  rw [Tryz.ntmps46]
  simp [go_sem]
  refine CallVC.of (cN) ?_
  simp [go_sem]
  refine CallVC.of (cI) ?_
  simp [go_sem]
  simp [go_sem,a0,hk]
  refine CallVC.of (cP) ?_
  simp [go_sem]
theorem zmP (a b:List Int) (ha:N38 a) (hb:N38 b):Con Tryz.prog 134 [.sl a.length (avs a),.sl b.length (avs b)] (.tup [.own 2 38 (avs (dfS a b 1)),.int 0]):=by
 have c1:=zdr a (by rw [ha.1]; omega)
 have c2:=zdr b (by rw [hb.1]; omega)
 rw [ha.mapB] at c1
 rw [hb.mapB] at c2
 have c3:=zgp a b 1 ha hb ⟨by decide,by decide⟩
 generalize dfS a b 1=D at *
 refine zab Tryz.mixed ⟨6,[],[],[]⟩ Tryz.func134 ?_
 rw [Tryz.ntmps134]
 simp [go_sem]
 refine CallVC.of (c1) ?_
 simp [go_sem]
 refine CallVC.of (c2) ?_
 simp [go_sem]
 refine CallVC.of (c3) ?_
 simp [go_sem]
theorem zg5 (a:List Int) (k:Int) (ha:N38 a) (hk:isN k):Con Tryz.prog 132 [.sl a.length (avs a),.int k] (.tup [.own 2 38 (avs (mlS a k)),.int 0]):=by
 have c1:=zdr a (by rw [ha.1]; omega)
 rw [ha.mapB] at c1
 have cN:=zd6 k
 rw [decide_eq_true (show 0<=k/\k<=10006 by obtain ⟨x,y⟩:=hk; omega)] at cN
 have c3:=zdX a k ha ⟨by have:=hk.1; omega,by have:=hk.2; omega⟩
 generalize mlS a k=D at *
 refine zab Tryz.mixed ⟨6,[],[],[]⟩ Tryz.func132 ?_
 rw [Tryz.ntmps132]
 simp [go_sem]
 refine CallVC.of (c1) ?_
 simp [go_sem]
 refine CallVC.of (cN) ?_
 simp [go_sem]
 refine CallVC.of (c3) ?_
 simp [go_sem]
end Go.Proofs.YthhdollpkieknaaGreat


namespace Go.Proofs.YthhdollpkieknaaGreat
open Go.Abs
theorem zlb (a:List Int) (k:Nat) (ha:Ch a) (hk:k<=100) :
  Con Tryz.prog 211 [.sl 38 s7F,.sl a.length (avs a),.int k] (.own 2 38 (avs (pwrS a k))):=by
 have cU:=zio
 have cC:=fun j=>zm5 (pwrS a j) a (znZ ha j) ha.1
 have lj:=fun j=>(zj2 a j).1
 have es:∀ j,cvS (pwrS a j) a=pwrS a (j+1):=fun j=>rfl
 have e0:pwrS a 0=zaU:=rfl
 have la:=ha.1.1
 simp only [es,lj] at cC
 generalize s7F=FC at *
 rw [<- e0] at cU
 generalize pwrS a=X at *
 refine zab Tryz.mixed ⟨8,[],[],[]⟩ Tryz.func211 ?_
 rw [Tryz.ntmps211]
 simp [go_sem]
 have hk0:¬ (k:Int)<0:=by omega
 simp [go_sem,hk0]
 refine CallVC.of (cU) ?_
 simp [go_sem]
 refine zac (2::7::List.range' 16 8) (fun i:Nat=>[(2,.int ((k:Int)-i)),(7,.own 2 38 (avs (X i)))]) (fun i=>i<=k) (fun i=>k-i) 0 (by simp) (by simp [go_sem]) (by simp [go_sem]) ?_
 intro i hi
 by_cases hil:i<k
 .have hii:(i:Int)<k:=by omega
  simp [go_sem,hii]
  refine CallVC.of ((cC i)) ?_
  simp [go_sem]
  exact ⟨⟨by omega,by omega⟩,i+1,by omega,by omega,zaa _ _ _ (by simp),by omega,rfl⟩
 .have e:i=k:=by omega
  subst e
  simp [go_sem]
theorem ziv (a:List Int) (k:Nat) (ha:Ch a) (hk:k<=100) :
  Con Tryz.prog 123 [.sl a.length (avs a),.int k] (.own 2 38 (avs (rfS a k))):=by
 have cC:=zfl
 have h7:AV.sl 38 (AV.sl 0 []::fcF)=.sl 38 s7F:=rfl
 rw [h7] at cC
 have cV:=zgn k ⟨by omega,by omega⟩
 have cS:=zf7 a (pw k 10005) ha.1 (pw_N _ _)
 have cP:=zlb (scS (pw k 10005) a) k (zbV _ ha) hk
 rw [(zex (pw k 10005) a).1] at cP
 unfold rfS
 generalize pwrS (scS (pw k 10005) a) k=X at *
 generalize scS (pw k 10005) a=Z at *
 generalize pw k 10005=q at *
 generalize s7F=FC at *
 refine zab Tryz.mixed ⟨5,[],[1000000+212],[]⟩ Tryz.func123 ?_
 rw [Tryz.ntmps123]
 simp [go_sem]
 refine ⟨_,_,cC,?_⟩
 simp [go_sem]
 refine CallVC.of (cV) ?_
 simp [go_sem]
 refine CallVC.of (cS) ?_
 simp [go_sem]
 refine CallVC.of (cP) ?_
 simp [go_sem]
def xpB (a:List Int) (k:Int):Bool:=decide (agS a exaS=0) || decide (pw k (agS a exaS)=1)
def exC (a:List Int) (k:Int):Int:=if rfC a k 2=0 then (if xpB a k=true then 5 else 0) else rfC a k 2
def rxS (a r:List Int) (w:Int):List Int:=mk38 fun i=>(w*iat r i%10007-iat a i)%10007*pw ((w-1)%10007) 10005
theorem zo0 (a r:List Int) (w:Int):N38 (rxS a r w):=zbc _
def sxX (a:List Int) (k:Int):List Int:=if exC a k=0 then rxS a (rfS a k.toNat) (pw k (agS a exaS)) else []
theorem zd1 (a:List Int) (k:Int) (ha:a.length<=9223372036854775807) :
  Con Tryz.prog 40 [.sl a.length (avs a),.int k] (.tup [.own 2 (sxX a k).length (avs (sxX a k)),.int (exC a k)]):=by
 have cM:=zls a ha
 have cI:=zlw k 2 100
 have hx:¬ exC a k=0->sxX a k=[]:=fun h=>by unfold sxX; rw [if_neg h]
 by_cases hm:mapB a=true
 .rw [hm] at cM
  have hl:=(ze4 hm).1
  have na:¬ a=[]:=by rintro rfl; simp at hl
  have a0:=zae (a:=a) (v:=0) (by omega)
  rw [List.drop_zero] at a0
  by_cases h2:(decide (2<=k) && decide (k<=100))=true
  .rw [h2] at cI
   by_cases h1:iat a 0=1
   .have hr:rfC a k 2=0:=by unfold rfC; rw [if_pos hm,if_pos h2,if_pos h1]
    have hA:Ch a:=⟨ze4 hm,h1⟩
    obtain ⟨_,k2,k100⟩:=zh6 hr
    obtain ⟨m,rfl⟩:∃ m:Nat,k=m:=⟨k.toNat,by omega⟩
    have cE:=zd2
    have cG:=zfR a exaS hA zal
    rw [zal.1.1] at cG
    obtain ⟨b0,b6⟩:=zdf hA zal
    have cW:=zeI m (agS a exaS) ⟨by omega,by omega⟩ b0 (by omega)
    have wN:=pw_N m (agS a exaS)
    have he:exC a m=if xpB a m=true then 5 else 0:=by unfold exC; rw [if_pos hr]
    unfold xpB at he
    have a1:=a0
    rw [h1,List.drop_one] at a1
    rw [a1] at cG
    by_cases p0:agS a exaS=0
    .rw [p0] at he cG cW
     simp only [decide_true,Bool.true_or,if_true] at he
     rw [hx (by omega),he]
     refine Con.n1 _ ?_
     generalize pw m 0=w at *
     generalize exaS=E at *
     refine zab Tryz.mixed ⟨11,[],[],[]⟩ Tryz.func40 ?_
     rw [Tryz.ntmps40]
     simp [go_sem]
     refine CallVC.of (cM) ?_
     simp [go_sem]
     refine CallVC.of (cI) ?_
     simp [go_sem]
     simp [go_sem,a1]
     refine ⟨⟨by omega,na⟩,?_⟩
     refine CallVC.of (cE) ?_
     simp [go_sem]
     refine CallVC.of (cG) ?_
     simp [go_sem]
     refine CallVC.of (cW) ?_
     simp [go_sem]
    .by_cases w1:pw m (agS a exaS)=1
     .rw [w1] at he cW
      simp only [decide_true,Bool.or_true,if_true] at he
      rw [hx (by omega),he]
      refine Con.n1 _ ?_
      generalize agS a exaS=p at *
      generalize exaS=E at *
      refine zab Tryz.mixed ⟨11,[],[],[]⟩ Tryz.func40 ?_
      rw [Tryz.ntmps40]
      simp [go_sem]
      refine CallVC.of (cM) ?_
      simp [go_sem]
      refine CallVC.of (cI) ?_
      simp [go_sem]
      simp [go_sem,a1]
      refine ⟨⟨by omega,na⟩,?_⟩
      refine CallVC.of (cE) ?_
      simp [go_sem]
      refine CallVC.of (cG) ?_
      simp [go_sem]
      refine CallVC.of (cW) ?_
      simp [go_sem]
      simp [go_sem,p0]
     .simp only [p0,w1,decide_false,Bool.or_false,Bool.false_eq_true,if_false] at he
      have cR:=ziv a m hA (by omega)
      rw [a1] at cR
      have hX:sxX a m=rxS a (rfS a m) (pw m (agS a exaS)):=by unfold sxX; rw [if_pos he,Int.toNat_natCast]
      rw [hX,he]
      rw [(zo0 _ _ _).1]
      have rN:=ztM a m
      have lr:=rN.1
      have at_:=fun i (h:i<38)=>(za9 (fun i=>(pw m (agS a exaS)*iat (rfS a m) i%10007-iat a i)%10007*pw ((pw m (agS a exaS)-1)%10007) 10005) h)
      have tk:=fun i (h:i<38)=>zbw (fun i=>(pw m (agS a exaS)*iat (rfS a m) i%10007-iat a i)%10007*pw ((pw m (agS a exaS)-1)%10007) 10005) h
      have ta:=(zo0 a (rfS a m) (pw m (agS a exaS))).take
      have lX:=(zo0 a (rfS a m) (pw m (agS a exaS))).1
      unfold rxS at ta lX |-
      generalize mk38 (fun i=>(pw m (agS a exaS)*iat (rfS a m) i%10007-iat a i)%10007*pw ((pw m (agS a exaS)-1)%10007) 10005)=X at *
      generalize rfS a m=R at *
      generalize pw m (agS a exaS)=w at *
      generalize agS a exaS=p at *
      generalize exaS=E at *
      refine zab Tryz.mixed ⟨11,[],[],[]⟩ Tryz.func40 ?_
      rw [Tryz.ntmps40]
      simp [go_sem]
      refine CallVC.of (cM) ?_
      simp [go_sem]
      refine CallVC.of (cI) ?_
      simp [go_sem]
      simp [go_sem,a1]
      refine ⟨⟨by omega,na⟩,?_⟩
      refine CallVC.of (cE) ?_
      simp [go_sem]
      refine CallVC.of (cG) ?_
      simp [go_sem]
      refine CallVC.of (cW) ?_
      simp [go_sem]
      simp [go_sem,p0,w1]
      refine CallVC.of (cR) ?_
      simp [go_sem]
      rw [<- a1]
      refine zac (8::10::List.range' 40 24) (fun i:Nat=>[(8,.own 2 i (avs (X.take i))),(10,.int i)]) (fun i=>i<=38) (fun i=>38-i) 0 (by simp) (by simp [go_sem]) (by simp [go_sem]) ?_
      intro i hi
      by_cases hil:i<38
      .have hii:(i:Int)<a.length:=by omega
       have d1:=zae (a:=a) (v:=i) (by omega)
       have d2:(avs R)[i]?=some (.int (iat R i)):=zbC (by omega)
       have hA0:=hA
       have n1:isN (iat a i):=hA.1.Ns.get i
       have n2:isN (iat R i):=rN.Ns.get i
       have c1:=zaO w (iat R i) (zay wN n2)
       have n3:isN (w*iat R i%10007):=zak _
       have c2:=zc8 (w*iat R i%10007) (iat a i) (zc9 n3 n1)
       have n4:isN ((w*iat R i%10007-iat a i)%10007):=zak _
       have c3:=zc8 w 1 (zc9 wN ⟨by omega,by omega⟩)
       have n5:isN ((w-1)%10007):=zak _
       have c4:=zgn ((w-1)%10007) n5
       have n6:isN (pw ((w-1)%10007) 10005):=pw_N _ _
       have c5:=zaO ((w*iat R i%10007-iat a i)%10007) (pw ((w-1)%10007) 10005) (zay n4 n6)
       have t1:=tk i hil
       generalize (w*iat R i%10007-iat a i)%10007*pw ((w-1)%10007) 10005%10007=x5 at *
       generalize pw ((w-1)%10007) 10005=x4 at *
       generalize (w-1)%10007=x3 at *
       generalize (w*iat R i%10007-iat a i)%10007=x2 at *
       generalize w*iat R i%10007=x1 at *
       generalize iat R i=y at *
       generalize iat a i=z at *
       simp [go_sem,hii,d1,d2]
       refine ⟨by kernel_rfl,by omega,?_⟩
       refine CallD.of (c1) ?_
       simp [go_sem]
       refine ⟨⟨by omega,na⟩,?_⟩
       simp [go_sem,d1]
       refine CallD.of (c2) ?_
       simp [go_sem]
       refine CallD.of (c3) ?_
       simp [go_sem]
       refine CallD.of (c4) ?_
       simp [go_sem]
       refine CallD.of (c5) ?_
       simp [go_sem]
       refine ⟨⟨by omega,by omega,by omega⟩,?_⟩
       refine ⟨by kernel_rfl,?_⟩
       simp [go_sem]
       refine ⟨⟨by omega,by omega⟩,i+1,by omega,by omega,zaa _ _ _ (by simp),?_,by omega⟩
       rw [t1,zav]
       exact ⟨rfl,rfl⟩
      .have e:i=38:=by omega
       subst e
       have hii:¬ (38:Int)<a.length:=by omega
       rw [ta]
       simp [go_sem,hii]
   .have hr:exC a k=5:=by unfold exC rfC; rw [if_pos hm,if_pos h2,if_neg h1]; rfl
    rw [hx (by omega),hr]
    refine Con.n1 _ ?_
    generalize iat a 0=x at *
    refine zab Tryz.mixed ⟨11,[],[],[]⟩ Tryz.func40 ?_
    rw [Tryz.ntmps40]
    simp [go_sem]
    refine CallVC.of (cM) ?_
    simp [go_sem]
    refine CallVC.of (cI) ?_
    simp [go_sem]
    simp [go_sem,a0,h1]
    exact ⟨by omega,na⟩
  .have hr:exC a k=2:=by unfold exC rfC; rw [if_pos hm,if_neg h2]; rfl
   rw [hx (by omega),hr]
   have hf:(decide (2<=k) && decide (k<=100))=false:=by simpa using h2
   rw [hf] at cI
   refine Con.n1 _ ?_
   refine zab Tryz.mixed ⟨11,[],[],[]⟩ Tryz.func40 ?_
   rw [Tryz.ntmps40]
   simp [go_sem]
   refine CallVC.of (cM) ?_
   simp [go_sem]
   refine CallVC.of (cI) ?_
   simp [go_sem]
 .have hr:exC a k=1:=by unfold exC rfC; rw [if_neg hm]; rfl
  rw [hx (by omega),hr]
  have hf:mapB a=false:=by simpa using hm
  rw [hf] at cM
  refine Con.n1 _ ?_
  refine zab Tryz.mixed ⟨11,[],[],[]⟩ Tryz.func40 ?_
  rw [Tryz.ntmps40]
  simp [go_sem]
  refine CallVC.of (cM) ?_
  simp [go_sem]
theorem ztX {a e:Int}:(a-e)%10007=(a + -1%10007*e)%10007:=by omega
theorem zgO (a:List Int) (ha:a.length<=9223372036854775807) :
  Con Tryz.prog 42 [.sl a.length (avs a)] (.tup [.own 2 (fiX a).length (avs (fiX a)),.int (fiC a)]):=by
 have cK:=zmC a ha
 by_cases hk:ckC a=0
 .have hA:=zqC hk
  rw [hk] at cK
  have cA:=zbZ 6 (by omega)
  have l6:=zaQ
  have e6:((6:Nat):Int)=6:=rfl
  rw [e6,l6] at cA
  have cE:=zd2
  have cG:=zfR a exaS hA zal
  rw [zal.1.1] at cG
  obtain ⟨b0,b6⟩:=zdf hA zal
  by_cases hp:agS a exaS=6
  .have e:fiC a=4:=by unfold fiC; rw [if_pos hk,if_pos hp]
   unfold fiX
   rw [e,if_neg (by decide)]
   refine Con.n1 _ ?_
   rw [hp] at cG
   generalize exaS=E at *
   refine zab Tryz.mixed ⟨10,[],[],[]⟩ Tryz.func42 ?_
   rw [Tryz.ntmps42]
   simp [go_sem]
   refine CallVC.of (cK) ?_
   simp [go_sem]
   refine CallVC.of (cA) ?_
   simp [go_sem]
   refine CallVC.of (cE) ?_
   simp [go_sem]
   refine CallVC.of (cG) ?_
   simp [go_sem]
  .have e:fiC a=0:=by unfold fiC; rw [if_pos hk,if_neg hp]
   unfold fiX
   rw [e,if_pos rfl]
   have l:(feS a).length=38:=(ziy _ _).1
   rw [l]
   have st:=fun i (h:i<38)=>zlQ (agS a exaS+1) (zod a exaS (-1)) h
   have ln:=fun i (h:i<=38)=>zmF (agS a exaS+1) (dfS a exaS (-1)) h
   have at_:=fun i (h:i<38)=>zku (a:=a) (b:=exaS) (k := -1) h
   have k1:avs (kpX (agS a exaS+1) (dfS a exaS (-1)) 1)=List.replicate 38 (.int 0):=by
    rw [st 0 (by omega),if_neg (by show ¬ ((0:Nat):Int)=_; omega),ztF]; rfl
   have ke:kpX (agS a exaS+1) (dfS a exaS (-1)) 38=feS a:=zqq _ _
   rw [<- ke]
   have la:=hA.1.1
   have lE:=zal.1.1
   have nE:=zal.1
   have nds:=fun p h=>zhM (p:=p) h
   generalize kpX (agS a exaS+1) (dfS a exaS (-1))=X at *
   generalize dfS a exaS (-1)=D at *
   generalize agS a exaS=p at *
   generalize exaS=E at *
   refine zab Tryz.mixed ⟨10,[],[],[]⟩ Tryz.func42 ?_
   rw [Tryz.ntmps42]
   simp [go_sem]
   refine CallVC.of (cK) ?_
   simp [go_sem]
   refine CallVC.of (cA) ?_
   simp [go_sem]
   refine CallVC.of (cE) ?_
   simp [go_sem]
   refine CallVC.of (cG) ?_
   simp [go_sem]
   simp [go_sem,hp]
   refine zac (8::9::List.range' 24 29) (fun i:Nat=>[(8,.own 2 38 (avs (X (i+1)))),(9,.int i)]) (fun i=>i<=37) (fun i=>37-i) 0 (by simp) (by simp [go_sem,k1]) (by simp [go_sem]) ?_
   intro i hi
   by_cases hil:i<37
   .have hii:(i:Int)<37:=by omega
    have hl:i<(trN 6).length:=by omega
    have og:=zbF hl
    have tl:=nds i hil
    have d1:=zae (a:=a) (v:=i+1) (by omega)
    have d2:(avs E)[i+1]?=some (.int (iat E (i+1))):=zbC (by omega)
    have na:¬ a=[]:=by rintro rfl; simp at la
    have c1:=zc8 (iat a (i+1)) (iat E (i+1)) (zc9 (hA.1.Ns.get _) (nE.Ns.get _))
    have s1:=st (i+1) (by omega)
    have ev:=at_ (i+1) (by omega)
    rw [<- ztX] at ev
    have l1:=ln (i+1) (by omega)
    rw [tl] at og
    rw [ev] at s1
    generalize (iat a (i+1)-iat E (i+1))%10007=v at *
    generalize iat a (i+1)=x at *
    generalize iat E (i+1)=y at *
    have n6:=zhe (i:=i+1) (by omega)
    generalize nd (i+1)=n at *
    generalize (trN 6)[i]?.getD []=t at *
    by_cases hn:(n:Int)=p+1
    .rw [if_pos hn] at s1
     simp [go_sem,hii,og,hn]
     refine ⟨⟨by omega,by omega⟩,by kernel_rfl,⟨by omega,by omega⟩,⟨by omega,by omega,na⟩,?_⟩
     simp [go_sem,d1,d2]
     refine ⟨⟨by omega,by omega⟩,⟨by omega,by omega⟩,?_⟩
     refine CallD.of (c1) ?_
     simp [go_sem]
     refine ⟨⟨by omega,by omega⟩,by omega,?_⟩
     refine ⟨by kernel_rfl,?_⟩
     simp [go_sem]
     exact ⟨⟨by omega,by omega⟩,i+1,by omega,by omega,zaa _ _ _ (by simp),by rw [s1]; exact zaP _ _ _,by omega⟩
    .rw [if_neg hn] at s1
     simp [go_sem,hii,og,hn]
     exact ⟨⟨by omega,by omega⟩,⟨by omega,by omega⟩,i+1,by omega,by omega,zaa _ _ _ (by simp),by rw [s1],by omega⟩
   .have e:i=37:=by omega
    subst e
    simp [go_sem]
 .have e:fiC a=ckC a:=by unfold fiC; rw [if_neg hk]
  unfold fiX
  rw [e,if_neg hk]
  refine Con.n1 _ ?_
  generalize ckC a=k at *
  refine zab Tryz.mixed ⟨10,[],[],[]⟩ Tryz.func42 ?_
  rw [Tryz.ntmps42]
  simp [go_sem]
  refine CallVC.of (cK) ?_
  simp [go_sem]
  simp [go_sem,hk]
end Go.Proofs.YthhdollpkieknaaGreat


namespace Go.Proofs.YthhdollpkieknaaGreat
open Go.Abs
def exX (a:List Int) (k:Int):List Int:=if exC a k=0 then xtS a k.toNat (pw k 10005) (pw k (agS a exaS)) (pw ((pw k (agS a exaS)-1)%10007) 10005) else []
theorem zev (a:List Int) (k:Int) (ha:a.length<=9223372036854775807) :
  Con Tryz.prog 39 [.sl a.length (avs a),.int k] (.tup [.own 2 (exX a k).length (avs (exX a k)),.int (exC a k)]):=by
 have cK:=zdQ a k 2 ha
 have hx:¬ exC a k=0->exX a k=[]:=fun h=>by unfold exX; rw [if_neg h]
 by_cases hr:rfC a k 2=0
 .obtain ⟨hA,k2,k100⟩:=zh6 hr
  obtain ⟨m,rfl⟩:∃ m:Nat,k=m:=⟨k.toNat,by omega⟩
  rw [hr] at cK
  have cF:=zbe
  have c2:=zcc
  have cG:=zcz a exaS hA.1 zal.1
  rw [zal.1.1] at cG
  obtain ⟨b0,b6⟩:=zdf hA zal
  have cW:=zom m (agS a exaS) ⟨by omega,by omega⟩ b0 (by omega)
  have wN:=pw_N m (agS a exaS)
  have he:exC a m=if xpB a m=true then 5 else 0:=by unfold exC; rw [if_pos hr]
  unfold xpB at he
  by_cases p0:agS a exaS=0
  .rw [p0] at he cG cW
   simp only [decide_true,Bool.true_or,if_true] at he
   rw [hx (by omega),he]
   refine Con.n1 _ ?_
   generalize pw m 0=w at *
   generalize exaS=E at *
   generalize fcF=FC at *
   refine zab Tryz.mixed ⟨10,[],[1000000+71],[]⟩ Tryz.func39 ?_
   rw [Tryz.ntmps39]
   simp [go_sem]
   refine CallVC.of (cK) ?_
   simp [go_sem]
   refine ⟨_,_,cF,?_⟩
   simp [go_sem]
   refine ⟨by kernel_rfl,?_⟩
   refine CallD.of (c2) ?_
   simp [go_sem]
   refine CallD.of (cG) ?_
   simp [go_sem]
   refine ⟨by kernel_rfl,?_⟩
   simp [go_sem]
   refine CallVC.of (cW) ?_
   simp [go_sem]
  .by_cases w1:pw m (agS a exaS)=1
   .rw [w1] at he cW
    simp only [decide_true,Bool.or_true,if_true] at he
    rw [hx (by omega),he]
    refine Con.n1 _ ?_
    generalize agS a exaS=p at *
    generalize exaS=E at *
    generalize fcF=FC at *
    refine zab Tryz.mixed ⟨10,[],[1000000+71],[]⟩ Tryz.func39 ?_
    rw [Tryz.ntmps39]
    simp [go_sem]
    refine CallVC.of (cK) ?_
    simp [go_sem]
    refine ⟨_,_,cF,?_⟩
    simp [go_sem]
    refine ⟨by kernel_rfl,?_⟩
    refine CallD.of (c2) ?_
    simp [go_sem]
    refine CallD.of (cG) ?_
    simp [go_sem]
    refine ⟨by kernel_rfl,?_⟩
    simp [go_sem]
    refine CallVC.of (cW) ?_
    simp [go_sem]
    simp [go_sem,p0]
   .simp only [p0,w1,decide_false,Bool.or_false,Bool.false_eq_true,if_false] at he
    have hX:exX a m=mlS (dfS (mlS (rfS a m) (pw m (agS a exaS))) a (-1)) (pw ((pw m (agS a exaS)-1)%10007) 10005):=by unfold exX; rw [if_pos he,Int.toNat_natCast]; rfl
    rw [hX,he,(zo1 _ _).1]
    have cR:=zh5 a m hA.1 (by omega)
    have rN:=ztM a m
    have l1:=rN.1
    have c3:=zdX (rfS a m) (pw m (agS a exaS)) rN ⟨by have:=wN.1; omega,by have:=wN.2; omega⟩
    rw [l1] at c3
    generalize rfS a m=R at *
    have n4:=zo1 R (pw m (agS a exaS))
    have c4:=zgp (mlS R (pw m (agS a exaS))) a (-1) n4 hA.1 ⟨by decide,by decide⟩
    rw [n4.1] at c4
    generalize mlS R (pw m (agS a exaS))=S1 at *
    have n5:=zod S1 a (-1)
    have c5:=zcO (pw m (agS a exaS)-1) (by have:=wN.1; omega) (by have:=wN.2; omega)
    have n6:=zak (pw m (agS a exaS)-1)
    have c6:=zrA _ n6
    have n7:=pw_N ((pw m (agS a exaS)-1)%10007) 10005
    have c7:=zdX (dfS S1 a (-1)) (pw ((pw m (agS a exaS)-1)%10007) 10005) n5 ⟨by have:=n7.1; omega,by have:=n7.2; omega⟩
    rw [n5.1] at c7
    generalize dfS S1 a (-1)=S2 at *
    generalize pw ((pw m (agS a exaS)-1)%10007) 10005=v at *
    generalize mlS S2 v=S3 at *
    generalize pw m (agS a exaS)=w at *
    generalize agS a exaS=p at *
    generalize exaS=E at *
    generalize fcF=FC at *
    refine zab Tryz.mixed ⟨10,[],[1000000+71],[]⟩ Tryz.func39 ?_
    rw [Tryz.ntmps39]
    simp [go_sem]
    refine CallVC.of (cK) ?_
    simp [go_sem]
    refine ⟨_,_,cF,?_⟩
    simp [go_sem]
    refine ⟨by kernel_rfl,?_⟩
    refine CallD.of (c2) ?_
    simp [go_sem]
    refine CallD.of (cG) ?_
    simp [go_sem]
    refine ⟨by kernel_rfl,?_⟩
    simp [go_sem]
    refine CallVC.of (cW) ?_
    simp [go_sem]
    simp [go_sem,p0,w1]
    refine CallVC.of (cR) ?_
    simp [go_sem]
    refine CallVC.of (c3) ?_
    simp [go_sem]
    refine CallVC.of (c4) ?_
    simp [go_sem]
    refine ⟨⟨by have:=wN.1; omega,by have:=wN.2; omega⟩,?_⟩
    refine CallVC.of (c5) ?_
    simp [go_sem]
    refine CallVC.of (c6) ?_
    simp [go_sem]
    refine CallVC.of (c7) ?_
    simp [go_sem]
 .have e:exC a k=rfC a k 2:=by unfold exC; rw [if_neg hr]
  rw [hx (by rw [e]; exact hr),e]
  refine Con.n1 _ ?_
  generalize rfC a k 2=c at *
  refine zab Tryz.mixed ⟨10,[],[1000000+71],[]⟩ Tryz.func39 ?_
  rw [Tryz.ntmps39]
  simp [go_sem]
  refine CallVC.of (cK) ?_
  simp [go_sem]
  simp [go_sem,hr]
theorem zq9 (a b:List Int) (k:Int) (ha:N38 a) (hb:N38 b) (hk:isN k):Con Tryz.prog 48 [.sl a.length (avs a),.sl b.length (avs b),.int k] (.own 2 38 (avs (dfS a (mlS b k) 1))):=by
 have c1:=ztQ k (by have:=hk.1; omega) (by have:=hk.2; omega)
 have e:k%10007=k:=Int.emod_eq_of_lt hk.1 (by have:=hk.2; omega)
 rw [e] at c1
 have c2:=zg5 b k hb hk
 have c3:=zmP a (mlS b k) ha (zo1 _ _)
 rw [(zo1 b k).1] at c3
 generalize dfS a (mlS b k) 1=D at *
 generalize mlS b k=M at *
 refine zab Tryz.mixed ⟨11,[],[],[]⟩ Tryz.func48 ?_
 rw [Tryz.ntmps48]
 simp [go_sem]
 refine CallVC.of (c1) ?_
 simp [go_sem]
 refine CallVC.of (c2) ?_
 simp [go_sem]
 refine CallVC.of (c3) ?_
 simp [go_sem]
end Go.Proofs.YthhdollpkieknaaGreat


namespace Go.Proofs.YthhdollpkieknaaGreat
open Go.ChangeShapes Go.WideShapes Go.ChangeAt Go.RowKit Go.Abs Go.Deep
section
variable {H:Type} {enc:TypeId × Value->H} {w:World} {sp:Nat->Bool} {held:Bool} {base:Nat}
theorem kids:Kids Tryz.prog (·<Tryz.prog.types.size):=kids_rows (by kernel_rfl) (by kernel_rfl)
theorem full:∀ t e,t<Tryz.prog.types.size->Tryz.prog.underlying t=some (.slice e)->0<Tryz.prog.cellsOf e:=slices_full_of Tryz.prog (by kernel_rfl)
theorem ztJ {α β:Type} (g:α->β):∀ qs:List α,qs.flatMap (fun a=>[g a])=qs.map g
 | []=>rfl
 | a::qs=>by rw [List.flatMap_cons,ztJ g qs]; rfl
theorem zrs {F:Nat->Prop} {tm:Nat->Value} {oss:Nat->List Nat} {c:AV} {v:Value} (h:RepL Tryz.prog w F [c] [v] []):RepT Tryz.prog w F tm oss c v []:=.cell _ _ _ (RepL.one h)
theorem repV {F:Nat->Prop} {tm:Nat->Value} {oss:Nat->List Nat} {t e:TypeId} {v:Value} {c:AV} {r:Reach} {b0:Nat} (ht:Tryz.prog.underlying t=some (.slice e)) (hv:Value.okWide Tryz.prog w r b0 t v) (h:RepL Tryz.prog w F [c] v.cells.toList []) :
  RepT Tryz.prog w F tm oss c v []:=by
 have hc:v.cells.toList=[v]:=by
  simp only [Value.okWide,ht] at hv
  cases v <;> simp_all [Value.cells,Cell.okWide,Cell.ok]
 rw [hc] at h
 exact zrs h
end
end Go.Proofs.YthhdollpkieknaaGreat


namespace Go.Proofs.YthhdollpkieknaaGreat
open Go.Abs
open Go.ChangeShapes Go.WideShapes Go.ChangeAt Go.RowKit Go.Deep
theorem zvK (c:List Int) (hl:c.length<=9223372036854775807):Con Tryz.prog 8 [.sl c.length (bys c)] (.bool (decide (4096<c.length))):=by
 refine zab Tryz.mixed ⟨3,[],[],[]⟩ Tryz.func8 ?_
 rw [Tryz.ntmps8]
 simp [go_sem]
 omega
section
variable {H:Type} {enc:TypeId × Value->H} {w:World} {sp:Nat->Bool} {held:Bool} {base:Nat}
theorem zpK {n:Nat} {cs:List Value} {x:DataW H × List MemPlace} (h:DataW.trod enc Tryz.prog w base sp held n 22 cs=some x) :
  ∃ xs:List Int,(∀ z∈xs,0<=z/\z<=255)/\xs.length<=9223372036854775807/\RepL Tryz.prog w (fun b=>b<w.heap.size) [.sl xs.length (bys xs)] cs []/\cs.length=1:=by
 obtain ⟨qs,h1,h2,h3,h4⟩:=zr0 (f:=fun z:Int=>[AV.val (.int .u8 z)]) (Good:=fun z=>(Lit.int .u8 z).wf=true) Tryz.underlying22 (s:=1) (by kernel_rfl) (by decide) (fun _=>rfl)
  (fun n cs y hy=>by obtain ⟨z,k1,k2,_⟩:=ztN Tryz.underlying5 hy; exact ⟨z,k1,k2⟩) h
 refine ⟨qs,fun z hz=>?_,h2,by rw [ztJ] at h3; exact h3,h4⟩
 have:=h1 z hz
 simp [Lit.wf,IntKind.min,IntKind.max,IntKind.signed,IntKind.bits] at this
 omega
end
end Go.Proofs.YthhdollpkieknaaGreat


namespace Go.Proofs.YthhdollpkieknaaGreat
open Go.Abs
theorem zlz (k:Nat) (p:Int):pw k p%10007=(k:Int) ^ p.toNat%10007:=by
 unfold pw
 rw [Int.emod_emod_of_dvd _ (Int.dvd_refl _)]
theorem zri:avs zrS=List.replicate 38 (.int 0):=by kernel_rfl
theorem ztw {a:List Int} {k:Int} (h:exC a k=0):rfC a k 2=0/\¬ agS a exaS=0/\¬ pw k (agS a exaS)=1:=by
 unfold exC at h
 split at h
 .rename_i hr
  split at h
  .omega
  .rename_i hx
   unfold xpB at hx
   rw [Bool.or_eq_true,decide_eq_true_eq,decide_eq_true_eq] at hx
   exact ⟨hr,fun e=>hx (.inl e),fun e=>hx (.inr e)⟩
 .rename_i hr; exact absurd h hr
theorem zu7 {w:Int} (hN:isN w) (h1:¬ w=1):(w-1)*pw ((w-1)%10007) 10005%10007=1:=by
 have n:=zak (w-1)
 have ne:(w-1)%10007≠0:=by obtain ⟨x,y⟩:=hN; omega
 have:=zqf n ne
 exact (zag (Int.emod_emod_of_dvd _ (Int.dvd_refl _)).symm rfl).trans this
theorem zkH (c:List Int) (hl:c.length<=9223372036854775807) (hb:∀ x∈c,0<=x/\x<=255):Con Tryz.prog 6 [.sl c.length (bys c)] (.bool true):=by
 have cB:=zvK c hl
 by_cases hc4:4096<c.length
 .refine zab Tryz.mixed ⟨27,[],[2000000+38],[]⟩ Tryz.func6 ?_
  rw [Tryz.ntmps6]
  simp [go_sem]
  refine CallVC.of (cB) ?_
  simp [go_sem]
  simp [go_sem,hc4]
 .have hc:Byt c:=⟨by omega,hb⟩
  have cD:=zdc c hc
  refine zab Tryz.mixed ⟨27,[],[2000000+38],[]⟩ Tryz.func6 ?_
  rw [Tryz.ntmps6]
  simp [go_sem]
  refine CallVC.of (cB) ?_
  simp [go_sem]
  simp [go_sem,hc4]
  refine ⟨_,cD,?_⟩
  rintro _ _ ⟨rfl,a,k,hDa,fk,rfl⟩
  have la:=hDa.2.1
  have c1:=zev a k (by omega)
  have c2:=zd1 a k (by omega)
  have c3:=zhC a (by omega)
  have c4:=zgO a (by omega)
  by_cases he:exC a k=0
  .obtain ⟨hr,p0,w1⟩:=ztw he
   obtain ⟨hA,k2,k100⟩:=zh6 hr
   have h1:=zq1 hr
   obtain ⟨m,rfl⟩:∃ m:Nat,k=m:=⟨k.toNat,by omega⟩
   have eX:exX a m=xtS a m (pw m 10005) (pw m (agS a exaS)) (pw ((pw m (agS a exaS)-1)%10007) 10005):=by unfold exX; rw [if_pos he,Int.toNat_natCast]
   have wN:=pw_N m (agS a exaS)
   obtain ⟨b0,b6⟩:=zdf hA zal
   obtain ⟨o1,o2⟩:=zrt hA (zsk (k:=m) (by omega) (by omega)) (zlz m (agS a exaS)) (zu7 wN w1) (by omega)
   rw [<- eX] at o1 o2
   have XN:N38 (exX a m):=by rw [eX]; exact zvj _ _ _ _ _
   have cE:=zkR
   have cO:=zhz a hA
   have cG:=zmM (exX a m) exaS XN zal.1
   rw [XN.1,zal.1.1] at cG
   have cI:=zey a hA
   have bS:invS (scS (-1) a)=a->min (agS a exaS+2) 6<=agS (exX a m) exaS:=fun h=>o2 ((zsG hA).1 h)
   rw [he] at c1 c2
   rw [XN.1] at c1
   have sl:(sxX a m).length=38:=by unfold sxX; rw [if_pos he]; exact (zo0 _ _ _).1
   rw [sl] at c2
   by_cases p6:agS a exaS=6
   .have f1:fiC a=4:=by unfold fiC; rw [if_pos hA.ck,if_pos p6]
    have f2:fiX a=[]:=by unfold fiX; rw [f1]; rfl
    rw [f1,f2] at c3 c4
    rw [p6] at cO bS o1
    clear o2 eX
    generalize agS (exX a m) exaS=n at *
    generalize exX a m=X at *
    generalize sxX a m=SX at *
    generalize exaS=E at *
    simp [go_sem]
    refine CallVC.of (c1) ?_
    simp [go_sem]
    refine CallVC.of (c2) ?_
    simp [go_sem]
    refine CallVC.of (c3) ?_
    simp [go_sem]
    refine CallVC.of (c4) ?_
    simp [go_sem]
    refine CallVC.of (cE) ?_
    simp [go_sem]
    refine CallVC.of (cO) ?_
    simp [go_sem]
    refine CallVC.of (cG) ?_
    simp [go_sem]
    refine CallVC.of (cI) ?_
    simp [go_sem]
    have g1:¬ n<min (7:Int) 6:=by omega
    by_cases hs:invS (scS (-1) a)=a
    .have b2:=bS hs
     have g2:¬ n<min (8:Int) 6:=by omega
     simp [go_sem,g1,hs,g2]
    .simp [go_sem,g1,hs]
   .have f1:fiC a=0:=by unfold fiC; rw [if_pos hA.ck,if_neg p6]
    have f2:fiX a=feS a:=by unfold fiX; rw [f1]; rfl
    have fN:N38 (feS a):=ziy _ _
    rw [f1,f2,fN.1] at c3 c4
    have p5:agS a exaS<6:=by omega
    have ck:=znZ (zbV (pw m 10005) hA) m
    have er:pwrS (scS (pw m 10005) a) m=rfS a m:=rfl
    have fo:=zks hA (zsk (k:=m) (by omega) (by omega)) p5
    have fb:=zsB hA (zsk (k:=m) (by omega) (by omega)) (zlz m (agS a exaS)) p5
    have fn:=zvG hA p5
    rw [er] at ck fo fb
    have cRf:=ziE a m (by omega) h1
    have cFe:=zeq (rfS a m) ck (by omega)
    rw [ck.1.1] at cFe
    have fN2:N38 (feS (rfS a m)):=ziy _ _
    have cPw:=zhc m (agS a exaS) ⟨by omega,by omega⟩ b0 (by omega)
    have cW:=zof (feS a) (by rw [fN.1]; omega)
    have cL:=zfT (feS a) zrS (by rw [fN.1]; omega)
    rw [decide_eq_false fn] at cL
    have zN:N38 zrS:=zbc _
    have cP9:=zq9 zrS (feS (rfS a m)) (pw m (agS a exaS)) zN fN2 wN
    rw [fb] at cP9
    have cL2:=zfT (feS a) (feS a) (by rw [fN.1]; omega)
    rw [decide_eq_true rfl] at cL2
    rw [zN.1,zri] at cL cP9
    rw [fN2.1] at cP9
    rw [fN.1] at cL cL2 cW
    clear o2 eX fb fo fn er ck h1
    generalize feS (rfS a m)=FF at *
    generalize feS a=FA at *
    generalize rfS a m=RR at *
    generalize pw m (agS a exaS)=w at *
    generalize agS (exX a m) exaS=n at *
    generalize exX a m=X at *
    generalize sxX a m=SX at *
    generalize agS a exaS=p at *
    generalize exaS=E at *
    simp [go_sem]
    refine CallVC.of (c1) ?_
    simp [go_sem]
    refine CallVC.of (c2) ?_
    simp [go_sem]
    refine CallVC.of (c3) ?_
    simp [go_sem]
    refine CallVC.of (c4) ?_
    simp [go_sem]
    refine CallVC.of (cE) ?_
    simp [go_sem]
    refine CallVC.of (cO) ?_
    simp [go_sem]
    refine CallVC.of (cG) ?_
    simp [go_sem]
    refine CallVC.of (cI) ?_
    simp [go_sem]
    have g1:¬ n<min (p+1) 6:=by omega
    by_cases hs:invS (scS (-1) a)=a
    .have b2:=bS hs
     have g2:¬ n<min (p+2) 6:=by omega
     refine ⟨⟨by omega,by omega⟩,?_⟩
     simp [go_sem,g1,hs]
     refine ⟨⟨by omega,by omega⟩,?_⟩
     simp [go_sem,g2]
     refine CallVC.of (cRf) ?_
     simp [go_sem]
     refine CallVC.of (cFe) ?_
     simp [go_sem]
     refine CallVC.of (cPw) ?_
     simp [go_sem]
     refine CallVC.of (cW) ?_
     simp [go_sem]
     refine CallVC.of (cL) ?_
     simp [go_sem]
     refine CallVC.of (cP9) ?_
     simp [go_sem]
     refine CallVC.of (cL2) ?_
     simp [go_sem]
    .refine ⟨⟨by omega,by omega⟩,?_⟩
     simp [go_sem,g1,hs]
     refine CallVC.of (cRf) ?_
     simp [go_sem]
     refine CallVC.of (cFe) ?_
     simp [go_sem]
     refine CallVC.of (cPw) ?_
     simp [go_sem]
     refine CallVC.of (cW) ?_
     simp [go_sem]
     refine CallVC.of (cL) ?_
     simp [go_sem]
     refine CallVC.of (cP9) ?_
     simp [go_sem]
     refine CallVC.of (cL2) ?_
     simp [go_sem]
  .have eX:exX a k=[]:=by unfold exX; rw [if_neg he]
   have eS:sxX a k=[]:=by unfold sxX; rw [if_neg he]
   rw [eX] at c1
   rw [eS] at c2
   generalize exC a k=e at *
   generalize fiC a=f at *
   generalize fiX a=F at *
   simp [go_sem]
   refine CallVC.of (c1) ?_
   simp [go_sem]
   refine CallVC.of (c2) ?_
   simp [go_sem]
   refine CallVC.of (c3) ?_
   simp [go_sem]
   refine CallVC.of (c4) ?_
   simp [go_sem]
   simp [go_sem,he]
end Go.Proofs.YthhdollpkieknaaGreat

