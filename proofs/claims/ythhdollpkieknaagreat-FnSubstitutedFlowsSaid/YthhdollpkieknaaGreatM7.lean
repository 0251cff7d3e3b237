/- Texts of the own layer and contracts, part 7: W73 Q19 Q20 Q21 Q22 Q23 Q24 Q25 Q26 Q30 Q31 Q32 Q33 Q44 W0 W56 W34 W74 W76 E54 LK W35 V1 E0 E14 E15 V2 V3 V4 V5 V6 W1 W3 W22 W23 Q36 W24 Q38 E18 E20 E21 E3 E12 E13 N5 E22 V9 V10 W36 E55 W75 W42 O W2 L42 L45. -/
import Derived.Test.YthhdollpkieknaaGreatRows
import Derived.WalkKit
import Derived.ProofKit
import Derived.OpenShut
import Derived.Test.YthhdollpkieknaaGreatM6
set_option linter.unusedSectionVars false
set_option linter.unusedVariables false
set_option linter.unusedSimpArgs false
set_option maxHeartbeats 4000000
set_option maxRecDepth 100000
namespace Go.Proofs.YthhdollpkieknaaGreat
open Go.Abs
theorem zc0 (t:List Int) (i:Nat) (hi:i<t.length) (hl:t.length<=1000) (hb:∀ x∈t,0<=x/\x<=1000):Con Tryz.prog 249 [.sl t.length (avs t),.int i] (.int (parK t (iat t i) i)):=by
 have di:=zav hi
 have bi:0<=iat t i/\iat t i<=1000:=hb _ (memD 0 hi)
 have ng:¬ t=[]:=by rintro rfl; simp at hi
 generalize hx:iat t i=x at *
 clear hx
 generalize hF:parK t x i=F
 refine zab Tryz.mixed ⟨6,[],[],[]⟩ Tryz.func249 ?_
 rw [Tryz.ntmps249]
 simp [go_sem]
 refine ⟨⟨by omega,by omega⟩,?_⟩
 refine zac (4::5::List.range' 8 15) (fun k:Nat=>[(5,.int ((k:Int)-1))]) (fun k=>k<=i/\parK t x k=F) (fun k=>k) i ⟨Nat.le_refl _,hF⟩ (by simp [go_sem]) (by simp [go_sem]) ?_
 rintro k ⟨h1,h2⟩
 cases k with
 | zero =>
  have e:parK t x 0 = -1:=rfl
  rw [e] at h2
  subst h2
  simp [go_sem]
 | succ k =>
  have dk:=zav (a:=t) (v:=k) (by omega)
  have bk:0<=iat t k/\iat t k<=1000:=hb _ (memD 0 (show k<t.length by omega))
  have e1:((k+1:Nat):Int)-1=k:=by omega
  rw [e1]
  rw [show parK t x (k+1)=if iat t k=x-1 then (k:Int) else parK t x k from rfl] at h2
  generalize iat t k=y at *
  by_cases hy:y=x-1
  .rw [if_pos hy] at h2
   subst h2
   simp [go_sem]
   refine ⟨by kernel_rfl,?_⟩
   simp [go_sem,di,dk,hy]
   refine ⟨⟨by omega,ng⟩,⟨hi,ng⟩,⟨by omega,by omega⟩,?_⟩
   refine ⟨by kernel_rfl,?_⟩
   simp [go_sem]
  .rw [if_neg hy] at h2
   simp [go_sem]
   refine ⟨by kernel_rfl,?_⟩
   simp [go_sem,di,dk,hy]
   refine ⟨⟨by omega,ng⟩,⟨hi,ng⟩,⟨by omega,by omega⟩,?_⟩
   refine ⟨by kernel_rfl,?_⟩
   simp [go_sem]
   exact ⟨⟨by omega,by omega⟩,k,⟨by omega,h2⟩,by omega,zaa _ _ _ (by simp),by omega⟩
def blA (L:List Bool):List AV:=L.map fun b=>.val (.bool b)
@[simp] theorem zwH (L:List Bool):(blA L).length=L.length:=by simp [blA]
theorem zsw {L:List Bool} {k:Nat} (h:k<L.length):(blA L)[k]?=some (.val (.bool (L[k]?.getD false))):=by
 unfold blA
 rw [List.getElem?_map,List.getElem?_eq_getElem h]; rfl
theorem zmY (L:List Bool) (k:Nat) (b:Bool):(blA L).set k (.val (.bool b))=blA (L.set k b):=by simp [blA,List.map_set]
def pcS (t:List Int) (m r:Nat) (s:List Int × List Bool) (i:Nat):List Int × List Bool :=
 if (r:Int)<=parK t (iat t i) i/\s.2[(parK t (iat t i) i).toNat]?.getD false=true/\m / 2 ^ i%2=0 then (s.1++[iat t i-iat t r],s.2.set i true) else s
def pcG (t:List Int) (m r:Nat):Nat->List Int × List Bool
 | 0=>([0],(List.replicate t.length false).set r true)
 | n+1=>pcS t m r (pcG t m r n) (r+1+n)
theorem zjC (t:List Int) (m r:Nat):∀ n,(pcG t m r n).1.length<=n+1/\(pcG t m r n).2.length=t.length
 | 0=>by simp [pcG]
 | n+1=>by
  obtain ⟨h1,h2⟩:=zjC t m r n
  unfold pcG pcS
  split
  .simp [h2]; omega
  .exact ⟨by omega,h2⟩
def pcL (t:List Int) (m r:Nat):List Int:=(pcG t m r (t.length-r-1)).1
theorem zjg (t:List Int) (m:Nat) {r:Nat} (hr:r<t.length) (hl:t.length<=6):(pcL t m r).length<=6:=by
 have:=(zjC t m r (t.length-r-1)).1; unfold pcL; omega
def pcV (t:List Int) (m r:Nat):List Int:=canF 6 (pcL t m r)
theorem zlH (t:List Int) (m r:Nat) (hr:r<t.length) (hl:t.length<=6) (hb:∀ x∈t,0<=x/\x<=1000) (hm:m<1000) (hv:Lv (pcL t m r)) :
  Con Tryz.prog 251 [.sl t.length (avs t),.int m,.int r] (.own 2 (pcV t m r).length (avs (pcV t m r))):=by
 have gl:=zjC t m r
 have l6:=zjg t m hr hl
 have lV:(pcV t m r).length=(pcL t m r).length:=zaQ 6 _ hv (by omega)
 rw [lV]
 have cC:=zcQ 6 (pcL t m r) (by omega) hv l6
 rw [show canF 6 (pcL t m r)=pcV t m r from rfl] at cC
 clear lV l6
 generalize pcV t m r=V at *
 have pe:pcG t m r (t.length-r-1)=(pcL t m r,(pcG t m r (t.length-r-1)).2):=rfl
 have p0:pcG t m r 0=([0],(List.replicate t.length false).set r true):=rfl
 have ps:∀ n,pcG t m r (n+1)=pcS t m r (pcG t m r n) (r+1+n):=fun _=>rfl
 have ng:¬ t=[]:=by rintro rfl; simp at hr
 have i0:List.replicate t.length (AV.val (.bool false))=blA (List.replicate t.length false):=by simp [blA]
 generalize pcL t m r=PL at *
 generalize hG:pcG t m r=G at *
 clear hv
 refine zab Tryz.mixed ⟨11,[],[],[]⟩ Tryz.func251 ?_
 rw [Tryz.ntmps251]
 simp [go_sem]
 refine ⟨⟨by omega,by omega⟩,hr,⟨by omega,by omega⟩,?_⟩
 rw [i0,zmY]
 refine zac (7::9::10::8::List.range' 20 41) (fun n:Nat=>[(7,.own 2 (G n).1.length (avs (G n).1)),(8,.own 4 t.length (blA (G n).2)),(9,.int ((r+1+n:Nat):Int))]) (fun n=>r+1+n<=t.length) (fun n=>t.length-n) 0 (by omega) (by simp [go_sem,p0,avs]) (by simp [go_sem]) ?_
 intro n hn
 obtain ⟨g1,g2⟩:=gl n
 by_cases hnl:r+1+n<t.length
 .have di:=zav (a:=t) (v:=r+1+n) hnl
  have dr:=zav (a:=t) (v:=r) hr
  have bi:0<=iat t (r+1+n)/\iat t (r+1+n)<=1000:=hb _ (memD 0 hnl)
  have br:0<=iat t r/\iat t r<=1000:=hb _ (memD 0 hr)
  have cP:=zc0 t (r+1+n) hnl (by omega) hb
  have bq:=zgJ t (iat t (r+1+n)) (r+1+n)
  have s1:=ps n
  unfold pcS at s1
  have bl:=ze8 (m:=m) (i:=r+1+n) (by omega) (by omega)
  have hni:((r+1+n:Nat):Int)<t.length:=by omega
  generalize parK t (iat t (r+1+n)) (r+1+n)=q at *
  generalize iat t (r+1+n)=x at *
  generalize iat t r=y at *
  generalize hi:r+1+n=i at *
  generalize hg1:G (n+1)=g1 at *
  generalize G n=g at *
  obtain ⟨o,B⟩:=g
  simp only at g1 g2 s1
  simp [go_sem,hni]
  refine CallVC.of (cP) ?_
  simp [go_sem]
  have hw:IntKind.wrap .u64 (i:Int)=i:=zcF (by omega) (by omega)
  by_cases h1:(r:Int)<=q
  .obtain ⟨k,rfl⟩:∃ k:Nat,q=k:=⟨q.toNat,by omega⟩
   rw [Int.toNat_natCast] at s1
   have gk:=zsw (L:=B) (k:=k) (by omega)
   have hkl:k<t.length:=by omega
   cases hbk:B[k]?.getD false with
   | false =>
    rw [hbk] at gk s1
    rw [if_neg (by simp)] at s1
    simp -implicitDefEqProofs [go_sem,h1,gk]
    refine ⟨hkl,⟨by omega,by omega⟩,n+1,by omega,by omega,zaa _ _ _ (by simp),?_⟩
    rw [hg1,s1]
    exact ⟨⟨rfl,rfl⟩,rfl,by omega⟩
   | true =>
    rw [hbk] at gk s1
    rcases Nat.mod_two_eq_zero_or_one (m / 2 ^ i) with h2 | h2
    .rw [h2] at bl s1
     rw [if_pos ⟨h1,rfl,rfl⟩] at s1
     simp -implicitDefEqProofs [go_sem,h1,gk,hw,bl]
     refine ⟨hkl,hnl,by omega,by kernel_rfl,?_⟩
     simp [go_sem,di,dr]
     refine ⟨⟨hnl,ng⟩,⟨hr,ng⟩,⟨by omega,by omega⟩,⟨by omega,by omega⟩,?_⟩
     refine ⟨by kernel_rfl,?_⟩
     simp [go_sem]
     refine ⟨⟨by omega,by omega⟩,n+1,by omega,by omega,zaa _ _ _ (by simp),?_⟩
     rw [hg1,s1]
     simp [avs,zmY]
     omega
    .rw [h2] at bl s1
     rw [if_neg (by simp)] at s1
     simp -implicitDefEqProofs [go_sem,h1,gk,hw,bl]
     refine ⟨hkl,⟨by omega,by omega⟩,n+1,by omega,by omega,zaa _ _ _ (by simp),?_⟩
     rw [hg1,s1]
     exact ⟨⟨rfl,rfl⟩,rfl,by omega⟩
  .rw [if_neg (fun h=>h1 h.1)] at s1
   simp -implicitDefEqProofs [go_sem,h1]
   refine ⟨⟨by omega,by omega⟩,n+1,by omega,by omega,zaa _ _ _ (by simp),?_⟩
   rw [hg1,s1]
   exact ⟨⟨rfl,rfl⟩,rfl,by omega⟩
 .have e:t.length-r-1=n:=by omega
  rw [e] at pe
  rw [pe]
  generalize r+1+n=i at *
  have hni:¬ (i:Int)<t.length:=by omega
  simp [go_sem,hni]
  refine CallVC.of (cC) ?_
  simp [go_sem]
def psL (t:List Int) (m:Nat):Nat->List (List Int)
 | 0=>[]
 | i+1=>psL t m i++if i=0\/m / 2 ^ i%2=1 then [pcV t m i] else []
theorem zjp (t:List Int) (m:Nat):∀ i,(psL t m i).length<=i
 | 0=>by simp [psL]
 | i+1=>by
  have:=zjp t m i
  unfold psL
  split <;> simp <;> omega
theorem zl6 {t:List Int} {m:Nat}:∀ {i:Nat},∀ b∈psL t m i,∃ r,r<i/\b=pcV t m r
 | 0,b,h=>by simp [psL] at h
 | i+1,b,h=>by
  unfold psL at h
  rcases List.mem_append.1 h with h | h
  .obtain ⟨r,h1,h2⟩:=zl6 b h
   exact ⟨r,by omega,h2⟩
  .split at h
   .exact ⟨i,by omega,by simpa using h⟩
   .simp at h
theorem zi1 (t:List Int) (m:Nat) (h0:0<t.length) (hl:t.length<=6) (hb:∀ x∈t,0<=x/\x<=1000) (hm:m<1000) (hv:∀ r,r<t.length->Lv (pcL t m r)) :
  GCon Tryz.prog 191 [.sl t.length (avs t),.int m] (.sl (psL t m t.length).length (mat (srtT (psL t m t.length)))) [.any,.any]:=by
 have cP:=fun r h=>zlH t m r h hl hb hm (hv r h)
 have c0:=cP 0 h0
 have lL:=zjp t m
 have cS:=zmj (psL t m t.length) (fun b hb=>by
  obtain ⟨r,h1,rfl⟩:=zl6 b hb
  have:=zaQ 6 _ (hv r h1) (zjg t m h1 hl)
  have:=zjg t m h1 hl
  unfold pcV; omega) (by have:=lL t.length; omega)
 have s0:psL t m 1=[pcV t m 0]:=rfl
 have ss:∀ i,psL t m (i+1)=psL t m i++if i=0\/m / 2 ^ i%2=1 then [pcV t m i] else []:=fun _=>rfl
 generalize hL:psL t m=L at *
 generalize hV:pcV t m=V at *
 refine zal Tryz.mixed ⟨7,[30],[1000000+252],[]⟩ [] Tryz.func191 ?_
 rw [Tryz.ntmps191]
 simp [go_sem]
 refine CallVC.of (c0) ?_
 simp [go_sem]
 refine zac (5::6::List.range' 11 19) (fun i:Nat=>[(5,.own 25 (L i).length (omat (L i))),(6,.int i)]) (fun i=>1<=i/\i<=t.length) (fun i=>t.length-i) 1 (by omega) (by simp [go_sem,s0,omat]) (by simp [go_sem]) ?_
 rintro i ⟨h1,h2⟩
 have ll:=lL i
 by_cases hil:i<t.length
 .have hii:(i:Int)<t.length:=by omega
  have bl:=ze8 (m:=m) (i:=i) (by omega) (by omega)
  have hw:IntKind.wrap .u64 (i:Int)=i:=zcF (by omega) (by omega)
  have s1:=ss i
  have cI:=cP i hil
  rcases Nat.mod_two_eq_zero_or_one (m / 2 ^ i) with h2 | h2
  .rw [h2] at bl s1
   rw [if_neg (by omega),List.append_nil] at s1
   simp [go_sem,hii,hw,bl]
   refine ⟨⟨by omega,by omega⟩,i+1,by omega,by omega,zaa _ _ _ (by simp),?_⟩
   rw [s1]
   exact ⟨⟨rfl,rfl⟩,by omega⟩
  .rw [h2] at bl s1
   rw [if_pos (by omega)] at s1
   simp [go_sem,hii,hw,bl]
   refine CallVC.of (cI) ?_
   simp [go_sem]
   refine ⟨⟨by omega,by omega⟩,⟨by omega,by omega⟩,i+1,by omega,by omega,zaa _ _ _ (by simp),?_⟩
   rw [s1]
   simp [omat]
 .have e:i=t.length:=by omega
  subst e
  have hii:¬ (t.length:Int)<t.length:=by omega
  simp [go_sem,hii]
  refine ⟨_,_,cS,?_⟩
  simp [go_sem]
def skN (t:List Int) (m:Nat):Nat->Int->Int->Int
 | 0,_,l=>l
 | n+1,k,l=>if 0<k then skN t m n (parK t (iat t k.toNat) k.toNat) (if m / 2 ^ k.toNat%2=1 then l+1 else l) else l
def skL (t:List Int) (m:Nat):Nat->List Int
 | 0=>[]
 | i+1=>skL t m i++if i=0 then [0] else if m / 2 ^ i%2=1 then [skN t m i (parK t (iat t i) i) 1] else []
theorem zmf (t:List Int) (m:Nat):∀ i,(skL t m i).length<=i
 | 0=>by simp [skL]
 | i+1=>by
  have:=zmf t m i
  unfold skL
  split
  .simp; omega
  .split <;> simp <;> omega
def skV (t:List Int) (m:Nat):List Int:=canF 6 (skL t m t.length)
theorem zhd (t:List Int) (m:Nat) (h0:0<t.length) (hl:t.length<=6) (hb:∀ x∈t,0<=x/\x<=1000) (hm:m<1000) (hv:Lv (skL t m t.length)) :
  Con Tryz.prog 190 [.sl t.length (avs t),.int m] (.own 2 (skV t m).length (avs (skV t m))):=by
 have lL:=zmf t m
 have cC:=zcQ 6 (skL t m t.length) (by omega) hv (by have:=lL t.length; omega)
 have lV:(skV t m).length=(skL t m t.length).length:=zaQ 6 _ hv (by have:=lL t.length; omega)
 rw [lV]
 rw [show canF 6 (skL t m t.length)=skV t m from rfl] at cC
 clear lV hv
 generalize skV t m=V at *
 have s0:skL t m 1=[0]:=rfl
 have ss:∀ i,1<=i->skL t m (i+1)=skL t m i++if m / 2 ^ i%2=1 then [skN t m i (parK t (iat t i) i) 1] else []:=fun i hi=>by
  show skL t m i++(if i=0 then [0] else _)=_
  rw [if_neg (by omega)]
 generalize hL:skL t m=L at *
 refine zab Tryz.mixed ⟨9,[],[],[]⟩ Tryz.func190 ?_
 rw [Tryz.ntmps190]
 simp [go_sem]
 refine zac (5::6::7::8::List.range' 10 32) (fun i:Nat=>[(5,.own 2 (L i).length (avs (L i))),(6,.int i)]) (fun i=>1<=i/\i<=t.length) (fun i=>t.length-i) 1 (by omega) (by simp [go_sem,s0,avs]) (by simp [go_sem]) ?_
 rintro i ⟨h1,h2⟩
 have ll:=lL i
 by_cases hil:i<t.length
 .have hii:(i:Int)<t.length:=by omega
  have bl:=ze8 (m:=m) (i:=i) (by omega) (by omega)
  have hw:IntKind.wrap .u64 (i:Int)=i:=zcF (by omega) (by omega)
  have s1:=ss i h1
  have cI:=zc0 t i hil (by omega) hb
  have bq:=zgJ t (iat t i) i
  rcases Nat.mod_two_eq_zero_or_one (m / 2 ^ i) with h2 | h2
  .rw [h2] at bl s1
   rw [if_neg (by omega),List.append_nil] at s1
   simp [go_sem,hii,hw,bl]
   refine ⟨⟨by omega,by omega⟩,i+1,by omega,by omega,zaa _ _ _ (by simp),?_⟩
   rw [s1]
   exact ⟨⟨rfl,rfl⟩,by omega⟩
  .rw [h2] at bl s1
   rw [if_pos (by omega)] at s1
   generalize hF:skN t m i (parK t (iat t i) i) 1=F at *
   generalize parK t (iat t i) i=q at *
   simp [go_sem,hii,hw,bl]
   refine CallVC.of (cI) ?_
   simp [go_sem]
   refine zac (7::8::List.range' 25 13) (fun x:Int × Int=>[(8,.int x.1),(7,.int x.2)]) (fun x=>(-1<=x.1/\x.1<i/\1<=x.2/\x.1+x.2<=i)/\∃ n:Nat,x.1<n/\skN t m n x.1 x.2=F) (fun x=>(x.1+1).toNat) (q,1) ⟨by omega,i,by omega,hF⟩ (by simp [go_sem]) (by simp [go_sem]) ?_
   rintro ⟨k,l⟩ ⟨⟨b1,b2,b3,b4⟩,n,n1,n2⟩
   simp only at b1 b2 b3 b4 n1 n2
   by_cases hk:0<k
   .obtain ⟨k,rfl⟩:∃ k':Nat,k=k':=⟨k.toNat,by omega⟩
    obtain ⟨n,rfl⟩:∃ n',n=n'+1:=⟨n-1,by omega⟩
    rw [skN,if_pos hk,Int.toNat_natCast] at n2
    have hkl:k<t.length:=by omega
    have hk2:0<k:=by omega
    have cK:=zc0 t k hkl (by omega) hb
    have bk:=zgJ t (iat t k) k
    have bl2:=ze8 (m:=m) (i:=k) (by omega) (by omega)
    have hw2:IntKind.wrap .u64 (k:Int)=k:=zcF (by omega) (by omega)
    generalize parK t (iat t k) k=q2 at *
    rcases Nat.mod_two_eq_zero_or_one (m / 2 ^ k) with h3 | h3
    .rw [h3] at bl2 n2
     rw [if_neg (by omega)] at n2
     simp [go_sem,hk2,hw2,bl2]
     refine CallVC.of (cK) ?_
     simp [go_sem]
     exact ⟨q2,l,⟨by omega,n,by omega,n2⟩,by omega,zaa _ _ _ (by simp),by simp⟩
    .rw [h3] at bl2 n2
     rw [if_pos rfl] at n2
     simp [go_sem,hk2,hw2,bl2]
     refine ⟨⟨by omega,by omega⟩,?_⟩
     refine CallVC.of (cK) ?_
     simp [go_sem]
     exact ⟨q2,l+1,⟨by omega,n,by omega,n2⟩,by omega,zaa _ _ _ (by simp),by simp⟩
   .have hF2:l=F:=by
     cases n with
     | zero=>exact n2
     | succ n=>rw [skN,if_neg hk] at n2; exact n2
    subst hF2
    simp [go_sem,hk]
    refine ⟨⟨by omega,by omega⟩,⟨by omega,by omega⟩,i+1,by omega,by omega,(Off.reset (by intro x hx; simp at hx |-; omega) (by simp) (by simp [go_sem,zaa])),?_⟩
    rw [s1]
    simp [avs]
 .have e:i=t.length:=by omega
  subst e
  have hii:¬ (t.length:Int)<t.length:=by omega
  simp [go_sem,hii]
  refine CallVC.of (cC) ?_
  simp [go_sem]
end Go.Proofs.YthhdollpkieknaaGreat


namespace Go.Proofs.YthhdollpkieknaaGreat
open Go.Abs
end Go.Proofs.YthhdollpkieknaaGreat


namespace Go.Proofs.YthhdollpkieknaaGreat
open Go.Abs
end Go.Proofs.YthhdollpkieknaaGreat


namespace Go.Proofs.YthhdollpkieknaaGreat
open Go.Abs
end Go.Proofs.YthhdollpkieknaaGreat


namespace Go.Proofs.YthhdollpkieknaaGreat
open Go.Abs
end Go.Proofs.YthhdollpkieknaaGreat


namespace Go.Proofs.YthhdollpkieknaaGreat
open Go.Abs
end Go.Proofs.YthhdollpkieknaaGreat


namespace Go.Proofs.YthhdollpkieknaaGreat
open Go.Abs
end Go.Proofs.YthhdollpkieknaaGreat


namespace Go.Proofs.YthhdollpkieknaaGreat
open Go.Abs
end Go.Proofs.YthhdollpkieknaaGreat


namespace Go.Proofs.YthhdollpkieknaaGreat
open Go.Abs
end Go.Proofs.YthhdollpkieknaaGreat


namespace Go.Proofs.YthhdollpkieknaaGreat
open Go.Abs
theorem FieldOk.wok {z:Int} {f:List (List Mon)} (hf:FieldOk z f):∀ F∈f,∀ m∈F,WOk f.length 3 m:=fun F hF m hm=>by
 have h:=zb2 (hf.part F hF) hm
 have h1:=h.lo
 have h2:=h.hi
 have h3:=h.len
 have h4:=hf.len
 exact ⟨⟨by omega,by omega⟩,by omega,h.pw⟩
end Go.Proofs.YthhdollpkieknaaGreat


namespace Go.Proofs.YthhdollpkieknaaGreat
open Go.Abs
end Go.Proofs.YthhdollpkieknaaGreat


namespace Go.Proofs.YthhdollpkieknaaGreat
open Go.Abs CR
abbrev c7:Cg (Ser Int):=cgS cgI 7
section
variable {α:Type} [CR α]
theorem Cg.evM (c:Cg α) {d:Nat} {U V:Nat->α} (h:∀ k,k<d->c.r (U k) (V k)) (L:List Mon):c.r (evM d U L) (evM d V L):=c.ev h _
end
end Go.Proofs.YthhdollpkieknaaGreat


namespace Go.Proofs.YthhdollpkieknaaGreat
open Go.Abs
end Go.Proofs.YthhdollpkieknaaGreat


namespace Go.Proofs.YthhdollpkieknaaGreat
open Go.Abs
theorem zqN {k:Nat} (h:0<k) (t:List Int):genT k t≠[]:=by
 cases k with
 | zero=>omega
 | succ k=>simp [genT]
theorem zlX (n:Nat) (h1:1<=n) (h6:n<=6):Con Tryz.prog 215 [.int n] (.own 25 (genT 200 (upTo n)).length (omat (genT 200 (upTo n)))):=by
 have c:=zhC n h6 (n-1) [0] [] ⟨by simp,by simp,fun j h1 h2=>by simp at h2; omega⟩ (by simp; omega) (by
  have:=Nat.pow_le_pow_right (n:=6) (by omega) (show n-1<=6 by omega)
  simp only [List.length_nil]; omega)
 rw [<- (zfS n h1 h6).2.1] at c
 have hp:=zqN (k:=200) (by omega) (upTo n)
 generalize genT 200 (upTo n)=G at *
 cases G with
 | nil=>exact (hp rfl).elim
 | cons r G =>
  refine zab Tryz.mixed ⟨3,[],[272],[]⟩ Tryz.func215 ?_
  rw [Tryz.ntmps215]
  simp [go_sem]
  refine ⟨_,_,c,?_⟩
  simp [go_sem]
end Go.Proofs.YthhdollpkieknaaGreat


namespace Go.Proofs.YthhdollpkieknaaGreat
open Go.Abs
def bys (c:List Int):List AV:=c.map fun x=>.val (.int .u8 x)
@[simp] theorem zwJ (c:List Int):(bys c).length=c.length:=by simp [bys]
theorem zex {c:List Int} {k:Nat} (h:k<c.length):(bys c).drop k=.val (.int .u8 (c[k]?.getD 0))::bys (c.drop (k+1)):=by
 rw [bys,<- List.map_drop,List.drop_eq_getElem_cons h,List.map_cons]; simp [h,bys]
def Byt (c:List Int):Prop:=c.length<=4096/\∀ x∈c,0<=x/\x<=255
theorem Byt.get {c:List Int} (h:Byt c) (k:Nat):0<=c[k]?.getD 0/\c[k]?.getD 0<=255:=by
 rcases Nat.lt_or_ge k c.length with hk | hk
 .simp [hk]; exact h.2 _ (List.getElem_mem hk)
 .simp [hk]
abbrev Src:=Nat × Int
def srcA (c:List Int) (σ:Src):AV:=.box 162 [.sl c.length (bys c),.int σ.1,.val (.int .u64 σ.2)]
theorem zau (c:List Int) (σ:Src):srcA c σ=.box 162 [.sl c.length (bys c),.int σ.1,.val (.int .u64 σ.2)]:=rfl
def dicA (c:List Int) (σ:Src):AV:=.box 117 [.sl c.length (bys c),.int σ.1,.val (.int .u64 σ.2)]
def nxH (h:Int):Int:=IntKind.u64.wrap (IntKind.u64.wrap (h*6364136223846793005)+1442695040888963407)
def nxX (h:Int):Int:=andI IntKind.u64 (shrI IntKind.u64 (nxH h) 33) 16777215
def byV (c:List Int) (k:Nat):Int:=if k<c.length then c[k]?.getD 0 else 0
def nx1 (c:List Int) (σ:Src) (n:Int):Int:=if n<1 then 0 else (nxX σ.2+byV c σ.1).tmod n
def nx2 (c:List Int) (σ:Src) (n:Int):Src:=if n<1 then σ else (if σ.1<c.length then σ.1+1 else σ.1,nxH σ.2)
def SOk (σ:Src):Prop:=σ.1<=4096
theorem zay {c:List Int} (hc:Byt c) {σ:Src} (h:SOk σ) (n:Int):SOk (nx2 c σ n):=by
 unfold SOk nx2 at *
 have:=hc.1
 split
 .exact h
 .simp only; split <;> omega
theorem ztQ (h:Int):0<=nxX h/\nxX h<=16777215:=by
 unfold nxX andI
 generalize shrI IntKind.u64 (nxH h) 33=y
 have h1:(BitVec.ofInt IntKind.u64.bits y &&& BitVec.ofInt IntKind.u64.bits 16777215).toNat<=16777215:=by
  rw [BitVec.toNat_and]
  exact Nat.le_trans Nat.and_le_right (by decide)
 generalize (BitVec.ofInt IntKind.u64.bits y &&& BitVec.ofInt IntKind.u64.bits 16777215).toNat=m at *
 simp [IntKind.wrap,IntKind.signed,IntKind.bits]
 omega
theorem ztg {c:List Int} (hc:Byt c) (k:Nat):0<=byV c k/\byV c k<=255:=by
 unfold byV
 split
 .exact hc.get k
 .omega
theorem zia {c:List Int} (hc:Byt c) (σ:Src) {n:Int} (hn:1<=n):0<=nx1 c σ n/\nx1 c σ n<n:=by
 have h1:=ztQ σ.2
 have h2:=ztg hc σ.1
 unfold nx1
 rw [if_neg (by omega),Int.tmod_eq_emod_of_nonneg (by omega)]
 exact ⟨Int.emod_nonneg _ (by omega),Int.emod_lt_of_pos _ (by omega)⟩
theorem zan (c:List Int) (σ:Src) (n:Int) (hc:Byt c) (hs:SOk σ):GCon Tryz.prog 183 [srcA c σ,.int n] (.int (nx1 c σ n)) [srcA c (nx2 c σ n),.any]:=by
 have hx:=ztQ σ.2
 have hy:=ztg hc σ.1
 have hcl:=hc.1
 unfold SOk at hs
 unfold nx1 nx2
 by_cases h0:n<1
 .rw [if_pos h0,if_pos h0]
  unfold srcA
  refine zal Tryz.mixed ⟨6,[],[],[]⟩ [0] Tryz.func183 ?_
  rw [Tryz.ntmps183]
  simp [go_sem]
  simp [go_sem,h0]
 .rw [if_neg h0,if_neg h0]
  unfold srcA
  have e1:nxH σ.2=IntKind.u64.wrap (IntKind.u64.wrap (σ.2*6364136223846793005)+1442695040888963407):=rfl
  have e2:nxX σ.2=andI IntKind.u64 (shrI IntKind.u64 (nxH σ.2) 33) 16777215:=rfl
  generalize nxX σ.2=x at *
  generalize nxH σ.2=h' at *
  have n0:¬ n=0:=by omega
  by_cases hk:σ.1<c.length
  .have hb:byV c σ.1=c[σ.1]?.getD 0:=by unfold byV; rw [if_pos hk]
   have hne:¬ c=[]:=by rintro rfl; simp at hk
   rw [if_pos hk]
   rw [hb] at hy |-
   refine zal Tryz.mixed ⟨6,[],[],[]⟩ [0] Tryz.func183 ?_
   rw [Tryz.ntmps183]
   simp [go_sem]
   simp [go_sem,h0,<- e1,<- e2]
   refine ⟨⟨by omega,by omega⟩,by kernel_rfl,?_⟩
   refine ⟨by kernel_rfl,?_⟩
   simp [go_sem]
   have hD:=zex hk
   generalize c[σ.1]?.getD 0=b at *
   simp [go_sem,hk,hD]
   refine ⟨by kernel_rfl,by intro e; exact hne (by simpa [bys] using e),⟨by omega,by omega⟩,⟨by omega,by omega⟩,?_⟩
   refine ⟨by kernel_rfl,?_⟩
   simp [go_sem]
   exact ⟨⟨by omega,by omega⟩,n0⟩
  .have hb:byV c σ.1=0:=by unfold byV; rw [if_neg hk]
   rw [if_neg hk]
   rw [hb] at hy |-
   refine zal Tryz.mixed ⟨6,[],[],[]⟩ [0] Tryz.func183 ?_
   rw [Tryz.ntmps183]
   simp [go_sem]
   simp [go_sem,h0,<- e1,<- e2]
   refine ⟨⟨by omega,by omega⟩,by kernel_rfl,?_⟩
   refine ⟨by kernel_rfl,?_⟩
   simp [go_sem]
   simp [go_sem,hk]
   exact n0
theorem ziE (c:List Int) (σ:Src) (n:Int) (hc:Byt c) (hs:SOk σ):GCon Tryz.prog 109 [dicA c σ,.int n] (.int (nx1 c σ n)) [dicA c (nx2 c σ n),.any]:=by
 have hx:=ztQ σ.2
 have hy:=ztg hc σ.1
 have hcl:=hc.1
 unfold SOk at hs
 unfold nx1 nx2
 by_cases h0:n<1
 .rw [if_pos h0,if_pos h0]
  unfold dicA
  refine zal Tryz.mixed ⟨6,[],[],[]⟩ [0] Tryz.func109 ?_
  rw [Tryz.ntmps109]
  simp [go_sem]
  simp [go_sem,h0]
 .rw [if_neg h0,if_neg h0]
  unfold dicA
  have e1:nxH σ.2=IntKind.u64.wrap (IntKind.u64.wrap (σ.2*6364136223846793005)+1442695040888963407):=rfl
  have e2:nxX σ.2=andI IntKind.u64 (shrI IntKind.u64 (nxH σ.2) 33) 16777215:=rfl
  generalize nxX σ.2=x at *
  generalize nxH σ.2=h' at *
  have n0:¬ n=0:=by omega
  by_cases hk:σ.1<c.length
  .have hb:byV c σ.1=c[σ.1]?.getD 0:=by unfold byV; rw [if_pos hk]
   have hne:¬ c=[]:=by rintro rfl; simp at hk
   rw [if_pos hk]
   rw [hb] at hy |-
   refine zal Tryz.mixed ⟨6,[],[],[]⟩ [0] Tryz.func109 ?_
   rw [Tryz.ntmps109]
   simp [go_sem]
   simp [go_sem,h0,<- e1,<- e2]
   refine ⟨⟨by omega,by omega⟩,by kernel_rfl,?_⟩
   refine ⟨by kernel_rfl,?_⟩
   simp [go_sem]
   have hD:=zex hk
   generalize c[σ.1]?.getD 0=b at *
   simp [go_sem,hk,hD]
   refine ⟨by kernel_rfl,by intro e; exact hne (by simpa [bys] using e),⟨by omega,by omega⟩,⟨by omega,by omega⟩,?_⟩
   refine ⟨by kernel_rfl,?_⟩
   simp [go_sem]
   exact ⟨⟨by omega,by omega⟩,n0⟩
  .have hb:byV c σ.1=0:=by unfold byV; rw [if_neg hk]
   rw [if_neg hk]
   rw [hb] at hy |-
   refine zal Tryz.mixed ⟨6,[],[],[]⟩ [0] Tryz.func109 ?_
   rw [Tryz.ntmps109]
   simp [go_sem]
   simp [go_sem,h0,<- e1,<- e2]
   refine ⟨⟨by omega,by omega⟩,by kernel_rfl,?_⟩
   refine ⟨by kernel_rfl,?_⟩
   simp [go_sem]
   simp [go_sem,hk]
   exact n0
theorem getI {xs:List Int} {v:Int} (h0:0<=v) (h1:v<xs.length):∃ k:Nat,v=k/\k<xs.length/\v.toNat=k:=⟨v.toNat,by omega,by omega,rfl⟩
def pk (c:List Int) (σ:Src) (xs:List Int):Int:=xs[(nx1 c σ xs.length).toNat]?.getD 0
theorem zu0 (c:List Int) (hc:Byt c) (σ:Src) {xs:List Int} (hx:0<xs.length):pk c σ xs∈xs:=by
 have h:=zia hc σ (n:=xs.length) (by omega)
 unfold pk
 have hk:(nx1 c σ xs.length).toNat<xs.length:=by omega
 simp [hk]
theorem zb1 (c:List Int) (σ:Src) (xs:List Int) (hc:Byt c) (hs:SOk σ) (hx:0<xs.length) (hxl:xs.length<=1000) :
  GCon Tryz.prog 98 [srcA c σ,.own 2 xs.length (avs xs)] (.int (pk c σ xs)) [srcA c (nx2 c σ xs.length),.any]:=by
 have cN:=zan c σ xs.length hc hs
 have hb:=zia hc σ (n:=xs.length) (by omega)
 unfold pk
 obtain ⟨k,hk,hkl,hkt⟩:=getI hb.1 hb.2
 rw [hkt]
 rw [hk] at cN
 unfold srcA at *
 refine zal Tryz.mixed ⟨5,[],[1000000+183],[]⟩ [0] Tryz.func98 ?_
 rw [Tryz.ntmps98]
 simp [go_sem]
 refine ⟨_,_,cN,?_⟩
 simp [go_sem]
 have hA:=zcr hkl
 simp [go_sem,hA]
 exact hkl
theorem zmd (p q:Int) (hp:fits p) (hq:fits q):Con Tryz.prog 209 [.int p,.int q] (.int (p%10007*pw (q%10007) 10005%10007)):=by
 have hf:fits (p%10007*pw (q%10007) 10005):=zaK (zak _) (zak _)
 refine zab Tryz.mixed ⟨5,[],[],[]⟩ Tryz.func209 ?_
 rw [Tryz.ntmps209]
 simp [go_sem]
 refine CallVC.of (zej p hp.1 hp.2) ?_
 simp [go_sem]
 refine CallVC.of (zej q hq.1 hq.2) ?_
 simp [go_sem]
 refine CallVC.of (zqC _ (zak q)) ?_
 simp [go_sem]
 refine CallVC.of (zdx _ _ hf) ?_
 simp [go_sem]
def nbV (c:List Int) (σ:Src):Int × Src :=
 if nx1 c σ 5=0 then (nx1 c (nx2 c σ 5) 10007,nx2 c (nx2 c σ 5) 10007)
 else if nx1 c σ 5=1 then (pk c (nx2 c σ 5) [0,1,0,1,10006,2],nx2 c (nx2 c σ 5) 6)
 else ((nx1 c (nx2 c σ 5) 15-7)%10007*pw ((1+nx1 c (nx2 c (nx2 c σ 5) 15) 12)%10007) 10005%10007,nx2 c (nx2 c (nx2 c σ 5) 15) 12)
theorem zon {c:List Int} (hc:Byt c) {σ:Src} (hs:SOk σ):isN (nbV c σ).1/\SOk (nbV c σ).2:=by
 have s1:=zay hc hs 5
 unfold nbV
 split
 .exact ⟨zia hc (nx2 c σ 5) (n:=10007) (by omega),zay hc s1 _⟩
 .split
  .refine ⟨?_,zay hc s1 _⟩
   have:=zu0 c hc (nx2 c σ 5) (xs:=[0,1,0,1,10006,2]) (by simp)
   simp at this
   simp only
   constructor <;> omega
  .exact ⟨zak _,zay hc (zay hc s1 _) _⟩
theorem zfv (c:List Int) (σ:Src) (hc:Byt c) (hs:SOk σ):GCon Tryz.prog 184 [srcA c σ] (.int (nbV c σ).1) [srcA c (nbV c σ).2]:=by
 have s1:=zay hc hs 5
 have s2:=zay hc s1 15
 have c1:=zan c σ 5 hc hs
 have c2:=zan c (nx2 c σ 5) 10007 hc s1
 have c3:=zb1 c (nx2 c σ 5) [0,1,0,1,10006,2] hc s1 (by simp) (by simp)
 have c4:=zan c (nx2 c σ 5) 15 hc s1
 have c5:=zan c (nx2 c (nx2 c σ 5) 15) 12 hc s2
 have b4:=zia hc (nx2 c σ 5) (n:=15) (by omega)
 have b5:=zia hc (nx2 c (nx2 c σ 5) 15) (n:=12) (by omega)
 have c6:=zmd (nx1 c (nx2 c σ 5) 15-7) (1+nx1 c (nx2 c (nx2 c σ 5) 15) 12) ⟨by omega,by omega⟩ ⟨by omega,by omega⟩
 unfold nbV
 have e3:(([0,1,0,1,10006,2]:List Int).length:Int)=6:=rfl
 rw [e3] at c3
 generalize pk c (nx2 c σ 5) [0,1,0,1,10006,2]=pv at *
 generalize nx1 c (nx2 c (nx2 c σ 5) 15) 12=v5 at *
 generalize nx2 c (nx2 c (nx2 c σ 5) 15) 12=t5 at *
 generalize nx1 c (nx2 c σ 5) 15=v4 at *
 generalize nx2 c (nx2 c σ 5) 15=t4 at *
 generalize nx2 c (nx2 c σ 5) 6=t3 at *
 generalize nx1 c (nx2 c σ 5) 10007=v2 at *
 generalize nx2 c (nx2 c σ 5) 10007=t2 at *
 generalize nx1 c σ 5=v1 at *
 generalize nx2 c σ 5=t1 at *
 unfold srcA at *
 by_cases h0:v1=0
 .rw [if_pos h0]
  refine zal Tryz.mixed ⟨3,[],[1000000+183,1000000+98],[]⟩ [0] Tryz.func184 ?_
  rw [Tryz.ntmps184]
  simp [go_sem]
  refine ⟨_,_,c1,?_⟩
  simp [go_sem]
  simp [go_sem,h0]
  refine ⟨_,_,c2,?_⟩
  simp [go_sem]
 .rw [if_neg h0]
  by_cases h1:v1=1
  .rw [if_pos h1]
   refine zal Tryz.mixed ⟨3,[],[1000000+183,1000000+98],[]⟩ [0] Tryz.func184 ?_
   rw [Tryz.ntmps184]
   simp [go_sem]
   refine ⟨_,_,c1,?_⟩
   simp [go_sem]
   simp [go_sem,h0,h1]
   refine ⟨_,_,c3,?_⟩
   simp [go_sem]
  .rw [if_neg h1]
   refine zal Tryz.mixed ⟨3,[],[1000000+183,1000000+98],[]⟩ [0] Tryz.func184 ?_
   rw [Tryz.ntmps184]
   simp [go_sem]
   refine ⟨_,_,c1,?_⟩
   simp [go_sem]
   simp [go_sem,h0,h1]
   refine ⟨_,_,c4,?_⟩
   simp [go_sem]
   refine ⟨⟨by omega,by omega⟩,?_⟩
   refine ⟨_,_,c5,?_⟩
   simp [go_sem]
   refine ⟨⟨by omega,by omega⟩,?_⟩
   refine CallVC.of (c6) ?_
   simp [go_sem]
theorem zrx (n:Int) (h0 : -9223372036854775808<=n) (h1:n<=9223372036854775807):Con Tryz.prog 37 [.int n] (.int (n%10007)):=by
 have e:=zjf n
 have b:=zi4 n
 refine zab Tryz.mixed ⟨3,[],[],[]⟩ Tryz.func37 ?_
 rw [Tryz.ntmps37]
 simp [go_sem]
 simp [go_sem,e]
 omega
def n5V (c:List Int) (σ:Src):Int × Src :=
 if nx1 c σ 2=0 then (nx1 c (nx2 c σ 2) 10007,nx2 c (nx2 c σ 2) 10007)
 else ((nx1 c (nx2 c σ 2) 9-4)%10007,nx2 c (nx2 c σ 2) 9)
theorem znU {c:List Int} (hc:Byt c) {σ:Src} (hs:SOk σ):isN (n5V c σ).1/\SOk (n5V c σ).2:=by
 have s1:=zay hc hs 2
 unfold n5V
 split
 .exact ⟨zia hc (nx2 c σ 2) (n:=10007) (by omega),zay hc s1 _⟩
 .exact ⟨zak _,zay hc s1 _⟩
theorem zhA (c:List Int) (σ:Src) (hc:Byt c) (hs:SOk σ):GCon Tryz.prog 34 [dicA c σ] (.int (n5V c σ).1) [dicA c (n5V c σ).2]:=by
 have s1:=zay hc hs 2
 have c1:=ziE c σ 2 hc hs
 have c2:=ziE c (nx2 c σ 2) 10007 hc s1
 have c4:=ziE c (nx2 c σ 2) 9 hc s1
 have b4:=zia hc (nx2 c σ 2) (n:=9) (by omega)
 have c6:=zrx (nx1 c (nx2 c σ 2) 9-4) (by omega) (by omega)
 unfold n5V
 generalize nx1 c (nx2 c σ 2) 9=v4 at *
 generalize nx2 c (nx2 c σ 2) 9=t4 at *
 generalize nx1 c (nx2 c σ 2) 10007=v2 at *
 generalize nx2 c (nx2 c σ 2) 10007=t2 at *
 generalize nx1 c σ 2=v1 at *
 generalize nx2 c σ 2=t1 at *
 unfold dicA at *
 by_cases h0:v1=0
 .rw [if_pos h0]
  refine zal Tryz.mixed ⟨3,[],[1000000+109],[]⟩ [0] Tryz.func34 ?_
  rw [Tryz.ntmps34]
  simp [go_sem]
  refine ⟨_,_,c1,?_⟩
  simp [go_sem]
  simp [go_sem,h0]
  refine ⟨_,_,c2,?_⟩
  simp [go_sem]
 .rw [if_neg h0]
  refine zal Tryz.mixed ⟨3,[],[1000000+109],[]⟩ [0] Tryz.func34 ?_
  rw [Tryz.ntmps34]
  simp [go_sem]
  refine ⟨_,_,c1,?_⟩
  simp [go_sem]
  simp [go_sem,h0]
  refine ⟨_,_,c4,?_⟩
  simp [go_sem]
  refine ⟨⟨by omega,by omega⟩,?_⟩
  refine CallVC.of (c6) ?_
  simp [go_sem]
def lsV (f:Src->Int × Src):Nat->Src->List Int × Src
 | 0,σ=>([],σ)
 | n+1,σ=>((f σ).1::(lsV f n (f σ).2).1,(lsV f n (f σ).2).2)
theorem zr0 {f:Src->Int × Src} (hf:∀ σ,SOk σ->isN (f σ).1/\SOk (f σ).2):∀ (n:Nat) (σ:Src),SOk σ->(lsV f n σ).1.length=n/\Ns (lsV f n σ).1/\SOk (lsV f n σ).2
 | 0,σ,h=>⟨rfl,by simp [lsV,Ns],h⟩
 | n+1,σ,h=>by
  have h1:=hf σ h
  have h2:=zr0 hf n _ h1.2
  refine ⟨by simp [lsV,h2.1],fun x hx=>?_,h2.2.2⟩
  rcases List.mem_cons.1 hx with rfl | hx
  .exact h1.1
  .exact h2.2.1 x hx
theorem zoo (c:List Int) (σ:Src) (n:Nat) (hc:Byt c) (hs:SOk σ) (hn:n<=100000) :
  GCon Tryz.prog 221 [srcA c σ,.int n] (.own 2 n (avs (lsV (nbV c) n σ).1)) [srcA c (lsV (nbV c) n σ).2,.any]:=by
 unfold srcA
 refine zal Tryz.mixed ⟨6,[],[1000000+184],[]⟩ [0] Tryz.func221 ?_
 rw [Tryz.ntmps221]
 simp [go_sem]
 refine zac (0::1::5::List.range' 7 9) (fun x:List Int × Src × Nat=>[(0,.box 162 [.sl c.length (bys c),.int x.2.1.1,.val (.int .u64 x.2.1.2)]),(1,.int x.2.2),(5,.own 2 x.1.length (avs x.1))]) (fun x=>SOk x.2.1/\x.1.length+x.2.2=n/\x.1++(lsV (nbV c) x.2.2 x.2.1).1=(lsV (nbV c) n σ).1/\(lsV (nbV c) x.2.2 x.2.1).2=(lsV (nbV c) n σ).2) (fun x=>x.2.2) ([],σ,n) ⟨hs,by simp,rfl,rfl⟩ (by simp [go_sem,avs]) (by simp [go_sem]) ?_
 rintro ⟨acc,τ,k⟩ ⟨h1,h2,h3,h4⟩
 simp only at h1 h2 h3 h4
 simp [go_sem]
 refine ⟨fun h=>?_,fun h=>?_⟩ <;> simp at h
 .obtain ⟨j,rfl⟩:∃ j,k=j+1:=⟨k-1,by omega⟩
  have cN:=zfv c τ hc h1
  have hok:=zon hc h1
  unfold srcA at cN
  simp only [lsV] at h3 h4
  generalize nbV c τ=r at *
  simp [go_sem]
  refine ⟨_,_,cN,?_⟩
  simp [go_sem]
  refine ⟨⟨by omega,by omega⟩,by omega,acc++[r.1],r.2.1,r.2.2,j,⟨hok.2,by simp; omega,by simpa using h3,h4⟩,by omega,zaa _ _ _ (by simp),?_⟩
  simp [avs]
 .have e:k=0:=by omega
  subst e
  simp only [lsV,List.append_nil] at h3 h4
  simp [go_sem]
  rw [<- h3,<- h4]
  simp at h2
  simp [h2]
theorem znJ (c:List Int) (hc:Byt c):RCon Tryz.prog 96 [.sl c.length (bys c)] (fun r o=>o=[.any]/\∃ h,r=srcA c (0,h)):=by
 have hcl:=hc.1
 unfold srcA
 refine zbv Tryz.mixed ⟨5,[],[],[]⟩ [] Tryz.func96 ?_
 rw [Tryz.ntmps96]
 simp [go_sem]
 refine zac (3::4::List.range' 12 25) (fun x:Nat × Int=>[(3,.box 162 [.sl c.length (bys c),.int 0,.val (.int .u64 x.2)]),(4,.int x.1)]) (fun x=>x.1<=c.length) (fun x=>c.length-x.1) (0,IntKind.u64.wrap (5381+IntKind.u64.wrap c.length)) (by simp) (by simp [go_sem]) (by simp [go_sem]) ?_
 rintro ⟨i,h⟩ hi
 simp only at hi
 by_cases hic:i<c.length
 .have h4:(i:Int)<4096:=by omega
  have hne:¬ c=[]:=by rintro rfl; simp at hic
  have hD:=zex hic
  have hb:=hc.get i
  generalize c[i]?.getD 0=b at *
  simp [go_sem,hic,h4,hD]
  refine ⟨by kernel_rfl,by intro e; exact hne (by simpa [bys] using e),?_⟩
  refine ⟨by kernel_rfl,?_⟩
  simp [go_sem]
  exact ⟨⟨by omega,by omega⟩,i+1,by omega,by omega,zaa _ _ _ (by simp),by omega⟩
 .simp [go_sem,hic]
theorem zfV (a b:List Int) (ha:a.length<=9223372036854775807):Con Tryz.prog 22 [.sl a.length (avs a),.sl b.length (avs b)] (.bool (decide (a=b))):=by
 by_cases hl:a.length=b.length
 .refine zab Tryz.mixed ⟨6,[],[],[]⟩ Tryz.func22 ?_
  rw [Tryz.ntmps22]
  simp [go_sem]
  simp [go_sem,hl]
  refine zac (4::5::List.range' 11 15) (fun i:Nat=>[(5,.int i)]) (fun i=>i<=a.length/\∀ j,j<i->a[j]?.getD 0=b[j]?.getD 0) (fun i=>a.length-i) 0 (by simp) (by simp [go_sem]) (by simp [go_sem]) ?_
  rintro i ⟨hi,hj⟩
  simp [go_sem]
  refine ⟨fun h=>?_,fun h=>?_⟩ <;> simp at h
  .have hia:i<a.length:=by omega
   have hib:i<b.length:=by omega
   have na:¬ a=[]:=by rintro rfl; simp at hia
   have nb:¬ b=[]:=by rintro rfl; simp at hib
   simp [go_sem,zaj hia,zaj hib]
   refine ⟨by kernel_rfl,⟨hib,na⟩,⟨hib,nb⟩,?_⟩
   refine ⟨by kernel_rfl,?_⟩
   simp [go_sem]
   refine ⟨fun h2=>?_,fun h2=>?_⟩ <;> simp at h2
   .have e:¬ a=b:=fun e=>h2 (by rw [e])
    simp [go_sem,e]
   .simp [go_sem]
    refine ⟨by omega,i+1,⟨by omega,fun j hj2=>?_⟩,by omega,zaa _ _ _ (by simp),by omega⟩
    rcases Nat.lt_or_ge j i with h3 | h3
    .exact hj j h3
    .have:j=i:=by omega
     subst this
     exact h2
  .have e:a=b:=by
    refine List.ext_getElem hl fun k h1 h2=>?_
    have:=hj k (by omega)
    simpa [h1,h2] using this
   simp [go_sem,e]
 .have e:¬ a=b:=fun e=>hl (by rw [e])
  have hl2:¬ (a.length:Int)=b.length:=by omega
  refine zab Tryz.mixed ⟨6,[],[],[]⟩ Tryz.func22 ?_
  rw [Tryz.ntmps22]
  simp [go_sem]
  simp [go_sem,hl2,e]
end Go.Proofs.YthhdollpkieknaaGreat


namespace Go.Proofs.YthhdollpkieknaaGreat
open Go.Abs
theorem zpx (n:Nat) (hn:n<=6):Con Tryz.prog 130 [.int n] (.own 25 (trN n).length (omat (trN n))):=by
 refine zab Tryz.mixed ⟨5,[],[],[]⟩ Tryz.func130 ?_
 rw [Tryz.ntmps130]
 simp [go_sem]
 refine zac ([3,4]++List.range' 6 9) (fun i:Nat=>[(3,.own 25 (trN i).length (omat (trN i))),(4,.int (i+1))]) (fun i=>i<=n) (fun i=>n-i) 0 (by simp) (by simp [go_sem,trN,omat]) (by simp [go_sem]) ?_
 intro i hi
 have l0:=zgS i (by omega)
 by_cases hin:i<n
 .have hii:(i:Int)+1<=n:=by omega
  have cT:=zlX (i+1) (by omega) (by omega)
  have l1:=zgS (i+1) (by omega)
  have ts:=zkX i
  have tl:=congrArg List.length ts
  rw [List.length_append] at tl
  have ot:omat (trN (i+1))=omat (trN i)++omat (genT 200 (upTo (i+1))):=by rw [ts]; simp [omat]
  have ec:((i+1:Nat):Int)=(i:Int)+1:=by omega
  rw [ec] at cT
  generalize genT 200 (upTo (i+1))=G at *
  simp [go_sem,hii]
  refine CallVC.of (cT) ?_
  simp [go_sem]
  exact ⟨⟨by omega,by omega⟩,⟨by omega,by omega⟩,i+1,by omega,by omega,zaa _ _ _ (by simp),by rw [tl,ot]; exact ⟨rfl,rfl⟩,by omega⟩
 .have e:i=n:=by omega
  subst e
  have hii:¬ (i:Int)+1<=i:=by omega
  simp [go_sem,hii]
def fdL:List (List Int)->List Int->Nat->Int
 | [],_,_ => -1
 | x::L,t,i=>if x=t then (i:Int) else fdL L t (i+1)
theorem zoL (L:List (List Int)) (t:List Int) (hL:L.length<=1048576) (hr:∀ r∈L,r.length<=1048576):Con Tryz.prog 189 [.sl L.length (mat L),.sl t.length (avs t)] (.int (fdL L t 0)):=by
 refine zab Tryz.mixed ⟨6,[],[],[]⟩ Tryz.func189 ?_
 rw [Tryz.ntmps189]
 simp [go_sem]
 refine zac (4::5::List.range' 6 13) (fun i:Nat=>[(5,.int i)]) (fun i=>i<=L.length/\fdL L t 0=fdL (L.drop i) t i) (fun i=>L.length-i) 0 (by simp) (by simp [go_sem]) (by simp [go_sem]) ?_
 rintro i ⟨hi,he⟩
 by_cases h:i<L.length
 .have hii:(i:Int)<L.length:=by omega
  have ne:¬ L=[]:=by rintro rfl; simp at h
  have md:=zar h
  have cS:=zhS (L[i]?.getD []) t (by have:=hr _ (memD [] h); omega)
  have dl:L.drop i=L[i]?.getD []::L.drop (i+1):=by rw [List.drop_eq_getElem_cons h]; simp [h]
  rw [dl,fdL] at he
  generalize L[i]?.getD []=r at *
  by_cases hrt:r=t
  .rw [if_pos hrt] at he
   subst hrt
   simp only [decide_true] at cS
   simp [go_sem,hii,md]
   refine ⟨ne,?_⟩
   refine CallVC.of (cS) ?_
   simp [go_sem]
   exact he.symm
  .rw [if_neg hrt] at he
   simp only [hrt,decide_false] at cS
   simp [go_sem,hii,md]
   refine ⟨ne,?_⟩
   refine CallVC.of (cS) ?_
   simp [go_sem]
   exact ⟨⟨by omega,by omega⟩,i+1,⟨by omega,he⟩,by omega,zaa _ _ _ (by simp),by omega⟩
 .have e:i=L.length:=by omega
  subst e
  have hii:¬ (L.length:Int)<L.length:=by omega
  rw [List.drop_length,fdL] at he
  rw [he]
  simp [go_sem,hii]
end Go.Proofs.YthhdollpkieknaaGreat


namespace Go.Proofs.YthhdollpkieknaaGreat
open Go.Abs
theorem zsO:(trN 6).all (fun t=>okS 6 t)=true:=by decide +kernel
theorem zsd {i:Nat} (h:i<37):okS 6 ((trN 6)[i]?.getD [])=true :=
 List.all_eq_true.1 zsO _ (memD [] (by rw [zbs]; exact h))
theorem ztf {j:Nat} (h:j<37):((trN 6)[j]?.getD []).length≠0/\((trN 6)[j]?.getD []).length<=6/\Lv ((trN 6)[j]?.getD []):=by
 have h1:=zjT (memD [] (show j<(trN 6).length by rw [zbs]; exact h))
 have:=h1.1.1
 exact ⟨by omega,h1.2.1,h1.1⟩
theorem ztB {n:Nat} {t:List Int} (h:okS (n+1) t=true):0<=symF (n+1) t/\symF (n+1) t<=1000000:=by
 have:=(zgP h).2.2.2.2.2 _ (Nat.le_refl _)
 exact ⟨this.1,this.2.1⟩
def facT (a:List Int) (i:Nat):Int:=a[i+1]?.getD 0*pw (symF 6 ((trN 6)[i]?.getD [])%10007) 10005%10007
theorem zuT (a:List Int) (i:Nat):isN (facT a i):=zak _
def rowT (f:List (List Mon)) (y a:List Int) (n:Nat):Nat->List Int
 | 0=>if n=0 then zmp y (a[0]?.getD 0) else List.replicate y.length 0
 | i+1=>if ((trN 6)[i]?.getD []).length=n then zii (rowT f y a n i) (edF f y 6 ((trN 6)[i]?.getD [])) (facT a i) else rowT f y a n i
theorem zg2 (f:List (List Mon)) (y a:List Int) (n:Nat):∀ i,(rowT f y a n i).length=y.length
 | 0=>by rw [rowT]; split <;> simp
 | i+1=>by rw [rowT]; split <;> simp [zg2 f y a n i]
theorem zry (f:List (List Mon)) (y a:List Int) (n:Nat):∀ i,Ns (rowT f y a n i)
 | 0=>by
  rw [rowT]; split
  .exact zs0 _ _
  .intro x hx
   obtain ⟨_,rfl⟩:=List.mem_replicate.1 hx
   exact ⟨by omega,by omega⟩
 | i+1=>by
  rw [rowT]; split
  .exact ztw _ _ _
  .exact zry f y a n i
def tsX (f:List (List Mon)) (y a:List Int) (k i:Nat):List (List Int):=(List.range k).map fun n=>rowT f y a n i
@[simp] theorem zmz (f:List (List Mon)) (y a:List Int) (k i:Nat):(tsX f y a k i).length=k:=by simp [tsX]
theorem zpz (f:List (List Mon)) (y a:List Int) (k i:Nat):tsX f y a (k+1) i=tsX f y a k i++[rowT f y a k i]:=by simp [tsX,List.range_succ]
theorem ztK (f:List (List Mon)) (y a:List Int) {k n:Nat} (i:Nat) (h:n<k):(tsX f y a k i)[n]?.getD []=rowT f y a n i:=by simp [tsX,h]
theorem zj6 (a:List Int) (ha:a.length<=9223372036854775807):Con Tryz.prog 188 [.sl a.length (avs a)] (.bool (mapB a)):=by
 have cN:=zhR a ha
 unfold mapB
 by_cases h:a.length=38
 .have hi:(a.length:Int)=38:=by omega
  rw [decide_eq_true h]
  refine zab Tryz.mixed ⟨3,[],[],[]⟩ Tryz.func188 ?_
  rw [Tryz.ntmps188]
  simp [go_sem,hi]
  refine CallVC.of (cN) ?_
  simp [go_sem]
 .have hi:¬ (a.length:Int)=38:=by omega
  rw [decide_eq_false h]
  refine zab Tryz.mixed ⟨3,[],[],[]⟩ Tryz.func188 ?_
  rw [Tryz.ntmps188]
  simp [go_sem,hi]
end Go.Proofs.YthhdollpkieknaaGreat


namespace Go.Proofs.YthhdollpkieknaaGreat
open Go.Abs
def fiZ (x:List Int):Int:=fdL (trN 6) x 0+1
def mkC (t:List Int) (m:Nat):Ctp:=(1,(srtT (psL t m t.length)).map fun x=>(fiZ x).toNat,(fiZ (skV t m)).toNat)
def mkL (t:List Int) (n:Nat):List Ctp:=(List.range n).map fun k=>mkC t (2*k)
def vaP (i:Nat):Py:=[(1,[38+i])]
def mkOk (t:List Int) (m:Nat):Bool :=
 ((List.range t.length).all fun r=>lv0 (pcL t m r)) && (lv0 (skL t m t.length) && (decide (1<=fiZ (skV t m)) && (decide (fiZ (skV t m)<=37) && (srtT (psL t m t.length)).all fun x=>decide (1<=fiZ x) && decide (fiZ x<=37))))
theorem zqn:((trN 6).all fun t=>decide (0<t.length) && (decide (t.length<=6) && ((t.all fun x=>decide (0<=x) && decide (x<=1000)) && (List.range (2 ^ (t.length-1))).all fun k=>mkOk t (2*k))))=true:=by decide +kernel
theorem zsc:((List.range 37).all fun i=>decide (rowP (vb 0) vaP (mkL ((trN 6)[i]?.getD []) (2 ^ (((trN 6)[i]?.getD []).length-1)))=rowP (vb 0) vaP (ptR (i+1))))=true:=by decide +kernel
theorem zs6 {t:List Int} (h:t∈trN 6):0<t.length/\t.length<=6/\(∀ x∈t,0<=x/\x<=1000)/\∀ k,k<2 ^ (t.length-1)->(∀ r,r<t.length->Lv (pcL t (2*k) r))/\Lv (skL t (2*k) t.length)/\(1<=fiZ (skV t (2*k))/\fiZ (skV t (2*k))<=37) /\
  ∀ x∈srtT (psL t (2*k) t.length),1<=fiZ x/\fiZ x<=37:=by
 have k:=List.all_eq_true.1 zqn t h
 simp only [Bool.and_eq_true,decide_eq_true_eq,List.all_eq_true,List.mem_range] at k
 obtain ⟨k1,k2,k3,k4⟩:=k
 refine ⟨k1,k2,k3,fun n hn=>?_⟩
 have k:=k4 n hn
 unfold mkOk at k
 simp only [Bool.and_eq_true,decide_eq_true_eq,List.all_eq_true,List.mem_range] at k
 obtain ⟨q1,q2,q3,q4,q5⟩:=k
 exact ⟨fun r hr=>zjZ (q1 r hr),zjZ q2,⟨q3,q4⟩,q5⟩
def sbpF (b:List Int) (o:Int) (L:List Nat):Int:=L.foldl (fun o v=>o*iat b v%10007) o
theorem zh6 (b:List Int) (o:Int) (L:List Nat) (v:Nat):sbpF b o (L++[v])=sbpF b o L*iat b v%10007:=by simp [sbpF]
theorem zh1 (b:List Int):∀ L,sbpF b 0 L=0
 | []=>rfl
 | v::L=>by
  show sbpF b (0*iat b v%10007) L=0
  rw [Int.zero_mul]
  exact zh1 b L
theorem zrf (b:List Int) (o:Int) (L M:List Nat):sbpF b o (L++M)=sbpF b (sbpF b o L) M:=by simp [sbpF]
theorem zkG (b:List Int) (o:Int) (ho:isN o) (L:List Nat):isN (sbpF b o L)/\sbpF b o L%10007=o*prI (iat b) L%10007:=by
 generalize hn:L.length=n
 induction n generalizing L with
 | zero=>rw [List.length_eq_zero_iff.1 hn]; exact ⟨ho,by simp [sbpF,prI]⟩
 | succ n ih =>
  rcases List.eq_nil_or_concat L with rfl | ⟨h,x,rfl⟩
  .simp at hn
  .rw [List.concat_eq_append] at hn |-
   rw [zh6,zhc,Int.emod_emod_of_dvd _ (Int.dvd_refl _),<- Int.mul_assoc]
   exact ⟨zak _,zaH (ih h (by simpa using hn)).2 rfl⟩
def sbtF (b a:List Int) (L:List Ctp):Int:=L.foldl (fun s c=>(s+sbpF b (iat a c.2.2) c.2.1)%10007) 0
theorem zhE (b a:List Int) (L:List Ctp) (c:Ctp):sbtF b a (L++[c])=(sbtF b a L+sbpF b (iat a c.2.2) c.2.1)%10007:=by simp [sbtF]
theorem zkb {b a:List Int} (ha:Ns a) (L:List Ctp) (h1:∀ c∈L,c.1=1):isN (sbtF b a L)/\sbtF b a L=rowI (iat b) (iat a) L%10007:=by
 generalize hn:L.length=n
 induction n generalizing L with
 | zero=>rw [List.length_eq_zero_iff.1 hn]; exact ⟨(show isN 0 from ⟨by decide,by decide⟩),rfl⟩
 | succ n ih =>
  rcases List.eq_nil_or_concat L with rfl | ⟨h,c,rfl⟩
  .simp at hn
  .rw [List.concat_eq_append] at hn h1 |-
   obtain ⟨i1,i2⟩:=ih h (fun c hc=>h1 c (by simp [hc])) (by simpa using hn)
   have e:=(zkG b (iat a c.2.2) (ha.get _) c.2.1).2
   have c1:=h1 c (by simp)
   rw [zhE,zeM,c1]
   refine ⟨zak _,?_⟩
   rw [i2]
   rw [Int.mul_comm (prI _ _)]
   generalize iat a c.2.2*prI (iat b) c.2.1=z at *
   generalize sbpF b (iat a c.2.2) c.2.1=y at *
   generalize rowI (iat b) (iat a) h=r at *
   omega
theorem znh (t:List Int) (n:Nat):∀ c∈mkL t n,c.1=1:=fun c hc=>by
 obtain ⟨k,_,rfl⟩:=List.mem_map.1 hc
 rfl
theorem zqe (t:List Int) (n:Nat):mkL t (n+1)=mkL t n++[mkC t (2*n)]:=by simp [mkL,List.range_succ]
theorem zmZ {b a:List Int} (hb:Inf b) (ha:N38 a) {i:Nat} (hi:i<37):sbtF b a (mkL ((trN 6)[i]?.getD []) (2 ^ (((trN 6)[i]?.getD []).length-1)))=suF b a (ptR (i+1))%10007:=by
 rw [(zkb ha.Ns _ (znh _ _)).2,(zgB b a _).2]
 have e:=of_decide_eq_true (List.all_eq_true.1 zsc i (List.mem_range.2 hi))
 let r:Nat->Int:=fun v=>if v<38 then iat b v else iat a (v-38)
 have h1:∀ v,v<38->evp r (vb 0 v)%10007=iat b v%10007:=fun v hv=>zrJ (by rw [hb.2]; rfl) (fun j hj=>by show (if 0+j<38 then _ else _)=_; rw [Nat.zero_add,if_pos hj]) hv
 have h2:∀ v,v<38->evp r (vaP v)%10007=iat a v%10007:=fun v hv=>by
  have e:r (38+v)=iat a v:=by
   show (if 38+v<38 then _ else iat a (38+v-38))=_
   rw [if_neg (by omega),Nat.add_sub_cancel_left]
  simp [vaP,evp,evm,e]
 have hT:=(zs6 (t:=(trN 6)[i]?.getD []) (memD [] (by rw [zbs]; exact hi))).2.2.2
 have e1:=zgx r (mkL ((trN 6)[i]?.getD []) (2 ^ (((trN 6)[i]?.getD []).length-1))) (fun c hc=>by
  obtain ⟨k,hk,rfl⟩:=List.mem_map.1 hc
  obtain ⟨_,_,q1,q2⟩:=hT k (List.mem_range.1 hk)
  refine ⟨fun v hv=>h1 v ?_,h2 _ (by show (fiZ _).toNat<38; omega)⟩
  obtain ⟨x,hx,rfl⟩:=List.mem_map.1 hv
  have:=q2 x hx
  show (fiZ x).toNat<38
  omega)
 have e2:=zgx r (ptR (i+1)) (fun c hc=>⟨fun v hv=>h1 v ((zkr (by omega) c hc).1 v hv),h2 _ (zkr (by omega) c hc).2⟩)
 rw [<- e1,e,e2]
theorem ze0 (b a:List Int) (hb:Inf b) (ha:N38 a):Con Tryz.prog 102 [.sl b.length (avs b),.sl a.length (avs a)] (.own 2 38 (avs (sbS b a))):=by
 have la:=ha.1
 have na:=ha.ne
 have lb:=hb.1.1
 have nb:=hb.1.ne
 have da1:=zav (a:=a) (v:=0) (by omega)
 rw [List.drop_zero,Nat.zero_add,List.drop_one] at da1
 have cA:=zpx 6 (by omega)
 have l6:=zbs
 have x0:=znv b a ha
 have xs:=fun i h=>zkl b a (i:=i) h
 have xl:(sbS b a).take 38=sbS b a:=List.take_of_length_le (by rw [(zfF b a).1]; omega)
 have st:=fun i h=>zmZ hb ha (i:=i) h
 have mt:=fun t h=>zs6 (t:=t) h
 have cFi:=fun x=>zoL (trN 6) x (by rw [l6]; omega) (fun r hr=>by have:=(zs6 hr).2.1; omega)
 rw [l6] at cFi
 have sl:=(zfF b a).1
 have nT:¬ trN 6=[]:=by intro e; rw [e] at l6; simp at l6
 have hfz:∀ x,fiZ x=fdL (trN 6) x 0+1:=fun _=>rfl
 generalize sbS b a=X at *
 refine zab Tryz.mixed ⟨14,[6],[1000000+191],[]⟩ Tryz.func102 ?_
 rw [Tryz.ntmps102]
 simp [go_sem]
 simp [go_sem,da1]
 rw [<- da1]
 refine ⟨⟨by omega,na⟩,?_⟩
 refine CallVC.of (cA) ?_
 simp [go_sem]
 refine zac (5::List.range' 7 7++List.range' 19 59) (fun i:Nat=>[(5,.own 2 (i+1) (avs (X.take (i+1)))),(7,.int i)]) (fun i=>i<=37) (fun i=>37-i) 0 (by simp) (by simp [go_sem,x0,avs]) (by simp [go_sem]) ?_
 intro i hi
 by_cases hil:i<37
 .have hii:(i:Int)<37:=by omega
  have hl:i<(trN 6).length:=by omega
  have om:=zar hl
  have hm:=memD [] hl
  obtain ⟨t1,t2,t3,t4⟩:=mt _ hm
  have st1:=st i hil
  have xs1:=xs i hil
  have lX:(X.take (i+1)).length=i+1:=by rw [List.length_take]; omega
  generalize X.take (i+1)=XI at *
  generalize hT:(trN 6)[i]?.getD []=t at *
  simp [go_sem,hii,l6,om]
  refine ⟨nT,?_⟩
  refine zac (9::10::11::12::13::List.range' 29 45) (fun k:Nat=>[(9,.int (sbtF b a (mkL t k))),(10,.int ((2*k:Nat):Int))]) (fun k=>k<=2 ^ (t.length-1)) (fun k=>2 ^ (t.length-1)-k) 0 (by simp) (by simp [go_sem,sbtF,mkL]) (by simp [go_sem]) ?_
  intro k hk
  have p6:2 ^ (t.length-1)<=2 ^ 5:=Nat.pow_le_pow_right (by omega) (by omega)
  have p7:2*2 ^ (t.length-1)=2 ^ t.length:=by rw [Nat.mul_comm,<- Nat.pow_succ]; congr 1; omega
  have hsh:=zop t.length t2
  have hw:IntKind.wrap .u64 (t.length:Int)=t.length:=zcF (by omega) (by omega)
  obtain ⟨sN,_⟩:=zkb ha.Ns (mkL t k) (znh t k) (b:=b)
  by_cases hkl:k<2 ^ (t.length-1)
  .obtain ⟨q1,q2,⟨q3,q4⟩,q5⟩:=t4 k hkl
   have hki:((2*k:Nat):Int)<((2 ^ t.length:Nat):Int):=by omega
   have cSk:=zhd t (2*k) t1 t2 t3 (by omega) q2
   have cPi:=zi1 t (2*k) t1 t2 t3 (by omega) q1
   have cF1:=cFi (skV t (2*k))
   have ms:=zqe t k
   have ss:=zhE b a (mkL t k) (mkC t (2*k))
   rw [<- ms] at ss
   have eC:mkC t (2*k)=(1,(srtT (psL t (2*k) t.length)).map (fun x=>(fiZ x).toNat),(fiZ (skV t (2*k))).toNat):=rfl
   have lP:(psL t (2*k) t.length).length<=6:=Nat.le_trans (zjp _ _ _) t2
   have lS:=zeh (psL t (2*k) t.length)
   rw [<- lS] at lP cPi
   obtain ⟨z,hz⟩:∃ z:Nat,fiZ (skV t (2*k))=z:=⟨(fiZ (skV t (2*k))).toNat,by omega⟩
   have hz2:fdL (trN 6) (skV t (2*k)) 0=(z:Int)-1:=by have:=hfz (skV t (2*k)); omega
   rw [hz] at eC q3 q4
   rw [Int.toNat_natCast] at eC
   have dz:=zav (a:=a) (v:=z) (by omega)
   have oN:isN (iat a z):=ha.Ns.get z
   rw [hz2] at cF1
   clear hz hz2 ms t4 q1 q2 lS
   generalize srtT (psL t (2*k) t.length)=PS at *
   generalize skV t (2*k)=SK at *
   rw [eC] at ss
   simp only at ss
   generalize hc1:mkL t (k+1)=M1 at *
   generalize hs1:sbtF b a M1=s1 at *
   generalize sbtF b a (mkL t k)=s0 at *
   have oA:=fun L=>zkG b (iat a z) oN L
   have uk:∀ {s:Int},s=s1->s=sbtF b a (mkL t (k+1)):=fun h=>by rw [hc1,hs1]; exact h
   clear hs1 hc1
   generalize iat a z=o at *
   generalize hmk:2*k=m at *
   generalize 2 ^ t.length=E at *
   simp [go_sem,hw,hsh,hki]
   refine CallVC.of (cSk) ?_
   simp [go_sem]
   refine CallVC.of (cF1) ?_
   simp [go_sem]
   simp [go_sem,dz]
   refine ⟨by omega,⟨by omega,na⟩,?_⟩
   refine ⟨_,_,cPi,?_⟩
   simp [go_sem]
   have nP:PS.length=0->PS=[]:=fun h=>List.length_eq_zero_iff.1 h
   refine zac (11::13::List.range' 49 22) (fun j:Nat=>[(11,.int (sbpF b o ((PS.map fun x=>(fiZ x).toNat).take j))),(13,.int j)]) (fun j=>j<=PS.length) (fun j=>PS.length-j) 0 (by simp) (by simp [go_sem,sbpF]) (by simp [go_sem]) ?_
   intro j hj
   have pN:=(oA ((PS.map fun x=>(fiZ x).toNat).take j)).1
   have fin:∀ s2:Int,s2=sbpF b o (PS.map fun x=>(fiZ x).toNat)->s1=(s0+s2)%10007:=fun s2 h=>by rw [h]; exact ss
   by_cases hjl:j<PS.length
   .have hji:(j:Int)<PS.length:=by omega
    have md:=zar hjl
    have hx:=memD [] hjl
    obtain ⟨x1,x2⟩:=q5 _ hx
    have tk:(PS.map fun x=>(fiZ x).toNat).take (j+1)=(PS.map fun x=>(fiZ x).toNat).take j++[(fiZ (PS[j]?.getD [])).toNat]:=by
     rw [List.take_succ_eq_append_getElem (by simpa using hjl),List.getElem_map,List.getElem?_eq_getElem hjl]; rfl
    have nPS:¬ PS=[]:=by rintro rfl; simp at hjl
    have eP:sbpF b o (PS.map fun x=>(fiZ x).toNat)=sbpF b (sbpF b o ((PS.map fun x=>(fiZ x).toNat).take j)) ((PS.map fun x=>(fiZ x).toNat).drop j):=by rw [<- zrf,List.take_append_drop]
    have nx:=zh6 b o ((PS.map fun x=>(fiZ x).toNat).take j) (fiZ (PS[j]?.getD [])).toNat
    rw [<- tk] at nx
    have cF2:=cFi (PS[j]?.getD [])
    obtain ⟨v,hv⟩:∃ v:Nat,fiZ (PS[j]?.getD [])=v:=⟨(fiZ (PS[j]?.getD [])).toNat,by omega⟩
    have hv2:fdL (trN 6) (PS[j]?.getD []) 0=(v:Int)-1:=by have:=hfz (PS[j]?.getD []); omega
    rw [hv2] at cF2
    rw [hv,Int.toNat_natCast] at nx
    rw [hv] at x1 x2
    have db:=zav (a:=b) (v:=v) (by omega)
    have bN:isN (iat b v):=hb.1.Ns.get v
    have uj:∀ {s:Int},s=sbpF b o ((PS.map fun x=>(fiZ x).toNat).take j)*iat b v%10007->s=sbpF b o ((PS.map fun x=>(fiZ x).toNat).take (j+1)):=fun h=>by rw [nx]; exact h
    clear nx tk hv hv2
    generalize sbpF b o ((PS.map fun x=>(fiZ x).toNat).take j)=pa at *
    generalize PS[j]?.getD []=x at *
    by_cases hp:pa=0
    .have fi:=fin 0 (by rw [eP,hp,zh1])
     subst hp
     have cAd:=zk6 s0 0 (by unfold fits; have:=sN.1; have:=sN.2; omega)
     rw [<- fi] at cAd
     simp [go_sem,hji]
     refine CallVC.of (cAd) ?_
     simp [go_sem]
     refine ⟨⟨by omega,by omega⟩,k+1,by omega,by omega,(Off.reset (by intro x hx; simp at hx |-; omega) (by simp) (by simp [go_sem,zaa])),?_⟩
     exact ⟨uk rfl,by omega⟩
    .have fm:=zaK pN bN
     have cMu:=zdx pa (iat b v) fm
     generalize iat b v=y at *
     simp [go_sem,hji,hp,md]
     refine ⟨nPS,?_⟩
     refine CallVC.of (cF2) ?_
     simp [go_sem]
     simp [go_sem,db]
     refine ⟨by omega,⟨by omega,nb⟩,?_⟩
     refine CallVC.of (cMu) ?_
     simp [go_sem]
     refine ⟨⟨by omega,by omega⟩,j+1,by omega,by omega,zaa _ _ _ (by simp),?_⟩
     exact ⟨uj rfl,by omega⟩
   .have e:j=PS.length:=by omega
    subst e
    have hji:¬ (PS.length:Int)<PS.length:=by omega
    have tkl:(PS.map fun x=>(fiZ x).toNat).take PS.length=PS.map fun x=>(fiZ x).toNat:=List.take_of_length_le (by simp)
    rw [tkl] at pN |-
    have fi:=fin _ rfl
    generalize sbpF b o (PS.map fun x=>(fiZ x).toNat)=pa at *
    have cAd:=zk6 s0 pa (by unfold fits; have:=sN.1; have:=sN.2; have:=pN.1; have:=pN.2; omega)
    rw [<- fi] at cAd
    simp [go_sem,hji]
    refine CallVC.of (cAd) ?_
    simp [go_sem]
    refine ⟨⟨by omega,by omega⟩,k+1,by omega,by omega,(Off.reset (by intro x hx; simp at hx |-; omega) (by simp) (by simp [go_sem,zaa])),?_⟩
    exact ⟨uk rfl,by omega⟩
  .have e:k=2 ^ (t.length-1):=by omega
   have hki:¬ ((2*k:Nat):Int)<((2 ^ t.length:Nat):Int):=by omega
   have e2:sbtF b a (mkL t k)=suF b a (ptR (i+1))%10007:=by rw [e]; exact st1
   rw [<- e2] at xs1
   generalize sbtF b a (mkL t k)=s0 at *
   clear e e2 st1 p7 p6 t4
   generalize 2*k=m at *
   generalize 2 ^ t.length=E at *
   simp [go_sem,hw,hsh,hki]
   refine ⟨⟨by omega,by omega,by omega⟩,⟨by omega,by omega⟩,i+1,by omega,by omega,(by repeat (first | exact zaa _ _ _ (by simp) | (refine Off.reset (by intro x hx; simp at hx |-; omega) (by simp) ?_; simp -failIfUnchanged [go_sem,zaa]))),?_⟩
   rw [xs1,zaD]
   exact ⟨⟨rfl,rfl⟩,by omega⟩
 .have e:i=37:=by omega
  subst e
  rw [xl]
  simp [go_sem,l6]
theorem zof (b a:List Int) (hb:b.length<=1048576) (ha:a.length<=1048576):Con Tryz.prog 101 [.sl b.length (avs b),.sl a.length (avs a)] (.int (smE b a)):=by
 have cB:=zj6 b (by omega)
 have cA:=zj6 a (by omega)
 have hE:smE b a=if mapB b=true/\mapB a=true then if iat b 0=0 then 0 else 5 else 1:=rfl
 have b0:mapB b=true->(avs b)=.int (iat b 0)::avs b.tail/\¬ b=[]/\0<b.length:=fun h=>by
  have h:=zkN h
  have k:=zav (a:=b) (v:=0) (by rw [h.1]; omega)
  rw [List.drop_zero,Nat.zero_add,List.drop_one] at k
  exact ⟨k,h.ne,by rw [h.1]; omega⟩
 rw [hE]
 generalize mapB b=mb at *
 generalize mapB a=ma at *
 generalize iat b 0=z at *
 refine zab Tryz.mixed ⟨5,[],[],[]⟩ Tryz.func101 ?_
 rw [Tryz.ntmps101]
 simp [go_sem]
 refine CallVC.of (cB) ?_
 simp [go_sem]
 cases mb with
 | false =>
  simp -implicitDefEqProofs [go_sem]
 | true =>
  obtain ⟨b0,b1,b2⟩:=b0 rfl
  simp -implicitDefEqProofs [go_sem]
  refine CallVC.of (cA) ?_
  simp [go_sem]
  cases ma with
  | false =>
   simp -implicitDefEqProofs [go_sem]
  | true =>
   by_cases hz:z=0
   .simp -implicitDefEqProofs [go_sem,b0,hz]
    exact b2
   .simp -implicitDefEqProofs [go_sem,b0,hz]
    exact b2
theorem zee (b a:List Int) (hb:b.length<=1048576) (ha:a.length<=1048576) :
  Con Tryz.prog 30 [.sl b.length (avs b),.sl a.length (avs a)] (.tup [.own 2 (smX b a).length (avs (smX b a)),.int (smE b a)]):=by
 have c1:=zof b a hb ha
 by_cases he:smE b a=0
 .obtain ⟨k1,k2⟩:=zo2 he
  have c2:=ze0 b a k1 k2
  have eX:smX b a=sbS b a:=by unfold smX; rw [if_pos he]
  have l:=(zfF b a).1
  rw [eX,he,l]
  rw [he] at c1
  clear eX he l
  generalize sbS b a=X at *
  refine zab Tryz.mixed ⟨7,[],[],[]⟩ Tryz.func30 ?_
  rw [Tryz.ntmps30]
  simp [go_sem]
  refine CallVC.of (c1) ?_
  simp [go_sem]
  refine CallVC.of (c2) ?_
  simp [go_sem]
 .have eX:smX b a=[]:=by unfold smX; rw [if_neg he]
  rw [eX]
  clear eX
  generalize smE b a=E at *
  show Con _ _ _ (.tup [.own 2 0 [],.int E])
  refine Con.n1 _ ?_
  refine zab Tryz.mixed ⟨7,[],[],[]⟩ Tryz.func30 ?_
  rw [Tryz.ntmps30]
  simp [go_sem]
  refine CallVC.of (c1) ?_
  simp [go_sem]
  simp [go_sem,he]
end Go.Proofs.YthhdollpkieknaaGreat


namespace Go.Proofs.YthhdollpkieknaaGreat
open Go.Abs
def tlP (n:Nat):Nat:=[0,1,2,3,5,9,18][n]?.getD 0
end Go.Proofs.YthhdollpkieknaaGreat


namespace Go.Proofs.YthhdollpkieknaaGreat
open Go.Abs
def RlP (r:Nat->Int) (P:List Py) (L:List Int):Prop:=P.length=L.length/\∀ k:Nat,evp r (P[k]?.getD [])%10007=(L[k]?.getD 0)%10007
def cvQ (a b:List Py) (n:Nat):Nat->Py
 | 0=>[]
 | m+1=>addP (cvQ a b n m) (mulP (a[m]?.getD []) (b[n-m]?.getD []))
def hoTQ (b o:List Py) (x:Py):List Py:=(List.range o.length).map fun k=>if Nat.beq k 0 then addP (cvQ o b 0 1) x else cvQ o b k (k+1)
def hoFQ (b o:List Py) (xs:List Py):List Py:=xs.foldl (hoTQ b) o
theorem ztJ {r:Nat->Int} {P Q:List Py} {L M:List Int} (h:RlP r P L) (k:RlP r Q M) (n:Nat):∀ m,evp r (cvQ P Q n m)%10007=cv L M n m%10007
 | 0=>rfl
 | m+1=>by
  rw [cvQ,zg8,cv]
  refine zgM (ztJ h k n m) ?_
  rw [zcW]
  exact zaH (h.2 m) (k.2 (n-m))
theorem rl_T {r:Nat->Int} {P Q:List Py} {L M:List Int} (h:RlP r P L) (k:RlP r Q M) {X:Py} {x:Int} (e:evp r X%10007=x%10007):RlP r (hoTQ P Q X) (hoT L M x):=by
 refine ⟨by simp [hoTQ,ziX,k.1],fun i=>?_⟩
 by_cases hi:i<M.length
 .have hi':i<Q.length:=by rw [k.1]; exact hi
  unfold hoTQ
  rw [List.getElem?_map,List.getElem?_range hi',Option.map_some,Option.getD_some]
  unfold hoT
  rw [List.getElem?_set]
  by_cases e0:i=0
  .subst e0
   have t0:(mulS M L)[0]?.getD 0=cv M L 0 1%10007:=znI _ hi
   rw [if_pos rfl,if_pos (show 0<(mulS M L).length by rw [zkd]; exact hi),t0]
   show evp r (addP (cvQ Q P 0 1) X)%10007=(cv M L 0 1%10007+x)%10007%10007
   rw [zg8,Int.emod_emod_of_dvd _ (Int.dvd_refl _)]
   exact zgM ((ztJ k h 0 1).trans (Int.emod_emod_of_dvd _ (Int.dvd_refl _)).symm) e
  .rw [if_neg (Ne.symm e0),if_neg (by intro x; exact e0 (Nat.eq_of_beq_eq_true x))]
   have t0:(mulS M L)[i]?.getD 0=cv M L i (i+1)%10007:=znI _ hi
   rw [t0,Int.emod_emod_of_dvd _ (Int.dvd_refl _)]
   exact ztJ k h i (i+1)
 .rw [List.getElem?_eq_none (by simp [hoTQ,k.1]; omega),List.getElem?_eq_none (by rw [ziX]; omega)]; rfl
theorem rl_F {r:Nat->Int} {P:List Py} {L:List Int} (h:RlP r P L) {A:Nat->Py} {A':Nat->Int}:∀ (V:List Nat) {Q:List Py} {M:List Int},RlP r Q M->(∀ v∈V,evp r (A v)%10007=A' v%10007)->RlP r (hoFQ P Q (V.map A)) ((V.map A').foldl (hoT L) M)
 | [],_,_,k,_=>k
 | v::V,_,_,k,e=>rl_F h V (rl_T h k (e v (by simp))) fun w hw=>e w (by simp [hw])
def tlV:List Nat:=[0,1,2,3,5,9,18]
theorem zus {r:Nat->Int} {A:Nat->Py} {A':Nat->Int} {V:List Nat} (h:∀ v∈V,evp r (A v)%10007=A' v%10007):RlP r (V.map A) (V.map A'):=by
 refine ⟨by simp,fun k=>?_⟩
 by_cases hk:k<V.length
 .simp [hk,h _ (List.getElem_mem hk)]
 .rw [List.getElem?_eq_none (by simp; omega),List.getElem?_eq_none (by simp; omega)]; rfl
theorem zvq:∀ v∈tlV,v<38:=by decide
end Go.Proofs.YthhdollpkieknaaGreat


namespace Go.Proofs.YthhdollpkieknaaGreat
open Go.Abs
end Go.Proofs.YthhdollpkieknaaGreat


namespace Go.Proofs.YthhdollpkieknaaGreat
open Go.Abs
def trE (a:List Int) (z:Int) (f:List (List Mon)) (y:List Int):Int:=if (mapB a && zbp z f)=false then 1 else if vecB z y=false then 2 else 0
def trX (a:List Int) (z:Int) (f:List (List Mon)) (y:List Int):List (List Int):=if trE a z f y=0 then tsX f y a 7 37 else []
def trR (a:List Int) (z:Int) (f:List (List Mon)) (y:List Int):AV:=.tup [.own 25 (trX a z f y).length (omat (trX a z f y)),.int (trE a z f y)]
theorem zr7 (f:List (List Mon)) (y a:List Int) (k i:Nat) (h:((trN 6)[i]?.getD []).length<k) :
  (tsX f y a k i).set ((trN 6)[i]?.getD []).length (zii (rowT f y a ((trN 6)[i]?.getD []).length i) (edF f y 6 ((trN 6)[i]?.getD [])) (facT a i))=tsX f y a k (i+1):=by
 refine List.ext_getElem (by simp) fun n h1 h2=>?_
 have hn:n<k:=by simpa using h2
 rw [List.getElem_set]
 have e:(tsX f y a k (i+1))[n]=rowT f y a n (i+1):=by simp only [tsX,List.getElem_map,List.getElem_range]
 rw [e]
 by_cases hx:((trN 6)[i]?.getD []).length=n
 .subst hx
  rw [if_pos rfl,rowT,if_pos rfl]
 .rw [if_neg hx,rowT,if_neg hx]
  simp only [tsX,List.getElem_map,List.getElem_range]
theorem zh5 (a:List Int) (z:Int) (f:List (List Mon)) (y:List Int) (ha:a.length<=1048576) (hs:zhW f) (hy:y.length<=1048576) :
  Con Tryz.prog 16 [.sl a.length (avs a),.agg [.int z,.sl f.length (prt f)],.sl y.length (avs y)] (trR a z f y):=by
 have cM:=zjv a (by omega)
 have cF:=zot z f hs
 have cP:=zlM z f.length (prt f) y (by omega)
 unfold trR trX trE
 cases h2:zbp z f with
 | false =>
  rw [h2] at cF
  rw [Bool.and_false]
  refine Con.n1 _ ?_
  refine zab Tryz.mixed ⟨13,[],[],[]⟩ Tryz.func16 ?_
  rw [Tryz.ntmps16]
  simp [go_sem]
  refine CallVC.of (cF) ?_
  simp [go_sem]
 | true =>
  rw [h2] at cF
  cases h1:mapB a with
  | false =>
   rw [h1] at cM
   refine Con.n1 _ ?_
   refine zab Tryz.mixed ⟨13,[],[],[]⟩ Tryz.func16 ?_
   rw [Tryz.ntmps16]
   simp [go_sem]
   refine CallVC.of (cF) ?_
   simp [go_sem]
   refine CallVC.of (cM) ?_
   simp [go_sem]
  | true =>
   rw [h1] at cM
   cases h3:vecB z y with
   | false =>
    rw [h3] at cP
    refine Con.n1 _ ?_
    refine zab Tryz.mixed ⟨13,[],[],[]⟩ Tryz.func16 ?_
    rw [Tryz.ntmps16]
    simp [go_sem]
    refine CallVC.of (cF) ?_
    simp [go_sem]
    refine CallVC.of (cM) ?_
    simp [go_sem]
    refine CallVC.of (cP) ?_
    simp [go_sem]
   | true =>
    rw [h3] at cP
    have hF:=zfX.1 h2
    have hm:a.length=38/\zcz a=true:=by unfold mapB at h1; simpa using h1
    have hv:(y.length:Int)=z/\zcz y=true:=by unfold vecB at h3; simpa using h3
    have aN:=zcZ.1 hm.2
    have yN:=zcZ.1 hv.2
    have z1:=hF.lo
    have z3:=hF.hi
    have fl:=hF.len
    have hl:=hv.1
    have am:=hm.1
    subst hl
    have n0:=aN.get 0
    have cS:=zqr y (a[0]?.getD 0) yN ⟨by have:=n0.1; omega,by have:=n0.2; omega⟩ (by omega)
    have cPl:=zha y.length f hF hs
    have cTr:=zhN 6 (by omega)
    rw [zbs] at cTr
    have a0:=zaj (xs:=a) (k:=0) (by omega)
    rw [List.drop_zero,List.getD_eq_getElem?_getD,Nat.zero_add,List.drop_one] at a0
    have b0:AV.val (.int .i64 (a[0]?.getD 0))::avs a.tail=avs a:=a0.symm
    have ane:¬ a=[]:=by rintro rfl; simp at am
    simp only [Bool.and_self,Bool.true_eq_false,if_false,if_true]
    rw [zmz]
    refine zab Tryz.mixed ⟨13,[44],[],[]⟩ Tryz.func16 ?_
    rw [Tryz.ntmps16]
    simp [go_sem]
    refine CallVC.of (cF) ?_
    simp [go_sem]
    refine CallVC.of (cM) ?_
    simp [go_sem]
    refine CallVC.of (cP) ?_
    simp [go_sem]
    rw [a0]
    simp [go_sem]
    rw [b0]
    refine ⟨⟨by omega,ane⟩,?_⟩
    refine CallVC.of (cS) ?_
    simp [go_sem]
    refine zac ([8]++List.range' 33 9) (fun n:Nat=>[(8,.own 25 (n+1) (omat (tsX f y a (n+1) 0))),(33,.int n)]) (fun n=>n<=6) (fun n=>6-n) 0 (by simp) (by simp [go_sem,tsX,omat,rowT]) (by simp [go_sem]) ?_
    intro n hn
    by_cases hn6:n<6
    .have hni:(n:Int)<6:=by omega
     have hts:=zpz f y a (n+1) 0
     have hr:rowT f y a (n+1) 0=List.replicate y.length 0:=by rw [rowT,if_neg (by omega)]
     simp [go_sem,hni]
     refine ⟨⟨by omega,by omega⟩,⟨by omega,by omega⟩,⟨by omega,by omega⟩,n+1,by omega,by omega,zaa _ _ _ (by simp),⟨rfl,?_⟩,by omega⟩
     rw [hts,zbq,zb5,zg2,hr,zkv]
    .have e:n=6:=by omega
     subst e
     simp [go_sem]
     refine CallVC.of (cPl) ?_
     simp [go_sem]
     refine CallVC.of (cTr) ?_
     simp [go_sem]
     refine zac ([8,10,11,12]++List.range' 46 32) (fun i:Nat=>[(8,.own 25 7 (omat (tsX f y a 7 i))),(46,.int i)]) (fun i=>i<=37) (fun i=>37-i) 0 (by simp) (by simp [go_sem]) (by simp [go_sem]) ?_
     intro i hi
     by_cases hi37:i<37
     .have hii:(i:Int)<37:=by omega
      have hiT:i<(trN 6).length:=by rw [zbs]; exact hi37
      have md:=zar hiT
      have neT:¬ trN 6=[]:=by intro e; have:=zbs; rw [e] at this; simp at this
      have ho:=zsd hi37
      have hv:=(ztf hi37).2
      have st:=zr7 f y a 7 i (by omega)
      have fN:=zuT a i
      have fa:facT a i=a[i+1]?.getD 0*pw (symF 6 ((trN 6)[i]?.getD [])%10007) 10005%10007:=rfl
      have gt:=ztK f y a i (show ((trN 6)[i]?.getD []).length<7 by omega)
      have ad:=zaj (xs:=a) (k:=i+1) (by omega)
      rw [List.getD_eq_getElem?_getD] at ad
      have xN:=aN.get (i+1)
      have oB:=ztB ho
      have cY:=zfU 6 _ (by omega) ho
      have cE:=zfC y.length f y hF hs yN rfl 6 ((trN 6)[i]?.getD []) hv.2 hv.1 (by omega)
      have eL:=zi5 (f:=f) (y:=y) (n:=6) (by omega) ((trN 6)[i]?.getD [])
      have eN:=zuY (f:=f) (y:=y) (n:=6) ((trN 6)[i]?.getD [])
      have rL:=zg2 f y a ((trN 6)[i]?.getD []).length i
      have rN:=zry f y a ((trN 6)[i]?.getD []).length i
      have gm:=zht (A:=tsX f y a 7 i) (k:=((trN 6)[i]?.getD []).length) (by simp; omega)
      rw [gt,rL] at gm
      have cPs:=zur (rowT f y a ((trN 6)[i]?.getD []).length i) (edF f y 6 ((trN 6)[i]?.getD [])) (facT a i) rN eN ⟨by have:=fN.1; omega,by have:=fN.2; omega⟩ (by omega) (by omega)
      have os:=zer (tsX f y a 7 i) ((trN 6)[i]?.getD []).length (zii (rowT f y a ((trN 6)[i]?.getD []).length i) (edF f y 6 ((trN 6)[i]?.getD [])) (facT a i))
      rw [st,znw,rL] at os
      rw [eL] at cPs
      rw [rL] at cPs
      clear st gt ho
      have Yl:=zmz f y a 7 i
      generalize hX:tsX f y a 7 (i+1)=X at *
      generalize tsX f y a 7 i=Y at *
      generalize zii (rowT f y a ((trN 6)[i]?.getD []).length i) (edF f y 6 ((trN 6)[i]?.getD [])) (facT a i)=P at *
      generalize rowT f y a ((trN 6)[i]?.getD []).length i=R at *
      generalize edF f y 6 ((trN 6)[i]?.getD [])=e at *
      generalize symF 6 ((trN 6)[i]?.getD [])=w at *
      generalize (trN 6)[i]?.getD []=t at *
      generalize hx:a[i+1]?.getD 0=x at *
      have pN:isN (pw (w%10007) 10005):=zak _
      have c1:=zbF w (by omega) (by omega)
      have c2:=zv8 (w%10007) (zak w)
      have f3:=zaK xN pN
      have c3:=zbF (x*pw (w%10007) 10005) f3.1 f3.2
      rw [<- fa] at c3
      generalize facT a i=k at *
      generalize pw (w%10007) 10005=pq at *
      simp [go_sem,hii,md]
      refine ⟨neT,by kernel_rfl,⟨by omega,by omega⟩,⟨by omega,by omega,ane⟩,?_⟩
      simp [go_sem,ad,hx]
      refine CallD.of cY ?_
      simp [go_sem]
      refine CallD.of (c1) ?_
      simp [go_sem]
      refine CallD.of (c2) ?_
      simp [go_sem]
      refine ⟨f3,?_⟩
      refine CallD.of (c3) ?_
      simp [go_sem]
      refine ⟨by kernel_rfl,?_⟩
      simp [go_sem]
      simp [go_sem,gm]
      refine ⟨by kernel_rfl,by omega,?_⟩
      refine CallD.of (cE) ?_
      simp [go_sem]
      simp [go_sem,gm]
      refine CallD.of cPs ?_
      simp [go_sem,os]
      refine ⟨by omega,by omega,?_⟩
      refine ⟨by kernel_rfl,?_⟩
      simp [go_sem]
      refine ⟨⟨by omega,by omega⟩,i+1,by omega,by omega,zaa _ _ _ (by simp),?_⟩
      rw [hX]
      exact ⟨rfl,by omega⟩
     .have e:i=37:=by omega
      subst e
      simp [go_sem]
end Go.Proofs.YthhdollpkieknaaGreat


namespace Go.Proofs.YthhdollpkieknaaGreat
open Go.Abs
theorem znY:∀ {L:List Mon} {K:Key},cfL L K≠0->∃ m∈L,zah m.2=K
 | [],K,h=>absurd rfl h
 | m::L,K,h=>by
  by_cases e:K=zah m.2
  .exact ⟨m,by simp,e.symm⟩
  .rw [zbu,if_neg e,Int.zero_add] at h
   obtain ⟨m',h1,h2⟩:=znY h
   exact ⟨m',by simp [h1],h2⟩
theorem zno {c:Key->Option Int} {n:Nat} {L:List Mon} (hn:n<=3) (hc:MapN c) (hS:Srt L) (hZ:Nzl L) (hl:∀ m∈L,m.2.length=n) (hv:∀ K,gv c K%10007=cfL L K%10007) (k:Key) (a:Int) :
  (c k=some a/\a≠0) ↔ (k,a)∈L.map keyM:=by
 have hv:=hv k
 constructor
 .rintro ⟨h1,h2⟩
  have ha:=hc k a h1
  have g:gv c k=a:=by simp [gv,h1]
  rw [g] at hv
  have h3:cfL L k≠0:=fun e=>by rw [e] at hv; have:=ha.1; have:=ha.2; omega
  obtain ⟨m,hm,rfl⟩:=znY h3
  have e:=znu hn hl hS m hm
  have hz:=hZ m hm
  rw [e] at hv
  have:m.1=a:=by have:=ha.1; have:=ha.2; omega
  exact List.mem_map.2 ⟨m,hm,by rw [<- this]; rfl⟩
 .intro h
  obtain ⟨m,hm,e⟩:=List.mem_map.1 h
  have e1:zah m.2=k:=congrArg Prod.fst e
  have e2:m.1=a:=congrArg Prod.snd e
  subst e1 e2
  have hz:=hZ m hm
  rw [znu hn hl hS m hm] at hv
  cases hc':c (zah m.2) with
  | none=>simp [gv,hc'] at hv; omega
  | some b =>
   have hb:=hc _ _ hc'
   have g:gv c (zah m.2)=b:=by simp [gv,hc']
   rw [g] at hv
   have:b=m.1:=by have:=hb.1; have:=hb.2; omega
   exact ⟨by rw [this],by omega⟩
theorem ztn {c:Key->Option Int} {n:Nat} {L:List Mon} (h1n:1<=n) (hn:n<=3) (hc:MapN c) (hS:Srt L) (hZ:Nzl L) (hl:∀ m∈L,m.2.length=n) (hLl:L.length<=1048576) (hv:∀ K,gv c K%10007=cfL L K%10007) :
  Con Tryz.prog 202 [.fmp c,.int n] (.own 62 L.length (zb3 L)) :=
 zuj c n L h1n hn hS (zno hn hc hS hZ hl hv) hl hLl
def ptA (Ls:List (List Mon)):Nat->AV
 | 0=>.val (.slice none 0 0)
 | i+1=>.own 63 (i+1) (oprt (Ls.take (i+1)))
theorem zqY (Ls:List (List Mon)):ptA Ls 0=.val (.slice none 0 0):=rfl
theorem zeq (Ls:List (List Mon)) (i:Nat):ptA Ls (i+1)=.own 63 (i+1) (oprt (Ls.take (i+1))):=rfl
theorem zio (Ls:List (List Mon)) {i:Nat} (h:i<Ls.length):oprt (Ls.take (i+1))=oprt (Ls.take i)++[.own 62 (Ls[i]?.getD []).length (zb3 (Ls[i]?.getD []))]:=by
 rw [List.take_add_one,List.getElem?_eq_getElem h,Option.toList_some,zpI]; simp [oprt,h]
theorem zhu {cs:List (Key->Option Int)} {k:Nat} (h:k<cs.length):(cs.map AV.fmp).drop k=.fmp (cs[k]?.getD zb4)::(cs.drop (k+1)).map AV.fmp:=by
 rw [<- List.map_drop,List.drop_eq_getElem_cons h,List.map_cons]; simp [h]
theorem zoB (n:Nat) (cs:List (Key->Option Int)) (Ls:List (List Mon)) (hl:cs.length=Ls.length) (h0:0<cs.length) (h3:cs.length<=3)
  (hp:∀ i,i<cs.length->Con Tryz.prog 202 [.fmp (cs[i]?.getD zb4),.int n] (.own 62 (Ls[i]?.getD []).length (zb3 (Ls[i]?.getD [])))) :
  Con Tryz.prog 112 [.int n,.sl cs.length (cs.map AV.fmp)] (.agg [.int n,.own 63 Ls.length (oprt Ls)]):=by
 refine zab Tryz.mixed ⟨8,[],[],[]⟩ Tryz.func112 ?_
 rw [Tryz.ntmps112]
 simp [go_sem]
 refine zac (5::7::List.range' 12 13) (fun i:Nat=>[(5,.box 30 [.int n,ptA Ls i]),(12,.int i)]) (fun i=>i<=cs.length) (fun i=>cs.length-i) 0 (by simp) (by simp [go_sem,ptA]) (by simp [go_sem]) ?_
 intro i hi
 simp [go_sem]
 refine ⟨fun h=>?_,fun h=>?_⟩ <;> simp at h
 .have hif:=h
  have cp:=hp i hif
  rcases i with _ | j
  .simp [go_sem,zqY,zhu hif]
   refine ⟨⟨hif,fun e=>by rw [e] at hif; simp at hif⟩,by kernel_rfl,?_⟩
   refine CallD.of (cp) ?_
   simp [go_sem]
   refine ⟨by kernel_rfl,?_⟩
   simp [go_sem]
   have hs:=zio Ls (i:=0) (by omega)
   refine ⟨1,by omega,by omega,zaa _ _ _ (by simp),?_,by simp⟩
   rw [zeq,hs]
   simp [oprt]
  .simp [go_sem,zeq,zhu hif]
   refine ⟨⟨by omega,by omega,fun e=>by rw [e] at hif; simp at hif⟩,by kernel_rfl,?_⟩
   refine CallD.of (cp) ?_
   simp [go_sem]
   have hs:=zio Ls (i:=j+1) (by omega)
   refine ⟨⟨by omega,by omega,by omega⟩,?_⟩
   refine ⟨by kernel_rfl,?_⟩
   simp [go_sem]
   refine ⟨by omega,j+1+1,by omega,by omega,zaa _ _ _ (by simp),?_,by omega⟩
   rw [zeq,hs]
 .have e:i=cs.length:=by omega
  subst e
  obtain ⟨j,hj⟩:∃ j,cs.length=j+1:=⟨cs.length-1,by omega⟩
  have e2:ptA Ls cs.length=.own 63 Ls.length (oprt Ls):=by
   rw [hj,zeq,<- hj,hl,List.take_length]
  rw [e2]
  simp [go_sem]
end Go.Proofs.YthhdollpkieknaaGreat


namespace Go.Proofs.YthhdollpkieknaaGreat
open Go.Abs
end Go.Proofs.YthhdollpkieknaaGreat


namespace Go.Proofs.YthhdollpkieknaaGreat
open Go.Abs CR
end Go.Proofs.YthhdollpkieknaaGreat


namespace Go.Proofs.YthhdollpkieknaaGreat
open Go.Abs CR
section
variable {α:Type} [CR α]
def lin (u:α) (v:Int):Ser α:=fun n=>if n=0 then u else if n=1 then ofI v else ofI 0
end
abbrev Pol:Type 1:=(α:Type)->[CR α]->(Nat->α)->α
def polM (d:Nat) (p:List Mon):Pol:=fun α [CR α] U=>evM d U p
def Alk (F G:Pol):Prop:=∀ (α:Type) [CR α] (c:Cg α) (U:Nat->α),c.r (F α U) (G α U)
end Go.Proofs.YthhdollpkieknaaGreat


namespace Go.Proofs.YthhdollpkieknaaGreat
open Go.Abs
end Go.Proofs.YthhdollpkieknaaGreat


namespace Go.Proofs.YthhdollpkieknaaGreat
open Go.Abs
end Go.Proofs.YthhdollpkieknaaGreat


namespace Go.Proofs.YthhdollpkieknaaGreat
open Go.Abs
theorem zoK:∀ cs:List (Key->Option Int),frzL (cs.map AV.mp)=cs.map AV.fmp
 | []=>rfl
 | c::cs=>by rw [List.map_cons,frzL,zoK cs]; rfl
end Go.Proofs.YthhdollpkieknaaGreat


namespace Go.Proofs.YthhdollpkieknaaGreat
open Go.Abs
end Go.Proofs.YthhdollpkieknaaGreat


namespace Go.Proofs.YthhdollpkieknaaGreat
open Go.Abs
def subK (a b:Key):Key:=(a.1-b.1,a.2.1-b.2.1,a.2.2-b.2.2)
theorem zj5 {K a b:Key}:K=addK a b ↔ subK K a=b:=by
 obtain ⟨k0,k1,k2⟩:=K
 obtain ⟨a0,a1,a2⟩:=a
 obtain ⟨b0,b1,b2⟩:=b
 simp only [addK,subK,Prod.mk.injEq]
 omega
theorem zes {α:Type} (K a:Key) (x:Int) (key:α->Key) (num:α->Int) (E:List α):sumI (fun d=>if K=addK a (key d) then x*num d else 0) E=x*coef key num E (subK K a):=by
 unfold coef
 rw [<- zgV]
 refine za7 (fun d _=>?_)
 by_cases h:subK K a=key d
 .rw [if_pos (zj5.2 h),if_pos h]
 .rw [if_neg (fun e=>h (zj5.1 e)),if_neg h,Int.mul_zero]
theorem zcb:∀ (L:List Key) (c:Key->Option Int),(∀ k x,c k=some x->k∈L)->∃ es,Enum c es
 | [],c,h=>⟨[],.nil,by simp,fun k _=>by
   cases hc:c k with
   | none=>rfl
   | some x=>exact absurd (h k x hc) (by simp)⟩
 | a::L,c,h=>by
  obtain ⟨es,he⟩:=zcb L (fun k=>if k=a then none else c k) (fun k x hk=>by
   by_cases e:k=a
   .simp [e] at hk
   .simp [e] at hk
    rcases List.mem_cons.1 (h k x hk) with h1 | h1
    .exact absurd h1 e
    .exact h1)
  have hne:∀ p∈es,p.1≠a:=fun p hp e=>by
   have:=he.val p hp
   simp [e] at this
  cases hc:c a with
  | none =>
   refine ⟨es,he.nd,fun p hp=>?_,fun k hk=>?_⟩
   .have:=he.val p hp
    simpa [hne p hp] using this
   .by_cases e:k=a
    .rw [e]; exact hc
    .have:=he.out k hk
     simpa [e] using this
  | some x =>
   refine ⟨(a,x)::es,List.pairwise_cons.2 ⟨fun p hp e=>hne p hp e.symm,he.nd⟩,fun p hp=>?_,fun k hk=>?_⟩
   .rcases List.mem_cons.1 hp with rfl | hp
    .exact hc
    .have:=he.val p hp
     simpa [hne p hp] using this
   .have e:¬ k=a:=fun e=>hk (a,x) (by simp) e.symm
    have:=he.out k (fun p hp=>hk p (by simp [hp]))
    simpa [e] using this
open Classical in
noncomputable def enE (c:Key->Option Int):List (Key × Int):=if h:∃ es,Enum c es then h.choose else []
theorem zj4 {c:Key->Option Int} (h:∃ es,Enum c es):Enum c (enE c):=by
 unfold enE
 rw [dif_pos h]
 exact h.choose_spec
end Go.Proofs.YthhdollpkieknaaGreat


namespace Go.Proofs.YthhdollpkieknaaGreat
open Go.Abs
def DrP (n:Nat) (p:List Mon):Prop:=p.length<=3/\∀ m∈p,WOk n 3 m
def DrS (z:Int) (f:List (List Mon)):Prop := -1<=z/\z<=4/\f.length<=4/\∀ p∈f,p.length<=4/\∀ m∈p,m.2.length<=3
theorem DrS.of {n:Nat} {f:List (List Mon)} (hn:n<=3) (hl:f.length<=3) (h:∀ p∈f,DrP n p) {z:Int} (h1 : -1<=z) (h2:z<=4):DrS z f :=
 ⟨h1,h2,by omega,fun p hp=>⟨by have:=(h p hp).1; omega,fun m hm=>by have:=((h p hp).2 m hm).len; omega⟩⟩
end Go.Proofs.YthhdollpkieknaaGreat


namespace Go.Proofs.YthhdollpkieknaaGreat
open Go.Abs
end Go.Proofs.YthhdollpkieknaaGreat


namespace Go.Proofs.YthhdollpkieknaaGreat
open Go.Abs
end Go.Proofs.YthhdollpkieknaaGreat


namespace Go.Proofs.YthhdollpkieknaaGreat
open Go.Abs
end Go.Proofs.YthhdollpkieknaaGreat


namespace Go.Proofs.YthhdollpkieknaaGreat
open Go.Abs
def zgN (A:List (List Int)) (r:List Int):Bool:=decide (r.length=(A[0]?.getD []).length) && zcz r
def matB (A:List (List Int)):Bool:=decide (1<=A.length/\A.length<=8) && (decide (1<=(A[0]?.getD []).length/\(A[0]?.getD []).length<=8) && A.all (zgN A))
theorem zkC {A:List (List Int)}:matB A=true ↔ (1<=A.length/\A.length<=8)/\(1<=(A[0]?.getD []).length/\(A[0]?.getD []).length<=8)/\∀ r∈A,r.length=(A[0]?.getD []).length/\Ns r:=by
 unfold matB zgN
 simp only [Bool.and_eq_true,decide_eq_true_eq,List.all_eq_true,zcZ]
theorem zix (n:Nat) (cs:List AV) (hn:n<=9223372036854775807):Con Tryz.prog 113 [.sl n cs] (.int n):=by
 refine zab Tryz.mixed ⟨3,[],[],[]⟩ Tryz.func113 ?_
 rw [Tryz.ntmps113]
 simp [go_sem]
 try omega
theorem at0 {A:List (List Int)} (h:0<A.length):mat A=.sl (A[0]?.getD []).length (avs (A[0]?.getD []))::mat A.tail:=by cases A with | nil=>simp at h | cons x l=>simp [mat]
theorem zlj (A:List (List Int)) (hl:A.length<=9223372036854775807) (hr:∀ r∈A,r.length<=9223372036854775807) :
  Con Tryz.prog 110 [.sl A.length (mat A)] (.bool (matB A)):=by
 have cL:=zix A.length (mat A) hl
 have cI:=zbT (A.length:Int) 1 8
 by_cases h1:1<=A.length/\A.length<=8
 .have e1:(decide ((1:Int)<=A.length) && decide ((A.length:Int)<=8))=true:=by simp; omega
  rw [e1] at cI
  have m0:=at0 (A:=A) (by omega)
  have h0:(A[0]?.getD [])∈A:=by simp [show 0<A.length by omega]
  have r0:=hr _ h0
  have fine:matB A=(decide (1<=(A[0]?.getD []).length/\(A[0]?.getD []).length<=8) && A.all (zgN A)):=by unfold matB; rw [decide_eq_true h1]; rfl
  refine zab Tryz.mixed ⟨5,[],[],[]⟩ Tryz.func110 ?_
  rw [Tryz.ntmps110]
  simp [go_sem]
  refine CallVC.of (cL) ?_
  simp [go_sem]
  refine CallVC.of (cI) ?_
  simp [go_sem]
  refine zac (2::4::List.range' 11 23) (fun i:Nat=>[(11,.int i)]) (fun i=>i<=A.length/\(∀ r∈A.take i,zgN A r=true)/\(0<i->1<=(A[0]?.getD []).length/\(A[0]?.getD []).length<=8)) (fun i=>A.length-i) 0 (by simp) (by simp [go_sem]) (by simp [go_sem]) ?_
  rintro i ⟨hi,hp,hq⟩
  simp [go_sem]
  refine ⟨fun h=>?_,fun h=>?_⟩ <;> simp at h
  .have hif:=h
   have hx:A[i]?.getD []∈A:=by simp [h]
   have hx2:=hr _ hx
   have cl:=zet (A[i]?.getD []).length (avs (A[i]?.getD [])) hx2
   have ci:=zbT ((A[i]?.getD []).length:Int) 1 8
   have cn:=zbl (A[i]?.getD []) hx2
   have hno:zgN A (A[i]?.getD [])=false->matB A=false:=fun hh=>by
    rw [fine]
    have:A.all (zgN A)=false:=by rw [List.all_eq_false]; exact ⟨_,hx,by simp [hh]⟩
    rw [this]; simp
   simp [go_sem,zar hif]
   refine ⟨⟨hif,by rintro rfl; simp at hif⟩,?_⟩
   generalize hR:A[i]?.getD []=R at *
   by_cases c1:R.length=(A[0]?.getD []).length
   .have c1':(R.length:Int)=(A[0]?.getD []).length:=by omega
    simp [go_sem,m0,c1']
    refine ⟨⟨by omega,by rintro rfl; simp at hif⟩,?_⟩
    refine CallVC.of (cl) ?_
    simp [go_sem]
    by_cases c2:1<=R.length/\R.length<=8
    .rw [show (decide ((1:Int)<=R.length) && decide ((R.length:Int)<=8))=true by simp; omega] at ci
     refine CallVC.of (ci) ?_
     simp [go_sem]
     cases hn:zcz R with
     | true =>
      rw [hn] at cn
      refine CallVC.of (cn) ?_
      simp [go_sem]
      refine ⟨by omega,i+1,⟨by omega,zhi hif hp ?_,fun _=>by omega⟩,by omega,zaa _ _ _ (by simp),by omega⟩
      have:A[i]=R:=by rw [<- hR]; simp [hif]
      rw [this]; unfold zgN; rw [hn,decide_eq_true c1]; rfl
     | false =>
      rw [hn] at cn
      refine CallVC.of (cn) ?_
      simp [go_sem]
      exact hno (by unfold zgN; rw [hn]; simp)
    .rw [show (decide ((1:Int)<=R.length) && decide ((R.length:Int)<=8))=false by simp; omega] at ci
     refine CallVC.of (ci) ?_
     simp [go_sem]
     rw [fine,decide_eq_false (by omega)]; rfl
   .have c1':¬ (R.length:Int)=(A[0]?.getD []).length:=by omega
    simp [go_sem,m0,c1']
    exact ⟨⟨by omega,by rintro rfl; simp at hif⟩,hno (by unfold zgN; rw [decide_eq_false c1]; rfl)⟩
  .simp [go_sem]
   rw [List.take_of_length_le h] at hp
   rw [fine,decide_eq_true (hq (by omega)),List.all_eq_true.2 hp]
   rfl
 .have e1:(decide ((1:Int)<=A.length) && decide ((A.length:Int)<=8))=false:=by simp; omega
  rw [e1] at cI
  refine zab Tryz.mixed ⟨5,[],[],[]⟩ Tryz.func110 ?_
  rw [Tryz.ntmps110]
  simp [go_sem]
  refine CallVC.of (cL) ?_
  simp [go_sem]
  refine CallVC.of (cI) ?_
  simp [go_sem]
  unfold matB
  rw [decide_eq_false h1]; rfl
def sqB (z:Int) (A:List (List Int)):Bool:=matB A && (decide ((A.length:Int)=z) && decide (((A[0]?.getD []).length:Int)=z))
theorem zsA {z:Int} {A:List (List Int)}:sqB z A=true ↔ (1<=A.length/\A.length<=8)/\(A.length:Int)=z/\∀ r∈A,(r.length:Int)=z/\Ns r:=by
 unfold sqB
 simp only [Bool.and_eq_true,decide_eq_true_eq,zkC]
 constructor
 .rintro ⟨⟨h1,h2,h3⟩,h4,h5⟩
  exact ⟨h1,h4,fun r hr=>⟨by have:=(h3 r hr).1; omega,(h3 r hr).2⟩⟩
 .rintro ⟨h1,h2,h3⟩
  have h0:(A[0]?.getD [])∈A:=by simp [show 0<A.length by omega]
  have:=(h3 _ h0).1
  exact ⟨⟨h1,by omega,fun r hr=>⟨by have:=(h3 r hr).1; omega,(h3 r hr).2⟩⟩,h2,by omega⟩
end Go.Proofs.YthhdollpkieknaaGreat


namespace Go.Proofs.YthhdollpkieknaaGreat
open Go.Abs
def linK (row:List Int):Nat->List Mon
 | 0=>[]
 | k+1=>putL (linK row k) (row[k]?.getD 0) (oneE row.length k)
theorem zjn {n:Nat} {row:List Int} (hl:row.length=n) (hN:Ns row):∀ k,k<=n->(linK row k).length<=k/\∀ m∈linK row k,WOk n 1 m
 | 0,_=>⟨by simp [linK],fun m hm=>by simp [linK] at hm⟩
 | k+1,hk=>by
  have ih:=zjn hl hN k (by omega)
  have h1:=zqz (linK row k) (row[k]?.getD 0) (oneE row.length k)
  refine ⟨by rw [linK]; omega,fun m hm=>?_⟩
  rw [linK] at hm
  rw [hl] at hm
  exact zdf (n:=n) (B:=1) ⟨hN.get k,(zgR (n:=n) (k:=k)).len,(zgR (n:=n) (k:=k)).pw⟩ _ _ ih.2 m hm
def linF (m:List (List Int)):List (List Mon):=m.map fun r=>linK r r.length
theorem zpD (m:List (List Int)):(linF m).length=m.length:=by simp [linF]
theorem zpv {m:List (List Int)} {i:Nat} (h:i<m.length):(linF m)[i]?.getD []=linK (m[i]?.getD []) (m[i]?.getD []).length:=by simp [linF,h]
end Go.Proofs.YthhdollpkieknaaGreat


namespace Go.Proofs.YthhdollpkieknaaGreat
open Go.Abs
def linL (a:List Int):List Mon:=(List.range a.length).map fun i=>(a[i]?.getD 0,oneE a.length i)
@[simp] theorem zpi (a:List Int):(linL a).length=a.length:=by simp [linL]
theorem zts {a:List Int} {i:Nat} (h:i<a.length):(linL a)[i]?.getD (0,[])=(a[i]?.getD 0,oneE a.length i):=by simp [linL,h]
theorem zhh {n i j:Nat} (hj:j<n):(oneE n i)[j]?.getD 0=if i=j then 1 else 0:=by
 unfold oneE
 rw [List.getElem?_set]
 by_cases e:i=j
 .subst e; simp [hj]
 .simp [e,hj]
theorem znE {a:List Int} (h3:a.length<=3):(linL a).Pairwise (fun a b=>zah a.2≠zah b.2):=by
 unfold linL
 rw [List.pairwise_map]
 refine List.Pairwise.imp_of_mem (R:=fun a b=>a<b) (fun {i j} hi hj hij e=>?_) (List.pairwise_lt_range)
 have hi:i<a.length:=by simpa using hi
 have e2:=zeG (a:=oneE a.length i) (b:=oneE a.length j) (by simp) (by simp; omega) e
 have h1:=zhh (i:=i) hi
 rw [e2,zhh hi,if_neg (by omega),if_pos rfl] at h1
 omega
theorem zqB {a:List Int} (h3:a.length<=3) (ha:Ns a) {k:Key} {x:Int} (hk:polF (linL a) k=some x):EOk (k,x):=by
 obtain ⟨m,hm,he⟩:=List.mem_map.1 ((zdI (znE h3)).1 hk)
 obtain ⟨i,hi,rfl⟩:=List.mem_map.1 hm
 simp only [keyM,Prod.mk.injEq] at he
 obtain ⟨rfl,rfl⟩:=he
 have g:∀ j:Nat,0<=(oneE a.length i)[j]?.getD 0/\(oneE a.length i)[j]?.getD 0<=1:=fun j=>(zgR (n:=a.length) (k:=i)).get (by omega) j
 unfold EOk zah
 simp only
 have g0:=g 0
 have g1:=g 1
 have g2:=g 2
 exact ⟨ha.get i,by omega,by omega,by omega,by omega,by omega,by omega⟩
theorem zpH (a:List Int) (h3:a.length<=3):Con Tryz.prog 111 [.sl a.length (avs a)] (.mp (polF (linL a))):=by
 refine zab Tryz.mixed ⟨7,[],[],[]⟩ Tryz.func111 ?_
 rw [Tryz.ntmps111]
 simp [go_sem]
 refine zac (3::4::5::6::List.range' 10 12) (fun i:Nat=>[(3,.mp (polF ((linL a).take i))),(10,.int i)]) (fun i=>i<=a.length) (fun i=>a.length-i) 0 (by simp) (by simp [go_sem,polF,polG]) (by simp [go_sem]) ?_
 intro i hi
 simp [go_sem]
 refine ⟨fun h=>?_,fun h=>?_⟩ <;> simp at h
 .have hif:=h
  have hv:=ziq (p:=linL a) (i:=i) (by simpa using h)
  rw [zts hif] at hv
  simp only at hv
  simp [go_sem,zaj hif]
  have hk:zah (oneE a.length i)=(if i=0 then 1 else 0,if i=1 then 1 else 0,if i=2 then 1 else 0):=by
   have g:∀ j:Nat,(oneE a.length i)[j]?.getD 0=if i=j then 1 else 0:=fun j=>by
    rcases Nat.lt_or_ge j a.length with hj | hj
    .exact zhh hj
    .rw [List.getElem?_eq_none (by simpa using hj),if_neg (by omega)]; rfl
   unfold zah
   rw [g 0,g 1,g 2]
  have hi3:i=0\/i=1\/i=2:=by omega
  rw [hk] at hv
  rcases hi3 with rfl | rfl | rfl
  .simp [go_sem]
   exact ⟨⟨hif,by rintro rfl; simp at hif⟩,1,by omega,by omega,zaa _ _ _ (by simp),by simpa using hv.symm,by omega⟩
  .simp [go_sem]
   exact ⟨⟨hif,by rintro rfl; simp at hif⟩,2,by omega,by omega,zaa _ _ _ (by simp),by simpa using hv.symm,by omega⟩
  .simp [go_sem]
   exact ⟨⟨hif,by rintro rfl; simp at hif⟩,3,by omega,by omega,zaa _ _ _ (by simp),by simpa using hv.symm,by omega⟩
 .have e:i=a.length:=by omega
  subst e
  simp [go_sem]
  rw [List.take_of_length_le (by simp)]
section
variable {q:List (List Int)} {f:List (List Mon)} {n:Nat}
theorem zhK (a b:Key):addK a b=addK b a:=by unfold addK; rw [Int.add_comm a.1,Int.add_comm a.2.1,Int.add_comm a.2.2]
end
end Go.Proofs.YthhdollpkieknaaGreat


namespace Go.Proofs.YthhdollpkieknaaGreat
open Go.Abs
noncomputable def mulM (c d:Key->Option Int):Key->Option Int:=mapT (prT (enE c) (enE d))
structure Mok (B:Int) (c:Key->Option Int):Prop where
 en:∃ es,Enum c es
 pw:∀ k x,c k=some x->isN x/\0<=k.1/\k.1<=B/\0<=k.2.1/\k.2.1<=B/\0<=k.2.2/\k.2.2<=B
theorem Mok.le {B C:Int} {c:Key->Option Int} (h:Mok B c) (hBC:B<=C):Mok C c:=⟨h.en,fun k x hk=>by
 obtain ⟨a,b,b2,d,d2,e,e2⟩:=h.pw k x hk
 exact ⟨a,b,by omega,d,by omega,e,by omega⟩⟩
theorem Mok.eok {B:Int} {c:Key->Option Int} (h:Mok B c) (hB:B<=1000):∀ k x,c k=some x->EOk (k,x):=fun k x hk=>by
 obtain ⟨a,b,b2,d,d2,e,e2⟩:=h.pw k x hk
 exact ⟨a,b,by show k.1<=1000; omega,d,by show k.2.1<=1000; omega,e,by show k.2.2<=1000; omega⟩
theorem zsF (T:List (Key × Int)):∃ es,Enum (mapT T) es:=zcb (T.map (·.1)) _ fun k x h=>by
 unfold mapT at h
 split at h
 .rename_i h2
  obtain ⟨e,he,hk⟩:=zcH.1 h2
  exact List.mem_map.2 ⟨e,he,hk⟩
 .simp at h
theorem Mok.mul {B C:Int} {c d:Key->Option Int} (h:Mok B c) (h2:Mok C d):Mok (B+C) (mulM c d):=⟨zsF _,fun k x hk=>by
 unfold mulM mapT at hk
 split at hk
 .rename_i h3
  obtain ⟨e,he,e1⟩:=zcH.1 h3
  obtain ⟨a,ha,he⟩:=List.mem_flatMap.1 he
  obtain ⟨b,hb,rfl⟩:=List.mem_map.1 he
  have va:=h.pw _ _ ((zj4 h.en).val a ha)
  have vb:=h2.pw _ _ ((zj4 h2.en).val b hb)
  subst e1
  simp only [Option.some.injEq] at hk
  rw [<- hk]
  refine ⟨zak _,?_⟩
  simp only [addK]
  omega
 .simp at hk⟩
theorem Mok.one {x:Int} (hx:isN x):Mok 0 (mset zb4 (0,0,0) x):=by
 have key:∀ k y,mset zb4 (0,0,0) x k=some y->k=(0,0,0)/\y=x:=fun k y h=>by
  unfold mset at h
  split at h
  .rename_i e; exact ⟨e,by simpa using h.symm⟩
  .simp [zb4] at h
 refine ⟨zcb [(0,0,0)] _ fun k y h=>by simp [(key k y h).1],fun k y h=>?_⟩
 obtain ⟨rfl,rfl⟩:=key k y h
 exact ⟨hx,by simp,by simp,by simp,by simp,by simp,by simp⟩
theorem Mok.zero (B:Int):Mok B zb4:=⟨⟨[],.nil,by simp,fun _ _=>rfl⟩,fun k x h=>by simp [zb4] at h⟩
theorem Mok.add {B x:Int} {o q:Key->Option Int} (h:Mok B o) (h2:Mok B q):Mok B (addM o q x):=by
 have key:∀ k y,addM o q x k=some y->isN y/\((∃ a,q k=some a)\/∃ a,o k=some a):=fun k y hk=>by
  unfold addM at hk
  cases hq:q k with
  | none=>rw [hq] at hk; exact ⟨(h.pw k y hk).1,.inr ⟨y,hk⟩⟩
  | some a=>rw [hq] at hk; simp at hk; rw [<- hk]; exact ⟨zak _,.inl ⟨a,rfl⟩⟩
 obtain ⟨e1,h3⟩:=h.en
 obtain ⟨e2,h4⟩:=h2.en
 refine ⟨zcb (e1.map (·.1)++e2.map (·.1)) _ fun k y hk=>?_,fun k y hk=>?_⟩
 .rcases (key k y hk).2 with ⟨a,ha⟩ | ⟨a,ha⟩
  .exact List.mem_append_right _ (List.mem_map.2 ⟨(k,a),(zdh h4).2 ha,rfl⟩)
  .exact List.mem_append_left _ (List.mem_map.2 ⟨(k,a),(zdh h3).2 ha,rfl⟩)
 .refine ⟨(key k y hk).1,?_⟩
  rcases (key k y hk).2 with ⟨a,ha⟩ | ⟨a,ha⟩
  .exact (h2.pw k a ha).2
  .exact (h.pw k a ha).2
structure Rlt (n:Nat) (B:Int) (c:Key->Option Int) (L:List Mon):Prop where
 ok:Mok B c
 wok:∀ m∈L,WOk n B m
 cf:∀ K,gv c K%10007=cfL L K%10007
theorem Rlt.le {n:Nat} {B C:Int} {c:Key->Option Int} {L:List Mon} (h:Rlt n B c L) (hBC:B<=C):Rlt n C c L:=⟨h.ok.le hBC,fun m hm=>(h.wok m hm).le hBC,h.cf⟩
theorem Rlt.mul {n:Nat} (hn:n<=3) {B C:Int} {c d:Key->Option Int} {L l:List Mon} (h:Rlt n B c L) (h2:Rlt n C d l):Rlt n (B+C) (mulM c d) (zpX L l):=by
 refine ⟨h.ok.mul h2.ok,zn7 h.wok h2.wok,fun K=>?_⟩
 have hE:=zj4 h.ok.en
 have hD:=zj4 h2.ok.en
 have e0:gv (mulM c d) K%10007=cfT (prT (enE c) (enE d)) K%10007:=by
  show (mapT (prT (enE c) (enE d)) K).getD 0%10007=_
  rw [zpn,Int.emod_emod_of_dvd _ (Int.dvd_refl _)]
 rw [e0,zpN,zm5]
 have s1:sumI (fun e:Key × Int=>sumI (fun b:Key × Int=>if K=addK e.1 b.1 then e.2*b.2 else 0) (enE d)) (enE c)%10007=sumI (fun e:Key × Int=>sumI (fun b:Mon=>if K=addK e.1 (zah b.2) then e.2*b.1 else 0) l) (enE c)%10007:=by
  refine zev fun e he=>?_
  have a1:=zes K e.1 e.2 Prod.fst Prod.snd (enE d)
  have a2:=zes K e.1 e.2 (fun m:Mon=>zah m.2) (fun m=>m.1) l
  rw [a1,a2,zdg hD]
  exact zc9 _ (h2.cf _)
 rw [s1,zeL]
 have s2:sumI (fun b:Mon=>sumI (fun e:Key × Int=>if K=addK e.1 (zah b.2) then e.2*b.1 else 0) (enE c)) l%10007=sumI (fun b:Mon=>sumI (fun a:Mon=>if K=addK (zah b.2) (zah a.2) then b.1*a.1 else 0) L) l%10007:=by
  refine zev fun b hb=>?_
  have e1:sumI (fun e:Key × Int=>if K=addK e.1 (zah b.2) then e.2*b.1 else 0) (enE c)=sumI (fun e:Key × Int=>if K=addK (zah b.2) e.1 then b.1*e.2 else 0) (enE c):=za7 fun e _=>by rw [zhK,Int.mul_comm]
  have a1:=zes K (zah b.2) b.1 Prod.fst Prod.snd (enE c)
  have a2:=zes K (zah b.2) b.1 (fun m:Mon=>zah m.2) (fun m=>m.1) L
  rw [e1,a1,a2,zdg hE]
  exact zc9 _ (h.cf _)
 rw [s2,zeL]
 unfold pcf
 refine congrArg (·%10007) (za7 fun a ha=>za7 fun b hb=>?_)
 rw [zne (by rw [(h.wok a ha).len,(h2.wok b hb).len]) (by rw [(h.wok a ha).len]; exact hn),zhK,Int.mul_comm]
theorem Rlt.add {n:Nat} {B x:Int} {o q:Key->Option Int} {L l:List Mon} (h:Rlt n B o L) (h2:Rlt n B q l):Rlt n B (addM o q x) (zlg L x l) :=
 ⟨h.ok.add h2.ok,zhz _ _ h2.wok h.wok,fun K=>by
  have a1:=h.cf K
  have a2:=zc9 x (h2.cf K)
  rw [zma,zk0]
  generalize x*gv q K=t1 at *
  generalize x*cfL l K=t2 at *
  omega⟩
theorem znC (n:Nat):zah (List.replicate n 0)=(0,0,0):=by
 unfold zah
 have:∀ i:Nat,(List.replicate n (0:Int))[i]?.getD 0=0:=fun i=>by
  rw [List.getElem?_replicate]; split <;> rfl
 rw [this,this,this]
theorem Rlt.one {n:Nat} {x:Int} (hx:isN x):Rlt n 0 (mset zb4 (0,0,0) x) [(x,List.replicate n 0)]:=by
 refine ⟨Mok.one hx,fun m hm=>?_,fun K=>?_⟩
 .simp at hm
  subst hm
  refine ⟨hx,by simp,fun y hy=>?_⟩
  have:=(List.mem_replicate.1 hy).2
  omega
 .rw [zbu,znC]
  unfold gv mset
  by_cases e:K=(0,0,0)
  .rw [if_pos e,if_pos e]; simp [cfL,coef,sumI]
  .rw [if_neg e,if_neg e]; simp [cfL,coef,sumI,zb4]
end Go.Proofs.YthhdollpkieknaaGreat


namespace Go.Proofs.YthhdollpkieknaaGreat
open Go.Abs CR
section
variable {α:Type} [CR α]
def tq (k:Nat) (a:α):Ser α:=fun n=>if n=k then a else ofI 0
theorem zrT (b:Ser α):∀ n,cmul n (fun _=>ofI 0) b=ofI 0
 | 0=>zmul _
 | n+1=>by
  have:sh (fun _=>(ofI 0:α))=fun _=>ofI 0:=rfl
  rw [cmul,this,zrT b n,zmul,add0]
theorem zdy (a b:α) (k:Nat):∀ i,(tq i a*tq k b:Ser α)=tq (i+k) (a*b):=by
 intro i
 funext n
 show cmul n (tq i a) (tq k b)=tq (i+k) (a*b) n
 induction n generalizing i with
 | zero =>
  show tq i a 0*tq k b 0=_
  unfold tq
  by_cases h1:0=i
  .rw [if_pos h1]
   by_cases h2:0=k
   .rw [if_pos h2,if_pos (by omega)]
   .rw [if_neg h2,if_neg (by omega),mul0]
  .rw [if_neg h1,zmul,if_neg (by omega)]
 | succ n ih =>
  rw [cmul]
  cases i with
  | zero =>
   have e1:sh (tq 0 a)=fun _=>ofI 0:=by
    funext m
    show (if m+1=0 then a else ofI 0)=ofI 0
    rw [if_neg (by omega)]
   rw [e1,zrT,add0]
   unfold tq
   rw [if_pos rfl]
   by_cases h:n+1=k
   .rw [if_pos h,if_pos (by omega)]
   .rw [if_neg h,if_neg (by omega),mul0]
  | succ i =>
   have e1:sh (tq (i+1) a)=tq i a:=by
    funext m
    show (if m+1=i+1 then a else ofI 0)=if m=i then a else ofI 0
    by_cases h:m=i
    .rw [if_pos h,if_pos (by omega)]
    .rw [if_neg h,if_neg (by omega)]
   have e2:tq (i+1) a 0=ofI 0:=if_neg (by omega)
   rw [e1,e2,zmul,zadd,ih]
   unfold tq
   by_cases h:n=i+k
   .rw [if_pos h,if_pos (by omega)]
   .rw [if_neg h,if_neg (by omega)]
theorem zrt (x:Int):(ofI x:Ser α)=tq 0 (ofI x):=rfl
theorem zmt (k:Nat):(pwr (tq 1 (ofI 1)) k:Ser α)=tq k (ofI 1):=by
 induction k with
 | zero=>rfl
 | succ k ih=>rw [pwr,ih,zdy,mul1]
theorem ziL (a:α) (k:Nat):(pwr (tq 0 a) k:Ser α)=tq 0 (pwr a k):=by
 induction k with
 | zero=>rfl
 | succ k ih=>rw [pwr,ih,zdy]; rfl
theorem zl9 (U:Nat->α) {e:Nat->Nat} {n:Nat} (h:∀ j,n<=j->e j=0):∀ k,mon U e (n+k)=mon U e n
 | 0=>rfl
 | k+1=>by
  show mon U e (n+k)*pwr (U (n+k)) (e (n+k))=_
  rw [h _ (by omega),zl9 U h k,pwr,mul1]
end
abbrev S3:=Ser (Ser (Ser Int))
def gen3 (j:Nat):S3:=if j=0 then tq 1 (ofI 1) else if j=1 then tq 0 (tq 1 (ofI 1)) else tq 0 (tq 0 (tq 1 (ofI 1)))
theorem zt8 (e:Nat->Nat):mon gen3 e 3=tq (e 0) (tq (e 1) (tq (e 2) 1)):=by
 have g0:gen3 0=tq 1 (ofI 1):=rfl
 have g1:gen3 1=tq 0 (tq 1 (ofI 1)):=rfl
 have g2:gen3 2=tq 0 (tq 0 (tq 1 (ofI 1))):=rfl
 rw [mon,mon,mon,mon,g0,g1,g2,zmt,ziL,zmt,ziL,ziL,zmt,omul,zdy,omul,zdy,zdy]
 rw [zrt (α:=Int) 1,zdy]
 simp only [Nat.add_zero,Nat.zero_add]
 rfl
theorem ziP {n:Nat} (hn:n<=3) (a b c:Nat):∀ L:List Mon,LOk n L->(evM n gen3 L) a b c=cfL L ((a:Int),(b:Int),(c:Int))
 | [],_=>by
  rw [ztj]
  show (if a=0 then (ofI 0:Ser (Ser Int)) else ofI 0) b c=0
  rw [ite_self]
  show (if b=0 then (ofI 0:Ser Int) else ofI 0) c=0
  rw [ite_self]
  show (if c=0 then (0:Int) else 0)=0
  rw [ite_self]
 | m::L,h=>by
  have ih:=ziP hn a b c L h.tl
  obtain ⟨h1,h2⟩:=h.hd
  have hz:∀ j,n<=j->ex m.2 j=0:=fun j hj=>by unfold ex; simp [show m.2.length<=j by omega]
  have e1:mon gen3 (ex m.2) n=mon gen3 (ex m.2) 3:=by
   have:=zl9 gen3 hz (3-n)
   rw [<- this,show n+(3-n)=3 by omega]
  rw [zq7,zbu,e1,zt8]
  show ((ofI m.1*tq (ex m.2 0) (tq (ex m.2 1) (tq (ex m.2 2) (1:Int))):S3)) a b c+evM n gen3 L a b c=_
  rw [ih,zrt,zdy,zrt,zdy,zrt,zdy]
  congr 1
  have g:∀ i:Nat,0<=m.2[i]?.getD 0:=fun i=>by
   rcases Nat.lt_or_ge i m.2.length with hi | hi
   .simp [hi]; exact h2 _ (List.getElem_mem hi)
   .simp [hi]
  have t:∀ i:Nat,((ex m.2 i:Nat):Int)=m.2[i]?.getD 0:=fun i=>by unfold ex; have:=g i; omega
  have k:zah m.2=(((ex m.2 0:Nat):Int),((ex m.2 1:Nat):Int),((ex m.2 2:Nat):Int)):=by unfold zah; rw [t,t,t]
  rw [k]
  simp only [Nat.zero_add]
  unfold tq
  by_cases ha:a=ex m.2 0
  .rw [if_pos ha]
   by_cases hb:b=ex m.2 1
   .rw [if_pos hb]
    by_cases hc:c=ex m.2 2
    .rw [if_pos hc,if_pos (by rw [ha,hb,hc])]
     exact Int.mul_one _
    .rw [if_neg hc,if_neg (fun e=>hc (by simp at e; omega))]; rfl
   .rw [if_neg hb,if_neg (fun e=>hb (by simp at e; omega))]
    show (if c=0 then (0:Int) else 0)=0
    rw [ite_self]
  .rw [if_neg ha,if_neg (fun e=>ha (by simp at e; omega))]
   show (if b=0 then (ofI 0:Ser Int) else ofI 0) c=0
   rw [ite_self]
   show (if c=0 then (0:Int) else 0)=0
   rw [ite_self]
theorem zoS {n:Nat} {L:List Mon} (h:LOk n L) {K:Key} (hK:¬ NN K):cfL L K=0:=by
 refine zaS fun m hm=>if_neg fun e=>hK ?_
 have h2:=(h m hm).2
 have g:∀ i:Nat,0<=m.2[i]?.getD 0:=fun i=>by
  rcases Nat.lt_or_ge i m.2.length with hi | hi
  .simp [hi]; exact h2 _ (List.getElem_mem hi)
  .simp [hi]
 rw [e]
 exact ⟨g 0,g 1,g 2⟩
theorem Alk.cf {n:Nat} (hn:n<=3) {p q:List Mon} (hp:LOk n p) (hq:LOk n q) (h:Alk (polM n p) (polM n q)) (K:Key):cfL p K%10007=cfL q K%10007:=by
 by_cases hK:NN K
 .obtain ⟨x,y,z⟩:=K
  obtain ⟨h1,h2,h3⟩:=hK
  simp only at h1 h2 h3
  have e:=h S3 (cgS (cgS (cgS cgI (z.toNat+1)) (y.toNat+1)) (x.toNat+1)) gen3 x.toNat (by omega) y.toNat (by omega) z.toNat (by omega)
  have e:(evM n gen3 p) x.toNat y.toNat z.toNat%10007=(evM n gen3 q) x.toNat y.toNat z.toNat%10007:=e
  rw [ziP hn _ _ _ p hp,ziP hn _ _ _ q hq,Int.toNat_of_nonneg h1,Int.toNat_of_nonneg h2,Int.toNat_of_nonneg h3] at e
  exact e
 .rw [zoS hp hK,zoS hq hK]
end Go.Proofs.YthhdollpkieknaaGreat


namespace Go.Proofs.YthhdollpkieknaaGreat
open Go.Abs CR
section
variable {α:Type} [CR α]
end
end Go.Proofs.YthhdollpkieknaaGreat


namespace Go.Proofs.YthhdollpkieknaaGreat
open Go.Abs
end Go.Proofs.YthhdollpkieknaaGreat


namespace Go.Proofs.YthhdollpkieknaaGreat
open Go.Abs
end Go.Proofs.YthhdollpkieknaaGreat


namespace Go.Proofs.YthhdollpkieknaaGreat
open Go.Abs
end Go.Proofs.YthhdollpkieknaaGreat


namespace Go.Proofs.YthhdollpkieknaaGreat
open Go.Abs
end Go.Proofs.YthhdollpkieknaaGreat


namespace Go.Proofs.YthhdollpkieknaaGreat
open Go.Abs
structure TfOk (z:Int) (f:List (List Mon)) (m:List (List Int)):Prop where
 hF:FieldOk z f
 n1:1<=m.length
 n3:m.length<=3
 zm:(m.length:Int)=z
 fl:f.length=m.length
 hr:Rws m.length m
theorem TfOk.of {z:Int} {f:List (List Mon)} {m:List (List Int)} (h1:zbp z f=true) (h2:sqB z m=true):TfOk z f m:=by
 have hF:=zfX.1 h1
 obtain ⟨a,b,c⟩:=zsA.1 h2
 have:=hF.lo
 have:=hF.hi
 have:=hF.len
 exact ⟨hF,by omega,by omega,b,by omega,fun r hr=>⟨by have:=(c r hr).1; omega,(c r hr).2⟩⟩
section
variable {z:Int} {f:List (List Mon)} {m:List (List Int)}
theorem TfOk.vok (h:TfOk z f m):∀ p∈f,∀ a∈p,VOk m.length a:=fun p hp a ha=>by
 have:=(zb2 (h.hF.part p hp) ha)
 rw [<- h.zm] at this
 exact this.vok
end
end Go.Proofs.YthhdollpkieknaaGreat


namespace Go.Proofs.YthhdollpkieknaaGreat
open Go.Abs
end Go.Proofs.YthhdollpkieknaaGreat


namespace Go.Proofs.YthhdollpkieknaaGreat
open Go.Abs
def plcL (m:List (List Int)) (i:Nat):List AV:=(m.take i).map fun r=>AV.mp (polF (linL r))
theorem zoc {m:List (List Int)} {i:Nat} (h:i<m.length):plcL m (i+1)=plcL m i++[.mp (polF (linL (m[i]?.getD [])))]:=by
 unfold plcL
 rw [List.take_add_one,List.map_append]; simp [h]
theorem zq4 (m:List (List Int)):frzL (plcL m m.length)=m.map (AV.fmp ∘ fun r=>polF (linL r)):=by
 unfold plcL
 rw [List.take_length]
 have:=zoK (m.map fun r=>polF (linL r))
 rw [List.map_map,List.map_map] at this
 exact this
end Go.Proofs.YthhdollpkieknaaGreat


namespace Go.Proofs.YthhdollpkieknaaGreat
open Go.Abs
theorem zmG (row:List Int) (K:Key):∀ k,k<=row.length->cfL (linK row k) K%10007=cfL ((linL row).take k) K%10007
 | 0,_=>by rw [linK,List.take_zero]
 | k+1,hk=>by
  have ih:=zmG row K k (by omega)
  have hk':k<(linL row).length:=by rw [zpi]; omega
  have e:(linL row)[k]=(row[k]?.getD 0,oneE row.length k):=by simp [linL]
  rw [linK,zg9,List.take_add_one,zgI,List.getElem?_eq_getElem hk']
  rw [e,Option.toList_some,zbu]
  have e0:cfL [] K=0:=rfl
  rw [e0]
  dsimp only
  omega
theorem zj2 {n:Nat} {row:List Int} (hl:row.length=n) (hN:Ns row):∀ k,k<=n->Srt (linK row k)/\Nzl (linK row k)
 | 0,_=>⟨List.Pairwise.nil,fun m hm=>by simp [linK] at hm⟩
 | k+1,hk=>by
  have ih:=zj2 hl hN k (by omega)
  have ok:=zjn hl hN k (by omega)
  rw [linK]
  exact ⟨zh7 (n:=n) (by simp; omega) _ _ (fun m hm=>(ok.2 m hm).len) ih.1,zt2 (hN.get k) ih.2⟩
theorem zrk {n:Nat} {row:List Int} (hl:row.length=n) (h1:1<=n) (h3:n<=3) (hN:Ns row) :
  Con Tryz.prog 202 [.fmp (polF (linL row)),.int n] (.own 62 (linK row row.length).length (zb3 (linK row row.length))):=by
 have ok:=zjn hl hN row.length (by omega)
 have st:=zj2 hl hN row.length (by omega)
 refine ztn h1 h3 (fun k x hk=>(zqB (by omega) hN hk).1) st.1 st.2 (fun m hm=>(ok.2 m hm).len) (by omega) (fun K=>?_)
 rw [zjm (znE (by omega)),zmG row K row.length (Nat.le_refl _),List.take_of_length_le (by simp)]
theorem zg6 (m:List (List Int)) (h1:1<=m.length) (h3:m.length<=3) (hr:Rws m.length m) :
  Con Tryz.prog 36 [.sl m.length (mat m)] (.tup [.agg [.int m.length,.own 63 m.length (oprt (linF m))],.int 0]):=by
 have h0:0<m.length:=by omega
 have r0:=hr.at h0
 have cM:=zlj m (by omega) (fun r h=>by have:=(hr r h).1; omega)
 have hM:matB m=true:=zkC.2 ⟨by omega,by omega,fun r h=>⟨by have:=(hr r h).1; omega,(hr r h).2⟩⟩
 rw [hM] at cM
 have m0:=zar (xss:=m) (k:=0) h0
 simp only [List.drop_zero] at m0
 have m1:AV.sl (m[0]?.getD []).length (avs (m[0]?.getD []))::mat m.tail=mat m:=by cases m with | nil=>simp at h0 | cons x l=>simp [mat]
 have ne:¬ m=[]:=by rintro rfl; simp at h0
 have r0l:(m[0]?.getD []).length=m.length:=r0.1
 have ll:=zpD m
 have n3:¬ (3:Int)<m.length:=by omega
 have cF:=zoB m.length (m.map fun r=>polF (linL r)) (linF m) (by simp [ll]) (by simpa using h0) (by simpa using h3) (fun i hi=>by
  have hi':i<m.length:=by simpa using hi
  have q:=hr.at hi'
  have:=zrk q.1 h1 h3 q.2
  rw [zpv hi']
  have e:(m.map fun r=>polF (linL r))[i]?.getD zb4=polF (linL (m[i]?.getD [])):=by simp [hi']
  rw [e]
  exact this)
 rw [ll,List.length_map,List.map_map] at cF
 refine zab Tryz.mixed ⟨7,[],[],[]⟩ Tryz.func36 ?_
 rw [Tryz.ntmps36]
 simp [go_sem]
 refine CallVC.of (cM) ?_
 simp -implicitDefEqProofs [go_sem,m0]
 simp only [m1]
 first
  | refine ⟨⟨h0,ne⟩,?_⟩
  | refine ⟨h0,?_⟩
 simp [go_sem,r0l,n3]
 have pa:=zq4 m
 refine zac ([4,6]++List.range' 29 10) (fun i:Nat=>[(4,.own 120 i (plcL m i)),(29,.int i)]) (fun i=>i<=m.length) (fun i=>m.length-i) 0 (by simp) (by simp [go_sem,plcL]) (by simp [go_sem]) ?_
 intro i hi
 by_cases hin:i<m.length
 .have hii:(i:Int)<m.length:=by omega
  have q:=hr.at hin
  have cL:=zpH (m[i]?.getD []) (by omega)
  have ps:=zoc hin
  have pl:(plcL m i).length=i:=by simp [plcL]; omega
  simp [go_sem,hii,zar hin]
  refine ⟨ne,?_⟩
  refine CallVC.of (cL) ?_
  simp [go_sem]
  exact ⟨⟨pl,by omega,by omega⟩,⟨by omega,by omega⟩,i+1,by omega,by omega,zaa _ _ _ (by simp),⟨rfl,ps.symm⟩,by omega⟩
 .have e:i=m.length:=by omega
  subst e
  have hii:¬ (m.length:Int)<m.length:=by omega
  simp [go_sem,hii]
  refine CallVC.of (zix m.length (mat m) (by omega)) ?_
  simp [go_sem]
  simp [go_sem,pa]
  refine CallVC.of (cF) ?_
  simp [go_sem]
end Go.Proofs.YthhdollpkieknaaGreat


namespace Go.Proofs.YthhdollpkieknaaGreat
open Go.Abs
theorem zeF (k:Int):linK [k] 1=if k=0 then [] else [(k,[1])]:=by
 show putL [] k (oneE 1 0)=_
 unfold putL
 by_cases h:k=0
 .rw [if_pos h,decide_eq_true h]; rfl
 .rw [if_neg h,decide_eq_false h]; rfl
theorem zeI (y:Int):∀ vs,zcx [y] 1 vs []=0
 | []=>rfl
 | v::vs=>by
  show 0+_*zcx [y] 1 vs []=0
  rw [zeI y vs,Int.mul_zero]; rfl
theorem zmT (y c:Int) (v:List Int) (vs:List (List Int)):zcx [y] 1 (v::vs) [(c,[0])]=0:=by
 show 0+_*zcx [y] 1 vs []=0
 rw [zeI y vs,Int.mul_zero]; rfl
theorem znZ {k:Int} (hk:isN k) (h0:k≠0):derL 0 [(k,[1])]=[(k,[0])]:=by
 show putL [] (k*1%10007) [0]=_
 have e:k*1%10007=k:=by have:=hk.1; have:=hk.2; omega
 rw [e]
 unfold putL
 rw [decide_eq_false h0]; rfl
theorem zwi (y k:Int):drvP [y] 1 [] (linK [k] 1)=k*y%10007:=by
 rw [zeF]
 show vsum [y] _%10007=_
 by_cases h:k=0
 .subst h; rw [if_pos rfl,Int.zero_mul]; rfl
 .rw [if_neg h]
  show (k*(y ^ 1%10007)%10007+0)%10007=_
  rw [Int.pow_succ,Int.pow_zero,Int.one_mul,Int.add_zero,Int.emod_emod_of_dvd _ (Int.dvd_refl _)]
  exact zaH rfl (Int.emod_emod_of_dvd _ (Int.dvd_refl _))
theorem zuF (y v:Int) {k:Int} (hk:isN k):drvP [y] 1 [[v]] (linK [k] 1)=k*v%10007:=by
 rw [zeF]
 show (0+v*vsum [y] (derL 0 _))%10007=_
 by_cases h:k=0
 .subst h; rw [if_pos rfl,Int.zero_mul]; show (0+v*0)%10007=_; rw [Int.mul_zero]; rfl
 .rw [if_neg h,znZ hk h]
  show (0+v*(k*(y ^ 0%10007)%10007+0))%10007=_
  rw [Int.pow_zero,Int.zero_add,Int.add_zero,Int.mul_comm v]
  refine zaH ?_ rfl
  rw [Int.emod_emod_of_dvd _ (Int.dvd_refl _)]
  show k*1%10007=_
  rw [Int.mul_one]
theorem zwV (y:Int) {k:Int} (hk:isN k) (v w:List Int) (vs:List (List Int)):drvP [y] 1 (v::w::vs) (linK [k] 1)=0:=by
 unfold drvP
 split
 .rfl
 .rw [zeF]
  show (0+_*zcx [y] 1 (w::vs) (derL 0 _))%10007=0
  by_cases h:k=0
  .subst h; rw [if_pos rfl]; show (0+_*zcx [y] 1 (w::vs) [])%10007=0; rw [zeI,Int.mul_zero]; rfl
  .rw [if_neg h,znZ hk h,zmT,Int.mul_zero]; rfl
def tlK:Nat->List Int->Option Nat
 | 0,_=>none
 | n+1,t=>match brs t with
  | []=>some 1
  | [s]=>(tlK n s).map (·+1)
  | _=>none
def tlW (k y:Int):Option Nat->Int
 | none=>0
 | some m=>y*k ^ m%10007
theorem zoY (y:Int) {k:Int} (hk:isN k):∀ n t,edF [linK [k] 1] [y] (n+1) t=[tlW k y (tlK (n+1) t)]
 | n,t=>by
  show [drvP [y] 1 ((brs t).map (edF [linK [k] 1] [y] n)) (linK [k] 1)]=_
  unfold tlK
  congr 1
  split
  .rename_i e
   rw [e,List.map_nil,zwi]
   show _=y*k ^ 1%10007
   rw [Int.pow_succ,Int.pow_zero,Int.one_mul,Int.mul_comm]
  .rename_i s e
   rw [e,List.map_cons,List.map_nil]
   cases n with
   | zero =>
    show drvP [y] 1 [[]] (linK [k] 1)=0
    have:=zuF y 0 hk
    rw [Int.mul_zero] at this
    exact this
   | succ n =>
    rw [zoY y hk n s,zuF y _ hk]
    cases tlK (n+1) s with
    | none=>show k*0%10007=0; rw [Int.mul_zero]; rfl
    | some m =>
     show k*(y*k ^ m%10007)%10007=y*k ^ (m+1)%10007
     rw [Int.pow_succ,<- Int.mul_assoc,Int.mul_comm (y*k ^ m)]
     exact zaH rfl (Int.emod_emod_of_dvd _ (Int.dvd_refl _))
  .rename_i h1 h2
   match hb:brs t with
   | []=>exact absurd hb h1
   | [s]=>exact absurd hb (h2 s)
   | v::w::l=>exact zwV y hk _ _ _
def tlOk (i:Nat):Bool :=
 let t:=(trN 6)[i]?.getD []
 decide (1<=t.length) && (decide (t.length<=6) && (decide (tlK 6 t=if i+1=tlP t.length then some t.length else none) && decide (i+1=tlP t.length->symF 6 t%10007=1)))
theorem zqO:(List.range 37).all tlOk=true:=by decide +kernel
def tlY (k y:Int) (a:List Int) (n:Nat):Int:=iat a (tlP n)*(y*k ^ n)%10007
theorem zs1 {m n:Nat} (hm:m<=6) (hn:n<=6) (h:tlP m=tlP n):m=n:=by
 have ok:(List.range 7).all (fun m=>(List.range 7).all fun n=>decide (tlP m=tlP n->m=n))=true:=by decide +kernel
 exact of_decide_eq_true (List.all_eq_true.1 (List.all_eq_true.1 ok m (List.mem_range.2 (by omega))) n (List.mem_range.2 (by omega))) h
theorem zuv {n i:Nat} (hn:n<=6) (h:tlP n=i+1):((trN 6)[i]?.getD []).length=n:=by
 have ok:(List.range 7).all (fun n=>decide (n=0\/((trN 6)[tlP n-1]?.getD []).length=n))=true:=by decide +kernel
 have:=of_decide_eq_true (List.all_eq_true.1 ok n (List.mem_range.2 (by omega)))
 rw [h,Nat.add_sub_cancel] at this
 rcases this with rfl | this
 .have h:0=i+1:=h
  omega
 .exact this
theorem zhx {y k:Int} (hk:isN k) (hy:isN y) {a:List Int} (ha:Ns a) {n:Nat} (hn:n<=6):∀ i,i<=37->rowT [linK [k] 1] [y] a n i=[if tlP n<=i then tlY k y a n else 0]
 | 0,_=>by
  rw [rowT]
  have e:tlP n<=0 ↔ n=0:=by
   constructor
   .intro h; exact zs1 hn (by omega) (Nat.le_zero.1 h)
   .rintro rfl; exact Nat.le_refl 0
  by_cases h0:n=0
  .subst h0
   rw [if_pos rfl,if_pos (e.2 rfl)]
   show [y*(iat a 0%10007)%10007]=[iat a 0*(y*k ^ 0)%10007]
   rw [Int.pow_zero,Int.mul_one,Int.mul_comm (iat a 0)]
   congr 1
   exact zaH rfl (Int.emod_emod_of_dvd _ (Int.dvd_refl _))
  .rw [if_neg h0,if_neg (fun h=>h0 (e.1 h))]; rfl
 | i+1,hi=>by
  have ih:=zhx hk hy ha hn i (by omega)
  have ok:=List.all_eq_true.1 zqO i (List.mem_range.2 (by omega))
  unfold tlOk at ok
  simp only [Bool.and_eq_true,decide_eq_true_eq] at ok
  obtain ⟨o1,o2,o3,o4⟩:=ok
  have fa:facT a i=iat a (i+1)*pw (symF 6 ((trN 6)[i]?.getD [])%10007) 10005%10007:=rfl
  have hL:=fun h=>zuv (n:=n) (i:=i) hn h
  rw [rowT,ih]
  generalize (trN 6)[i]?.getD []=t at *
  by_cases hl:t.length=n
  .rw [if_pos hl,zoY y hk 5 t,o3]
   subst hl
   show [((if tlP t.length<=i then _ else _)+facT a i%10007*tlW k y _)%10007]=_
   by_cases hp:i+1=tlP t.length
   .rw [if_pos hp,if_neg (by omega),if_pos (by omega),fa,o4 hp]
    show [(0+iat a (i+1)*pw 1 10005%10007%10007*(y*k ^ t.length%10007))%10007]=[iat a (tlP t.length)*(y*k ^ t.length)%10007]
    have p1:pw 1 10005=1:=by unfold pw; rw [Int.one_pow]; rfl
    rw [p1,Int.mul_one,Int.zero_add,<- hp]
    congr 1
    exact zaH (by omega) (Int.emod_emod_of_dvd _ (Int.dvd_refl _))
   .rw [if_neg hp]
    show [((if tlP t.length<=i then _ else _)+facT a i%10007*0)%10007]=_
    rw [Int.mul_zero,Int.add_zero]
    by_cases h2:tlP t.length<=i
    .rw [if_pos h2,if_pos (by omega)]
     congr 1
     unfold tlY
     exact Int.emod_emod_of_dvd _ (Int.dvd_refl _)
    .rw [if_neg h2,if_neg (by omega)]; rfl
  .rw [if_neg hl]
   have:tlP n≠i+1:=fun h=>hl (hL h)
   by_cases h2:tlP n<=i
   .rw [if_pos h2,if_pos (by omega)]
   .rw [if_neg h2,if_neg (by omega)]
theorem zpb {y k:Int} (hk:isN k) (hy:isN y) {a:List Int} (ha:Ns a):tsX [linK [k] 1] [y] a 7 37=(List.range 7).map fun n=>[tlY k y a n]:=by
 unfold tsX
 refine List.map_congr_left fun n hn=>?_
 have hn:=List.mem_range.1 hn
 rw [zhx hk hy ha (by omega) 37 (Nat.le_refl _),if_pos]
 have ok:(List.range 7).all (fun n=>decide (tlP n<=37))=true:=by decide +kernel
 exact of_decide_eq_true (List.all_eq_true.1 ok n (List.mem_range.2 hn))
def kM (n:Nat):Py:=[(1,List.replicate n 100)]
def rBK (b a:List Int) (k:Int) (v:Nat):Int:=if v<38 then iat b v else if v<76 then iat a (v-38) else k
theorem zlP:(List.range 7).all (fun n=>decide ((hoFQ ((List.range 7).map fun j=>mulP (vb 0 (tlP j)) (kM j)) (List.replicate 7 []) (tlV.reverse.map vaP))[n]?.getD []=mulP (sbP (vb 0) vaP (tlP n)) (kM n)))=true:=by decide +kernel
theorem zmX {n:Nat} (h:n<7):tlP n<38:=by
 have ok:(List.range 7).all (fun n=>decide (tlP n<38))=true:=by decide +kernel
 exact of_decide_eq_true (List.all_eq_true.1 ok n (List.mem_range.2 h))
theorem zpw {b a:List Int} (hb:Inf b) (ha:N38 a) (k:Int):hoH ((List.range 7).map fun j=>iat b (tlP j)*k ^ j%10007) 7 (tlV.map (iat a)).reverse=(List.range 7).map fun n=>iat (sbS b a) (tlP n)*k ^ n%10007:=by
 have e1:∀ v,v<38->evp (rBK b a k) (vb 0 v)%10007=iat b v%10007:=fun v hv=>zrJ (by rw [hb.2]; rfl) (fun j hj=>by unfold rBK; rw [Nat.zero_add,if_pos hj]) hv
 have e2:∀ v,v<38->evp (rBK b a k) (vaP v)%10007=iat a v%10007:=fun v hv=>by
  have e:rBK b a k (38+v)=iat a v:=by
   unfold rBK
   rw [if_neg (by omega),if_pos (by omega),Nat.add_sub_cancel_left]
  simp [vaP,evp,evm,e]
 have e3:∀ n,evp (rBK b a k) (kM n)=k ^ n:=fun n=>by
  have z:rBK b a k 100=k:=rfl
  simp [kM,evp,znM,z]
 have hP:RlP (rBK b a k) ((List.range 7).map fun j=>mulP (vb 0 (tlP j)) (kM j)) ((List.range 7).map fun j=>iat b (tlP j)*k ^ j%10007):=zus fun j hj=>by
  rw [zcW,e3,Int.emod_emod_of_dvd _ (Int.dvd_refl _)]
  exact zaH (e1 _ (zmX (List.mem_range.1 hj))) rfl
 have h0:RlP (rBK b a k) (List.replicate 7 []) (List.replicate 7 0):=⟨by simp,fun k=>by
  rw [List.getElem?_replicate,List.getElem?_replicate]
  split <;> rfl⟩
 have hF:=rl_F hP tlV.reverse h0 (A:=vaP) (A':=iat a) (fun v hv=>e2 v (zvq v (by simpa using hv)))
 obtain ⟨l1,n1⟩:=znP ((List.range 7).map fun j=>iat b (tlP j)*k ^ j%10007) 7 (tlV.map (iat a)).reverse
 refine List.ext_getElem (by rw [l1]; simp) fun n h1 h2=>?_
 have hn:n<7:=by omega
 have t:=hF.2 n
 rw [of_decide_eq_true (List.all_eq_true.1 zlP n (List.mem_range.2 hn)),zcW,e3,List.map_reverse] at t
 have t2:evp (rBK b a k) (sbP (vb 0) vaP (tlP n))*k ^ n%10007=(hoH ((List.range 7).map fun j=>iat b (tlP j)*k ^ j%10007) 7 (tlV.map (iat a)).reverse)[n]?.getD 0%10007:=t
 have t3:=zaH ((zu4 (rBK b a k) e1 e2 (zmX hn)).trans (ztI b a (zmX hn)).symm) (rfl:k ^ n%10007=k ^ n%10007)
 rw [List.getElem?_eq_getElem h1,Option.getD_some,t3] at t2
 have m1:=n1 _ (List.getElem_mem h1)
 have:=m1.1; have:=m1.2
 rw [List.getElem_map,List.getElem_range]
 omega
theorem zpF (k y:Int) (a:List Int) (n:Nat):iat a (tlP n)*k ^ n%10007*y%10007=tlY k y a n:=by
 unfold tlY
 rw [Int.mul_comm y,<- Int.mul_assoc]
 exact zaH (Int.emod_emod_of_dvd _ (Int.dvd_refl _)) rfl
theorem zfg (k:Int) (a:List Int) (n:Nat):tlY k 1 a n=iat a (tlP n)*k ^ n%10007:=by
 unfold tlY
 rw [Int.one_mul]
theorem zuA {a:List Int} (ha:N38 a) (n:Nat):tlY 1 1 a n=iat a (tlP n):=by
 have:=ha.at (tlP n)
 rw [zfg,Int.one_pow,Int.mul_one]
 exact Int.emod_eq_of_lt this.1 this.2
end Go.Proofs.YthhdollpkieknaaGreat


namespace Go.Proofs.YthhdollpkieknaaGreat
open Go.Abs
theorem zd9 (c:List Int) (σ:Src) (f:Int) (hc:Byt c) (hs:SOk σ) :
  RCon Tryz.prog 185 [srcA c σ,.int f] (fun r o=>∃ (τ:Src) (L:List Int),SOk τ/\o=[srcA c τ,.any]/\L.length=38/\(r=.own 2 38 (avs L)\/r=.ofs 1 2 37 (avs L))):=by
 have c1:=zoo c σ 38 hc hs (by omega)
 obtain ⟨l1,_,s1⟩:=zr0 (fun s h=>zon hc h) 38 σ hs
 rw [show (fun s=>nbV c s)=nbV c from rfl] at l1 s1
 generalize lsV (nbV c) 38 σ=q at *
 obtain ⟨L,τ⟩:=q
 simp only at c1 l1 s1
 have c2:=zan c τ 30 hc s1
 have s2:=zay hc s1 30
 simp only [zau] at *
 refine zbv Tryz.mixed ⟨6,[],[1000000+183,1000000+221],[16]⟩ [0] Tryz.func185 ?_
 rw [Tryz.ntmps185]
 simp [go_sem]
 refine ⟨_,_,c1,?_⟩
 simp [go_sem]
 refine ⟨by omega,?_⟩
 refine ⟨_,_,c2,?_⟩
 simp [go_sem]
 generalize nx1 c τ 30=v at *
 generalize nx2 c τ 30=τ2 at *
 have es:(avs L).set 0 (.int f)=avs (L.set 0 f):=zaR _ _ _
 have ls:(L.set 0 f).length=38:=by rw [List.length_set]; exact l1
 rw [es]
 generalize L.set 0 f=M at *
 by_cases v0:v=0
 .simp [go_sem,v0]
  exact ⟨τ2.1,τ2.2,s2,⟨rfl,rfl⟩,ls⟩
 .by_cases v1:v=1
  .subst v1
   have c3:=zan c τ2 38 hc s2
   have s3:=zay hc s2 38
   have b3:=zia hc τ2 (n:=38) (by omega)
   obtain ⟨u,hu⟩:∃ u:Nat,nx1 c τ2 38=u:=⟨(nx1 c τ2 38).toNat,by omega⟩
   rw [hu] at c3 b3
   generalize nx2 c τ2 38=τ3 at *
   simp only [zau] at *
   simp [go_sem]
   refine ⟨_,_,c3,?_⟩
   simp [go_sem]
   exact ⟨by omega,by omega,τ3.1,τ3.2,s3,⟨rfl,rfl⟩,M.set u 10007,by rw [List.length_set]; exact ls,zaR _ _ _⟩
  .simp [go_sem,v0,v1]
   exact ⟨τ2.1,τ2.2,s2,⟨rfl,rfl⟩,ls⟩
theorem zh0 (c:List Int) (σ:Src) (f:Int) (hc:Byt c) (hs:SOk σ) :
  RCon Tryz.prog 97 [srcA c σ,.int f] (fun r o=>∃ (τ:Src) (a:List Int),SOk τ/\o=[srcA c τ,.any]/\a.length<=38/\r=.sl a.length (avs a)):=by
 have c1:=zan c σ 12 hc hs
 have s1:=zay hc hs 12
 simp only [zau] at *
 refine zbv Tryz.mixed ⟨7,[43],[1000000+183,1000000+184,1000000+98,2000000+185],[]⟩ [0] Tryz.func97 ?_
 rw [Tryz.ntmps97]
 simp [go_sem]
 refine ⟨_,_,c1,?_⟩
 simp [go_sem]
 generalize nx1 c σ 12=v at *
 generalize nx2 c σ 12=τ1 at *
 have c2:=zfv c τ1 hc s1
 have s2:=(zon hc s1).2
 simp only [zau] at *
 by_cases v0:v=0
 .simp [go_sem,v0]
  refine ⟨_,_,c2,?_⟩
  simp [go_sem]
  generalize nbV c τ1=q at *
  obtain ⟨g,τ2⟩:=q
  simp only at s2
  have c3:=zd9 c τ2 g hc s2
  simp only [zau] at *
  refine ⟨_,c3,?_⟩
  rintro _ _ ⟨τ,L,s1,rfl,l1,rfl | rfl⟩
  .simp [go_sem]
   have c4:=zan c τ 3 hc s1
   have s4:=zay hc s1 3
   simp only [zau] at *
   refine ⟨_,_,c4,?_⟩
   simp [go_sem]
   generalize nx1 c τ 3=v4 at *
   generalize nx2 c τ 3=τ4 at *
   have c5:=zb1 c τ4 [1,0,2] hc s4 (by simp) (by simp)
   have s5:=zay hc s4 ([1,0,2]:List Int).length
   simp only [zau] at *
   by_cases h4:v4=0
   .simp [go_sem,h4]
    refine ⟨_,_,c5,?_⟩
    simp [go_sem]
    refine ⟨by omega,?_⟩
    generalize pk c τ4 [1,0,2]=g5 at *
    have es:(avs L).set 1 (.int g5)=avs (L.set 1 g5):=zaR _ _ _
    have lM:(L.set 1 g5).length=38:=by rw [List.length_set]; exact l1
    rw [es]
    generalize L.set 1 g5=M at *
    have s6:SOk (nx2 c τ4 3):=s5
    generalize nx2 c τ4 3=τ6 at *
    have c6:=zan c τ6 3 hc s6
    have s8:=zay hc s6 3
    simp only [zau] at *
    refine ⟨_,_,c6,?_⟩
    simp [go_sem]
    generalize nx1 c τ6 3=v6 at *
    generalize nx2 c τ6 3=τ8 at *
    by_cases h6:v6=0
    .simp [go_sem,h6]
     refine zac (0::5::6::List.range' 31 12) (fun x:List Int × Src × Nat=>[(0,.box 162 [.sl c.length (bys c),.int x.2.1.1,.val (.int .u64 x.2.1.2)]),(5,.own 2 38 (avs x.1)),(6,.int x.2.2)]) (fun x=>x.1.length=38/\SOk x.2.1/\x.2.2<=38) (fun x=>38-x.2.2) (M,τ8,2) ⟨lM,s8,by simp only; omega⟩ (by simp [go_sem]) (by simp [go_sem]) ?_
     rintro ⟨X,τ9,i⟩ ⟨x1,x2,x3⟩
     simp only at x1 x2 x3
     by_cases hi:i<38
     .have hii:(i:Int)<38:=by omega
      have c7:=zan c τ9 4 hc x2
      have s7:=zay hc x2 4
      simp only [zau] at *
      simp [go_sem,hii]
      refine ⟨_,_,c7,?_⟩
      simp [go_sem]
      generalize nx1 c τ9 4=v7 at *
      generalize nx2 c τ9 4=τa at *
      by_cases h7:0<v7
      .simp [go_sem,h7]
       exact ⟨by omega,by omega,⟨by omega,by omega⟩,X.set (i) 0,τa.1,τa.2,i+1,⟨by rw [List.length_set]; exact x1,s7,by omega⟩,by omega,zaa _ _ _ (by simp),by simp [zaR]⟩
      .simp [go_sem,h7]
       exact ⟨⟨by omega,by omega⟩,X,τa.1,τa.2,i+1,⟨x1,s7,by omega⟩,by omega,zaa _ _ _ (by simp),by simp⟩
     .have hii:¬ (i:Int)<38:=by omega
      simp [go_sem,hii]
      exact ⟨τ9.1,τ9.2,x2,⟨rfl,rfl⟩,by omega,by omega⟩
    .simp [go_sem,h6]
     exact ⟨τ8.1,τ8.2,s8,⟨rfl,rfl⟩,by omega,by omega⟩
   .simp [go_sem,h4]
    have lM:=l1
    have s6:=s4
    generalize L=M at *
    generalize τ4=τ6 at *
    have c6:=zan c τ6 3 hc s6
    have s8:=zay hc s6 3
    simp only [zau] at *
    refine ⟨_,_,c6,?_⟩
    simp [go_sem]
    generalize nx1 c τ6 3=v6 at *
    generalize nx2 c τ6 3=τ8 at *
    by_cases h6:v6=0
    .simp [go_sem,h6]
     refine zac (0::5::6::List.range' 31 12) (fun x:List Int × Src × Nat=>[(0,.box 162 [.sl c.length (bys c),.int x.2.1.1,.val (.int .u64 x.2.1.2)]),(5,.own 2 38 (avs x.1)),(6,.int x.2.2)]) (fun x=>x.1.length=38/\SOk x.2.1/\x.2.2<=38) (fun x=>38-x.2.2) (M,τ8,2) ⟨lM,s8,by simp only; omega⟩ (by simp [go_sem]) (by simp [go_sem]) ?_
     rintro ⟨X,τ9,i⟩ ⟨x1,x2,x3⟩
     simp only at x1 x2 x3
     by_cases hi:i<38
     .have hii:(i:Int)<38:=by omega
      have c7:=zan c τ9 4 hc x2
      have s7:=zay hc x2 4
      simp only [zau] at *
      simp [go_sem,hii]
      refine ⟨_,_,c7,?_⟩
      simp [go_sem]
      generalize nx1 c τ9 4=v7 at *
      generalize nx2 c τ9 4=τa at *
      by_cases h7:0<v7
      .simp [go_sem,h7]
       exact ⟨by omega,by omega,⟨by omega,by omega⟩,X.set (i) 0,τa.1,τa.2,i+1,⟨by rw [List.length_set]; exact x1,s7,by omega⟩,by omega,zaa _ _ _ (by simp),by simp [zaR]⟩
      .simp [go_sem,h7]
       exact ⟨⟨by omega,by omega⟩,X,τa.1,τa.2,i+1,⟨x1,s7,by omega⟩,by omega,zaa _ _ _ (by simp),by simp⟩
     .have hii:¬ (i:Int)<38:=by omega
      simp [go_sem,hii]
      exact ⟨τ9.1,τ9.2,x2,⟨rfl,rfl⟩,by omega,by omega⟩
    .simp [go_sem,h6]
     exact ⟨τ8.1,τ8.2,s8,⟨rfl,rfl⟩,by omega,by omega⟩
  .simp [go_sem]
   have c4:=zan c τ 3 hc s1
   have s4:=zay hc s1 3
   simp only [zau] at *
   refine ⟨_,_,c4,?_⟩
   simp [go_sem]
   generalize nx1 c τ 3=v4 at *
   generalize nx2 c τ 3=τ4 at *
   have c5:=zb1 c τ4 [1,0,2] hc s4 (by simp) (by simp)
   have s5:=zay hc s4 ([1,0,2]:List Int).length
   simp only [zau] at *
   by_cases h4:v4=0
   .simp [go_sem,h4]
    refine ⟨_,_,c5,?_⟩
    simp [go_sem]
    refine ⟨by omega,?_⟩
    generalize pk c τ4 [1,0,2]=g5 at *
    have es:(avs L).set 2 (.int g5)=avs (L.set 2 g5):=zaR _ _ _
    have lM:(L.set 2 g5).length=38:=by rw [List.length_set]; exact l1
    rw [es]
    generalize L.set 2 g5=M at *
    have s6:SOk (nx2 c τ4 3):=s5
    generalize nx2 c τ4 3=τ6 at *
    have c6:=zan c τ6 3 hc s6
    have s8:=zay hc s6 3
    simp only [zau] at *
    refine ⟨_,_,c6,?_⟩
    simp [go_sem]
    generalize nx1 c τ6 3=v6 at *
    generalize nx2 c τ6 3=τ8 at *
    by_cases h6:v6=0
    .simp [go_sem,h6]
     refine zac (0::5::6::List.range' 31 12) (fun x:List Int × Src × Nat=>[(0,.box 162 [.sl c.length (bys c),.int x.2.1.1,.val (.int .u64 x.2.1.2)]),(5,.ofs 1 2 37 (avs x.1)),(6,.int x.2.2)]) (fun x=>x.1.length=38/\SOk x.2.1/\x.2.2<=37) (fun x=>37-x.2.2) (M,τ8,2) ⟨lM,s8,by simp only; omega⟩ (by simp [go_sem]) (by simp [go_sem]) ?_
     rintro ⟨X,τ9,i⟩ ⟨x1,x2,x3⟩
     simp only at x1 x2 x3
     by_cases hi:i<37
     .have hii:(i:Int)<37:=by omega
      have c7:=zan c τ9 4 hc x2
      have s7:=zay hc x2 4
      simp only [zau] at *
      simp [go_sem,hii]
      refine ⟨_,_,c7,?_⟩
      simp [go_sem]
      generalize nx1 c τ9 4=v7 at *
      generalize nx2 c τ9 4=τa at *
      by_cases h7:0<v7
      .simp [go_sem,h7]
       exact ⟨by omega,by omega,⟨by omega,by omega⟩,X.set (1+i) 0,τa.1,τa.2,i+1,⟨by rw [List.length_set]; exact x1,s7,by omega⟩,by omega,zaa _ _ _ (by simp),by simp [zaR]⟩
      .simp [go_sem,h7]
       exact ⟨⟨by omega,by omega⟩,X,τa.1,τa.2,i+1,⟨x1,s7,by omega⟩,by omega,zaa _ _ _ (by simp),by simp⟩
     .have hii:¬ (i:Int)<37:=by omega
      simp [go_sem,hii]
      exact ⟨τ9.1,τ9.2,x2,⟨rfl,rfl⟩,X.tail,by rw [List.length_tail]; omega,by rw [List.length_tail]; omega,by unfold avs; rw [List.map_tail]⟩
    .simp [go_sem,h6]
     exact ⟨τ8.1,τ8.2,s8,⟨rfl,rfl⟩,M.tail,by rw [List.length_tail]; omega,by rw [List.length_tail]; omega,by unfold avs; rw [List.map_tail]⟩
   .simp [go_sem,h4]
    have lM:=l1
    have s6:=s4
    generalize L=M at *
    generalize τ4=τ6 at *
    have c6:=zan c τ6 3 hc s6
    have s8:=zay hc s6 3
    simp only [zau] at *
    refine ⟨_,_,c6,?_⟩
    simp [go_sem]
    generalize nx1 c τ6 3=v6 at *
    generalize nx2 c τ6 3=τ8 at *
    by_cases h6:v6=0
    .simp [go_sem,h6]
     refine zac (0::5::6::List.range' 31 12) (fun x:List Int × Src × Nat=>[(0,.box 162 [.sl c.length (bys c),.int x.2.1.1,.val (.int .u64 x.2.1.2)]),(5,.ofs 1 2 37 (avs x.1)),(6,.int x.2.2)]) (fun x=>x.1.length=38/\SOk x.2.1/\x.2.2<=37) (fun x=>37-x.2.2) (M,τ8,2) ⟨lM,s8,by simp only; omega⟩ (by simp [go_sem]) (by simp [go_sem]) ?_
     rintro ⟨X,τ9,i⟩ ⟨x1,x2,x3⟩
     simp only at x1 x2 x3
     by_cases hi:i<37
     .have hii:(i:Int)<37:=by omega
      have c7:=zan c τ9 4 hc x2
      have s7:=zay hc x2 4
      simp only [zau] at *
      simp [go_sem,hii]
      refine ⟨_,_,c7,?_⟩
      simp [go_sem]
      generalize nx1 c τ9 4=v7 at *
      generalize nx2 c τ9 4=τa at *
      by_cases h7:0<v7
      .simp [go_sem,h7]
       exact ⟨by omega,by omega,⟨by omega,by omega⟩,X.set (1+i) 0,τa.1,τa.2,i+1,⟨by rw [List.length_set]; exact x1,s7,by omega⟩,by omega,zaa _ _ _ (by simp),by simp [zaR]⟩
      .simp [go_sem,h7]
       exact ⟨⟨by omega,by omega⟩,X,τa.1,τa.2,i+1,⟨x1,s7,by omega⟩,by omega,zaa _ _ _ (by simp),by simp⟩
     .have hii:¬ (i:Int)<37:=by omega
      simp [go_sem,hii]
      exact ⟨τ9.1,τ9.2,x2,⟨rfl,rfl⟩,X.tail,by rw [List.length_tail]; omega,by rw [List.length_tail]; omega,by unfold avs; rw [List.map_tail]⟩
    .simp [go_sem,h6]
     exact ⟨τ8.1,τ8.2,s8,⟨rfl,rfl⟩,M.tail,by rw [List.length_tail]; omega,by rw [List.length_tail]; omega,by unfold avs; rw [List.map_tail]⟩
 .have c3:=zd9 c τ1 f hc s1
  simp only [zau] at *
  simp [go_sem,v0]
  refine ⟨_,c3,?_⟩
  rintro _ _ ⟨τ,L,s1,rfl,l1,rfl | rfl⟩
  .simp [go_sem]
   have c4:=zan c τ 3 hc s1
   have s4:=zay hc s1 3
   simp only [zau] at *
   refine ⟨_,_,c4,?_⟩
   simp [go_sem]
   generalize nx1 c τ 3=v4 at *
   generalize nx2 c τ 3=τ4 at *
   have c5:=zb1 c τ4 [1,0,2] hc s4 (by simp) (by simp)
   have s5:=zay hc s4 ([1,0,2]:List Int).length
   simp only [zau] at *
   by_cases h4:v4=0
   .simp [go_sem,h4]
    refine ⟨_,_,c5,?_⟩
    simp [go_sem]
    refine ⟨by omega,?_⟩
    generalize pk c τ4 [1,0,2]=g5 at *
    have es:(avs L).set 1 (.int g5)=avs (L.set 1 g5):=zaR _ _ _
    have lM:(L.set 1 g5).length=38:=by rw [List.length_set]; exact l1
    rw [es]
    generalize L.set 1 g5=M at *
    have s6:SOk (nx2 c τ4 3):=s5
    generalize nx2 c τ4 3=τ6 at *
    have c6:=zan c τ6 3 hc s6
    have s8:=zay hc s6 3
    simp only [zau] at *
    refine ⟨_,_,c6,?_⟩
    simp [go_sem]
    generalize nx1 c τ6 3=v6 at *
    generalize nx2 c τ6 3=τ8 at *
    by_cases h6:v6=0
    .simp [go_sem,h6]
     refine zac (0::5::6::List.range' 31 12) (fun x:List Int × Src × Nat=>[(0,.box 162 [.sl c.length (bys c),.int x.2.1.1,.val (.int .u64 x.2.1.2)]),(5,.own 2 38 (avs x.1)),(6,.int x.2.2)]) (fun x=>x.1.length=38/\SOk x.2.1/\x.2.2<=38) (fun x=>38-x.2.2) (M,τ8,2) ⟨lM,s8,by simp only; omega⟩ (by simp [go_sem]) (by simp [go_sem]) ?_
     rintro ⟨X,τ9,i⟩ ⟨x1,x2,x3⟩
     simp only at x1 x2 x3
     by_cases hi:i<38
     .have hii:(i:Int)<38:=by omega
      have c7:=zan c τ9 4 hc x2
      have s7:=zay hc x2 4
      simp only [zau] at *
      simp [go_sem,hii]
      refine ⟨_,_,c7,?_⟩
      simp [go_sem]
      generalize nx1 c τ9 4=v7 at *
      generalize nx2 c τ9 4=τa at *
      by_cases h7:0<v7
      .simp [go_sem,h7]
       exact ⟨by omega,by omega,⟨by omega,by omega⟩,X.set (i) 0,τa.1,τa.2,i+1,⟨by rw [List.length_set]; exact x1,s7,by omega⟩,by omega,zaa _ _ _ (by simp),by simp [zaR]⟩
      .simp [go_sem,h7]
       exact ⟨⟨by omega,by omega⟩,X,τa.1,τa.2,i+1,⟨x1,s7,by omega⟩,by omega,zaa _ _ _ (by simp),by simp⟩
     .have hii:¬ (i:Int)<38:=by omega
      simp [go_sem,hii]
      exact ⟨τ9.1,τ9.2,x2,⟨rfl,rfl⟩,by omega,by omega⟩
    .simp [go_sem,h6]
     exact ⟨τ8.1,τ8.2,s8,⟨rfl,rfl⟩,by omega,by omega⟩
   .simp [go_sem,h4]
    have lM:=l1
    have s6:=s4
    generalize L=M at *
    generalize τ4=τ6 at *
    have c6:=zan c τ6 3 hc s6
    have s8:=zay hc s6 3
    simp only [zau] at *
    refine ⟨_,_,c6,?_⟩
    simp [go_sem]
    generalize nx1 c τ6 3=v6 at *
    generalize nx2 c τ6 3=τ8 at *
    by_cases h6:v6=0
    .simp [go_sem,h6]
     refine zac (0::5::6::List.range' 31 12) (fun x:List Int × Src × Nat=>[(0,.box 162 [.sl c.length (bys c),.int x.2.1.1,.val (.int .u64 x.2.1.2)]),(5,.own 2 38 (avs x.1)),(6,.int x.2.2)]) (fun x=>x.1.length=38/\SOk x.2.1/\x.2.2<=38) (fun x=>38-x.2.2) (M,τ8,2) ⟨lM,s8,by simp only; omega⟩ (by simp [go_sem]) (by simp [go_sem]) ?_
     rintro ⟨X,τ9,i⟩ ⟨x1,x2,x3⟩
     simp only at x1 x2 x3
     by_cases hi:i<38
     .have hii:(i:Int)<38:=by omega
      have c7:=zan c τ9 4 hc x2
      have s7:=zay hc x2 4
      simp only [zau] at *
      simp [go_sem,hii]
      refine ⟨_,_,c7,?_⟩
      simp [go_sem]
      generalize nx1 c τ9 4=v7 at *
      generalize nx2 c τ9 4=τa at *
      by_cases h7:0<v7
      .simp [go_sem,h7]
       exact ⟨by omega,by omega,⟨by omega,by omega⟩,X.set (i) 0,τa.1,τa.2,i+1,⟨by rw [List.length_set]; exact x1,s7,by omega⟩,by omega,zaa _ _ _ (by simp),by simp [zaR]⟩
      .simp [go_sem,h7]
       exact ⟨⟨by omega,by omega⟩,X,τa.1,τa.2,i+1,⟨x1,s7,by omega⟩,by omega,zaa _ _ _ (by simp),by simp⟩
     .have hii:¬ (i:Int)<38:=by omega
      simp [go_sem,hii]
      exact ⟨τ9.1,τ9.2,x2,⟨rfl,rfl⟩,by omega,by omega⟩
    .simp [go_sem,h6]
     exact ⟨τ8.1,τ8.2,s8,⟨rfl,rfl⟩,by omega,by omega⟩
  .simp [go_sem]
   have c4:=zan c τ 3 hc s1
   have s4:=zay hc s1 3
   simp only [zau] at *
   refine ⟨_,_,c4,?_⟩
   simp [go_sem]
   generalize nx1 c τ 3=v4 at *
   generalize nx2 c τ 3=τ4 at *
   have c5:=zb1 c τ4 [1,0,2] hc s4 (by simp) (by simp)
   have s5:=zay hc s4 ([1,0,2]:List Int).length
   simp only [zau] at *
   by_cases h4:v4=0
   .simp [go_sem,h4]
    refine ⟨_,_,c5,?_⟩
    simp [go_sem]
    refine ⟨by omega,?_⟩
    generalize pk c τ4 [1,0,2]=g5 at *
    have es:(avs L).set 2 (.int g5)=avs (L.set 2 g5):=zaR _ _ _
    have lM:(L.set 2 g5).length=38:=by rw [List.length_set]; exact l1
    rw [es]
    generalize L.set 2 g5=M at *
    have s6:SOk (nx2 c τ4 3):=s5
    generalize nx2 c τ4 3=τ6 at *
    have c6:=zan c τ6 3 hc s6
    have s8:=zay hc s6 3
    simp only [zau] at *
    refine ⟨_,_,c6,?_⟩
    simp [go_sem]
    generalize nx1 c τ6 3=v6 at *
    generalize nx2 c τ6 3=τ8 at *
    by_cases h6:v6=0
    .simp [go_sem,h6]
     refine zac (0::5::6::List.range' 31 12) (fun x:List Int × Src × Nat=>[(0,.box 162 [.sl c.length (bys c),.int x.2.1.1,.val (.int .u64 x.2.1.2)]),(5,.ofs 1 2 37 (avs x.1)),(6,.int x.2.2)]) (fun x=>x.1.length=38/\SOk x.2.1/\x.2.2<=37) (fun x=>37-x.2.2) (M,τ8,2) ⟨lM,s8,by simp only; omega⟩ (by simp [go_sem]) (by simp [go_sem]) ?_
     rintro ⟨X,τ9,i⟩ ⟨x1,x2,x3⟩
     simp only at x1 x2 x3
     by_cases hi:i<37
     .have hii:(i:Int)<37:=by omega
      have c7:=zan c τ9 4 hc x2
      have s7:=zay hc x2 4
      simp only [zau] at *
      simp [go_sem,hii]
      refine ⟨_,_,c7,?_⟩
      simp [go_sem]
      generalize nx1 c τ9 4=v7 at *
      generalize nx2 c τ9 4=τa at *
      by_cases h7:0<v7
      .simp [go_sem,h7]
       exact ⟨by omega,by omega,⟨by omega,by omega⟩,X.set (1+i) 0,τa.1,τa.2,i+1,⟨by rw [List.length_set]; exact x1,s7,by omega⟩,by omega,zaa _ _ _ (by simp),by simp [zaR]⟩
      .simp [go_sem,h7]
       exact ⟨⟨by omega,by omega⟩,X,τa.1,τa.2,i+1,⟨x1,s7,by omega⟩,by omega,zaa _ _ _ (by simp),by simp⟩
     .have hii:¬ (i:Int)<37:=by omega
      simp [go_sem,hii]
      exact ⟨τ9.1,τ9.2,x2,⟨rfl,rfl⟩,X.tail,by rw [List.length_tail]; omega,by rw [List.length_tail]; omega,by unfold avs; rw [List.map_tail]⟩
    .simp [go_sem,h6]
     exact ⟨τ8.1,τ8.2,s8,⟨rfl,rfl⟩,M.tail,by rw [List.length_tail]; omega,by rw [List.length_tail]; omega,by unfold avs; rw [List.map_tail]⟩
   .simp [go_sem,h4]
    have lM:=l1
    have s6:=s4
    generalize L=M at *
    generalize τ4=τ6 at *
    have c6:=zan c τ6 3 hc s6
    have s8:=zay hc s6 3
    simp only [zau] at *
    refine ⟨_,_,c6,?_⟩
    simp [go_sem]
    generalize nx1 c τ6 3=v6 at *
    generalize nx2 c τ6 3=τ8 at *
    by_cases h6:v6=0
    .simp [go_sem,h6]
     refine zac (0::5::6::List.range' 31 12) (fun x:List Int × Src × Nat=>[(0,.box 162 [.sl c.length (bys c),.int x.2.1.1,.val (.int .u64 x.2.1.2)]),(5,.ofs 1 2 37 (avs x.1)),(6,.int x.2.2)]) (fun x=>x.1.length=38/\SOk x.2.1/\x.2.2<=37) (fun x=>37-x.2.2) (M,τ8,2) ⟨lM,s8,by simp only; omega⟩ (by simp [go_sem]) (by simp [go_sem]) ?_
     rintro ⟨X,τ9,i⟩ ⟨x1,x2,x3⟩
     simp only at x1 x2 x3
     by_cases hi:i<37
     .have hii:(i:Int)<37:=by omega
      have c7:=zan c τ9 4 hc x2
      have s7:=zay hc x2 4
      simp only [zau] at *
      simp [go_sem,hii]
      refine ⟨_,_,c7,?_⟩
      simp [go_sem]
      generalize nx1 c τ9 4=v7 at *
      generalize nx2 c τ9 4=τa at *
      by_cases h7:0<v7
      .simp [go_sem,h7]
       exact ⟨by omega,by omega,⟨by omega,by omega⟩,X.set (1+i) 0,τa.1,τa.2,i+1,⟨by rw [List.length_set]; exact x1,s7,by omega⟩,by omega,zaa _ _ _ (by simp),by simp [zaR]⟩
      .simp [go_sem,h7]
       exact ⟨⟨by omega,by omega⟩,X,τa.1,τa.2,i+1,⟨x1,s7,by omega⟩,by omega,zaa _ _ _ (by simp),by simp⟩
     .have hii:¬ (i:Int)<37:=by omega
      simp [go_sem,hii]
      exact ⟨τ9.1,τ9.2,x2,⟨rfl,rfl⟩,X.tail,by rw [List.length_tail]; omega,by rw [List.length_tail]; omega,by unfold avs; rw [List.map_tail]⟩
    .simp [go_sem,h6]
     exact ⟨τ8.1,τ8.2,s8,⟨rfl,rfl⟩,M.tail,by rw [List.length_tail]; omega,by rw [List.length_tail]; omega,by unfold avs; rw [List.map_tail]⟩
theorem zc7 (c:List Int) (hc:Byt c) :
  RCon Tryz.prog 28 [.sl c.length (bys c)] (fun r o=>o=[.any]/\∃ b a:List Int,(b.length<=38/\a.length<=38)/\r=.tup [.sl b.length (avs b),.sl a.length (avs a)]):=by
 have c0:=znJ c hc
 simp only [zau] at *
 refine zbv Tryz.mixed ⟨6,[],[1000000+98,2000000+96,2000000+97],[]⟩ [] Tryz.func28 ?_
 rw [Tryz.ntmps28]
 simp [go_sem]
 refine ⟨_,c0,?_⟩
 rintro _ _ ⟨rfl,h,rfl⟩
 have s0:SOk ((0,h):Src):=by unfold SOk; simp
 have c1:=zh0 c (0,h) 0 hc s0
 simp only [zau] at *
 simp [go_sem]
 refine ⟨_,c1,?_⟩
 rintro _ _ ⟨τ,b,s1,rfl,lb,rfl⟩
 have c2:=zb1 c τ [0,1] hc s1 (by simp) (by simp)
 have s2:=zay hc s1 ([0,1]:List Int).length
 simp only [zau] at *
 simp [go_sem]
 refine ⟨_,_,c2,?_⟩
 simp [go_sem]
 generalize pk c τ [0,1]=g at *
 have s3:SOk (nx2 c τ 2):=s2
 generalize nx2 c τ 2=τ2 at *
 have c3:=zh0 c τ2 g hc s3
 simp only [zau] at *
 refine ⟨_,c3,?_⟩
 rintro _ _ ⟨τ3,a,s4,rfl,la,rfl⟩
 simp [go_sem]
 exact ⟨b,a,⟨lb,la⟩,⟨rfl,rfl⟩,⟨rfl,rfl⟩⟩
end Go.Proofs.YthhdollpkieknaaGreat


namespace Go.Proofs.YthhdollpkieknaaGreat
open Go.Abs
def rlH (c:List Int) (sd:Int):Nat->Int
 | 0=>IntKind.u64.wrap (IntKind.u64.wrap (sd*8111)+IntKind.u64.wrap c.length)
 | i+1=>IntKind.u64.wrap (IntKind.u64.wrap (IntKind.u64.wrap (rlH c sd i*1099511628211)+IntKind.u64.wrap (c[i]?.getD 0))+5)
theorem zvw (c:List Int) (sd:Int) (hc:Byt c):GCon Tryz.prog 35 [.sl c.length (bys c),.val (.int .u64 sd)] (dicA c (0,rlH c sd c.length)) [.any,.any]:=by
 have hcl:=hc.1
 unfold dicA
 refine zal Tryz.mixed ⟨7,[],[],[]⟩ [] Tryz.func35 ?_
 rw [Tryz.ntmps35]
 simp [go_sem]
 refine zac (5::6::List.range' 16 21) (fun i:Nat=>[(5,.box 117 [.sl c.length (bys c),.int 0,.val (.int .u64 (rlH c sd i))]),(6,.int i)]) (fun i=>i<=c.length) (fun i=>c.length-i) 0 (by simp) (by simp [go_sem,rlH]) (by simp [go_sem]) ?_
 intro i hi
 by_cases hic:i<c.length
 .have h4:(i:Int)<4096:=by omega
  have hne:¬ c=[]:=by rintro rfl; simp at hic
  have hD:=zex hic
  have hb:=hc.get i
  simp [go_sem,hic,hD]
  refine ⟨by kernel_rfl,by intro e; exact hne (by simpa [bys] using e),?_⟩
  refine ⟨by kernel_rfl,?_⟩
  simp [go_sem]
  exact ⟨⟨by omega,by omega⟩,i+1,by omega,by omega,zaa _ _ _ (by simp),by simp [rlH,hic],by omega⟩
 .have e:i=c.length:=by omega
  subst e
  simp [go_sem]
end Go.Proofs.YthhdollpkieknaaGreat


namespace Go.Proofs.YthhdollpkieknaaGreat
open Go.ChangeShapes Go.WideShapes Go.ChangeAt Go.RowKit Go.Abs Go.Deep
section
variable {H:Type} {enc:TypeId × Value->H} {w:World} {sp:Nat->Bool} {held:Bool} {base:Nat}
theorem kids:Kids Tryz.prog (·<Tryz.prog.types.size):=kids_rows (by kernel_rfl) (by kernel_rfl)
theorem full:∀ t e,t<Tryz.prog.types.size->Tryz.prog.underlying t=some (.slice e)->0<Tryz.prog.cellsOf e:=slices_full_of Tryz.prog (by kernel_rfl)
theorem zve {α β:Type} (g:α->β):∀ qs:List α,qs.flatMap (fun a=>[g a])=qs.map g
 | []=>rfl
 | a::qs=>by rw [List.flatMap_cons,zve g qs]; rfl
theorem zsE {F:Nat->Prop} {tm:Nat->Value} {oss:Nat->List Nat} {c:AV} {v:Value} (h:RepL Tryz.prog w F [c] [v] []):RepT Tryz.prog w F tm oss c v []:=.cell _ _ _ (RepL.one h)
theorem repV {F:Nat->Prop} {tm:Nat->Value} {oss:Nat->List Nat} {t e:TypeId} {v:Value} {c:AV} {r:Reach} {b0:Nat} (ht:Tryz.prog.underlying t=some (.slice e)) (hv:Value.okWide Tryz.prog w r b0 t v) (h:RepL Tryz.prog w F [c] v.cells.toList []) :
  RepT Tryz.prog w F tm oss c v []:=by
 have hc:v.cells.toList=[v]:=by
  simp only [Value.okWide,ht] at hv
  cases v <;> simp_all [Value.cells,Cell.okWide,Cell.ok]
 rw [hc] at h
 exact zsE h
end
end Go.Proofs.YthhdollpkieknaaGreat


namespace Go.Proofs.YthhdollpkieknaaGreat
open Go.Abs
open Go.ChangeShapes Go.WideShapes Go.ChangeAt Go.RowKit Go.Deep
theorem zwl (c:List Int) (hl:c.length<=9223372036854775807):Con Tryz.prog 8 [.sl c.length (bys c)] (.bool (decide (4096<c.length))):=by
 refine zab Tryz.mixed ⟨3,[],[],[]⟩ Tryz.func8 ?_
 rw [Tryz.ntmps8]
 simp [go_sem]
 omega
section
variable {H:Type} {enc:TypeId × Value->H} {w:World} {sp:Nat->Bool} {held:Bool} {base:Nat}
theorem zqE {n:Nat} {cs:List Value} {x:DataW H × List MemPlace} (h:DataW.trod enc Tryz.prog w base sp held n 22 cs=some x) :
  ∃ xs:List Int,(∀ z∈xs,0<=z/\z<=255)/\xs.length<=9223372036854775807/\RepL Tryz.prog w (fun b=>b<w.heap.size) [.sl xs.length (bys xs)] cs []/\cs.length=1:=by
 obtain ⟨qs,h1,h2,h3,h4⟩:=ztP (f:=fun z:Int=>[AV.val (.int .u8 z)]) (Good:=fun z=>(Lit.int .u8 z).wf=true) Tryz.underlying22 (s:=1) (by kernel_rfl) (by decide) (fun _=>rfl)
  (fun n cs y hy=>by obtain ⟨z,k1,k2,_⟩:=zvy Tryz.underlying5 hy; exact ⟨z,k1,k2⟩) h
 refine ⟨qs,fun z hz=>?_,h2,by rw [zve] at h3; exact h3,h4⟩
 have:=h1 z hz
 simp [Lit.wf,IntKind.min,IntKind.max,IntKind.signed,IntKind.bits] at this
 omega
end
end Go.Proofs.YthhdollpkieknaaGreat


namespace Go.Proofs.YthhdollpkieknaaGreat
open Go.Abs
theorem zqd {b a:List Int} (hb:Inf b) (ha:N38 a):smE b a=0:=by unfold smE; rw [if_pos ⟨hb.1.mapB,ha.mapB⟩,if_pos hb.2]
theorem zqM {b a:List Int} (hb:Inf b) (ha:N38 a):smX b a=sbS b a:=by unfold smX; rw [if_pos (zqd hb ha)]
end Go.Proofs.YthhdollpkieknaaGreat


namespace Go.Proofs.YthhdollpkieknaaGreat
open Go.Abs
theorem zsb {k:Int} (h:isN k):Rws 1 [[k]]:=fun r hr=>by
 rw [List.mem_singleton.1 hr]
 exact ⟨rfl,fun x hx=>by rw [List.mem_singleton.1 hx]; exact h⟩
theorem zsf {k:Int} (hk:isN k):zbp 1 [linK [k] 1]=true/\zhW [linK [k] 1]:=by
 rw [zeF]
 have h1:=hk.1
 have h2:=hk.2
 by_cases h:k=0
 .rw [if_pos h]; exact ⟨rfl,by simp [zhW]⟩
 .rw [if_neg h]
  refine ⟨?_,by simp [zhW]⟩
  have d:degL [1] 0=1:=by decide
  simp [zbp,zbx,atB,monB,List.range_succ,d]
  omega
theorem znD {k y:Int} {a:List Int} (hk:isN k) (hy:isN y) (ha:N38 a):Con Tryz.prog 16 [.sl 38 (avs a),.agg [.int 1,.sl 1 (prt [linK [k] 1])],.sl 1 (avs [y])] (.tup [.own 25 7 (omat ((List.range 7).map fun n=>[tlY k y a n])),.int 0]):=by
 obtain ⟨fL,fS⟩:=zsf hk
 have c:=zh5 a 1 [linK [k] 1] [y] (by rw [ha.1]; omega) fS (by simp)
 have e:trE a 1 [linK [k] 1] [y]=0:=by
  unfold trE
  rw [ha.mapB,fL,zpr.2 ⟨by simp,fun x hx=>by rw [List.mem_singleton.1 hx]; exact hy⟩]; rfl
 have x:trX a 1 [linK [k] 1] [y]=(List.range 7).map fun n=>[tlY k y a n]:=by
  unfold trX
  rw [if_pos e,zpb hk hy ha.Ns]
 unfold trR at c
 rw [e,x,ha.1] at c
 exact c
theorem zcR (c:List Int) (hl:c.length<=9223372036854775807) (hb:∀ x∈c,0<=x/\x<=255):Con Tryz.prog 5 [.sl c.length (bys c)] (.bool true):=by
 have cB:=zwl c hl
 by_cases hc4:4096<c.length
 .refine zab Tryz.mixed ⟨27,[],[1000000+35,1000000+34,2000000+28],[]⟩ Tryz.func5 ?_
  rw [Tryz.ntmps5]
  simp [go_sem]
  refine CallVC.of (cB) ?_
  simp [go_sem]
  simp [go_sem,hc4]
 .have hc:Byt c:=⟨by omega,hb⟩
  have cD:=zc7 c hc
  have cR:=zvw c 619 hc
  have s0:SOk ((0,rlH c 619 c.length):Src):=by unfold SOk; simp
  generalize (rlH c 619 c.length)=R0 at *
  have cK:=zhA c (0,R0) hc s0
  have kN:=(znU hc s0).1
  have s1:=(znU hc s0).2
  generalize (n5V c (0,R0)).1=k at *
  generalize (n5V c (0,R0)).2=T at *
  have cY:=zhA c T hc s1
  have yN:=(znU hc s1).1
  generalize (n5V c T).1=y at *
  generalize (n5V c T).2=T2 at *
  unfold dicA at *
  refine zab Tryz.mixed ⟨27,[],[1000000+35,1000000+34,2000000+28],[]⟩ Tryz.func5 ?_
  rw [Tryz.ntmps5]
  simp [go_sem]
  refine CallVC.of (cB) ?_
  simp [go_sem]
  simp [go_sem,hc4]
  refine ⟨_,cD,?_⟩
  rintro _ _ ⟨rfl,b,a,⟨lb,la⟩,rfl⟩
  have c1:=zfB b a (by omega) (by omega)
  have c2:=zee b a (by omega) (by omega)
  by_cases hE:smE b a=0
  .obtain ⟨hB,hA⟩:=zo2 hE
   have lb:=hB.1.1
   have la:=hA.1
   rw [hE,zqM hB hA,(zfF b a).1] at c1 c2
   have hX:=zfF b a
   have lX:=hX.1
   have n1:isN 1:=⟨by decide,by decide⟩
   have cLF:Con Tryz.prog 36 [.sl 1 (mat [[k]])] (.tup [.agg [.int 1,.own 63 1 (oprt [linK [k] 1])],.int 0]):=zg6 [[k]] (by simp) (by simp) (zsb kN)
   have t1:=znD (k:=k) (y:=y) kN yN hX
   have t2:=znD (k:=k) (y:=1) kN n1 hB.1
   have t3:=znD (k:=1) (y:=1) n1 n1 hA
   have e1:linK [1] 1=[(1,[1])]:=rfl
   rw [e1] at t3
   have fl:=zpw hB hA k
   have ep:((List.range 7).map fun j=>tlY k 1 b j)=(List.range 7).map fun j=>iat b (tlP j)*k ^ j%10007:=List.map_congr_left fun j _=>zfg k b j
   have eq:((List.range 7).map fun j=>tlY 1 1 a j)=tlV.map (iat a):=List.map_congr_left fun j _=>zuA hA j
   have lst:=fun n=>zpF k y (sbS b a) n
   have ln7:∀ f:Nat->Int,((List.range 7).map f).length=7:=fun f=>by simp
   have nT:=fun a n=>(zak _:isN (tlY k 1 a n))
   have nA:=fun a n=>(zak _:isN (tlY 1 1 a n))
   have cC:=zeS ((List.range 7).map fun j=>tlY 1 1 a j) ((List.range 7).map fun j=>tlY k 1 b j) (by simp) (by simp) (fun x hx=>by obtain ⟨v,_,rfl⟩:=List.mem_map.1 hx; exact nA a v) (fun x hx=>by obtain ⟨v,_,rfl⟩:=List.mem_map.1 hx; exact nT b v) (by simp) (by
    show tlY k 1 b 0=0
    rw [zfg,show iat b (tlP 0)=0 from hB.2,Int.zero_mul]; rfl)
   rw [ln7,ln7] at cC
   have er:(List.range 7).map (fun n=>tlY k 1 (sbS b a) n)=(List.range 7).map fun n=>iat (sbS b a) (tlP n)*k ^ n%10007:=List.map_congr_left fun j _=>zfg k _ j
   have cC2:hoH ((List.range 7).map fun j=>tlY k 1 b j) 7 ((List.range 7).map fun j=>tlY 1 1 a j).reverse=(List.range 7).map fun n=>tlY k 1 (sbS b a) n:=by rw [ep,eq,fl,er]
   rw [cC2] at cC
   have l1:=zfV (sbS b a) (sbS b a) (by omega)
   simp only [decide_true] at l1
   rw [lX] at l1
   have lst2:∀ n,tlY k 1 (sbS b a) n*y%10007=tlY k y (sbS b a) n:=fun n=>by rw [zfg]; exact lst n
   have g1:∀ n,n<7->(omat ((List.range 7).map fun n=>[tlY k y (sbS b a) n]))[n]?=some (.own 2 1 [.int (tlY k y (sbS b a) n)]):=fun n h=>by
    rw [zg3 (by simpa using h)]; simp [h,avs]
   have g2:∀ n,n<7->(omat ((List.range 7).map fun n=>[tlY k 1 b n]))[n]?=some (.own 2 1 [.int (tlY k 1 b n)]):=fun n h=>by
    rw [zg3 (by simpa using h)]; simp [h,avs]
   have g3:∀ n,n<7->(omat ((List.range 7).map fun n=>[tlY 1 1 a n]))[n]?=some (.own 2 1 [.int (tlY 1 1 a n)]):=fun n h=>by
    rw [zg3 (by simpa using h)]; simp [h,avs]
   have g4:∀ n,n<7->(avs ((List.range 7).map fun n=>tlY k 1 (sbS b a) n))[n]?=some (.int (tlY k 1 (sbS b a) n)):=fun n h=>by
    rw [zcr (by simpa using h)]; simp [h]
   have tk:∀ (f:Nat->Int) n,n<7->((List.range 7).map f).take (n+1)=((List.range 7).map f).take n++[f n]:=fun f n h=>by
    rw [List.take_succ_eq_append_getElem (by simpa using h)]; simp
   have k1:=fun n h=>tk (fun j=>tlY k 1 b j) n h
   have k2:=fun n h=>tk (fun j=>tlY 1 1 a j) n h
   have w1:((List.range 7).map fun j=>tlY k 1 b j).take 7=(List.range 7).map fun j=>tlY k 1 b j:=rfl
   have w2:((List.range 7).map fun j=>tlY 1 1 a j).take 7=(List.range 7).map fun j=>tlY 1 1 a j:=rfl
   have len1:((List.range 7).map fun j=>tlY k 1 b j).length=7:=rfl
   have len2:((List.range 7).map fun j=>tlY 1 1 a j).length=7:=rfl
   have nS:=fun n=>(zak _:isN (tlY k 1 (sbS b a) n))
   rw [la,lb] at c1 c2
   clear ep eq fl er cC2 lst tk nT nA e1 hE cD
   generalize (List.range 7).map (fun j=>tlY k 1 b j)=P at *
   generalize (List.range 7).map (fun j=>tlY 1 1 a j)=Q at *
   generalize (List.range 7).map (fun n=>tlY k 1 (sbS b a) n)=SR at *
   generalize omat ((List.range 7).map fun n=>[tlY k y (sbS b a) n])=T1 at *
   generalize omat ((List.range 7).map fun n=>[tlY k 1 b n])=T2' at *
   generalize omat ((List.range 7).map fun n=>[tlY 1 1 a n])=T3 at *
   generalize [linK [k] 1]=F at *
   rw [la,lb]
   simp [go_sem]
   refine CallVC.of (c1) ?_
   simp [go_sem]
   refine CallVC.of (c2) ?_
   simp [go_sem]
   refine CallVC.of (l1) ?_
   simp [go_sem]
   refine ⟨_,_,cR,?_⟩
   simp [go_sem]
   refine ⟨_,_,cK,?_⟩
   simp [go_sem]
   refine ⟨_,_,cY,?_⟩
   simp [go_sem]
   refine CallVC.of (cLF) ?_
   simp [go_sem]
   refine CallVC.of (t1) ?_
   simp [go_sem]
   refine CallVC.of (t2) ?_
   simp [go_sem]
   refine CallVC.of (t3) ?_
   simp [go_sem]
   refine zac (21::22::23::List.range' 132 46) (fun n:Nat=>[(21,.own 2 n (avs (P.take n))),(22,.own 2 n (avs (Q.take n))),(23,.int n)]) (fun n=>n<=7) (fun n=>7-n) 0 (by simp) (by simp [go_sem]) (by simp [go_sem]) ?_
   intro n hn
   by_cases hnl:n<7
   .have hni:(n:Int)<7:=by omega
    have f1:=g1 n hnl
    have f2:=g2 n hnl
    have f3:=g3 n hnl
    have q1:=k1 n hnl
    have q2:=k2 n hnl
    have lP2:(P.take n).length=n:=by rw [List.length_take]; omega
    have lQ2:(Q.take n).length=n:=by rw [List.length_take]; omega
    generalize P.take n=P1 at *
    generalize Q.take n=Q1 at *
    simp [go_sem,hni,f1,f2,f3]
    refine ⟨⟨lP2,by omega,by omega⟩,⟨lQ2,by omega,by omega⟩,⟨by omega,by omega⟩,n+1,by omega,by omega,(by repeat (first | exact zaa _ _ _ (by simp) | (refine Off.reset (by intro x hx; simp at hx |-; omega) (by simp) ?_; simp -failIfUnchanged [go_sem,zaa]))),?_⟩
    rw [q1,q2]
    simp only [zaD]
    exact ⟨⟨trivial,trivial⟩,⟨trivial,trivial⟩,by omega⟩
   .have e:n=7:=by omega
    subst e
    rw [w1,w2]
    simp [go_sem]
    refine CallVC.of (cC) ?_
    simp [go_sem]
    refine zac (26::List.range' 193 20) (fun n:Nat=>[(26,.int n)]) (fun n=>n<=7) (fun n=>7-n) 0 (by simp) (by simp [go_sem]) (by simp [go_sem]) ?_
    intro n hn
    by_cases hnl:n<7
    .have hni:(n:Int)<7:=by omega
     have f1:=g1 n hnl
     have f4:=g4 n hnl
     have l2:=lst2 n
     have fm:=zaK (nS n) yN
     have cM:=zrx (tlY k 1 (sbS b a) n*y) fm.1 fm.2
     rw [l2] at cM
     simp [go_sem,hni,f1,f4]
     refine ⟨by kernel_rfl,?_⟩
     refine ⟨fm,?_⟩
     refine CallD.of (cM) ?_
     simp [go_sem]
     refine ⟨by kernel_rfl,?_⟩
     simp [go_sem]
     exact ⟨⟨by omega,by omega⟩,n+1,by omega,by omega,(by repeat (first | exact zaa _ _ _ (by simp) | (refine Off.reset (by intro x hx; simp at hx |-; omega) (by simp) ?_; simp -failIfUnchanged [go_sem,zaa]))),by omega⟩
    .have e:n=7:=by omega
     subst e
     simp [go_sem]
  .have eX:smX b a=[]:=by unfold smX; rw [if_neg hE]
   rw [eX] at c1 c2
   generalize smE b a=e at *
   have l0:=zfV [] [] (by simp)
   simp only [decide_true] at l0
   simp [go_sem]
   refine CallVC.of (c1) ?_
   simp [go_sem]
   refine CallVC.of (c2) ?_
   simp [go_sem]
   refine CallVC.of (l0) ?_
   simp [go_sem]
   simp [go_sem,hE]
end Go.Proofs.YthhdollpkieknaaGreat

