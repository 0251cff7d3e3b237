/- Texts of the own layer and contracts, part 8: W50 W52 E52 Q34 E50 W54 W55 W53 W56 W57 E48 W58 W37 W38 W59 W60 W42 W61 W69 E49 E53 W65 W66 W67 W68 W70 W71 L8. -/
import Derived.Test.YthhdollpkieknaaGreatM7
set_option linter.unusedSectionVars false
set_option linter.unusedVariables false
set_option linter.unusedSimpArgs false
set_option maxHeartbeats 40000000
set_option maxRecDepth 100000
namespace Go.Proofs.YthhdollpkieknaaGreat
open Go.Abs
def cp (s:Spl):List Int:=s.1.map fun c=>ixT (trN 6) c+1
def tp (s:Spl):Int:=if tkL s=[] then 0 else ixT (trN 6) (tkL s)+1
theorem zAV:(trN 6).map (fun t=>(cutL t).map fun s=>(s.2.2,cp s,tp s))=cutT.map fun r=>r.map fun c=>((c.1:Int),nvs c.2.1,(c.2.2:Int)):=by kernel_rfl
def crX (s:Spl) (j:Nat):AV:=if j=0 then .val (.slice none 0 0) else .own 3 j (avs ((cp s).take j))
def mcX (s:Spl):List AV:=[.int s.2.2,if s.1=[] then .val (.slice none 0 0) else .own 3 s.1.length (avs (cp s)),.int (tp s)]
def rwX (t:List Int):AV:=.own 151 (cutL t).length ((cutL t).flatMap mcX)
def fcX (i:Nat):AV:=if i=0 then .val (.slice none 0 0) else .own 144 i (((trN 6).take i).map rwX)
theorem zbk {α:Type} (F:α->List AV) (hF:∀ s,(F s).length=3) (X:List α):(X.flatMap F).length=X.length*3:=by
 induction X with
 | nil=>rfl
 | cons s X ih=>rw [List.flatMap_cons,List.length_append,ih,hF,List.length_cons]; omega
theorem zfq {α:Type} (F:α->List AV) (hF:∀ s,(F s).length=3) (d:α) {L:List α} {i:Nat} (h:i<L.length):(L.flatMap F).drop (i*3)=F (L[i]?.getD d)++(L.drop (i+1)).flatMap F:=by
 have e1:((L.take i).flatMap F).length=i*3:=by rw [zbk F hF,List.length_take,Nat.min_eq_left (by omega)]
 have e2:L.drop i=L[i]?.getD d::L.drop (i+1):=by rw [List.drop_eq_getElem_cons h]; simp [h]
 have e3:L.flatMap F=(L.take i).flatMap F++(L.drop i).flatMap F:=by rw [<- List.flatMap_append,List.take_append_drop]
 rw [e3,List.drop_append_of_le_length (by omega),e2,List.flatMap_cons,List.drop_eq_nil_of_le (by omega),List.nil_append]
theorem zo7:GCon Tryz.prog 71 [] (.agg [.sl 37 (mat (trN 6)),.own 144 37 ((trN 6).map rwX)]) []:=by
 have cT:=zeH 6 (by omega)
 have l6:=zaI
 have at6:=fun t h=>zcy (t:=t) h
 have e6:((6:Nat):Int)=6:=rfl
 rw [e6] at cT
 rw [l6] at cT
 refine RCon.toG ?_
 refine zaF Tryz.mixed ⟨10,[10,56],[1000000+161],[]⟩ [] Tryz.func71 ?_
 rw [Tryz.ntmps71]
 simp [go_sem]
 refine CallVC.of (cT) ?_
 simp [go_sem]
 refine zac (1::3::4::6::7::9::List.range' 15 52) (fun i:Nat=>[(1,.box 88 [.sl 37 (mat (trN 6)),fcX i]),(15,.int i)]) (fun i=>i<=37) (fun i=>37-i) 0 (by simp) (by simp [go_sem,fcX]) (by simp [go_sem,fcX]) ?_
 intro i hi
 by_cases hil:i<37
 .have hii:(i:Int)<37:=by omega
  have hl:i<(trN 6).length:=by omega
  have dm:=zag hl
  have hm:=memD [] hl
  have cC:=zvl hm
  obtain ⟨b1,b2⟩:=zql hm
  have nm:¬ trN 6=[]:=by intro e; rw [e] at l6; simp at l6
  have tki:(trN 6).take (i+1)=(trN 6).take i++[(trN 6)[i]?.getD []]:=by
   rw [List.take_succ_eq_append_getElem hl,List.getElem?_eq_getElem hl]; rfl
  have x1:fcX (i+1)=.own 144 (i+1) (((trN 6).take i).map rwX++[rwX ((trN 6)[i]?.getD [])]):=by
   unfold fcX
   rw [if_neg (by omega),tki,List.map_append]; rfl
  have hrw:rwX ((trN 6)[i]?.getD [])=.own 151 (cutL ((trN 6)[i]?.getD [])).length ((cutL ((trN 6)[i]?.getD [])).flatMap mcX):=rfl
  have lti:(((trN 6).take i).map rwX).length=i:=by rw [List.length_map,List.length_take]; omega
  by_cases i0:i=0
  .have x0:fcX i=.val (.slice none 0 0):=by unfold fcX; rw [if_pos i0]
   rw [x0]
   generalize (trN 6)[i]?.getD []=t at *
   generalize cutL t=L at *
   have xf:AV.own 144 1 [AV.own 151 L.length (L.flatMap mcX)]=fcX (i+1):=by rw [x1,<- hrw,i0]; simp
   simp [go_sem,hii,dm]
   refine ⟨nm,?_⟩
   refine ⟨_,_,cC,?_⟩
   simp [go_sem]
   refine zac (4::6::7::9::List.range' 23 37) (fun j:Nat=>[(4,.own 151 j ((L.take j).flatMap mcX)),(23,.int j)]) (fun j=>j<=L.length) (fun j=>L.length-j) 0 (by simp) (by simp [go_sem]) (by simp [go_sem]) ?_
   intro j hj
   by_cases hjl:j<L.length
   .have hji:(j:Int)<L.length:=by omega
    have dr:=zfq cuF (fun _=>rfl) ([],[],0) hjl
    have nL:¬ L.flatMap cuF=[]:=by intro e; have:=zbk cuF (fun _=>rfl) L; rw [e] at this; simp at this; omega
    have lL:=zbk cuF (fun _=>rfl) L
    have hms:=memD ([],[],0) hjl
    obtain ⟨c1,c2,c3,c4,c5,c6⟩:=b2 _ hms
    have tkj:L.take (j+1)=L.take j++[L[j]?.getD ([],[],0)]:=by
     rw [List.take_succ_eq_append_getElem hjl,List.getElem?_eq_getElem hjl]; rfl
    have clj:=zbk mcX (fun _=>rfl) (L.take j)
    rw [List.length_take,Nat.min_eq_left (by omega)] at clj
    generalize L[j]?.getD ([],[],0)=s at *
    obtain ⟨sa,sb,sc⟩:=s
    simp only [cuF] at dr
    simp only at c1 c2 c3 c4 c5 c6
    have tk1:(tkL (sa,sb,sc)).length<=6:=by
     unfold tkL
     cases sb with
     | nil=>simp
     | cons r b=>exact (c4 r (by simp)).2
    have hMX:mcX (sa,sb,sc)=[.int sc,if sa=[] then .val (.slice none 0 0) else .own 3 sa.length (avs (cp (sa,sb,sc))),.int (tp (sa,sb,sc))]:=rfl
    have htp:tp (sa,sb,sc)=if tkL (sa,sb,sc)=[] then 0 else ixT (trN 6) (tkL (sa,sb,sc))+1:=rfl
    have hcp:cp (sa,sb,sc)=sa.map fun c=>ixT (trN 6) c+1:=rfl
    have hcr:∀ k,crX (sa,sb,sc) k=if k=0 then .val (.slice none 0 0) else .own 3 k (avs ((cp (sa,sb,sc)).take k)):=fun k=>rfl
    have hcl:(cp (sa,sb,sc)).length=sa.length:=by rw [hcp,List.length_map]
    have cPt:=zg4 (trN 6) 0 [] (tkL (sa,sb,sc)) (by omega) (fun r hr=>by have:=(at6 r hr).2.1; omega) (by omega)
    have btp:=zhq (trN 6) (tkL (sa,sb,sc))
    rw [l6] at cPt btp
    generalize tkL (sa,sb,sc)=tk at *
    generalize tp (sa,sb,sc)=tpv at *
    generalize hCP:cp (sa,sb,sc)=cps at *
    generalize hMC:L.flatMap cuF=MC at *
    generalize hC:(L.take j).flatMap mcX=C at *
    simp [go_sem,hji,dr]
    refine ⟨⟨nL,by omega⟩,?_⟩
    refine zac (7::9::List.range' 33 13) (fun k:Nat=>[(7,.box 151 [.int sc,crX (sa,sb,sc) k,.int 0]),(33,.int k)]) (fun k=>k<=sa.length) (fun k=>sa.length-k) 0 (by simp) (by simp [go_sem,crX]) (by simp [go_sem,crX]) ?_
    intro k hk
    by_cases hkl:k<sa.length
    .have hki:(k:Int)<sa.length:=by omega
     have dk:=zag hkl
     have hmk:=memD [] hkl
     have hk6:=c2 _ hmk
     have na:¬ sa=[]:=by rintro rfl; simp at hkl
     have cP:=zg4 (trN 6) 0 [] (sa[k]?.getD []) (by omega) (fun r hr=>by have:=(at6 r hr).2.1; omega) (by omega)
     rw [l6] at cP
     have bp:=zhq (trN 6) (sa[k]?.getD [])
     rw [l6] at bp
     have tkk:cps.take (k+1)=cps.take k++[ixT (trN 6) (sa[k]?.getD [])+1]:=by
      rw [List.take_succ_eq_append_getElem (by omega)]
      congr 2
      subst hcp
      rw [List.getElem_map,List.getElem?_eq_getElem hkl]; rfl
     have lk:(cps.take k).length=k:=by rw [List.length_take]; omega
     have x1:crX (sa,sb,sc) (k+1)=.own 3 (k+1) (avs (cps.take k++[ixT (trN 6) (sa[k]?.getD [])+1])):=by rw [hcr,if_neg (by omega),tkk]
     generalize sa[k]?.getD []=r at *
     generalize ixT (trN 6) r+1=v at *
     by_cases k0:k=0
     .have x0:crX (sa,sb,sc) k=.val (.slice none 0 0):=by rw [hcr,if_pos k0]
      rw [x0]
      simp [go_sem,hki,dk]
      refine ⟨na,by kernel_rfl,?_⟩
      refine CallD.of (cP) ?_
      simp [go_sem]
      refine ⟨by kernel_rfl,?_⟩
      simp [go_sem]
      refine ⟨⟨by omega,by omega⟩,k+1,by omega,by omega,zaa _ _ _ (by simp),?_⟩
      rw [x1]
      subst k0
      exact ⟨by simp [avs],by omega⟩
     .have x0:crX (sa,sb,sc) k=.own 3 k (avs (cps.take k)):=by rw [hcr,if_neg k0]
      rw [x0]
      simp [go_sem,hki,dk]
      refine ⟨na,by kernel_rfl,?_⟩
      refine CallD.of (cP) ?_
      simp [go_sem]
      refine ⟨⟨by omega,by omega,by omega⟩,?_⟩
      refine ⟨by kernel_rfl,?_⟩
      simp [go_sem]
      refine ⟨⟨by omega,by omega⟩,k+1,by omega,by omega,zaa _ _ _ (by simp),?_⟩
      rw [x1,zam]
      exact ⟨rfl,by omega⟩
    .have e:k=sa.length:=by omega
     subst e
     have hki:¬ (sa.length:Int)<sa.length:=by omega
     by_cases s0:sa=[]
     .have x0:crX (sa,sb,sc) sa.length=.val (.slice none 0 0):=by rw [hcr,if_pos (by rw [s0]; rfl)]
      rw [x0]
      rw [if_pos s0] at hMX
      by_cases ht:0<tk.length
      .have t0:¬ tk=[]:=by rintro rfl; simp at ht
       rw [if_neg t0] at htp
       simp [go_sem,hki,ht]
       refine CallVC.of (cPt) ?_
       simp [go_sem]
       refine ⟨⟨by rw [clj],by omega,by omega⟩,⟨by omega,by omega⟩,j+1,by omega,by omega,(Off.reset (by intro x hx; simp at hx |-; omega) (by simp) (by simp [go_sem,zaa])),?_⟩
       rw [tkj,List.flatMap_append,hC]
       refine ⟨⟨by omega,?_⟩,by omega⟩
       simp [hMX,htp]
      .have t0:tk=[]:=List.length_eq_zero_iff.1 (by omega)
       rw [if_pos t0] at htp
       simp [go_sem,hki,ht]
       refine ⟨⟨by rw [clj],by omega,by omega⟩,⟨by omega,by omega⟩,j+1,by omega,by omega,(Off.reset (by intro x hx; simp at hx |-; omega) (by simp) (by simp [go_sem,zaa])),?_⟩
       rw [tkj,List.flatMap_append,hC]
       refine ⟨⟨by omega,?_⟩,by omega⟩
       simp [hMX,htp]
     .have x0:crX (sa,sb,sc) sa.length=.own 3 sa.length (avs cps):=by
       rw [hcr,if_neg (by intro e; exact s0 (List.length_eq_zero_iff.1 e)),List.take_of_length_le (by omega)]
      rw [x0]
      rw [if_neg s0] at hMX
      by_cases ht:0<tk.length
      .have t0:¬ tk=[]:=by rintro rfl; simp at ht
       rw [if_neg t0] at htp
       simp [go_sem,hki,ht]
       refine CallVC.of (cPt) ?_
       simp [go_sem]
       refine ⟨⟨by rw [clj],by omega,by omega⟩,⟨by omega,by omega⟩,j+1,by omega,by omega,(Off.reset (by intro x hx; simp at hx |-; omega) (by simp) (by simp [go_sem,zaa])),?_⟩
       rw [tkj,List.flatMap_append,hC]
       refine ⟨⟨by omega,?_⟩,by omega⟩
       simp [hMX,htp]
      .have t0:tk=[]:=List.length_eq_zero_iff.1 (by omega)
       rw [if_pos t0] at htp
       simp [go_sem,hki,ht]
       refine ⟨⟨by rw [clj],by omega,by omega⟩,⟨by omega,by omega⟩,j+1,by omega,by omega,(Off.reset (by intro x hx; simp at hx |-; omega) (by simp) (by simp [go_sem,zaa])),?_⟩
       rw [tkj,List.flatMap_append,hC]
       refine ⟨⟨by omega,?_⟩,by omega⟩
       simp [hMX,htp]
   .have e:j=L.length:=by omega
    subst e
    have hji:¬ (L.length:Int)<L.length:=by omega
    rw [List.take_length]
    simp [go_sem,hji]
    exact ⟨⟨by omega,by omega⟩,i+1,by omega,by omega,(by repeat (first | exact zaa _ _ _ (by simp) | (refine Off.reset (by intro x hx; simp at hx |-; omega) (by simp) ?_; simp -failIfUnchanged [go_sem,zaa]))),xf,by omega⟩
  .have x0:fcX i=.own 144 i (((trN 6).take i).map rwX):=by unfold fcX; rw [if_neg i0]
   rw [x0]
   generalize (trN 6)[i]?.getD []=t at *
   generalize cutL t=L at *
   generalize ((trN 6).take i).map rwX=FR at *
   have xf:AV.own 144 (i+1) (FR++[AV.own 151 L.length (L.flatMap mcX)])=fcX (i+1):=by rw [x1,<- hrw]
   simp [go_sem,hii,dm]
   refine ⟨nm,?_⟩
   refine ⟨_,_,cC,?_⟩
   simp [go_sem]
   refine zac (4::6::7::9::List.range' 23 37) (fun j:Nat=>[(4,.own 151 j ((L.take j).flatMap mcX)),(23,.int j)]) (fun j=>j<=L.length) (fun j=>L.length-j) 0 (by simp) (by simp [go_sem]) (by simp [go_sem]) ?_
   intro j hj
   by_cases hjl:j<L.length
   .have hji:(j:Int)<L.length:=by omega
    have dr:=zfq cuF (fun _=>rfl) ([],[],0) hjl
    have nL:¬ L.flatMap cuF=[]:=by intro e; have:=zbk cuF (fun _=>rfl) L; rw [e] at this; simp at this; omega
    have lL:=zbk cuF (fun _=>rfl) L
    have hms:=memD ([],[],0) hjl
    obtain ⟨c1,c2,c3,c4,c5,c6⟩:=b2 _ hms
    have tkj:L.take (j+1)=L.take j++[L[j]?.getD ([],[],0)]:=by
     rw [List.take_succ_eq_append_getElem hjl,List.getElem?_eq_getElem hjl]; rfl
    have clj:=zbk mcX (fun _=>rfl) (L.take j)
    rw [List.length_take,Nat.min_eq_left (by omega)] at clj
    generalize L[j]?.getD ([],[],0)=s at *
    obtain ⟨sa,sb,sc⟩:=s
    simp only [cuF] at dr
    simp only at c1 c2 c3 c4 c5 c6
    have tk1:(tkL (sa,sb,sc)).length<=6:=by
     unfold tkL
     cases sb with
     | nil=>simp
     | cons r b=>exact (c4 r (by simp)).2
    have hMX:mcX (sa,sb,sc)=[.int sc,if sa=[] then .val (.slice none 0 0) else .own 3 sa.length (avs (cp (sa,sb,sc))),.int (tp (sa,sb,sc))]:=rfl
    have htp:tp (sa,sb,sc)=if tkL (sa,sb,sc)=[] then 0 else ixT (trN 6) (tkL (sa,sb,sc))+1:=rfl
    have hcp:cp (sa,sb,sc)=sa.map fun c=>ixT (trN 6) c+1:=rfl
    have hcr:∀ k,crX (sa,sb,sc) k=if k=0 then .val (.slice none 0 0) else .own 3 k (avs ((cp (sa,sb,sc)).take k)):=fun k=>rfl
    have hcl:(cp (sa,sb,sc)).length=sa.length:=by rw [hcp,List.length_map]
    have cPt:=zg4 (trN 6) i (frzL FR) (tkL (sa,sb,sc)) (by omega) (fun r hr=>by have:=(at6 r hr).2.1; omega) (by omega)
    have btp:=zhq (trN 6) (tkL (sa,sb,sc))
    rw [l6] at cPt btp
    generalize tkL (sa,sb,sc)=tk at *
    generalize tp (sa,sb,sc)=tpv at *
    generalize hCP:cp (sa,sb,sc)=cps at *
    generalize hMC:L.flatMap cuF=MC at *
    generalize hC:(L.take j).flatMap mcX=C at *
    simp [go_sem,hji,dr]
    refine ⟨⟨nL,by omega⟩,?_⟩
    refine zac (7::9::List.range' 33 13) (fun k:Nat=>[(7,.box 151 [.int sc,crX (sa,sb,sc) k,.int 0]),(33,.int k)]) (fun k=>k<=sa.length) (fun k=>sa.length-k) 0 (by simp) (by simp [go_sem,crX]) (by simp [go_sem,crX]) ?_
    intro k hk
    by_cases hkl:k<sa.length
    .have hki:(k:Int)<sa.length:=by omega
     have dk:=zag hkl
     have hmk:=memD [] hkl
     have hk6:=c2 _ hmk
     have na:¬ sa=[]:=by rintro rfl; simp at hkl
     have cP:=zg4 (trN 6) i (frzL FR) (sa[k]?.getD []) (by omega) (fun r hr=>by have:=(at6 r hr).2.1; omega) (by omega)
     rw [l6] at cP
     have bp:=zhq (trN 6) (sa[k]?.getD [])
     rw [l6] at bp
     have tkk:cps.take (k+1)=cps.take k++[ixT (trN 6) (sa[k]?.getD [])+1]:=by
      rw [List.take_succ_eq_append_getElem (by omega)]
      congr 2
      subst hcp
      rw [List.getElem_map,List.getElem?_eq_getElem hkl]; rfl
     have lk:(cps.take k).length=k:=by rw [List.length_take]; omega
     have x1:crX (sa,sb,sc) (k+1)=.own 3 (k+1) (avs (cps.take k++[ixT (trN 6) (sa[k]?.getD [])+1])):=by rw [hcr,if_neg (by omega),tkk]
     generalize sa[k]?.getD []=r at *
     generalize ixT (trN 6) r+1=v at *
     by_cases k0:k=0
     .have x0:crX (sa,sb,sc) k=.val (.slice none 0 0):=by rw [hcr,if_pos k0]
      rw [x0]
      simp [go_sem,hki,dk]
      refine ⟨na,by kernel_rfl,?_⟩
      refine CallD.of (cP) ?_
      simp [go_sem]
      refine ⟨by kernel_rfl,?_⟩
      simp [go_sem]
      refine ⟨⟨by omega,by omega⟩,k+1,by omega,by omega,zaa _ _ _ (by simp),?_⟩
      rw [x1]
      subst k0
      exact ⟨by simp [avs],by omega⟩
     .have x0:crX (sa,sb,sc) k=.own 3 k (avs (cps.take k)):=by rw [hcr,if_neg k0]
      rw [x0]
      simp [go_sem,hki,dk]
      refine ⟨na,by kernel_rfl,?_⟩
      refine CallD.of (cP) ?_
      simp [go_sem]
      refine ⟨⟨by omega,by omega,by omega⟩,?_⟩
      refine ⟨by kernel_rfl,?_⟩
      simp [go_sem]
      refine ⟨⟨by omega,by omega⟩,k+1,by omega,by omega,zaa _ _ _ (by simp),?_⟩
      rw [x1,zam]
      exact ⟨rfl,by omega⟩
    .have e:k=sa.length:=by omega
     subst e
     have hki:¬ (sa.length:Int)<sa.length:=by omega
     by_cases s0:sa=[]
     .have x0:crX (sa,sb,sc) sa.length=.val (.slice none 0 0):=by rw [hcr,if_pos (by rw [s0]; rfl)]
      rw [x0]
      rw [if_pos s0] at hMX
      by_cases ht:0<tk.length
      .have t0:¬ tk=[]:=by rintro rfl; simp at ht
       rw [if_neg t0] at htp
       simp [go_sem,hki,ht]
       refine CallVC.of (cPt) ?_
       simp [go_sem]
       refine ⟨⟨by rw [clj],by omega,by omega⟩,⟨by omega,by omega⟩,j+1,by omega,by omega,(Off.reset (by intro x hx; simp at hx |-; omega) (by simp) (by simp [go_sem,zaa])),?_⟩
       rw [tkj,List.flatMap_append,hC]
       refine ⟨⟨by omega,?_⟩,by omega⟩
       simp [hMX,htp]
      .have t0:tk=[]:=List.length_eq_zero_iff.1 (by omega)
       rw [if_pos t0] at htp
       simp [go_sem,hki,ht]
       refine ⟨⟨by rw [clj],by omega,by omega⟩,⟨by omega,by omega⟩,j+1,by omega,by omega,(Off.reset (by intro x hx; simp at hx |-; omega) (by simp) (by simp [go_sem,zaa])),?_⟩
       rw [tkj,List.flatMap_append,hC]
       refine ⟨⟨by omega,?_⟩,by omega⟩
       simp [hMX,htp]
     .have x0:crX (sa,sb,sc) sa.length=.own 3 sa.length (avs cps):=by
       rw [hcr,if_neg (by intro e; exact s0 (List.length_eq_zero_iff.1 e)),List.take_of_length_le (by omega)]
      rw [x0]
      rw [if_neg s0] at hMX
      by_cases ht:0<tk.length
      .have t0:¬ tk=[]:=by rintro rfl; simp at ht
       rw [if_neg t0] at htp
       simp [go_sem,hki,ht]
       refine CallVC.of (cPt) ?_
       simp [go_sem]
       refine ⟨⟨by rw [clj],by omega,by omega⟩,⟨by omega,by omega⟩,j+1,by omega,by omega,(Off.reset (by intro x hx; simp at hx |-; omega) (by simp) (by simp [go_sem,zaa])),?_⟩
       rw [tkj,List.flatMap_append,hC]
       refine ⟨⟨by omega,?_⟩,by omega⟩
       simp [hMX,htp]
      .have t0:tk=[]:=List.length_eq_zero_iff.1 (by omega)
       rw [if_pos t0] at htp
       simp [go_sem,hki,ht]
       refine ⟨⟨by rw [clj],by omega,by omega⟩,⟨by omega,by omega⟩,j+1,by omega,by omega,(Off.reset (by intro x hx; simp at hx |-; omega) (by simp) (by simp [go_sem,zaa])),?_⟩
       rw [tkj,List.flatMap_append,hC]
       refine ⟨⟨by omega,?_⟩,by omega⟩
       simp [hMX,htp]
   .have e:j=L.length:=by omega
    subst e
    have hji:¬ (L.length:Int)<L.length:=by omega
    rw [List.take_length]
    simp [go_sem,hji]
    exact ⟨⟨by omega,by omega,by omega⟩,⟨by omega,by omega⟩,i+1,by omega,by omega,(by repeat (first | exact zaa _ _ _ (by simp) | (refine Off.reset (by intro x hx; simp at hx |-; omega) (by simp) ?_; simp -failIfUnchanged [go_sem,zaa]))),xf,by omega⟩
 .have e:i=37:=by omega
  subst e
  have x:fcX 37=.own 144 37 ((trN 6).map rwX):=by
   unfold fcX
   rw [if_neg (by omega),List.take_of_length_le (by omega)]
  rw [x]
  simp [go_sem]
def trG (row:List (Int × List Int × Int)):AV:=.sl row.length (row.flatMap fun x=>[.int x.1,.sl x.2.1.length (avs x.2.1),.int x.2.2])
theorem zlL:∀ a b:List AV,frzL (a++b)=frzL a++frzL b
 | [],b=>rfl
 | c::a,b=>by rw [List.cons_append,frzL,zlL a b,frzL]; rfl
theorem zw0:∀ L:List Spl,NXL (frzL (L.flatMap mcX)) ((L.map fun s=>(s.2.2,cp s,tp s)).flatMap fun x=>[.int x.1,.sl x.2.1.length (avs x.2.1),.int x.2.2])
 | []=>.nil
 | s::L=>by
  rw [List.map_cons,List.flatMap_cons,List.flatMap_cons,zlL]
  refine NXL.app (zw0 L) ?_
  by_cases h:s.1=[]
  .have e:mcX s=[.int s.2.2,.val (.slice none 0 0),.int (tp s)]:=by unfold mcX; rw [if_pos h]
   have e2:cp s=[]:=by unfold cp; rw [h]; rfl
   rw [e,e2]
   exact .cons (.same _) (.cons .nil (.cons (.same _) .nil))
  .have e:mcX s=[.int s.2.2,.own 3 s.1.length (avs (cp s)),.int (tp s)]:=by unfold mcX; rw [if_neg h]
   have e2:(cp s).length=s.1.length:=by simp [cp]
   rw [e]
   show NXL [.int s.2.2,.sl s.1.length (frzL (avs (cp s))),.int (tp s)] [.int s.2.2,.sl (cp s).length (avs (cp s)),.int (tp s)]
   rw [zhG,e2]
   exact NXL.same _
theorem zw6:∀ T:List (List Int),NXL (frzL (T.map rwX)) (T.map fun t=>trG ((cutL t).map fun s=>(s.2.2,cp s,tp s)))
 | []=>.nil
 | t::T=>by
  rw [List.map_cons,List.map_cons]
  refine .cons ?_ (zw6 T)
  show NX (.sl (cutL t).length (frzL ((cutL t).flatMap mcX))) (trG _)
  unfold trG
  rw [List.length_map]
  exact .sl _ (zw0 _)
theorem zyl:((trN 6).map fun t=>trG ((cutL t).map fun s=>(s.2.2,cp s,tp s)))=fcF:=by
 have e:=congrArg (List.map trG) zAV
 rw [List.map_map,List.map_map] at e
 refine (Eq.trans ?_ e).trans ?_
 .rfl
 .unfold fcF
  refine List.map_congr_left fun r _=>?_
  show trG (r.map _)=_
  unfold trG
  rw [List.length_map,List.flatMap_map]
  show AV.sl r.length (r.flatMap fun c=>[.int c.1,.sl (nvs c.2.1).length (avs (nvs c.2.1)),.int c.2.2])=_
  simp only [zjb]
  rfl
theorem zbI:GCon Tryz.prog 71 [] (.agg [.sl 37 (mat (trN 6)),.sl 37 fcF]) []:=by
 refine GCon.nxA (.cons (.same _) (.cons (.sl 37 ?_) .nil)) (GCon.frzR zo7 rfl)
 rw [<- zyl]
 exact zw6 _
end Go.Proofs.YthhdollpkieknaaGreat


namespace Go.Proofs.YthhdollpkieknaaGreat
open Go.Abs
theorem zwF:¬ trN 6=[]:=by intro e; have:=zaI; rw [e] at this; simp at this
theorem zwR {p:Nat} (h:p<37):((trN 6)[p]?.getD []).length=nd (p+1):=by
 have ok:(List.range 37).all (fun p=>decide (((trN 6)[p]?.getD []).length=nd (p+1)))=true:=by decide +kernel
 exact of_decide_eq_true (List.all_eq_true.1 ok p (List.mem_range.2 h))
theorem ztH (p:Nat) (hp:p<38):Con Tryz.prog 163 [.agg [.sl 37 (mat (trN 6)),.sl 37 fcF],.int p] (.int (nd p)):=by
 have nt:=zwF
 have l6:=zaI
 generalize fcF=FC at *
 by_cases h0:p=0
 .subst h0
  refine zab Tryz.mixed ⟨5,[],[],[]⟩ Tryz.func163 ?_
  rw [Tryz.ntmps163]
  simp [go_sem]
  rfl
 .obtain ⟨q,rfl⟩:∃ q,p=q+1:=⟨p-1,by omega⟩
  have e:=zwR (p:=q) (by omega)
  have dm:=zag (xss:=trN 6) (k:=q) (by omega)
  rw [e] at dm
  have cL:=zdL (nd (q+1)) (avs ((trN 6)[q]?.getD [])) (by have:=zpr hp; omega)
  have e1:((q+1:Nat):Int)=(q:Int)+1:=by omega
  rw [e1]
  have e2:¬ (q:Int)+1=0:=by omega
  generalize (trN 6)[q]?.getD []=t at *
  generalize nd (q+1)=m at *
  refine zab Tryz.mixed ⟨5,[],[],[]⟩ Tryz.func163 ?_
  rw [Tryz.ntmps163]
  simp [go_sem]
  simp [go_sem,e2]
  have e3:((q:Int)+1-1)=q:=by omega
  simp [go_sem,e3,dm]
  refine ⟨by omega,⟨by omega,nt⟩,?_⟩
  refine CallVC.of (cL) ?_
  simp [go_sem]
theorem zui (k:Int) (a:List Int) {i:Nat} (h:i<38):(scS k a).take (i+1)=(scS k a).take i++[iat a i*k ^ nd i%10007]:=zdw _ h
theorem N38.take {a:List Int} (ha:N38 a):a.take 38=a:=List.take_of_length_le (by rw [ha.1]; exact Nat.le_refl _)
theorem zh5 (a:List Int) (k:Int) (ha:N38 a) (hk:isN k) :
  Con Tryz.prog 94 [.agg [.sl 37 (mat (trN 6)),.sl 37 fcF],.sl a.length (avs a),.int k] (.own 2 38 (avs (scS k a))):=by
 have tk:=fun i (h:i<38)=>zui k a h
 have ta:=(zmd k a).take
 have lo:=(zmd k a).1
 have la:=ha.1
 have cN:=fun p h=>ztH p h
 generalize scS k a=O at *
 generalize fcF=FC at *
 refine zab Tryz.mixed ⟨10,[],[],[]⟩ Tryz.func94 ?_
 rw [Tryz.ntmps94]
 simp [go_sem]
 refine zac (7::8::9::List.range' 13 17) (fun i:Nat=>[(7,.own 2 i (avs (O.take i))),(13,.int i)]) (fun i=>i<=38) (fun i=>38-i) 0 (by simp) (by simp [go_sem]) (by simp [go_sem]) ?_
 intro i hi
 by_cases hil:i<a.length
 .have hii:(i:Int)<a.length:=by omega
  have na:¬ a=[]:=by rintro rfl; simp at hil
  have dr:=zav hil
  have c1:=cN i (by omega)
  have n6:=zpr (i:=i) (by omega)
  have c2:=zy4 k (nd i) hk (by omega) (by omega)
  have pN:=pw_N k (nd i)
  have xN:isN (iat a i):=ha.Ns.get i
  have f1:=zax xN pN
  have c3:=za3 (iat a i*pw k (nd i)) f1.1 f1.2
  have e:iat a i*k ^ nd i%10007=iat a i*pw k (nd i)%10007:=by
   refine zaq rfl ?_
   unfold pw
   rw [Int.emod_emod_of_dvd _ (Int.dvd_refl _)]; rfl
  have t1:=tk i (by omega)
  rw [e] at t1
  generalize iat a i=x at *
  generalize pw k (nd i)=y at *
  generalize nd i=m at *
  simp [go_sem,hii,dr]
  refine ⟨na,?_⟩
  refine CallVC.of (c1) ?_
  simp [go_sem]
  refine CallVC.of (c2) ?_
  simp [go_sem]
  refine ⟨⟨f1.1,f1.2⟩,?_⟩
  refine CallVC.of (c3) ?_
  simp [go_sem]
  refine ⟨⟨by omega,by omega,by omega⟩,⟨by omega,by omega⟩,i+1,by omega,by omega,zaa _ _ _ (by simp),?_⟩
  rw [t1,zam]
  exact ⟨⟨rfl,rfl⟩,by omega⟩
 .have e:i=a.length:=by omega
  subst e
  have hii:¬ (a.length:Int)<a.length:=by omega
  rw [la,ta]
  simp [go_sem,hii]
theorem zr3 (a b:List Int) (ha:N38 a) (hb:N38 b) :
  Con Tryz.prog 72 [.agg [.sl 37 (mat (trN 6)),.sl 37 fcF],.sl a.length (avs a),.sl b.length (avs b)] (.int (agS a b)):=by
 have la:=ha.1
 have lb:=hb.1
 have cN:=fun p h=>ztH p h
 have hA:agS a b=agI a b 38 0:=rfl
 generalize fcF=FC at *
 refine zab Tryz.mixed ⟨8,[],[],[]⟩ Tryz.func72 ?_
 rw [Tryz.ntmps72]
 simp [go_sem]
 refine zac (6::7::List.range' 10 17) (fun i:Nat=>[(10,.int i)]) (fun i=>i<=38/\agS a b=agI a b (38-i) i) (fun i=>38-i) 0 (by simp [hA]) (by simp [go_sem]) (by simp [go_sem]) ?_
 rintro i ⟨hi,hag⟩
 by_cases hil:i<38
 .have hii:(i:Int)<a.length:=by omega
  have da:=zav (a:=a) (v:=i) (by omega)
  have db:=zav (a:=b) (v:=i) (by omega)
  have na:¬ a=[]:=by rintro rfl; simp at la
  have nb:¬ b=[]:=by rintro rfl; simp at lb
  have c1:=cN i hil
  have n6:=zpr (i:=i) hil
  obtain ⟨m,hm⟩:∃ m,38-i=m+1:=⟨37-i,by omega⟩
  rw [hm,agI] at hag
  have hm2:38-(i+1)=m:=by omega
  by_cases he:iat a i=iat b i
  .rw [if_pos he,<- hm2] at hag
   rw [he] at da
   generalize iat b i=x at *
   simp [go_sem,hii,da,db]
   refine ⟨by kernel_rfl,na,⟨by omega,nb⟩,?_⟩
   refine ⟨by kernel_rfl,?_⟩
   simp [go_sem]
   refine ⟨⟨by omega,by omega⟩,i+1,⟨by omega,hag⟩,by omega,zaa _ _ _ (by simp),by omega⟩
  .rw [if_neg he] at hag
   generalize iat a i=x at *
   generalize iat b i=y at *
   generalize nd i=k at *
   simp [go_sem,hii,da,db]
   refine ⟨by kernel_rfl,na,⟨by omega,nb⟩,?_⟩
   refine ⟨by kernel_rfl,?_⟩
   simp [go_sem]
   simp [go_sem,he]
   refine CallVC.of (c1) ?_
   simp [go_sem]
   refine ⟨⟨by omega,by omega⟩,?_⟩
   exact hag.symm
 .have e:i=38:=by omega
  subst e
  have hii:¬ (38:Int)<a.length:=by omega
  simp [go_sem,hii]
  exact hag.symm
theorem zht:Con Tryz.prog 27 [] (.own 2 38 (avs zbT)):=by
 have e:avs zbT=.int 1::List.replicate 37 (.int 0):=by kernel_rfl
 rw [e]
 refine zab Tryz.mixed ⟨2,[],[],[]⟩ Tryz.func27 ?_
 rw [Tryz.ntmps27]
 simp [go_sem]
theorem zAx {t:List Int} (h:t∈trN 6):0<=denF 8 t/\denF 8 t<=1000000:=by
 have ok:(trN 6).all (fun t=>decide (0<=denF 8 t) && decide (denF 8 t<=1000000))=true:=by decide +kernel
 have k:=List.all_eq_true.1 ok t h
 simpa using k
theorem zBD:(trN 6).map (fun t=>((fp 15 (denF 8 t%10007).toNat 10005:Nat):Int))=exT.tail.map fun (v:Nat)=>(v:Int):=by kernel_rfl
theorem ztp:exaS=exT.map fun (v:Nat)=>(v:Int):=by kernel_rfl
theorem zws {p:Nat} (h:p<37):pw (denF 8 ((trN 6)[p]?.getD [])%10007) 10005=iat exaS (p+1):=by
 have hl:p<(trN 6).length:=by rw [zaI]; exact h
 have e:=congrArg (fun l=>l[p]?) zBD
 simp only [List.getElem?_map] at e
 rw [List.getElem?_eq_getElem hl] at e
 have k:=zpf (denF 8 (trN 6)[p]%10007).toNat
 rw [Int.toNat_of_nonneg (Int.emod_nonneg _ (by decide))] at k
 rw [List.getElem?_eq_getElem hl,Option.getD_some,<- k]
 unfold iat
 rw [ztp,List.getElem?_map]
 have e2:exT[p+1]?=exT.tail[p]?:=by rw [List.getElem?_tail]
 rw [e2,<- e]; rfl
def xaX (i:Nat):List Int:=exaS.take (i+1)++List.replicate (37-i) 0
theorem zlr (v:Int):∀ (P:List Int) (n:Nat),(P++List.replicate (n+1) 0).set P.length v=P++[v]++List.replicate n 0
 | [],n=>by simp [List.replicate_succ]
 | x::P,n=>by
  have:=zlr v P n
  simp only [List.cons_append,List.length_cons,List.set_cons_succ]
  rw [this]
theorem zxS {i:Nat} (h:i<37):(xaX i).set (i+1) (iat exaS (i+1))=xaX (i+1):=by
 have l:=zbV.1.1
 have tl:(exaS.take (i+1)).length=i+1:=by rw [List.length_take]; omega
 have t:exaS.take (i+2)=exaS.take (i+1)++[iat exaS (i+1)]:=by
  rw [List.take_succ_eq_append_getElem (by omega)]
  unfold iat
  rw [List.getElem?_eq_getElem (by omega)]; rfl
 unfold xaX
 have k:=zlr (iat exaS (i+1)) (exaS.take (i+1)) (36-i)
 rw [tl,show 36-i+1=37-i by omega] at k
 rw [k,t,show 37-(i+1)=36-i by omega]
theorem zfk:Con Tryz.prog 73 [.agg [.sl 37 (mat (trN 6)),.sl 37 fcF]] (.own 2 38 (avs exaS)):=by
 have cU:=zht
 have l6:=zaI
 have nt:=zwF
 have x0:zbT=xaX 0:=by kernel_rfl
 have x37:xaX 37=exaS:=by kernel_rfl
 have at6:=fun t h=>zcy (t:=t) h
 rw [x0] at cU
 rw [<- x37]
 generalize fcF=FC at *
 refine zab Tryz.mixed ⟨6,[],[],[]⟩ Tryz.func73 ?_
 rw [Tryz.ntmps73]
 simp [go_sem]
 refine CallVC.of (cU) ?_
 simp [go_sem]
 refine zac (3::4::5::List.range' 10 14) (fun i:Nat=>[(3,.own 2 38 (avs (xaX i))),(10,.int i)]) (fun i=>i<=37) (fun i=>37-i) 0 (by simp) (by simp [go_sem]) (by simp [go_sem]) ?_
 intro i hi
 by_cases hil:i<37
 .have hii:(i:Int)<37:=by omega
  have hl:i<(trN 6).length:=by omega
  have dm:=zag hl
  have hm:=memD [] hl
  obtain ⟨t1,t2,t3⟩:=at6 _ hm
  have cD:=zhr 8 _ t1 (by omega) t3
  have xs:=zxS hil
  rw [<- zws hil] at xs
  have lx:(xaX i).length=38:=by
   have l:=zbV.1.1
   unfold xaX
   rw [List.length_append,List.length_take,List.length_replicate]; omega
  obtain ⟨d1,d2⟩:=zAx hm
  generalize (trN 6)[i]?.getD []=t at *
  have c1:=za3 (denF 8 t) (by omega) (by omega)
  have c2:=zpp (denF 8 t%10007) (zaf _)
  generalize hv:pw (denF 8 t%10007) 10005=v at *
  generalize denF 8 t=d at *
  have ls:((xaX i).set (i+1) v).length=38:=by rw [List.length_set]; exact lx
  simp [go_sem,hii,dm]
  refine ⟨nt,⟨by omega,by omega⟩,?_⟩
  refine CallVC.of (cD) ?_
  simp [go_sem]
  refine CallVC.of (c1) ?_
  simp [go_sem]
  refine CallVC.of (c2) ?_
  simp [go_sem]
  refine ⟨⟨by omega,by omega⟩,by omega,⟨by omega,by omega⟩,i+1,by omega,by omega,zaa _ _ _ (by simp),?_⟩
  rw [<- xs]
  exact ⟨by simp [avs,List.map_set],by omega⟩
 .have e:i=37:=by omega
  subst e
  simp [go_sem]
theorem zph:Con Tryz.prog 18 [] (.own 2 38 (avs exaS)):=by
 have cF:=zbI
 have cE:=zfk
 generalize fcF=FC at *
 refine zab Tryz.mixed ⟨1,[],[1000000+71],[]⟩ Tryz.func18 ?_
 rw [Tryz.ntmps18]
 simp [go_sem]
 refine ⟨_,_,cF,?_⟩
 simp [go_sem]
 refine CallVC.of (cE) ?_
 simp [go_sem]
def ckC (a:List Int):Int:=if mapB a=true then (if iat a 0=1 then 0 else 5) else 1
theorem Ch.ck {a:List Int} (h:Ch a):ckC a=0:=by
 unfold ckC
 rw [if_pos h.1.mapB,if_pos h.2]
theorem zbU (a:List Int) (ha:a.length<=9223372036854775807):Con Tryz.prog 70 [.sl a.length (avs a)] (.int (ckC a)):=by
 have cM:=zfs a ha
 unfold ckC
 by_cases hm:mapB a=true
 .rw [if_pos hm]
  rw [hm] at cM
  have hl:=(zA6 hm).1
  have na:¬ a=[]:=by rintro rfl; simp at hl
  have a0:=zav (a:=a) (v:=0) (by omega)
  rw [List.drop_zero] at a0
  by_cases h1:iat a 0=1
  .rw [if_pos h1]
   rw [h1] at a0
   refine zab Tryz.mixed ⟨3,[],[],[]⟩ Tryz.func70 ?_
   rw [Tryz.ntmps70]
   simp [go_sem]
   refine CallVC.of (cM) ?_
   simp [go_sem]
   simp [go_sem,a0]
   exact ⟨by omega,na⟩
  .rw [if_neg h1]
   generalize iat a 0=x at *
   refine zab Tryz.mixed ⟨3,[],[],[]⟩ Tryz.func70 ?_
   rw [Tryz.ntmps70]
   simp [go_sem]
   refine CallVC.of (cM) ?_
   simp [go_sem]
   simp [go_sem,a0,h1]
   exact ⟨by omega,na⟩
 .rw [if_neg hm]
  have hf:mapB a=false:=by simpa using hm
  rw [hf] at cM
  refine zab Tryz.mixed ⟨3,[],[],[]⟩ Tryz.func70 ?_
  rw [Tryz.ntmps70]
  simp [go_sem]
  refine CallVC.of (cM) ?_
  simp [go_sem]
theorem zkg (a:List Int) (ha:N38 a) :
  Con Tryz.prog 176 [.agg [.sl 37 (mat (trN 6)),.sl 37 fcF],.sl a.length (avs a)] (.own 2 38 (avs (invS a))):=by
 have la:=ha.1
 have nf:=zq5
 have fd:=fun i h=>ziL (i:=i) h
 have il:=zdZ a
 have iN:=zqI a
 have e0:avs (invN a 0)=[.int 1]:=rfl
 have es:∀ k,invN a (k+1)=invN a k++[(-(rowI (iat (invN a k)) (iat a) (nwR (k+1))))%10007]:=fun k=>rfl
 show Con Tryz.prog _ _ (.own _ 38 (avs (invN a 37)))
 generalize hO:invN a=O at *
 generalize fcF=FC at *
 refine zab Tryz.mixed ⟨11,[],[],[]⟩ Tryz.func176 ?_
 rw [Tryz.ntmps176]
 simp [go_sem]
 refine zac (5::7::8::10::List.range' 15 38) (fun i:Nat=>[(5,.own 2 (i+1) (avs (O i))),(15,.int i)]) (fun i=>i<=37) (fun i=>37-i) 0 (by simp) (by simp [go_sem,e0]) (by simp [go_sem]) ?_
 intro i hi
 by_cases hil:i<37
 .have hii:(i:Int)<37:=by omega
  have dr:=fd i hil
  obtain ⟨r1,r2⟩:=ztA (i:=i+1) (by omega)
  have rk:=zcw (i:=i+1) (by omega)
  have nk:=(zq7 (i:=i+1) (by omega) (by omega)).1
  have ei:=es i
  have hnw:nwR (i+1)=(ctR (i+1)).filter fun c=>decide (0<c.2.2):=rfl
  have li:=il i
  have Ni:Ns (O i):=fun x hx=>iN i x hx
  rw [hnw] at ei nk
  generalize ctR (i+1)=R at *
  have oi:O i=O i:=rfl
  generalize O i=o at *
  simp [go_sem,hii,dr]
  refine ⟨nf,?_⟩
  refine zac (8::10::List.range' 21 25) (fun j:Nat=>[(8,.int (rsF o a ((R.take j).filter fun c=>decide (0<c.2.2)))),(21,.int j)]) (fun j=>j<=R.length) (fun j=>R.length-j) 0 (by simp) (by simp [go_sem,rsF]) (by simp [go_sem]) ?_
  intro j hj
  by_cases hjl:j<R.length
  .have hji:(j:Int)<R.length:=by omega
   have cd:=zge hjl
   have hm:=memD (0,[],0) hjl
   obtain ⟨q1,q2⟩:=r2 _ hm
   obtain ⟨k1,k2⟩:=rk _ hm
   have k3:=fun h=>nk _ (List.mem_filter.2 ⟨hm,h⟩)
   have tj:(R.take (j+1)).filter (fun c=>decide (0<c.2.2))=(R.take j).filter (fun c=>decide (0<c.2.2))++[R[j]?.getD (0,[],0)].filter (fun c=>decide (0<c.2.2)):=by
    rw [<- List.filter_append,List.take_succ_eq_append_getElem hjl,List.getElem?_eq_getElem hjl]; rfl
   have rs:=zgm o a ((R.take j).filter fun c=>decide (0<c.2.2)) (R[j]?.getD (0,[],0))
   have bd:=zoF o a ((R.take j).filter fun c=>decide (0<c.2.2))
   have bl:((R.take j).filter fun c=>decide (0<c.2.2)).length<=100:=by
    have:=List.length_filter_le (fun c:Ctp=>decide (0<c.2.2)) (R.take j)
    rw [List.length_take] at this; omega
   have nR:¬ R.flatMap ctF=[]:=by intro e; have:=zcZ R; rw [e] at this; simp at this; omega
   have lR:=zcZ R
   generalize (R.take j).filter (fun c=>decide (0<c.2.2))=X at *
   generalize R[j]?.getD (0,[],0)=c at *
   obtain ⟨n,l,t⟩:=c
   simp only [ctF] at cd q1 q2 k1 k2 k3 rs
   generalize hMC:R.flatMap ctF=MC at *
   by_cases ht:0<t
   .rw [List.filter_cons,if_pos (by simpa using ht),List.filter_nil] at tj
    rw [<- tj] at rs
    have k4:=k3 (by simpa using ht)
    have cV:=zgM o l Ni (by omega) q1 (fun v hv=>by have:=k4 v hv; omega)
    have vN:=zun o l
    have bN:isN (iat a t):=ha.Ns.get t
    have br:=zav (a:=a) (v:=t) (by omega)
    have f1:=zax vN bN
    have c1:=za3 (vlN o l*iat a t) f1.1 f1.2
    have m1:=zaf (vlN o l*iat a t)
    have f2:fits ((n:Int)*(vlN o l*iat a t%10007)):=zax (show isN (n:Int) from ⟨by omega,by omega⟩) m1
    have c2:=za3 ((n:Int)*(vlN o l*iat a t%10007)) f2.1 f2.2
    have m2:=zaf ((n:Int)*(vlN o l*iat a t%10007))
    have na:¬ a=[]:=by rintro rfl; simp at la
    rw [li] at cV
    generalize rsF o a X=s at *
    generalize vlN o l=v at *
    generalize iat a t=y at *
    simp [go_sem,hji,cd,br,ht]
    refine ⟨nR,by kernel_rfl,?_⟩
    refine CallD.of (cV) ?_
    simp [go_sem]
    simp [go_sem,br]
    refine ⟨⟨by omega,na⟩,⟨f1.1,f1.2⟩,?_⟩
    refine CallD.of (c1) ?_
    simp [go_sem]
    refine ⟨⟨f2.1,f2.2⟩,?_⟩
    refine CallD.of (c2) ?_
    simp [go_sem]
    refine ⟨⟨by omega,by omega⟩,?_⟩
    refine ⟨by kernel_rfl,?_⟩
    simp [go_sem]
    refine ⟨⟨by omega,by omega⟩,j+1,by omega,by omega,zaa _ _ _ (by simp),?_⟩
    rw [rs]
    exact ⟨rfl,by omega⟩
   .rw [List.filter_cons,if_neg (by simpa using ht),List.filter_nil,List.append_nil] at tj
    simp [go_sem,hji,cd,ht]
    refine ⟨nR,⟨by omega,by omega⟩,j+1,by omega,by omega,zaa _ _ _ (by simp),?_⟩
    rw [tj]
    exact ⟨rfl,by omega⟩
  .have e:j=R.length:=by omega
   subst e
   have hji:¬ (R.length:Int)<R.length:=by omega
   rw [List.take_length]
   have bd:=zoF o a (R.filter fun c=>decide (0<c.2.2))
   have bl:(R.filter fun c=>decide (0<c.2.2)).length<=100:=by
    have:=List.length_filter_le (fun c:Ctp=>decide (0<c.2.2)) R
    omega
   have rm:=zqQ o a (R.filter fun c=>decide (0<c.2.2))
   have c1:=za3 (-rsF o a (R.filter fun c=>decide (0<c.2.2))) (by omega) (by omega)
   have ng : -rowI (iat o) (iat a) (R.filter fun c=>decide (0<c.2.2))%10007 = -rsF o a (R.filter fun c=>decide (0<c.2.2))%10007:=by omega
   rw [ng] at ei
   generalize rsF o a (R.filter fun c=>decide (0<c.2.2))=s at *
   simp [go_sem,hji]
   refine ⟨⟨by omega,by omega⟩,?_⟩
   refine CallVC.of (c1) ?_
   simp [go_sem]
   refine ⟨⟨by omega,by omega,by omega⟩,⟨by omega,by omega⟩,i+1,by omega,by omega,(Off.reset (by intro x hx; simp at hx |-; omega) (by simp) (by simp [go_sem,zaa])),?_⟩
   rw [ei,zam]
   exact ⟨⟨rfl,rfl⟩,by omega⟩
 .have e:i=37:=by omega
  subst e
  simp [go_sem]
theorem zz6 (a:List Int):scS 10006 a=scS (-1) a:=zse (by decide) a
theorem zj5 (a:List Int) (ha:N38 a) :
  Con Tryz.prog 91 [.agg [.sl 37 (mat (trN 6)),.sl 37 fcF],.sl a.length (avs a)] (.own 2 38 (avs (invS (scS (-1) a)))):=by
 have c1:=zh5 a 10006 ha ⟨by decide,by decide⟩
 have c2:=zkg (scS 10006 a) (zmd _ _)
 rw [zz6] at c1 c2
 rw [(zmd (-1) a).1] at c2
 generalize fcF=FC at *
 refine zab Tryz.mixed ⟨5,[],[],[]⟩ Tryz.func91 ?_
 rw [Tryz.ntmps91]
 simp [go_sem]
 refine ⟨by kernel_rfl,?_⟩
 refine CallD.of (c1) ?_
 simp [go_sem]
 refine CallD.of (c2) ?_
 simp [go_sem]
 refine ⟨by kernel_rfl,?_⟩
 simp [go_sem]
end Go.Proofs.YthhdollpkieknaaGreat


namespace Go.Proofs.YthhdollpkieknaaGreat
open Go.Abs
def chI (i:Nat):List Nat:=match (ctR i).find? (fun c=>Nat.beq c.2.2 1) with
 | some c=>c.2.1
 | none=>[]
def tI (i:Nat):List Int:=(trN 6)[i-1]?.getD []
theorem zzL:(List.range 37).all (fun i=>((chI (i+1)).all fun v=>decide (0<v) && decide (v<=i)) && (decide (zjq (chI (i+1))+1=nd (i+1)) && ((chI (i+1)).map tI).isPerm (brs (tI (i+1)))))=true:=by decide +kernel
theorem zj4 {i:Nat} (h0:0<i) (hi:i<38):(∀ v∈chI i,0<v/\v<i)/\zjq (chI i)+1=nd i/\((chI i).map tI).Perm (brs (tI i)):=by
 obtain ⟨j,rfl⟩:∃ j,i=j+1:=⟨i-1,by omega⟩
 have h:=List.all_eq_true.1 zzL j (List.mem_range.2 (by omega))
 simp only [Bool.and_eq_true,List.all_eq_true,decide_eq_true_eq] at h
 exact ⟨fun v hv=>by have:=h.1 v hv; omega,h.2.1,List.isPerm_iff.1 h.2.2⟩
theorem zBj {i:Nat} (h0:0<i) (hi:i<38):tI i∈trN 6/\Lv (tI i)/\(tI i).length<=6:=by
 have hm:tI i∈trN 6:=memD [] (show i-1<(trN 6).length by rw [zaI]; omega)
 exact ⟨hm,(zcy hm).1,(zcy hm).2.1⟩
theorem zoL (g:List Int->Int) {l r:List (List Int)} (h:l.Perm r):zaH g l=zaH g r:=by
 induction h with
 | nil=>rfl
 | cons x _ ih=>rw [zaH,zaH,ih]
 | swap x y l=>simp only [zaH]; ac_rfl
 | trans _ _ a b=>exact a.trans b
theorem znq (g:List Int->Int):∀ l:List Nat,zaH g (l.map tI)=prI (fun v=>g (tI v)) l
 | []=>rfl
 | v::l=>by rw [List.map_cons,zaH,znq g l,prI]
theorem zyP (g:List Int->Int) {i:Nat} (h0:0<i) (hi:i<38):zaH g (brs (tI i))=prI (fun v=>g (tI v)) (chI i):=by
 rw [<- zoL g (zj4 h0 hi).2.2,znq]
def dI (E:Nat->Int) (i:Nat):Int:=if i=0 then 0 else prI E (chI i)
def dP (E:Nat->Py) (i:Nat):Py:=if Nat.beq i 0 then [] else zpe E (chI i)
theorem zBR (r:Nat->Int) {E:Nat->Py} {E':Nat->Int} (h:∀ v,v<38->evp r (E v)%10007=E' v%10007) {i:Nat} (hi:i<38):evp r (dP E i)%10007=dI E' i%10007:=by
 unfold dP dI
 by_cases e:i=0
 .subst e; rfl
 .rw [if_neg e,if_neg (by intro x; exact e (Nat.eq_of_beq_eq_true x))]
  exact zji r _ fun v hv=>h v (by have:=(zj4 (by omega) hi).1 v hv; omega)
theorem zyi:(List.range 38).all (fun i=>decide (cvP (vr 0) (dP (vr 40)) i=dP (cvP (vr 0) (vr 40)) i))=true:=by decide +kernel
theorem cv_d {A E:Nat->Int} (ha:A 0%10007=1) (he:E 0%10007=1) {i:Nat} (hi:i<38):cvI A (dI E) i%10007=dI (cvI A E) i%10007:=by
 have e:=of_decide_eq_true (List.all_eq_true.1 zyi i (List.mem_range.2 hi))
 have hA:∀ v,v<38->evp (en3 A E E) (vr 0 v)%10007=A v%10007:=fun v hv=>zjP ha (fun i hi=>by unfold en3; rw [if_pos (by omega),Nat.zero_add]) hv
 have hB:∀ v,v<38->evp (en3 A E E) (vr 40 v)%10007=E v%10007:=fun v hv=>zjP he (fun i hi=>by unfold en3; rw [if_neg (by omega),if_pos (by omega)]; congr 1; omega) hv
 rw [<- zfL (en3 A E E) hA (fun v hv=>zBR (en3 A E E) hB hv) hi,e,zBR (en3 A E E) (fun v hv=>zfL (en3 A E E) hA hB hv) hi]
theorem znH (A F G:Nat->Int):∀ L,rowI A (fun v=>F v+G v) L=rowI A F L+rowI A G L
 | []=>rfl
 | c::L=>by
  rw [rowI,rowI,rowI,znH A F G L,Int.mul_add,Int.mul_add]; omega
theorem zkC (A F:Nat->Int) (k:Int):∀ L,rowI A (fun v=>k*F v) L=k*rowI A F L
 | []=>by simp [rowI]
 | c::L=>by
  have e:(c.1:Int)*(prI A c.2.1*(k*F c.2.2))=k*((c.1:Int)*(prI A c.2.1*F c.2.2)):=by ac_rfl
  rw [rowI,rowI,zkC A F k L,Int.mul_add,e]
theorem zoe (A:Nat->Int):∀ L,rowI A (fun _=>0) L=0
 | []=>rfl
 | c::L=>by rw [rowI,zoe A L,Int.mul_zero,Int.mul_zero]; rfl
theorem zhe (A:Nat->Int) (k:Nat->Int) (W:Nat->Nat->Int) (L:List Ctp):∀ s,rowI A (fun v=>dsum (fun j=>k j*W j v) s) L=dsum (fun j=>k j*rowI A (W j) L) s
 | 0=>zoe A L
 | s+1=>by
  have e:(fun v=>dsum (fun j=>k j*W j v) (s+1))=fun v=>dsum (fun j=>k j*W j v) s+k s*W s v:=rfl
  rw [e,znH,zhe A k W L s,zkC]; rfl
section
variable {s:Nat} {a:Nat->Nat->Int} {b:Nat->Int} {W W' E E':Nat->Nat->Int} {φ ψ:Nat->Int}
theorem zsT (hφ:φ 0%10007=1) (k0:∀ q,E' q 0=1)
  (w1:∀ j,j<s->∀ i,0<i->i<38->W j i%10007=prI (E j) (chI i)%10007)
  (w2:∀ j,j<s->∀ i,0<i->i<38->W' j i%10007=prI (E' j) (chI i)%10007)
  {i:Nat} (h0:0<i) (hi:i<38) (ih:∀ v,v<i->∀ q,q<s->cvI φ (E' q) v%10007=E q v%10007) {j:Nat} (hj:j<s) :
  rowI φ (W' j) (nwR i)%10007=W j i%10007:=by
 have e1:rowI φ (W' j) (nwR i)%10007=rowI φ (dI (E' j)) (nwR i)%10007:=zbY fun c hc=>by
  obtain ⟨m1,m2⟩:=List.mem_filter.1 hc
  have m3:0<c.2.2:=of_decide_eq_true m2
  refine ⟨fun v _=>rfl,?_⟩
  rw [w2 j hj _ m3 (zcw hi c m1).2,dI,if_neg (by omega)]
 have e2:rowI φ (dI (E' j)) (nwR i)=cvI φ (dI (E' j)) i:=by
  rw [zgj _ _ hi h0]
  have:dI (E' j) 0=0:=rfl
  rw [this,Int.mul_zero,Int.add_zero]
 rw [e1,e2,cv_d hφ (by rw [k0]; rfl) hi,dI,if_neg (by omega),w1 j hj i h0 hi]
 exact zma fun v hv=>ih v ((zj4 h0 hi).1 v hv).2 j hj
theorem zBF (hφ:φ 0%10007=1) (k0:∀ q,E' q 0=1) (k1:∀ q,E q 0=1)
  (w1:∀ j,j<s->∀ i,0<i->i<38->W j i%10007=prI (E j) (chI i)%10007)
  (w2:∀ j,j<s->∀ i,0<i->i<38->W' j i%10007=prI (E' j) (chI i)%10007)
  (e1:∀ q,q<s->∀ i,0<i->i<38->E q i%10007=dsum (fun j=>a q j*W j i) s%10007)
  (e2:∀ q,q<s->∀ i,0<i->i<38->E' q i%10007=dsum (fun j=>(a q j-b j)*W' j i) s%10007)
  (p1:∀ i,0<i->i<38->φ i%10007=dsum (fun j=>b j*W j i) s%10007) :
  ∀ n,∀ i,i<n->i<38->∀ q,q<s->cvI φ (E' q) i%10007=E q i%10007
 | 0,i,h,_=>by omega
 | n+1,i,h,hi=>fun q hq=>by
  have ih:=zBF hφ k0 k1 w1 w2 e1 e2 p1 n
  by_cases h0:i=0
  .subst h0
   show E' q 0%10007=E q 0%10007
   rw [k0,k1]
  .have h0:0<i:=by omega
   rw [zgj _ _ hi h0,k0,Int.mul_one]
   have r1:rowI φ (E' q) (nwR i)%10007=rowI φ (fun v=>dsum (fun j=>(a q j-b j)*W' j v) s) (nwR i)%10007:=zbY fun c hc=>by
    obtain ⟨m1,m2⟩:=List.mem_filter.1 hc
    exact ⟨fun v _=>rfl,e2 q hq _ (of_decide_eq_true m2) (zcw hi c m1).2⟩
   rw [zhe] at r1
   have r2:dsum (fun j=>(a q j-b j)*rowI φ (W' j) (nwR i)) s%10007=dsum (fun j=>(a q j-b j)*W j i) s%10007:=zb1 fun j hj=>zaq rfl (zsT hφ k0 w1 w2 h0 hi (fun v hv q hq=>ih v (by omega) (by omega) q hq) hj)
   have r3:dsum (fun j=>(a q j-b j)*W j i) s=dsum (fun j=>a q j*W j i) s-dsum (fun j=>b j*W j i) s:=by
    have h:=zeJ (fun j=>a q j*W j i) (fun j=>b j*W j i) (-1) s
    rw [za7 (g:=fun j=>a q j*W j i + -1*(b j*W j i)) (fun j _=>by rw [Int.sub_mul]; omega),h]
    omega
   have r4:=e1 q hq i h0 hi
   have r5:=p1 i h0 hi
   rw [r2,r3] at r1
   omega
theorem zvN (hφ:φ 0%10007=1) (k0:∀ q,E' q 0=1) (k1:∀ q,E q 0=1) (kψ:ψ 0=1)
  (w1:∀ j,j<s->∀ i,0<i->i<38->W j i%10007=prI (E j) (chI i)%10007)
  (w2:∀ j,j<s->∀ i,0<i->i<38->W' j i%10007=prI (E' j) (chI i)%10007)
  (e1:∀ q,q<s->∀ i,0<i->i<38->E q i%10007=dsum (fun j=>a q j*W j i) s%10007)
  (e2:∀ q,q<s->∀ i,0<i->i<38->E' q i%10007=dsum (fun j=>(a q j-b j)*W' j i) s%10007)
  (p1:∀ i,0<i->i<38->φ i%10007=dsum (fun j=>b j*W j i) s%10007)
  (p2:∀ i,0<i->i<38->ψ i%10007=dsum (fun j =>-b j*W' j i) s%10007)
  {i:Nat} (h0:0<i) (hi:i<38):cvI φ ψ i%10007=0:=by
 have ih:=zBF hφ k0 k1 w1 w2 e1 e2 p1 i
 rw [zgj _ _ hi h0,kψ,Int.mul_one]
 have r1:rowI φ ψ (nwR i)%10007=rowI φ (fun v=>dsum (fun j =>-b j*W' j v) s) (nwR i)%10007:=zbY fun c hc=>by
  obtain ⟨m1,m2⟩:=List.mem_filter.1 hc
  exact ⟨fun v _=>rfl,p2 _ (of_decide_eq_true m2) (zcw hi c m1).2⟩
 rw [zhe] at r1
 have r2:dsum (fun j =>-b j*rowI φ (W' j) (nwR i)) s%10007=dsum (fun j =>-b j*W j i) s%10007:=zb1 fun j hj=>zaq rfl (zsT hφ k0 w1 w2 h0 hi (fun v hv q hq=>ih v hv (by omega) q hq) hj)
 have r3:dsum (fun j =>-b j*W j i) s =-dsum (fun j=>b j*W j i) s:=by
  have h:=zcX (-1) (fun j=>b j*W j i) s
  rw [za7 (g:=fun j => -1*(b j*W j i)) (fun j _=>by rw [Int.neg_mul]; omega),<- h]
  omega
 have r5:=p1 i h0 hi
 rw [r2,r3] at r1
 omega
end
variable {A:List (List Int)} {B:List Int}
theorem zmY (a0:Int) (V:List Int->Int) {i:Nat} (h0:0<i) (hi:i<38):iat (mapW a0 V) i=V (tI i):=by
 obtain ⟨j,rfl⟩:∃ j,i=j+1:=⟨i-1,by omega⟩
 exact ztm a0 V (by omega)
theorem zeo (hT:Tab A B):Ch (mapW 1 (chW A B)):=⟨⟨zdQ 1 _,fun x hx=>by
 rcases List.mem_cons.1 hx with rfl | hx
 .omega
 .obtain ⟨t,_,rfl⟩:=List.mem_map.1 hx
  unfold chW; omega⟩,rfl⟩
def Wt (A:List (List Int)) (s j i:Nat):Int:=wS A s j (tI i)
def Et (A:List (List Int)) (s q i:Nat):Int:=if i=0 then 1 else gS A s q (tI i)
theorem zkV {F G:Nat->Int}:∀ {l:List Nat},(∀ v∈l,F v=G v)->prI F l=prI G l
 | [],_=>rfl
 | v::l,h=>by rw [prI,prI,h v (by simp),zkV fun w hw=>h w (by simp [hw])]
theorem zrb (hT:Tab A B) {j i:Nat} (hj:j<B.length) (h0:0<i) (hi:i<38):Wt A B.length j i%10007=prI (Et A B.length j) (chI i)%10007:=by
 obtain ⟨_,tL,t6⟩:=zBj h0 hi
 unfold Wt
 rw [zqN hT hj tL t6,zyP _ h0 hi]
 congr 1
 refine zkV fun v hv=>?_
 have:=((zj4 h0 hi).1 v hv).1
 rw [Et,if_neg (by omega)]
theorem zwz (hT:Tab A B) {i:Nat} (h0:0<i) (hi:i<38):iat (mapW 1 (chW A B)) i%10007=dsum (fun j=>B[j]?.getD 0*Wt A B.length j i) B.length%10007:=by
 rw [zmY 1 _ h0 hi,chW,Int.emod_emod_of_dvd _ (Int.dvd_refl _),ze4 _ _ B.length rfl (zg7 A B.length 6 _).1]
 rfl
theorem zmE (hT:Tab A B):cvS (mapW 1 (chW A B)) (scS (-1) (mapW 1 (chW (adA A B) (adB B))))=zbT:=by
 have hT':=zqs hT
 have lB:=zfH B
 refine zem zc2.1 fun i hi=>?_
 rw [zxm hi]
 by_cases h0:i=0
 .subst h0
  rw [if_pos rfl,cvI,if_pos rfl,(zqj (-1) (zeo hT')).2]
 .rw [if_neg h0]
  have nn:∀ v,iat (scS (-1) (mapW 1 (chW (adA A B) (adB B)))) v=iat (scS (-1) (mapW 1 (chW (adA A B) (adB B)))) v:=fun _=>rfl
  refine zvN (s:=B.length) (a:=fun q j=>mx A q j) (b:=fun j=>B[j]?.getD 0) (W:=fun j i=>Wt A B.length j i) (E:=fun q i=>Et A B.length q i)
   (W':=fun j i=>Wt (adA A B) B.length (B.length-1-j) i*(-1) ^ (nd i+1)) (E':=fun q i=>Et (adA A B) B.length (B.length-1-q) i*(-1) ^ nd i)
   (φ:=iat (mapW 1 (chW A B))) (ψ:=iat (scS (-1) (mapW 1 (chW (adA A B) (adB B))))) rfl (fun q=>rfl) (fun q=>rfl) (zqj (-1) (zeo hT')).2
   (fun j hj i h0 hi=>zrb hT hj h0 hi) (fun j hj i h0 hi=>?_) (fun q hq i h0 hi=>?_) (fun q hq i h0 hi=>?_) (fun i h0 hi=>zwz hT h0 hi) (fun i h0 hi=>?_) (by omega) hi
  .have h:=zrb hT' (j:=B.length-1-j) (by rw [lB]; omega) h0 hi
   rw [lB] at h
   rw [zrX,<- (zj4 h0 hi).2.1]
   refine zaq h ?_
   rw [Int.pow_succ,Int.pow_succ,Int.mul_assoc,show (-1:Int) * -1=1 from rfl,Int.mul_one]
  .show Et A B.length q i%10007=_
   rw [Et,if_neg (by omega)]; rfl
  .show Et (adA A B) B.length (B.length-1-q) i*(-1) ^ nd i%10007=_
   rw [Et,if_neg (by omega),gS,<- zjd,Int.mul_comm,zcX]
   refine zb1 fun j hj=>?_
   have h:=zzZ hT (r:=B.length-1-q) (c:=B.length-1-j) (by omega) (by omega)
   rw [show B.length-1-(B.length-1-q)=q by omega,show B.length-1-(B.length-1-j)=j by omega] at h
   have e:(mx A q j-B[j]?.getD 0)*(Wt (adA A B) B.length (B.length-1-j) i*(-1) ^ (nd i+1))=(-1) ^ nd i*((B[j]?.getD 0-mx A q j)*Wt (adA A B) B.length (B.length-1-j) i):=by
    rw [Int.pow_succ,show mx A q j-B[j]?.getD 0 = -1*(B[j]?.getD 0-mx A q j) by omega]
    have e1:(-1:Int) * -1=1:=rfl
    generalize B[j]?.getD 0-mx A q j=x
    generalize Wt (adA A B) B.length (B.length-1-j) i=y
    generalize (-1:Int) ^ nd i=z
    have e2 : -1*x*(y*(z * -1))=(-1 * -1)*(z*(x*y)):=by ac_rfl
    rw [e2,e1,Int.one_mul]
   rw [e]
   exact zaq rfl (zaq h rfl)
  .rw [zmS (-1) _ hi]
   have h:=zwz hT' h0 hi
   rw [lB] at h
   rw [<- zjd] at h
   have h2:iat (mapW 1 (chW (adA A B) (adB B))) i%10007=dsum (fun j=>B[j]?.getD 0*Wt (adA A B) B.length (B.length-1-j) i) B.length%10007:=by
    rw [h]
    refine zb1 fun j hj=>?_
    have k:=zAj (B:=B) (i:=B.length-1-j) (by omega)
    rw [show B.length-1-(B.length-1-j)=j by omega] at k
    exact zaq k rfl
   rw [Int.mul_comm,zaq (rfl:(-1:Int) ^ nd i%10007=(-1) ^ nd i%10007) h2,zcX]
   refine congrArg (·%10007) (za7 fun j hj=>?_)
   rw [Int.pow_succ]
   have e1:(-1:Int) * -1=1:=rfl
   rw [show -(B[j]?.getD 0) = -1*B[j]?.getD 0 by omega]
   generalize B[j]?.getD 0=x
   generalize Wt (adA A B) B.length (B.length-1-j) i=y
   generalize (-1:Int) ^ nd i=z
   have e2 : -1*x*(y*(z * -1))=(-1 * -1)*(z*(x*y)):=by ac_rfl
   rw [e2,e1,Int.one_mul]
theorem zsm (hT:Tab A B):invS (scS (-1) (mapW 1 (chW A B)))=mapW 1 (chW (adA A B) (adB B)):=by
 have h:=zmE hT
 have c1:=zeo hT
 have c2:=zeo (zqs hT)
 have s1:=zqj (-1) c1
 have e:cvS (scS (-1) (mapW 1 (chW A B))) (mapW 1 (chW (adA A B) (adB B)))=zbT:=by
  have h2:scS (-1) (cvS (mapW 1 (chW A B)) (scS (-1) (mapW 1 (chW (adA A B) (adB B)))))=zbT:=by rw [h,zAF]
  rw [<- zBK,zBH] at h2
  rw [show scS (-1 * -1) (mapW 1 (chW (adA A B) (adB B)))=mapW 1 (chW (adA A B) (adB B)) from zzo c2.1] at h2
  exact h2
 have f:cvS (cvS (invS (scS (-1) (mapW 1 (chW A B)))) (scS (-1) (mapW 1 (chW A B)))) (mapW 1 (chW (adA A B) (adB B)))=cvS (invS (scS (-1) (mapW 1 (chW A B)))) (cvS (scS (-1) (mapW 1 (chW A B))) (mapW 1 (chW (adA A B) (adB B)))):=zyW (zr0 _) s1
 rw [zDf s1,zxB c2.1,e,zzr (zr0 _)] at f
 exact f.symm
theorem zom (hT:Tab A B) {j:Nat} (h:j<37):lacF A B (tI (j+1))=0 ↔ iat (mapW 1 (chW A B)) (j+1)=iat exaS (j+1):=by
 obtain ⟨hm,tL,t6⟩:=zBj (i:=j+1) (by omega) (by omega)
 rw [zmY 1 _ (by omega) (by omega),<- zws h]
 have e:(trN 6)[j]?.getD []=tI (j+1):=rfl
 rw [e]
 unfold lacF chW
 rw [zeT A B.length (tI (j+1)).length 6 (tI (j+1)) tL (Nat.le_refl _) t6]
 have pn:=pw_N (denF 8 (tI (j+1))%10007) 10005
 have:=pn.1; have:=pn.2
 generalize pw (denF 8 (tI (j+1))%10007) 10005=b at *
 generalize dotI B (stwF A B.length (tI (j+1)).length (tI (j+1)))=a at *
 omega
theorem zrd (hT:Tab A B):∀ m j,m+j=37->orT A B ((trN 6).drop j)=agI (mapW 1 (chW A B)) exaS m (j+1)
 | 0,j,h=>by
  rw [List.drop_of_length_le (by rw [zaI]; omega)]; rfl
 | m+1,j,h=>by
  have hl:j<(trN 6).length:=by rw [zaI]; omega
  have e:(trN 6)[j]=tI (j+1):=by
   unfold tI
   rw [Nat.add_sub_cancel,List.getElem?_eq_getElem hl]; rfl
  have en:(tI (j+1)).length=nd (j+1):=zwR (by omega)
  rw [List.drop_eq_getElem_cons hl,orT,e,agI,zrd hT m (j+1) (by omega),en]
  by_cases h0:lacF A B (tI (j+1))=0
  .rw [if_pos h0,if_pos ((zom hT (by omega)).1 h0)]
  .rw [if_neg h0,if_neg (fun x=>h0 ((zom hT (by omega)).2 x))]
theorem zmT (hT:Tab A B):orT A B (trN 6)=agS (mapW 1 (chW A B)) exaS:=by
 have h:=zrd hT 37 0 rfl
 rw [List.drop_zero] at h
 have e:agS (mapW 1 (chW A B)) exaS=agI (mapW 1 (chW A B)) exaS 37 1:=by
  unfold agS
  rw [agI,if_pos ((zeo hT).2.trans zbV.2.symm)]
 rw [e,h]
end Go.Proofs.YthhdollpkieknaaGreat


namespace Go.Proofs.YthhdollpkieknaaGreat
open Go.Abs
end Go.Proofs.YthhdollpkieknaaGreat


namespace Go.Proofs.YthhdollpkieknaaGreat
open Go.Abs CR
section
variable {f:List (List Mon)} {y:List Int} {n:Nat}
end
theorem zv1:exT.map (fun (v:Nat)=>(v:Int))=mapW 1 exN:=by kernel_rfl
end Go.Proofs.YthhdollpkieknaaGreat


namespace Go.Proofs.YthhdollpkieknaaGreat
open Go.Abs
end Go.Proofs.YthhdollpkieknaaGreat


namespace Go.Proofs.YthhdollpkieknaaGreat
open Go.Abs
end Go.Proofs.YthhdollpkieknaaGreat


namespace Go.Proofs.YthhdollpkieknaaGreat
open Go.Abs
theorem zpE (a:List Int) (k:Int) (ha:N38 a) (hk:isN k) :
  Con Tryz.prog 25 [.sl a.length (avs a),.int k] (.tup [.own 2 38 (avs (scS k a)),.int 0]):=by
 have cM:=zfs a (by rw [ha.1]; omega)
 rw [ha.mapB] at cM
 have cI:=zfB k
 have e:decide (0<=k/\k<=10006)=true:=decide_eq_true ⟨hk.1,by have:=hk.2; omega⟩
 rw [e] at cI
 have cF:=zbI
 have cC:=zh5 a k ha hk
 generalize scS k a=X at *
 generalize fcF=FC at *
 refine zab Tryz.mixed ⟨6,[],[1000000+71],[]⟩ Tryz.func25 ?_
 rw [Tryz.ntmps25]
 simp [go_sem]
 refine CallVC.of (cM) ?_
 simp [go_sem]
 refine CallVC.of (cI) ?_
 simp [go_sem]
 refine ⟨_,_,cF,?_⟩
 simp [go_sem]
 refine CallVC.of (cC) ?_
 simp [go_sem]
theorem Ch.cons {a:List Int} (h:Ch a):avs a=.int 1::avs a.tail:=by
 have a0:=zav (a:=a) (v:=0) (by rw [h.1.1]; omega)
 rw [List.drop_zero,h.2,List.drop_one] at a0
 exact a0
theorem N38.ne {a:List Int} (h:N38 a):¬ a=[]:=by rintro rfl; have:=h.1; simp at this
theorem zpm (a b:List Int) (ha:Ch a) (hb:N38 b) :
  Con Tryz.prog 95 [.sl a.length (avs a),.sl b.length (avs b)] (.tup [.own 2 38 (avs (cvS a b)),.int 0]):=by
 have c1:=zfs a (by rw [ha.1.1]; omega)
 have c2:=zfs b (by rw [hb.1]; omega)
 rw [ha.1.mapB] at c1
 rw [hb.mapB] at c2
 have cF:=zbI
 have cC:=zpn a b ha.1 hb
 have a0:=ha.cons
 have na:=ha.1.ne
 have la:=ha.1.1
 rw [a0] at cC
 generalize cvS a b=X at *
 generalize fcF=FC at *
 refine zab Tryz.mixed ⟨6,[],[1000000+71],[]⟩ Tryz.func95 ?_
 rw [Tryz.ntmps95]
 simp [go_sem]
 refine CallVC.of (c1) ?_
 simp [go_sem]
 refine CallVC.of (c2) ?_
 simp [go_sem]
 simp [go_sem,a0]
 refine ⟨⟨by omega,na⟩,?_⟩
 refine ⟨_,_,cF,?_⟩
 simp [go_sem]
 refine CallVC.of (cC) ?_
 simp [go_sem]
theorem zjW (a:List Int) (ha:Ch a) :
  Con Tryz.prog 14 [.sl a.length (avs a)] (.tup [.int (agS a exaS),.int 0]):=by
 have c1:=zbU a (by rw [ha.1.1]; omega)
 rw [ha.ck] at c1
 have cF:=zbI
 have c2:=zfk
 have c3:=zr3 a exaS ha.1 zbV.1
 rw [zbV.1.1] at c3
 generalize agS a exaS=X at *
 generalize exaS=E at *
 generalize fcF=FC at *
 refine zab Tryz.mixed ⟨6,[],[1000000+71],[]⟩ Tryz.func14 ?_
 rw [Tryz.ntmps14]
 simp [go_sem]
 refine CallVC.of (c1) ?_
 simp [go_sem]
 refine ⟨_,_,cF,?_⟩
 simp [go_sem]
 refine ⟨by kernel_rfl,?_⟩
 refine CallD.of (c2) ?_
 simp [go_sem]
 refine CallD.of (c3) ?_
 simp [go_sem]
 refine ⟨by kernel_rfl,?_⟩
 simp [go_sem]
end Go.Proofs.YthhdollpkieknaaGreat


namespace Go.Proofs.YthhdollpkieknaaGreat
open Go.Abs
def adL (a b:List Int) (k:Int):List Int:=(List.range a.length).map fun i=>(iat a i+k*iat b i%10007)%10007
theorem zzT (a b:List Int) (k:Int):(adL a b k).length=a.length:=by simp [adL]
end Go.Proofs.YthhdollpkieknaaGreat


namespace Go.Proofs.YthhdollpkieknaaGreat
open Go.Abs
end Go.Proofs.YthhdollpkieknaaGreat


namespace Go.Proofs.YthhdollpkieknaaGreat
def c1R (i:Nat):List Ctp:=(ctR i).filter fun c=>decide (c.2.1.length=1)
def acI (B X:Nat->Int) (i:Nat):Int:=if i=0 then 0 else rowI B X (c1R i)
def acP (B X:Nat->Py) (i:Nat):Py:=if Nat.beq i 0 then [] else rowP B X (c1R i)
theorem zi3 {i:Nat}:∀ c∈c1R i,c∈ctR i:=fun c hc=>(List.mem_filter.1 hc).1
theorem zAN {A A' B B':Nat->Int} {i:Nat} (hi:i<38) (ha:∀ i,i<38->A i%10007=A' i%10007) (hb:∀ i,i<38->B i%10007=B' i%10007):acI A B i%10007=acI A' B' i%10007:=by
 unfold acI
 split
 .rfl
 .exact zbY fun c hc=>⟨fun v hv=>ha v ((zcw hi c (zi3 c hc)).1 v hv),hb _ (zcw hi c (zi3 c hc)).2⟩
theorem zAH (r:Nat->Int) {A B:Nat->Py} {A' B':Nat->Int} (h:∀ v,v<38->evp r (A v)%10007=A' v%10007) (k:∀ v,v<38->evp r (B v)%10007=B' v%10007) {i:Nat} (hi:i<38):evp r (acP A B i)%10007=acI A' B' i%10007:=by
 unfold acP acI
 by_cases e:i=0
 .subst e; rfl
 .rw [if_neg e,if_neg (by intro x; exact e (Nat.eq_of_beq_eq_true x))]
  exact zjC r _ fun c hc=>⟨fun v hv=>h v ((zcw hi c (zi3 c hc)).1 v hv),k _ (zcw hi c (zi3 c hc)).2⟩
def unJ (i:Nat):Int:=if i=0 then 1 else 0
def xpI (B:Nat->Int):Nat->Nat->Int
 | 0=>unJ
 | k+1=>acI B (xpI B k)
def xpP (B:Nat->Py):Nat->Nat->Py
 | 0=>u0
 | k+1=>acP B (xpP B k)
def ifT:List Nat:=[1,1,5004,1668,417,8089,3016]
def ifI (k:Nat):Int:=((ifT[k]?.getD 0:Nat):Int)
def expI (B:Nat->Int) (i:Nat):Int:=xpI B 0 i+xpI B 1 i*ifI 1+xpI B 2 i*ifI 2+xpI B 3 i*ifI 3+xpI B 4 i*ifI 4+xpI B 5 i*ifI 5+xpI B 6 i*ifI 6
def tmP (B:Nat->Py) (k i:Nat):Py:=mulP [(ifT[k]?.getD 0,[])] (xpP B k i)
def expP (B:Nat->Py) (i:Nat):Py:=addP (tmP B 6 i) (addP (tmP B 5 i) (addP (tmP B 4 i) (addP (tmP B 3 i) (addP (tmP B 2 i) (addP (tmP B 1 i) (xpP B 0 i))))))
theorem zDy (r:Nat->Int) {i:Nat}:evp r (u0 i)%10007=unJ i%10007:=by
 unfold u0 unJ
 by_cases e:i=0
 .subst e; show evp r [(1,[])]%10007=1%10007; rw [ziS]
 .rw [if_neg e,if_neg (by intro x; exact e (Nat.eq_of_beq_eq_true x))]; rfl
theorem zqZ (r:Nat->Int) {B:Nat->Py} {B':Nat->Int} (h:∀ v,v<38->evp r (B v)%10007=B' v%10007):∀ k i,i<38->evp r (xpP B k i)%10007=xpI B' k i%10007
 | 0,i,_=>zDy r
 | k+1,i,hi=>zAH r h (fun v hv=>zqZ r h k v hv) hi
theorem zsj (r:Nat->Int) {B:Nat->Py} {B':Nat->Int} (h:∀ v,v<38->evp r (B v)%10007=B' v%10007) {i:Nat} (hi:i<38):evp r (expP B i)%10007=expI B' i%10007:=by
 have t:∀ k,evp r (tmP B k i)%10007=xpI B' k i*ifI k%10007:=fun k=>by
  unfold tmP
  rw [zgv,zzA,Int.mul_comm]
  exact zaq (zqZ r h k i hi) rfl
 have t1:=t 1
 have t2:=t 2
 have t3:=t 3
 have t4:=t 4
 have t5:=t 5
 have t6:=t 6
 have t0:=zqZ r h 0 i hi
 unfold expP expI
 rw [zdq]
 have s5:=zdq r (tmP B 5 i) (addP (tmP B 4 i) (addP (tmP B 3 i) (addP (tmP B 2 i) (addP (tmP B 1 i) (xpP B 0 i)))))
 have s4:=zdq r (tmP B 4 i) (addP (tmP B 3 i) (addP (tmP B 2 i) (addP (tmP B 1 i) (xpP B 0 i))))
 have s3:=zdq r (tmP B 3 i) (addP (tmP B 2 i) (addP (tmP B 1 i) (xpP B 0 i)))
 have s2:=zdq r (tmP B 2 i) (addP (tmP B 1 i) (xpP B 0 i))
 have s1:=zdq r (tmP B 1 i) (xpP B 0 i)
 generalize xpI B' 1 i*ifI 1=x1 at *
 generalize xpI B' 2 i*ifI 2=x2 at *
 generalize xpI B' 3 i*ifI 3=x3 at *
 generalize xpI B' 4 i*ifI 4=x4 at *
 generalize xpI B' 5 i*ifI 5=x5 at *
 generalize xpI B' 6 i*ifI 6=x6 at *
 omega
def vb (k i:Nat):Py:=if Nat.beq i 0 then [] else [(1,[k+i])]
theorem zwt {r:Nat->Int} {k:Nat} {A:Nat->Int} (h0:A 0%10007=0) (h:∀ i,i<38->r (k+i)=A i) {i:Nat} (hi:i<38):evp r (vb k i)%10007=A i%10007:=by
 unfold vb
 split
 .rename_i e
  rw [Nat.eq_of_beq_eq_true e,h0]; rfl
 .rw [zzW,h i hi]
def qP (i:Nat):Py:=addT (10006,[i]) (expP (vb 0) i)
theorem ztC:(List.range 37).all (fun j=>(qP (j+1)).all fun t=>t.2.all fun v=>decide (v<38) && decide (nd v<nd (j+1)))=true:=by decide +kernel
theorem zoh {r s:Nat->Int}:∀ {m:List Nat},(∀ v∈m,r v%10007=s v%10007)->evm r m%10007=evm s m%10007
 | [],_=>rfl
 | v::m,h=>zaq (h v (by simp)) (zoh fun w hw=>h w (by simp [hw]))
theorem zn6 {r s:Nat->Int}:∀ {P:Py},(∀ t∈P,∀ v∈t.2,r v%10007=s v%10007)->evp r P%10007=evp s P%10007
 | [],_=>rfl
 | t::P,h=>zcW (zaq rfl (zoh (h t (by simp)))) (zn6 fun u hu=>h u (by simp [hu]))
theorem ziI {B:Nat->Int} (h0:B 0%10007=0) {i:Nat} (hi:i<38) (hp:0<i):expI B i%10007=(B i+evp B (qP i))%10007:=by
 have e:=zsj B (B:=vb 0) (B':=B) (fun v hv=>zwt h0 (fun j _=>by rw [Nat.zero_add]) hv) hi
 have k:=zf4 B (10006,[i]) (expP (vb 0) i)
 have s:evm B [i]=B i:=by simp [evm]
 unfold qP
 rw [s] at k
 simp only at k
 have c:((10006:Nat):Int)=10006:=rfl
 rw [c] at k
 generalize B i=x at *
 omega
theorem zww {B B':Nat->Int} {i:Nat} (hi:i<38) (hp:0<i) (h:∀ j,j<38->nd j<nd i->B j%10007=B' j%10007):evp B (qP i)%10007=evp B' (qP i)%10007:=by
 obtain ⟨j,rfl⟩:∃ j,i=j+1:=⟨i-1,by omega⟩
 refine zn6 fun t ht v hv=>?_
 have k:=List.all_eq_true.1 (List.all_eq_true.1 (List.all_eq_true.1 ztC j (List.mem_range.2 (by omega))) t ht) v hv
 simp only [Bool.and_eq_true,decide_eq_true_eq] at k
 exact h v k.1 k.2
def expS (b:List Int):List Int:=mk38 (expI (iat b))
def Inf (b:List Int):Prop:=N38 b/\iat b 0=0
theorem zsP (B:Nat->Int):expI B 0=1:=by
 have:∀ k,xpI B (k+1) 0=0:=fun k=>by rw [xpI,acI,if_pos rfl]
 unfold expI
 rw [this 0,this 1,this 2,this 3,this 4,this 5]
 simp [xpI,unJ]
theorem zhE (b:List Int):Ch (expS b):=⟨zdc _,by unfold expS; rw [zcA _ (by decide),zsP]; rfl⟩
theorem ze3 (b:List Int) {i:Nat} (hi:i<38):iat (expS b) i%10007=expI (iat b) i%10007:=zbX _ hi
theorem zxL {b c:List Int} (hb:Inf b) (hc:Inf c) (h:expS b=expS c):b=c:=by
 have key:∀ n,∀ i,i<38->nd i<=n->iat b i%10007=iat c i%10007:=fun n=>by
  induction n with
  | zero =>
   intro i hi hl
   rcases Nat.eq_zero_or_pos i with rfl | h0
   .rw [hb.2,hc.2]
   .have:=zp6 hi h0; omega
  | succ n ih =>
   intro i hi hl
   rcases Nat.eq_zero_or_pos i with rfl | h0
   .rw [hb.2,hc.2]
   .have e1:=ze3 b hi
    have e2:=ze3 c hi
    rw [ziI (by rw [hb.2]; rfl) hi h0] at e1
    rw [ziI (by rw [hc.2]; rfl) hi h0] at e2
    have q:=zww (B:=iat b) (B':=iat c) hi h0 fun j hj hl2=>ih j hj (by omega)
    rw [h] at e1
    omega
 exact hb.1.ext hc.1 fun i hi=>key 6 i hi (zpr hi)
def lgS (a:List Int):Nat->List Int
 | 0=>mk38 fun _=>0
 | n+1=>mk38 fun i=>iat (lgS a n) i+if nd i=n+1 then iat a i-iat (expS (lgS a n)) i else 0
theorem zB6 (a:List Int):∀ n,N38 (lgS a n)
 | 0=>zdc _
 | n+1=>zdc _
theorem zjc (a:List Int):∀ n,Inf (lgS a n)
 | 0=>⟨zB6 a 0,by rw [lgS,zcA _ (by decide)]; rfl⟩
 | n+1=>⟨zB6 a (n+1),by
  rw [lgS,zcA _ (by decide),(zjc a n).2,if_neg (by show ¬ 0=n+1; omega)]; rfl⟩
theorem zwB {a:List Int} (ha:Ch a):∀ n,Agr (expS (lgS a n)) a n
 | 0=>fun i hi hl=>by
  rcases Nat.eq_zero_or_pos i with rfl | h0
  .rw [(zhE _).2,ha.2]
  .have:=zp6 hi h0; omega
 | n+1=>fun i hi hl=>by
  rcases Nat.eq_zero_or_pos i with rfl | h0
  .rw [(zhE _).2,ha.2]
  .have ih:=zwB ha n
   have e1:=ze3 (lgS a (n+1)) hi
   have e2:=ze3 (lgS a n) hi
   rw [ziI (by rw [(zjc a (n+1)).2]; rfl) hi h0] at e1
   rw [ziI (by rw [(zjc a n).2]; rfl) hi h0] at e2
   have step:∀ j,j<38->iat (lgS a (n+1)) j%10007=(iat (lgS a n) j+if nd j=n+1 then iat a j-iat (expS (lgS a n)) j else 0)%10007:=fun j hj=>zbX _ hj
   have q:=zww (B:=iat (lgS a (n+1))) (B':=iat (lgS a n)) hi h0 fun j hj hl2=>by rw [step j hj,if_neg (by omega),Int.add_zero]
   have r1:=(zhE (lgS a (n+1))).1.at i
   have r2:=ha.1.at i
   have s:=step i hi
   by_cases hn:nd i=n+1
   .rw [if_pos hn] at s
    omega
   .rw [if_neg hn,Int.add_zero] at s
    have:=ih i hi (by omega)
    omega
def logS (a:List Int):List Int:=lgS a 6
theorem ztl {a:List Int} (ha:Ch a):expS (logS a)=a :=
 (zhE _).1.ext ha.1 fun i hi=>congrArg (·%10007) (zwB ha 6 i hi (zpr hi))
theorem zja (a:List Int):Inf (logS a):=zjc a 6
end Go.Proofs.YthhdollpkieknaaGreat


namespace Go.Proofs.YthhdollpkieknaaGreat
open Go.Abs
def ra7 (b x:List Int) (L:List Ctp):Int:=L.foldl (fun s c=>(s+(c.1:Int)*(iat b (c.2.1.headD 0)*iat x c.2.2%10007)%10007)%10007) 0
theorem zot (b x:List Int) (L:List Ctp) (c:Ctp):ra7 b x (L++[c])=(ra7 b x L+(c.1:Int)*(iat b (c.2.1.headD 0)*iat x c.2.2%10007)%10007)%10007:=by simp [ra7]
theorem zys (b x:List Int) (L:List Ctp):(∀ c∈L,c.2.1.length=1)->ra7 b x L%10007=rowI (iat b) (iat x) L%10007:=by
 generalize hn:L.length=n
 induction n generalizing L with
 | zero=>intro _; rw [List.length_eq_zero_iff.1 hn]; rfl
 | succ n ih =>
  intro hL
  rcases List.eq_nil_or_concat L with rfl | ⟨h,c,rfl⟩
  .simp at hn
  .rw [List.concat_eq_append] at hn hL |-
   rw [zot,zey,Int.emod_emod_of_dvd _ (Int.dvd_refl _)]
   refine zcW (ih h (by simpa using hn) fun d hd=>hL d (by simp [hd])) ?_
   obtain ⟨n,l,t⟩:=c
   have h1:l.length=1:=hL (n,l,t) (by simp)
   obtain ⟨v,rfl⟩:∃ v,l=[v]:=List.length_eq_one_iff.1 h1
   rw [Int.emod_emod_of_dvd _ (Int.dvd_refl _)]
   refine zaq rfl ?_
   rw [Int.emod_emod_of_dvd _ (Int.dvd_refl _)]
   simp [prI]
def xs7 (b:List Int):Nat->List Int
 | 0=>zbT
 | k+1=>mk38 (acI (iat b) (iat (xs7 b k)))
def ex7 (b:List Int):Nat->List Int
 | 0=>zbT
 | k+1=>adL (ex7 b k) (xs7 b (k+1)) (ifI (k+1))
theorem zD2 {a b:List Int} (k:Int) (ha:a.length=38):N38 (adL a b k):=⟨by rw [zzT,ha],fun x hx=>by
 obtain ⟨i,_,rfl⟩:=List.mem_map.1 hx
 have:=zaf (iat a i+k*iat b i%10007)
 exact ⟨this.1,by have:=this.2; omega⟩⟩
theorem zuJ (b:List Int):∀ k,N38 (xs7 b k)
 | 0=>zc2.1
 | k+1=>zdc _
theorem zlJ (b:List Int):∀ k,N38 (ex7 b k)
 | 0=>zc2.1
 | k+1=>zD2 _ (zlJ b k).1
theorem zlY (b:List Int):∀ k i,i<38->iat (xs7 b k) i%10007=xpI (iat b) k i%10007
 | 0,i,hi=>by
  show iat zbT i%10007=unJ i%10007
  rw [zxm hi]; rfl
 | k+1,i,hi=>by
  rw [xs7,zbX _ hi,xpI]
  exact zAN hi (fun _ _=>rfl) (fun j hj=>zlY b k j hj)
theorem zAI {a b:List Int} (k:Int) {i:Nat} (h:i<a.length):iat (adL a b k) i=(iat a i+k*iat b i%10007)%10007:=by
 show (adL a b k)[i]?.getD 0=_
 simp [adL,h]
theorem zd5 (b:List Int) (k:Nat) {i:Nat} (hi:i<38):iat (ex7 b (k+1)) i%10007=(iat (ex7 b k) i+xpI (iat b) (k+1) i*ifI (k+1))%10007:=by
 rw [ex7,zAI _ (by rw [(zlJ b k).1]; exact hi),Int.emod_emod_of_dvd _ (Int.dvd_refl _)]
 refine zcW rfl ?_
 rw [Int.emod_emod_of_dvd _ (Int.dvd_refl _),Int.mul_comm]
 exact zaq (zlY b (k+1) i hi) rfl
theorem zzO (b:List Int):ex7 b 6=expS b:=by
 refine (zlJ b 6).ext (zhE b).1 fun i hi=>?_
 rw [ze3 b hi]
 have s1:=zd5 b 0 hi
 have s2:=zd5 b 1 hi
 have s3:=zd5 b 2 hi
 have s4:=zd5 b 3 hi
 have s5:=zd5 b 4 hi
 have s6:=zd5 b 5 hi
 have s0:iat (ex7 b 0) i%10007=xpI (iat b) 0 i%10007:=zlY b 0 i hi
 unfold expI
 simp only [Nat.zero_add,Nat.reduceAdd] at s1 s2 s3 s4 s5 s6
 generalize xpI (iat b) 1 i*ifI 1=x1 at *
 generalize xpI (iat b) 2 i*ifI 2=x2 at *
 generalize xpI (iat b) 3 i*ifI 3=x3 at *
 generalize xpI (iat b) 4 i*ifI 4=x4 at *
 generalize xpI (iat b) 5 i*ifI 5=x5 at *
 generalize xpI (iat b) 6 i*ifI 6=x6 at *
 omega
theorem fr7 {k:Nat} (hk:k<=6):1%10007*pw (fact k%10007) 10005%10007=ifI k:=by
 have ok:(List.range 7).all (fun k=>decide (1%10007*((fp 15 (fact k%10007).toNat 10005:Nat):Int)%10007=ifI k) && decide (0<=fact k%10007))=true:=by decide +kernel
 have h:=List.all_eq_true.1 ok k (List.mem_range.2 (by omega))
 simp only [Bool.and_eq_true,decide_eq_true_eq] at h
 have e:=zpf (fact k%10007).toNat
 rw [Int.toNat_of_nonneg h.2] at e
 rw [<- e]
 exact h.1
end Go.Proofs.YthhdollpkieknaaGreat


namespace Go.Proofs.YthhdollpkieknaaGreat
open Go.Abs
end Go.Proofs.YthhdollpkieknaaGreat


namespace Go.Proofs.YthhdollpkieknaaGreat
open Go.Abs
end Go.Proofs.YthhdollpkieknaaGreat


namespace Go.Proofs.YthhdollpkieknaaGreat
open Go.Abs
def DrM (first:Int) (a:List Int):Prop:=a.length=38/\iat a 0=first/\∀ i,1<=i->isN (iat a i)
theorem DrM.set {first:Int} {a:List Int} (h:DrM first a) {i:Nat} {x:Int} (hi:1<=i) (hx:isN x):DrM first (a.set i x):=by
 obtain ⟨h1,h2,h3⟩:=h
 refine ⟨by rw [List.length_set,h1],?_,fun j hj=>?_⟩
 .unfold iat at *
  rw [List.getElem?_set_ne (by omega)]; exact h2
 .unfold iat at *
  by_cases e:i=j
  .subst e
   by_cases hl:i<a.length
   .rw [List.getElem?_set_self hl]; exact hx
   .rw [List.getElem?_eq_none (by rw [List.length_set]; omega)]; exact ⟨by decide,by decide⟩
  .rw [List.getElem?_set_ne e]; exact h3 j hj
theorem DrM.first {f g:Int} {a:List Int} (h:DrM f a):DrM g (a.set 0 g):=by
 obtain ⟨h1,h2,h3⟩:=h
 refine ⟨by rw [List.length_set,h1],?_,fun j hj=>?_⟩
 .unfold iat
  rw [List.getElem?_set_self (by omega)]; rfl
 .unfold iat at *
  rw [List.getElem?_set_ne (by omega)]; exact h3 j hj
theorem DrM.n38 {first:Int} {a:List Int} (hf:isN first) (h:DrM first a):N38 a:=⟨h.1,fun x hx=>by
 obtain ⟨i,hi,rfl⟩:=List.getElem_of_mem hx
 rcases Nat.eq_zero_or_pos i with rfl | h0
 .have e:=h.2.1
  unfold iat at e
  rw [List.getElem?_eq_getElem hi,Option.getD_some] at e
  rw [e]; exact ⟨hf.1,by have:=hf.2; omega⟩
 .have e:=h.2.2 i h0
  unfold iat at e
  rw [List.getElem?_eq_getElem hi,Option.getD_some] at e
  exact ⟨e.1,by have:=e.2; omega⟩⟩
theorem DrM.cons {first:Int} {l:List Int} (hl:l.length=37) (hN:Ns l):DrM first (first::l):=⟨by rw [List.length_cons,hl],rfl,fun i hi=>by
 obtain ⟨j,rfl⟩:∃ j,i=j+1:=⟨i-1,by omega⟩
 unfold iat
 rw [List.getElem?_cons_succ]
 exact hN.get j⟩
def DrA (a:List Int):Prop:=37<=a.length/\a.length<=38/\∀ x∈a,fits x
theorem DrA.set {a:List Int} {i:Nat} {x:Int} (h:DrA a) (hx:fits x):DrA (a.set i x):=⟨by rw [List.length_set]; exact h.1,by rw [List.length_set]; exact h.2.1,fun y hy=>by
 rcases List.mem_or_eq_of_mem_set hy with hy | rfl
 .exact h.2.2 y hy
 .exact hx⟩
theorem DrM.n0 {a:List Int} (h:DrM 0 a):N38 a:=h.n38 ⟨by decide,by decide⟩
def DrG (g:List Int):Prop:=g.length<=10/\∀ x∈g,fits x
theorem DrG.ns {g:List Int} (hl:g.length<=10) (h:Ns g):DrG g:=⟨hl,fun x hx=>by have:=h x hx; exact ⟨by have:=this.1; omega,by have:=this.2; omega⟩⟩
end Go.Proofs.YthhdollpkieknaaGreat


namespace Go.Proofs.YthhdollpkieknaaGreat
open Go.Abs
end Go.Proofs.YthhdollpkieknaaGreat


namespace Go.Proofs.YthhdollpkieknaaGreat
open Go.Abs
end Go.Proofs.YthhdollpkieknaaGreat


namespace Go.Proofs.YthhdollpkieknaaGreat
open Go.Abs
theorem zyV (a b:List Int) (ha:Ch a) (hb:N38 b) :
  Con Tryz.prog 26 [.sl a.length (avs a),.sl b.length (avs b)] (.own 2 38 (avs (cvS a b))):=by
 have c:=zpm a b ha hb
 generalize cvS a b=X at *
 refine zab Tryz.mixed ⟨7,[],[],[]⟩ Tryz.func26 ?_
 rw [Tryz.ntmps26]
 simp [go_sem]
 refine CallVC.of (c) ?_
 simp [go_sem]
end Go.Proofs.YthhdollpkieknaaGreat


namespace Go.Proofs.YthhdollpkieknaaGreat
open Go.Abs
theorem zqg (a b:List (List Int)) (ha:a.length<=1048576) (hr:∀ r∈a,r.length<=1048576):Con Tryz.prog 21 [.sl a.length (mat a),.sl b.length (mat b)] (.bool (decide (a=b))):=by
 by_cases hl:a.length=b.length
 .have hl2:(a.length:Int)=b.length:=by omega
  refine zab Tryz.mixed ⟨5,[],[],[]⟩ Tryz.func21 ?_
  rw [Tryz.ntmps21]
  simp [go_sem]
  simp [go_sem,hl]
  refine zac (4::5::List.range' 11 16) (fun i:Nat=>[(5,.int i)]) (fun i=>i<=b.length/\∀ j,j<i->a[j]?.getD []=b[j]?.getD []) (fun i=>b.length-i) 0 (by simp) (by simp [go_sem]) (by simp [go_sem]) ?_
  rintro i ⟨hi,hj⟩
  simp [go_sem]
  refine ⟨fun h=>?_,fun h=>?_⟩ <;> simp at h
  .have hib:i<b.length:=by omega
   have hia:i<a.length:=by omega
   have na:¬ a=[]:=by rintro rfl; simp at hia
   have nb:¬ b=[]:=by rintro rfl; simp at hib
   have hA:=zag hia
   have hB:=zag hib
   have hra:=hr (a[i]?.getD []) (by simp [hia])
   have cL:=zcP (a[i]?.getD []) (b[i]?.getD []) (by omega)
   obtain ⟨x,hx⟩:∃ x,a[i]?.getD []=x:=⟨_,rfl⟩
   obtain ⟨y,hy⟩:∃ y,b[i]?.getD []=y:=⟨_,rfl⟩
   rw [hx] at hA cL hra
   rw [hy] at hB cL
   simp [go_sem,hA,hB]
   refine ⟨by kernel_rfl,⟨hib,na⟩,⟨hib,nb⟩,?_⟩
   refine CallD.of (cL) ?_
   simp [go_sem]
   refine ⟨by kernel_rfl,?_⟩
   simp [go_sem]
   by_cases hxy:x=y
   .simp [go_sem,hxy]
    refine ⟨⟨by omega,by omega⟩,i+1,⟨by omega,fun j hj2=>?_⟩,by omega,zaa _ _ _ (by simp),by omega⟩
    rcases Nat.lt_or_ge j i with h3 | h3
    .exact hj j h3
    .have:j=i:=by omega
     subst this
     rw [hx,hy,hxy]
   .have e:¬ a=b:=fun e=>hxy (by rw [<- hx,<- hy,e])
    simp [go_sem,hxy,e]
  .have e:a=b:=by
    refine List.ext_getElem hl fun k h1 h2=>?_
    have:=hj k (by omega)
    simpa [h1,h2] using this
   simp [go_sem,e]
 .have e:¬ a=b:=fun e=>hl (by rw [e])
  have hl2:¬ (a.length:Int)=b.length:=by omega
  refine zab Tryz.mixed ⟨5,[],[],[]⟩ Tryz.func21 ?_
  rw [Tryz.ntmps21]
  simp [go_sem]
  simp [go_sem,hl2,e]
def raF (b x:List Int) (L:List Ctp):Int:=L.foldl (fun s c=>s+(c.1:Int)*(iat b (c.2.1.headD 0)*iat x c.2.2%10007)%10007) 0
theorem ziZ (b x:List Int) (L:List Ctp) (c:Ctp):raF b x (L++[c])=raF b x L+(c.1:Int)*(iat b (c.2.1.headD 0)*iat x c.2.2%10007)%10007:=by simp [raF]
theorem zwq (b x:List Int) (L:List Ctp):0<=raF b x L/\raF b x L<=10006*L.length:=by
 generalize hn:L.length=n
 induction n generalizing L with
 | zero=>rw [List.length_eq_zero_iff.1 hn]; exact ⟨Int.le_refl 0,by show (0:Int)<=_; omega⟩
 | succ n ih =>
  rcases List.eq_nil_or_concat L with rfl | ⟨h,y,rfl⟩
  .simp at hn
  .rw [List.concat_eq_append] at hn |-
   obtain ⟨i1,i2⟩:=ih h (by simpa using hn)
   rw [ziZ]
   omega
theorem zzq (b x:List Int) (L:List Ctp):raF b x L%10007=ra7 b x L%10007:=by
 generalize hn:L.length=n
 induction n generalizing L with
 | zero=>rw [List.length_eq_zero_iff.1 hn]; rfl
 | succ n ih =>
  rcases List.eq_nil_or_concat L with rfl | ⟨h,y,rfl⟩
  .simp at hn
  .rw [List.concat_eq_append] at hn |-
   have:=ih h (by simpa using hn)
   rw [ziZ,zot]
   omega
theorem zzu (b x:List Int) (hb:N38 b) (hx:N38 x) :
  Con Tryz.prog 174 [.agg [.sl 37 (mat (trN 6)),.sl 37 fcF],.sl b.length (avs b),.sl x.length (avs x)] (.own 2 38 (avs (mk38 (acI (iat b) (iat x))))):=by
 have t1:=zdw (acI (iat b) (iat x)) (i:=0) (by omega)
 have e0:acI (iat b) (iat x) 0%10007=0:=by unfold acI; rw [if_pos rfl]; rfl
 rw [List.take_zero,List.nil_append,e0] at t1
 have tk:=fun i (h:i<38)=>zdw (acI (iat b) (iat x)) h
 have ta:=znI (acI (iat b) (iat x))
 have lo:(mk38 (acI (iat b) (iat x))).length=38:=(zdc _).1
 have lb:=hb.1
 have lx:=hx.1
 have nb:=hb.ne
 have nx:=hx.ne
 have nF:=zq5
 have hF:=fun i h=>ziL (i:=i) h
 generalize hO:mk38 (acI (iat b) (iat x))=O at *
 generalize fcF=FC at *
 refine zab Tryz.mixed ⟨13,[],[],[]⟩ Tryz.func174 ?_
 rw [Tryz.ntmps174]
 simp [go_sem]
 refine zac (7::9::10::12::List.range' 17 41) (fun i:Nat=>[(7,.own 2 (i+1) (avs (O.take (i+1)))),(17,.int i)]) (fun i=>i<=37) (fun i=>37-i) 0 (by simp) (by simp [go_sem,t1,avs]) (by simp [go_sem]) ?_
 intro i hi
 by_cases hil:i<37
 .have hii:(i:Int)<37:=by omega
  have dr:=hF i hil
  obtain ⟨r1,r2⟩:=ztA (i:=i+1) (by omega)
  have rk:=zcw (i:=i+1) (by omega)
  have tk1:=tk (i+1) (by omega)
  have cv:acI (iat b) (iat x) (i+1)=rowI (iat b) (iat x) (c1R (i+1)):=by unfold acI; rw [if_neg (by omega)]
  rw [cv] at tk1
  have hc1:c1R (i+1)=(ctR (i+1)).filter fun c=>decide (c.2.1.length=1):=rfl
  rw [hc1] at tk1
  generalize ctR (i+1)=R at *
  simp [go_sem,hii,dr]
  refine ⟨nF,?_⟩
  refine zac (10::12::List.range' 23 29) (fun j:Nat=>[(10,.int (raF b x ((R.take j).filter fun c=>decide (c.2.1.length=1)))),(23,.int j)]) (fun j=>j<=R.length) (fun j=>R.length-j) 0 (by simp) (by simp [go_sem,raF]) (by simp [go_sem]) ?_
  intro j hj
  by_cases hjl:j<R.length
  .have hji:(j:Int)<R.length:=by omega
   have cd:=zge hjl
   have hmm:=memD (0,[],0) hjl
   obtain ⟨q1,q2⟩:=r2 _ hmm
   obtain ⟨k1,k2⟩:=rk _ hmm
   have tj:(R.take (j+1)).filter (fun c=>decide (c.2.1.length=1))=(R.take j).filter (fun c=>decide (c.2.1.length=1))++[R[j]?.getD (0,[],0)].filter (fun c=>decide (c.2.1.length=1)):=by
    rw [<- List.filter_append,List.take_succ_eq_append_getElem hjl,List.getElem?_eq_getElem hjl]; rfl
   have rs:=ziZ b x ((R.take j).filter fun c=>decide (c.2.1.length=1)) (R[j]?.getD (0,[],0))
   have bd:=zwq b x ((R.take j).filter fun c=>decide (c.2.1.length=1))
   have bl:((R.take j).filter fun c=>decide (c.2.1.length=1)).length<=100:=by
    have:=List.length_filter_le (fun c:Ctp=>decide (c.2.1.length=1)) (R.take j)
    rw [List.length_take] at this; omega
   have nR:¬ R.flatMap ctF=[]:=by intro e; have:=zcZ R; rw [e] at this; simp at this; omega
   have lR:=zcZ R
   generalize (R.take j).filter (fun c=>decide (c.2.1.length=1))=X at *
   generalize R[j]?.getD (0,[],0)=c at *
   obtain ⟨n,l,t⟩:=c
   simp only [ctF] at cd q1 q2 k1 k2 rs
   generalize hMC:R.flatMap ctF=MC at *
   by_cases hl1:l.length=1
   .rw [List.filter_cons,if_pos (by simpa using hl1),List.filter_nil] at tj
    rw [<- tj] at rs
    obtain ⟨v,rfl⟩:∃ v,l=[v]:=List.length_eq_one_iff.1 hl1
    have hv:v<38:=k1 v (by simp)
    have bN:isN (iat b v):=hb.Ns.get v
    have xN:isN (iat x t):=hx.Ns.get t
    have dbv:=zav (a:=b) (v:=v) (by omega)
    have dxt:=zav (a:=x) (v:=t) (by omega)
    have f1:=zax bN xN
    have c1:=za3 (iat b v*iat x t) f1.1 f1.2
    have m1:=zaf (iat b v*iat x t)
    have f2:=zax (show isN (n:Int) from ⟨by omega,by omega⟩) m1
    have c2:=za3 ((n:Int)*(iat b v*iat x t%10007)) f2.1 f2.2
    have m2:=zaf ((n:Int)*(iat b v*iat x t%10007))
    have w1:=m2.1; have w2:=m2.2
    have en:nvs [v]=[(v:Int)]:=rfl
    have en2:avs [(v:Int)]=[AV.int v]:=rfl
    rw [en,en2] at cd
    simp only [List.headD_cons] at rs
    generalize raF b x X=s at *
    obtain ⟨f3,f4⟩:=f1
    obtain ⟨f5,f6⟩:=f2
    generalize hp1:iat b v*iat x t%10007=p1 at *
    generalize hp2:(n:Int)*p1%10007=p2 at *
    generalize iat b v=y at *
    generalize iat x t=z at *
    simp [go_sem,hji,cd]
    refine ⟨nR,by kernel_rfl,?_⟩
    simp [go_sem,dbv,dxt]
    refine ⟨⟨by omega,nb⟩,⟨by omega,nx⟩,?_⟩
    refine ⟨⟨f3,f4⟩,?_⟩
    refine CallD.of (c1) ?_
    simp [go_sem]
    refine ⟨⟨f5,f6⟩,?_⟩
    refine CallD.of (c2) ?_
    simp [go_sem]
    refine ⟨⟨by omega,by omega⟩,?_⟩
    refine ⟨by kernel_rfl,?_⟩
    simp [go_sem]
    refine ⟨⟨by omega,by omega⟩,j+1,by omega,by omega,zaa _ _ _ (by simp),?_⟩
    rw [rs]
    exact ⟨rfl,by omega⟩
   .rw [List.filter_cons,if_neg (by simpa using hl1),List.filter_nil,List.append_nil] at tj
    have hli:¬ (l.length:Int)=1:=by omega
    simp [go_sem,hji,cd,hl1,hli]
    refine ⟨nR,⟨by omega,by omega⟩,j+1,by omega,by omega,zaa _ _ _ (by simp),?_⟩
    rw [tj]
    exact ⟨rfl,by omega⟩
  .have e:j=R.length:=by omega
   subst e
   have hji:¬ (R.length:Int)<R.length:=by omega
   have rm:=zys b x (R.filter fun c=>decide (c.2.1.length=1)) (fun c hc=>by simpa using (List.mem_filter.1 hc).2)
   have rf:=zzq b x (R.filter fun c=>decide (c.2.1.length=1))
   have bd:=zwq b x (R.filter fun c=>decide (c.2.1.length=1))
   have bl:(R.filter fun c=>decide (c.2.1.length=1)).length<=100:=by
    have:=List.length_filter_le (fun c:Ctp=>decide (c.2.1.length=1)) R
    omega
   rw [<- rm,<- rf] at tk1
   rw [List.take_length]
   generalize raF b x (R.filter fun c=>decide (c.2.1.length=1))=s at *
   have cN:=za3 s (by omega) (by omega)
   simp [go_sem,hji]
   refine CallVC.of (cN) ?_
   simp [go_sem]
   refine ⟨⟨by omega,by omega,by omega⟩,⟨by omega,by omega⟩,i+1,by omega,by omega,(Off.reset (by intro x hx; simp at hx |-; omega) (by simp) (by simp [go_sem,zaa])),?_⟩
   rw [tk1,zam]
   exact ⟨⟨rfl,rfl⟩,by omega⟩
 .have e:i=37:=by omega
  subst e
  rw [ta]
  simp [go_sem]
theorem zDQ (a b:List Int) (k:Int):za6 a b k=adL a b k:=by
 unfold za6 adL tb
 refine List.map_congr_left fun i _=>?_
 show (iat a i+k%10007*iat b i)%10007=(iat a i+k*iat b i%10007)%10007
 refine zcW rfl ?_
 rw [Int.emod_emod_of_dvd _ (Int.dvd_refl _)]
 exact zaq (Int.emod_emod_of_dvd _ (Int.dvd_refl _)) rfl
theorem fr8 {k:Nat} (hk:k<=6):pw (fact k) 10005=ifI k:=by
 have h:=fr7 hk
 have f6:0<=fact k/\fact k<10007:=by
  have ok:(List.range 7).all (fun k=>decide (0<=fact k) && decide (fact k<10007))=true:=by decide
  have h:=List.all_eq_true.1 ok k (List.mem_range.2 (by omega))
  simpa using h
 have pN:=pw_N (fact k) 10005
 have:=pN.1; have:=pN.2
 rw [Int.emod_eq_of_lt f6.1 f6.2] at h
 generalize pw (fact k) 10005=v at *
 omega
theorem zwl (b:List Int) (hb:N38 b):Con Tryz.prog 90 [.agg [.sl 37 (mat (trN 6)),.sl 37 fcF],.sl b.length (avs b)] (.own 2 38 (avs (expS b))):=by
 have cU:=zht
 have e0:ex7 b 0=zbT:=rfl
 have e1:xs7 b 0=zbT:=rfl
 have cA:=fun k=>zzu b (xs7 b k) hb (zuJ b k)
 have eA:∀ k,mk38 (acI (iat b) (iat (xs7 b k)))=xs7 b (k+1):=fun k=>rfl
 have iN:∀ k,k<=6->isN (ifI k):=fun k hk=>by rw [<- fr8 hk]; exact pw_N _ _
 have cS:=fun k (hk:k+1<=6)=>ziv (ex7 b k) (xs7 b (k+1)) (ifI (k+1)) (zlJ b k).Ns (zuJ b (k+1)).Ns (by have:=iN _ hk; exact ⟨by have:=this.1; omega,by have:=this.2; omega⟩) (by rw [(zlJ b k).1]; omega) (by rw [(zlJ b k).1,(zuJ b (k+1)).1]; omega)
 have eS:∀ k,za6 (ex7 b k) (xs7 b (k+1)) (ifI (k+1))=ex7 b (k+1):=fun k=>by rw [zDQ]; rfl
 have lx:=fun k=>(zuJ b k).1
 have le:=fun k=>(zlJ b k).1
 have lb:=hb.1
 simp only [eA,lx] at cA
 simp only [eS,le,lx] at cS
 rw [<- zzO]
 generalize ex7 b=E at *
 generalize xs7 b=X at *
 generalize fcF=FC at *
 have cU1:=cU
 rw [<- e0] at cU
 rw [<- e1] at cU1
 refine zab Tryz.mixed ⟨8,[],[],[]⟩ Tryz.func90 ?_
 rw [Tryz.ntmps90]
 simp [go_sem]
 refine CallVC.of (cU) ?_
 simp [go_sem]
 refine CallVC.of (cU1) ?_
 simp [go_sem]
 refine zac (5::6::7::List.range' 10 14) (fun k:Nat=>[(5,.own 2 38 (avs (E k))),(6,.own 2 38 (avs (X k))),(7,.int (k+1))]) (fun k=>k<=6) (fun k=>6-k) 0 (by simp) (by simp [go_sem]) (by simp [go_sem]) ?_
 intro k hk
 by_cases hk6:k<6
 .have hki:(k:Int)+1<=6:=by omega
  have c1:=cA k
  have c2:=cS k (by omega)
  have cF:=zmf (k+1) (by omega)
  have f6:0<=fact (k+1)/\fact (k+1)<10007:=by
   have ok:(List.range 7).all (fun k=>decide (0<=fact k) && decide (fact k<10007))=true:=by decide
   have h:=List.all_eq_true.1 ok (k+1) (List.mem_range.2 (by omega))
   simpa using h
  have cR:=zpp (fact (k+1)) ⟨f6.1,by omega⟩
  rw [fr8 (k:=k+1) (by omega)] at cR
  have ek:((k+1:Nat):Int)=(k:Int)+1:=by omega
  rw [ek] at cF
  generalize fact (k+1)=w at *
  generalize ifI (k+1)=q at *
  simp [go_sem,hki]
  refine CallVC.of (c1) ?_
  simp [go_sem]
  refine CallVC.of (cF) ?_
  simp [go_sem]
  refine CallVC.of (cR) ?_
  simp [go_sem]
  refine CallVC.of (c2) ?_
  simp [go_sem]
  exact ⟨⟨by omega,by omega⟩,k+1,by omega,by omega,zaa _ _ _ (by simp),rfl,rfl,by omega⟩
 .have e:k=6:=by omega
  subst e
  simp [go_sem]
theorem zoK (b:List Int) (hb:N38 b) (h0:iat b 0=0):GCon Tryz.prog 89 [.sl b.length (avs b),.val (.slice none 0 0)] (.int 0) [.any,.any]:=by
 have cM:=zfs b (by rw [hb.1]; omega)
 rw [hb.mapB] at cM
 have lb:=hb.1
 have nb:=hb.ne
 have b0:=zav (a:=b) (v:=0) (by omega)
 rw [List.drop_zero,h0] at b0
 refine zap Tryz.mixed ⟨7,[],[],[]⟩ [] Tryz.func89 ?_
 rw [Tryz.ntmps89]
 simp [go_sem]
 refine zac (4::6::List.range' 12 8) (fun k:Nat=>[(12,.int k)]) (fun k=>k<=1) (fun k=>1-k) 0 (by simp) (by simp [go_sem]) (by simp [go_sem]) ?_
 intro k hk
 by_cases hk0:k=0
 .subst hk0
  simp [go_sem]
  refine CallVC.of (cM) ?_
  simp [go_sem]
  exact ⟨1,by omega,by omega,zaa _ _ _ (by simp),rfl⟩
 .have e:k=1:=by omega
  subst e
  simp [go_sem,b0]
  omega
theorem zt4 (b:List Int) (hb:Inf b):Con Tryz.prog 20 [.sl b.length (avs b)] (.tup [.own 2 38 (avs (expS b)),.int 0]):=by
 have c1:=zoK b hb.1 hb.2
 have cF:=zbI
 have c2:=zwl b hb.1
 generalize expS b=X at *
 generalize fcF=FC at *
 refine zab Tryz.mixed ⟨5,[],[1000000+71,1000000+89],[]⟩ Tryz.func20 ?_
 rw [Tryz.ntmps20]
 simp [go_sem]
 refine ⟨_,_,c1,?_⟩
 simp [go_sem]
 refine ⟨_,_,cF,?_⟩
 simp [go_sem]
 refine CallVC.of (c2) ?_
 simp [go_sem]
theorem zk6 (a:List Int) (ha:Ch a):Con Tryz.prog 23 [.sl a.length (avs a)] (.tup [.own 2 38 (avs (invS (scS (-1) a))),.int 0]):=by
 have c1:=zbU a (by rw [ha.1.1]; omega)
 rw [ha.ck] at c1
 have cF:=zbI
 have c2:=zj5 a ha.1
 generalize invS (scS (-1) a)=E at *
 generalize fcF=FC at *
 refine zab Tryz.mixed ⟨5,[],[1000000+71],[]⟩ Tryz.func23 ?_
 rw [Tryz.ntmps23]
 simp [go_sem]
 refine CallVC.of (c1) ?_
 simp [go_sem]
 refine ⟨_,_,cF,?_⟩
 simp [go_sem]
 refine CallVC.of (c2) ?_
 simp [go_sem]
end Go.Proofs.YthhdollpkieknaaGreat


namespace Go.Proofs.YthhdollpkieknaaGreat
def parT:List (List (Nat × List Nat × Nat)):=[[(1,[1],1)],
 [(1,[2],1),(1,[1,1],2)],
 [(1,[3],1),(2,[1,2],2),(1,[1,1,1],3)],
 [(1,[4],1),(2,[1,2],2),(1,[1,1,1],4)],
 [(1,[5],1),(2,[1,3],2),(1,[2,2],2),(3,[1,1,2],3),(1,[1,1,1,1],5)],
 [(1,[6],1),(2,[1,3],2),(1,[1,4],2),(2,[1,1,2],3),(1,[1,1,2],4),(1,[1,1,1,1],6)],
 [(1,[7],1),(1,[1,3],2),(1,[1,4],2),(1,[2,2],2),(1,[1,1,2],3),(2,[1,1,2],4),(1,[1,1,1,1],7)],
 [(1,[8],1),(3,[1,4],2),(3,[1,1,2],4),(1,[1,1,1,1],8)],
 [(1,[9],1),(2,[1,5],2),(2,[2,3],2),(3,[1,1,3],3),(3,[1,2,2],3),(4,[1,1,1,2],5),(1,[1,1,1,1,1],9)],
 [(1,[10],1),(2,[1,5],2),(1,[1,6],2),(1,[2,4],2),(2,[1,1,3],3),(1,[1,1,4],3),(2,[1,2,2],3),(1,[1,1,3],4),(2,[1,1,1,2],5),(2,[1,1,1,2],6),(1,[1,1,1,1,1],10)],
 [(1,[11],1),(1,[1,5],2),(1,[1,6],2),(1,[1,7],2),(1,[2,3],2),(2,[1,1,3],3),(1,[1,1,4],3),(1,[1,2,2],3),(1,[1,1,3],4),(1,[1,2,2],4),(1,[1,1,1,2],5),(2,[1,1,1,2],6),(1,[1,1,1,2],7),(1,[1,1,1,1,1],11)],
 [(1,[12],1),(1,[1,5],2),(1,[1,7],2),(1,[2,3],2),(1,[2,4],2),(1,[1,1,4],3),(2,[1,2,2],3),(2,[1,1,3],4),(1,[1,2,2],4),(1,[1,1,1,2],5),(3,[1,1,1,2],7),(1,[1,1,1,1,1],12)],
 [(1,[13],1),(3,[1,6],2),(1,[1,8],2),(3,[1,1,4],3),(3,[1,1,3],4),(3,[1,1,1,2],6),(1,[1,1,1,2],8),(1,[1,1,1,1,1],13)],
 [(1,[14],1),(1,[1,6],2),(2,[1,7],2),(1,[2,4],2),(2,[1,2,2],3),(2,[1,1,3],4),(2,[1,1,4],4),(1,[1,1,1,2],6),(2,[1,1,1,2],7),(1,[1,1,1,2],8),(1,[1,1,1,1,1],14)],
 [(1,[15],1),(2,[1,7],2),(2,[2,3],2),(2,[1,1,3],3),(1,[1,1,4],4),(3,[1,2,2],4),(4,[1,1,1,2],7),(1,[1,1,1,1,1],15)],
 [(1,[16],1),(2,[1,7],2),(1,[1,8],2),(1,[2,4],2),(1,[1,1,4],3),(1,[1,1,3],4),(2,[1,1,4],4),(2,[1,2,2],4),(2,[1,1,1,2],7),(2,[1,1,1,2],8),(1,[1,1,1,1,1],16)],
 [(1,[17],1),(4,[1,8],2),(6,[1,1,4],4),(4,[1,1,1,2],8),(1,[1,1,1,1,1],17)],
 [(1,[18],1),(2,[1,9],2),(2,[2,5],2),(1,[3,3],2),(3,[1,1,5],3),(6,[1,2,3],3),(1,[2,2,2],3),(4,[1,1,1,3],5),(6,[1,1,2,2],5),(5,[1,1,1,1,2],9),(1,[1,1,1,1,1,1],18)],
 [(1,[19],1),(2,[1,9],2),(1,[1,10],2),(1,[2,6],2),(1,[3,4],2),(2,[1,1,5],3),(1,[1,1,6],3),(4,[1,2,3],3),(2,[1,2,4],3),(1,[1,1,5],4),(2,[1,1,1,3],5),(1,[1,1,1,4],5),(4,[1,1,2,2],5),(2,[1,1,1,3],6),(1,[1,1,2,2],6),(2,[1,1,1,1,2],9),(3,[1,1,1,1,2],10),(1,[1,1,1,1,1,1],19)],
 [(1,[20],1),(1,[1,9],2),(1,[1,10],2),(1,[1,11],2),(1,[2,5],2),(1,[2,7],2),(2,[1,1,5],3),(1,[1,1,6],3),(1,[1,1,7],3),(2,[1,2,3],3),(1,[1,2,4],3),(1,[2,2,2],3),(1,[1,1,5],4),(1,[1,2,3],4),(2,[1,1,1,3],5),(1,[1,1,1,4],5),(2,[1,1,2,2],5),(1,[1,1,1,3],6),(3,[1,1,2,2],6),(1,[1,1,1,3],7),(1,[1,1,1,1,2],9),(2,[1,1,1,1,2],10),(2,[1,1,1,1,2],11),(1,[1,1,1,1,1,1],20)],
 [(1,[21],1),(1,[1,9],2),(1,[1,11],2),(1,[1,12],2),(1,[2,6],2),(1,[3,3],2),(1,[1,1,5],3),(1,[1,1,6],3),(1,[1,1,7],3),(3,[1,2,3],3),(1,[1,2,4],3),(1,[1,1,5],4),(2,[1,2,3],4),(1,[1,1,1,3],5),(1,[1,1,1,4],5),(2,[1,1,2,2],5),(2,[1,1,1,3],6),(1,[1,1,2,2],6),(1,[1,1,1,3],7),(2,[1,1,2,2],7),(1,[1,1,1,1,2],9),(3,[1,1,1,1,2],11),(1,[1,1,1,1,2],12),(1,[1,1,1,1,1,1],21)],
 [(1,[22],1),(1,[1,9],2),(1,[1,12],2),(1,[2,5],2),(1,[2,7],2),(1,[3,4],2),(1,[1,1,7],3),(2,[1,2,3],3),(2,[1,2,4],3),(1,[2,2,2],3),(2,[1,1,5],4),(2,[1,2,3],4),(1,[1,1,1,4],5),(3,[1,1,2,2],5),(3,[1,1,1,3],7),(3,[1,1,2,2],7),(1,[1,1,1,1,2],9),(4,[1,1,1,1,2],12),(1,[1,1,1,1,1,1],22)],
 [(1,[23],1),(3,[1,10],2),(1,[1,13],2),(1,[2,8],2),(3,[1,1,6],3),(1,[1,1,8],3),(3,[1,2,4],3),(3,[1,1,5],4),(3,[1,1,1,4],5),(3,[1,1,1,3],6),(3,[1,1,2,2],6),(1,[1,1,1,3],8),(3,[1,1,1,1,2],10),(2,[1,1,1,1,2],13),(1,[1,1,1,1,1,1],23)],
 [(1,[24],1),(1,[1,10],2),(2,[1,11],2),(1,[1,14],2),(1,[3,4],2),(1,[1,1,6],3),(2,[1,1,7],3),(2,[1,2,3],3),(1,[1,2,4],3),(2,[1,1,5],4),(1,[1,1,6],4),(1,[1,2,4],4),(2,[1,1,2,2],5),(3,[1,1,1,3],6),(2,[1,1,1,4],6),(2,[1,1,2,2],7),(1,[1,1,1,3],8),(1,[1,1,1,1,2],10),(2,[1,1,1,1,2],11),(1,[1,1,1,1,2],13),(1,[1,1,1,1,2],14),(1,[1,1,1,1,1,1],24)],
 [(1,[25],1),(1,[1,10],2),(2,[1,12],2),(1,[2,6],2),(1,[4,4],2),(2,[1,2,3],3),(3,[1,2,4],3),(2,[1,1,5],4),(1,[1,1,6],4),(1,[1,1,7],4),(1,[1,2,4],4),(2,[1,1,2,2],5),(1,[1,1,1,4],6),(1,[1,1,2,2],6),(2,[1,1,1,3],7),(1,[1,1,1,4],7),(2,[1,1,2,2],7),(1,[1,1,1,3],8),(1,[1,1,1,1,2],10),(2,[1,1,1,1,2],12),(2,[1,1,1,1,2],14),(1,[1,1,1,1,1,1],25)],
 [(1,[26],1),(2,[1,11],2),(1,[1,15],2),(2,[2,5],2),(2,[1,1,5],3),(2,[1,1,7],3),(2,[1,2,3],3),(1,[1,1,6],4),(2,[1,2,3],4),(1,[2,2,2],4),(2,[1,1,1,3],5),(1,[1,1,1,4],6),(3,[1,1,2,2],6),(2,[1,1,1,3],7),(2,[1,1,2,2],7),(4,[1,1,1,1,2],11),(1,[1,1,1,1,2],15),(1,[1,1,1,1,1,1],26)],
 [(1,[27],1),(2,[1,11],2),(1,[1,13],2),(1,[1,16],2),(1,[2,6],2),(1,[1,1,6],3),(2,[1,1,7],3),(1,[1,1,8],3),(1,[1,2,4],3),(1,[1,1,5],4),(2,[1,1,6],4),(2,[1,2,3],4),(1,[1,1,1,4],5),(1,[1,1,1,3],6),(2,[1,1,1,4],6),(2,[1,1,2,2],6),(2,[1,1,1,3],7),(1,[1,1,1,3],8),(1,[1,1,2,2],8),(2,[1,1,1,1,2],11),(2,[1,1,1,1,2],13),(1,[1,1,1,1,2],16),(1,[1,1,1,1,1,1],27)],
 [(1,[28],1),(1,[1,11],2),(1,[1,12],2),(1,[1,14],2),(2,[2,7],2),(1,[1,1,7],3),(1,[1,2,3],3),(1,[1,2,4],3),(1,[2,2,2],3),(1,[1,1,5],4),(1,[1,1,6],4),(2,[1,1,7],4),(1,[1,2,3],4),(1,[1,2,4],4),(1,[1,1,2,2],5),(2,[1,1,2,2],6),(2,[1,1,1,3],7),(2,[1,1,1,4],7),(1,[1,1,2,2],7),(1,[1,1,1,3],8),(1,[1,1,2,2],8),(1,[1,1,1,1,2],11),(1,[1,1,1,1,2],12),(2,[1,1,1,1,2],14),(1,[1,1,1,1,2],16),(1,[1,1,1,1,1,1],28)],
 [(1,[29],1),(1,[1,12],2),(1,[1,15],2),(1,[2,5],2),(1,[2,7],2),(1,[3,3],2),(1,[1,1,5],3),(1,[1,1,7],3),(2,[1,2,3],3),(1,[1,1,7],4),(3,[1,2,3],4),(1,[1,2,4],4),(1,[2,2,2],4),(1,[1,1,1,3],5),(2,[1,1,1,3],7),(1,[1,1,1,4],7),(6,[1,1,2,2],7),(2,[1,1,1,1,2],12),(3,[1,1,1,1,2],15),(1,[1,1,1,1,1,1],29)],
 [(1,[30],1),(2,[1,12],2),(1,[1,16],2),(1,[2,8],2),(1,[3,4],2),(1,[1,1,8],3),(2,[1,2,4],3),(1,[1,1,5],4),(2,[1,1,7],4),(2,[1,2,3],4),(2,[1,2,4],4),(1,[1,1,1,4],5),(2,[1,1,1,4],7),(4,[1,1,2,2],7),(2,[1,1,1,3],8),(1,[1,1,2,2],8),(2,[1,1,1,1,2],12),(3,[1,1,1,1,2],16),(1,[1,1,1,1,1,1],30)],
 [(1,[31],1),(4,[1,13],2),(1,[1,17],2),(4,[1,1,8],3),(6,[1,1,6],4),(6,[1,1,1,4],6),(4,[1,1,1,3],8),(4,[1,1,1,1,2],13),(1,[1,1,1,1,2],17),(1,[1,1,1,1,1,1],31)],
 [(1,[32],1),(1,[1,13],2),(3,[1,14],2),(1,[2,8],2),(3,[1,2,4],3),(3,[1,1,6],4),(3,[1,1,7],4),(1,[1,1,8],4),(3,[1,1,2,2],6),(3,[1,1,1,4],7),(3,[1,1,1,3],8),(1,[1,1,1,4],8),(1,[1,1,1,1,2],13),(3,[1,1,1,1,2],14),(1,[1,1,1,1,2],17),(1,[1,1,1,1,1,1],32)],
 [(1,[33],1),(1,[1,14],2),(2,[1,15],2),(1,[2,6],2),(1,[3,4],2),(1,[1,1,6],3),(2,[1,2,3],3),(3,[1,1,7],4),(2,[1,2,3],4),(2,[1,2,4],4),(1,[1,1,1,3],6),(2,[1,1,1,3],7),(1,[1,1,1,4],7),(4,[1,1,2,2],7),(1,[1,1,1,4],8),(1,[1,1,2,2],8),(2,[1,1,1,1,2],14),(2,[1,1,1,1,2],15),(1,[1,1,1,1,2],16),(1,[1,1,1,1,1,1],33)],
 [(1,[34],1),(2,[1,14],2),(2,[1,16],2),(1,[4,4],2),(2,[1,2,4],3),(1,[1,1,6],4),(4,[1,1,7],4),(1,[1,1,8],4),(2,[1,2,4],4),(1,[1,1,1,4],6),(4,[1,1,2,2],7),(2,[1,1,1,3],8),(3,[1,1,1,4],8),(2,[1,1,1,1,2],14),(2,[1,1,1,1,2],16),(1,[1,1,1,1,2],17),(1,[1,1,1,1,1,1],34)],
 [(1,[35],1),(1,[1,15],2),(2,[1,16],2),(2,[2,7],2),(2,[1,1,7],3),(2,[1,1,7],4),(1,[1,1,8],4),(2,[1,2,3],4),(2,[1,2,4],4),(1,[2,2,2],4),(2,[1,1,1,3],7),(2,[1,1,1,4],7),(2,[1,1,2,2],7),(1,[1,1,1,4],8),(3,[1,1,2,2],8),(1,[1,1,1,1,2],15),(4,[1,1,1,1,2],16),(1,[1,1,1,1,1,1],35)],
 [(1,[36],1),(3,[1,16],2),(1,[1,17],2),(1,[2,8],2),(1,[1,1,8],3),(3,[1,1,7],4),(3,[1,1,8],4),(3,[1,2,4],4),(3,[1,1,1,4],7),(1,[1,1,1,3],8),(3,[1,1,1,4],8),(3,[1,1,2,2],8),(3,[1,1,1,1,2],16),(2,[1,1,1,1,2],17),(1,[1,1,1,1,1,1],36)],
 [(1,[37],1),(5,[1,17],2),(10,[1,1,8],4),(10,[1,1,1,4],8),(5,[1,1,1,1,2],17),(1,[1,1,1,1,1,1],37)]]
def ptR (i:Nat):List Ctp:=parT[i-1]?.getD []
def sbI (B A:Nat->Int) (i:Nat):Int:=if i=0 then A 0 else rowI B A (ptR i)
def sbP (B A:Nat->Py) (i:Nat):Py:=if Nat.beq i 0 then A 0 else rowP B A (ptR i)
theorem zw3 {i:Nat} (hi:i<38):∀ c∈ptR i,(∀ v∈c.2.1,v<38)/\c.2.2<38:=by
 have ok:(List.range 38).all (fun i=>(ptR i).all fun c=>c.2.1.all (fun v=>decide (v<38)) && decide (c.2.2<38))=true:=by decide +kernel
 intro c hc
 have h:=List.all_eq_true.1 (List.all_eq_true.1 ok i (List.mem_range.2 hi)) c hc
 simp only [Bool.and_eq_true,List.all_eq_true,decide_eq_true_eq] at h
 exact h
theorem zAU (r:Nat->Int) {A B:Nat->Py} {A' B':Nat->Int} (h:∀ v,v<38->evp r (A v)%10007=A' v%10007) (k:∀ v,v<38->evp r (B v)%10007=B' v%10007) {i:Nat} (hi:i<38):evp r (sbP A B i)%10007=sbI A' B' i%10007:=by
 unfold sbP sbI
 by_cases e:i=0
 .subst e; exact k 0 (by omega)
 .rw [if_neg e,if_neg (by intro x; exact e (Nat.eq_of_beq_eq_true x))]
  exact zjC r _ fun c hc=>⟨fun v hv=>h v ((zw3 hi c hc).1 v hv),k _ (zw3 hi c hc).2⟩
def sbS (b a:List Int):List Int:=mk38 (sbI (iat b) (iat a))
def exc (i:Nat):Py:=[(exT[i]?.getD 0,[])]
theorem zp4:(List.range 38).all (fun i=>decide (sbP (vb 0) exc i=expP (vb 0) i))=true:=by decide +kernel
theorem zBh {b:List Int} (h:Inf b):sbS b exaS=expS b:=by
 refine zhw fun i hi=>?_
 have e:=of_decide_eq_true (List.all_eq_true.1 zp4 i (List.mem_range.2 hi))
 have h1:∀ v,v<38->evp (iat b) (vb 0 v)%10007=iat b v%10007:=fun v hv=>zwt (by rw [h.2]; rfl) (fun j _=>by rw [Nat.zero_add]) hv
 have h2:∀ v,v<38->evp (iat b) (exc v)%10007=iat exaS v%10007:=fun v hv=>by
  rw [zyz hv]
  unfold exc
  rw [zzA]; rfl
 rw [<- zAU (iat b) h1 h2 hi,e,zsj _ h1 hi]
def psR (i:Nat):List Ctp:=(ptR i).filter fun c=>!decide (c.2.2=1)
theorem zsz {i:Nat} (hi:i<38) (h0:0<i):(∀ c∈psR i,∀ v∈c.2.1,v<i)/\(ptR i).filter (fun c=>decide (c.2.2=1))=[(1,[i],1)]:=by
 have ok:(List.range 37).all (fun j=>((psR (j+1)).all fun c=>c.2.1.all fun v=>decide (v<j+1)) && decide ((ptR (j+1)).filter (fun c=>decide (c.2.2=1))=[(1,[j+1],1)]))=true:=by decide +kernel
 obtain ⟨j,rfl⟩:∃ j,i=j+1:=⟨i-1,by omega⟩
 have h:=List.all_eq_true.1 ok j (List.mem_range.2 (by omega))
 simp only [Bool.and_eq_true,List.all_eq_true,decide_eq_true_eq] at h
 exact h
theorem zvZ (B A:Nat->Int) {i:Nat} (hi:i<38) (h0:0<i):sbI B A i=B i*A 1+rowI B A (psR i):=by
 unfold sbI
 rw [if_neg (by omega),zfD B A (fun c=>decide (c.2.2=1)),(zsz hi h0).2]
 simp [rowI,prI,psR]
def fitN (q:Int) (a w:List Int):Nat->List Int
 | 0=>[0]
 | k+1=>fitN q a w k++[((iat w (k+1)-rowI (iat (fitN q a w k)) (iat a) (psR (k+1)))*q)%10007]
theorem zco (q:Int) (a w:List Int):∀ k,(fitN q a w k).length=k+1
 | 0=>rfl
 | k+1=>by rw [fitN,List.length_append,zco q a w k]; rfl
theorem zta (q:Int) (a w:List Int):∀ k,∀ x∈fitN q a w k,0<=x/\x<10007
 | 0,x,hx=>by simp only [fitN,List.mem_singleton] at hx; subst hx; exact ⟨by decide,by decide⟩
 | k+1,x,hx=>by
  rw [fitN] at hx
  rcases List.mem_append.1 hx with hx | hx
  .exact zta q a w k x hx
  .rw [List.mem_singleton.1 hx]
   exact ⟨Int.emod_nonneg _ (by decide),Int.emod_lt_of_pos _ (by decide)⟩
theorem zeP (q:Int) (a w:List Int) {i k:Nat} (h:i<=k):∀ d,iat (fitN q a w (k+d)) i=iat (fitN q a w k) i
 | 0=>rfl
 | d+1=>by
  rw [<- zeP q a w h d]
  show iat (fitN q a w (k+d)++_) i=_
  unfold iat
  rw [List.getElem?_append_left (by rw [zco]; omega)]
def fitS (q:Int) (a w:List Int):List Int:=fitN q a w 37
theorem zmX (q:Int) (a w:List Int):Inf (fitS q a w):=by
 refine ⟨⟨zco q a w 37,zta q a w 37⟩,?_⟩
 exact zeP q a w (i:=0) (k:=0) (Nat.le_refl 0) 37
theorem zBU (q:Int) (a w:List Int) {j:Nat} (hj:j<37):iat (fitS q a w) (j+1)=((iat w (j+1)-rowI (iat (fitN q a w j)) (iat a) (psR (j+1)))*q)%10007:=by
 have:=zeP q a w (i:=j+1) (k:=j+1) (Nat.le_refl _) (36-j)
 rw [show j+1+(36-j)=37 by omega] at this
 refine this.trans ?_
 unfold iat
 rw [fitN,List.getElem?_append_right (by rw [zco]; omega),zco,Nat.sub_self]
 rfl
theorem zA7 {q:Int} {a w:List Int} (hw:N38 w) (h0:iat w 0=iat a 0) (hq:q*iat a 1%10007=1):sbS (fitS q a w) a=w:=by
 refine zem hw fun i hi=>?_
 by_cases e0:i=0
 .subst e0; rw [sbI,if_pos rfl,h0]
 .obtain ⟨j,rfl⟩:∃ j,i=j+1:=⟨i-1,by omega⟩
  rw [zvZ _ _ hi (by omega),zBU q a w (by omega)]
  have e2:rowI (iat (fitS q a w)) (iat a) (psR (j+1))%10007=rowI (iat (fitN q a w j)) (iat a) (psR (j+1))%10007:=by
   refine zbY fun c hc=>⟨fun v hv=>?_,rfl⟩
   have hv:=(zsz hi (by omega)).1 c hc v hv
   have:=zeP q a w (i:=v) (k:=j) (by omega) (37-j)
   rw [show j+(37-j)=37 by omega] at this
   unfold fitS
   rw [this]
  generalize rowI (iat (fitN q a w j)) (iat a) (psR (j+1))=R at *
  have e3:(iat w (j+1)-R)*q%10007*iat a 1%10007=(iat w (j+1)-R)%10007:=by
   rw [Int.mul_emod,Int.emod_emod_of_dvd _ (Int.dvd_refl _),<- Int.mul_emod,Int.mul_assoc,Int.mul_emod,hq,Int.mul_one,Int.emod_emod_of_dvd _ (Int.dvd_refl _)]
  generalize (iat w (j+1)-R)*q%10007*iat a 1=z at *
  generalize rowI (iat (fitS q a w)) (iat a) (psR (j+1))=R2 at *
  omega
theorem zyE {a:List Int} (ha:Ch a):fitS 1 exaS a=logS a:=by
 refine zxL (zmX 1 exaS a) (zja a) ?_
 rw [ztl ha,<- zBh (zmX 1 exaS a)]
 exact zA7 ha.1 (by rw [ha.2,zbV.2]) (by rw [ztw]; decide)
end Go.Proofs.YthhdollpkieknaaGreat


namespace Go.Proofs.YthhdollpkieknaaGreat
open Go.Abs Go.Shelf Go.Sort
def bitB (m i:Nat):Bool:=Nat.beq (m / 2 ^ i%2) 1
def parK (t:List Int) (l:Int):Nat->Int
 | 0 => -1
 | k+1=>if t[k]?.getD 0=l-1 then (k:Int) else parK t l k
def parL (t:List Int):List Int:=(List.range t.length).map fun i=>parK t (t[i]?.getD 0) i
structure CuS where
 near:List (List Int)
 top:List Int
 tops:List Int
 btw:List (Int × Int)
def ziM (J:List (List Int)) (p i:Nat):List (List Int):=(J.set p (J[p]?.getD []++[(i:Int)])).set i (J[i]?.getD []++[(p:Int)])
def zoE (P:List Int) (m:Nat) (S:CuS) (i:Nat):CuS :=
 if P[i]?.getD 0<0\/bitB m i=true then
  ⟨S.near,S.top.set i S.tops.length,S.tops++[(i:Int)],if 0<=P[i]?.getD 0 then S.btw++[((S.top.set i S.tops.length)[(P[i]?.getD 0).toNat]?.getD 0,(S.tops.length:Int))] else S.btw⟩
 else ⟨ziM S.near (P[i]?.getD 0).toNat i,S.top.set i (S.top[(P[i]?.getD 0).toNat]?.getD 0),S.tops,S.btw⟩
def cuN (t:List Int) (m i:Nat):CuS:=(List.range i).foldl (zoE (parL t) m) ⟨List.replicate t.length [],List.replicate t.length 0,[],[]⟩
theorem zm1 (t:List Int) (m i:Nat):cuN t m (i+1)=zoE (parL t) m (cuN t m i) i:=by simp [cuN,List.range_succ]
def jnN (B:List (Int × Int)) (n j:Nat):List (List Int):=(B.take j).foldl (fun J e=>ziM J e.1.toNat e.2.toNat) (List.replicate n [])
def tfF:Nat->List (List Int)->Int->Int->List Int
 | 0,_,_,_=>[]
 | n+1,J,r,f=>canF 7 (zaQ (((J[r.toNat]?.getD []).filter fun x=>decide (x≠f)).map fun x=>tfF n J x r))
def cuR (t:List Int) (m:Nat):List (List Int) × List Int × Int :=
 let S:=cuN t m t.length
 (srtT (S.tops.map fun i=>tfF 7 S.near i (-1)),tfF 7 (jnN S.btw S.tops.length S.btw.length) 0 (-1),1)
def prtL (t:List Int):List (List (List Int) × List Int × Int):=(List.range (2 ^ (t.length-1))).map fun k=>cuR t (2*k)
abbrev Prt:=List (List Int) × List Int × Int
def zci (s r:Prt):Int:=if cmpT s.2.1 r.2.1=0 then za4 s.1 r.1 else cmpT s.2.1 r.2.1
theorem linPa:LinC (fun p q:List Int × List (List Int)=>if cmpT p.1 q.1=0 then za4 p.2 q.2 else cmpT p.1 q.1):=linT.pair linFs
def zdh (s:Prt):List Int × List (List Int):=(s.2.1,s.1)
theorem zCe:SWO (Go.Proofs.ltOf zci):=linPa.swo zdh
theorem paT2 {a b d:Prt} (h1:zci a b<0) (h2:zci b d<0):zci a d<0:=linPa.trans (zdh a) (zdh b) (zdh d) h1 h2
theorem paI2 (a:Prt):¬ zci a a<0:=by
 have:zci a a=0:=linPa.self (zdh a)
 omega
theorem paZ2 {a b:Prt}:zci a b=0 ↔ zdh a=zdh b:=linPa.zero (zdh a) (zdh b)
theorem zDu {a b:Prt}:zci a b<0 ↔ 0<zci b a:=linPa.anti (zdh a) (zdh b)
def zms (p:Prt):List Prt->List Prt
 | []=>[p]
 | s::S=>if zci p s<0 then p::s::S else s::zms p S
def zfY:List Prt->List Prt
 | []=>[]
 | s::S=>zms s (zfY S)
theorem zfC (p:Prt):∀ S,(zms p S).Perm (p::S)
 | []=>.refl _
 | s::S=>by
  rw [zms]; split
  .exact .refl _
  .exact ((zfC p S).cons s).trans (.swap _ _ _)
theorem zcE:∀ S,(zfY S).Perm S
 | []=>.refl _
 | s::S=>(zfC s _).trans ((zcE S).cons s)
theorem zrC (S:List Prt):(zfY S).length=S.length:=(zcE S).length_eq
theorem zkL (p:Prt):∀ S:List Prt,S.Pairwise (fun x y=>¬ zci y x<0)->(zms p S).Pairwise (fun x y=>¬ zci y x<0)
 | [],_=>by simp [zms]
 | s::S,h=>by
  obtain ⟨h1,h2⟩:=List.pairwise_cons.1 h
  rw [zms]; split
  .rename_i hl
   refine .cons (fun y hy=>?_) h
   rcases List.mem_cons.1 hy with e | hy
   .rw [e]; intro hc; exact paI2 p (paT2 hl hc)
   .intro hc; exact h1 y hy (paT2 hc hl)
  .rename_i hl
   refine .cons (fun y hy=>?_) (zkL p S h2)
   rcases List.mem_cons.1 ((zfC p S).mem_iff.1 hy) with e | hy
   .rw [e]; exact hl
   .exact h1 y hy
theorem zkF:∀ S:List Prt,(zfY S).Pairwise (fun x y=>¬ zci y x<0)
 | []=>.nil
 | s::S=>zkL s _ (zkF S)
theorem zk0 {ys X:List Prt} (hp:ys.Perm X) (h1:∀ s∈X,s.2.2=1) (hy:ys.Pairwise (fun x y=>¬ zci y x<0)):ys=zfY X :=
 (hp.trans (zcE X).symm).eq_of_pairwise (fun a b ha hb k1 k2=>by
  have e1:=h1 a (hp.mem_iff.1 ha)
  have e2:=h1 b ((zcE X).mem_iff.1 hb)
  have z:zci a b=0:=by
   have k3:¬ 0<zci a b:=fun x=>k1 (zDu.2 x)
   omega
  have k:=paZ2.1 z
  obtain ⟨a1,a2,a3⟩:=a
  obtain ⟨b1,b2,b3⟩:=b
  simp only [zdh,Prod.mk.injEq] at k e1 e2
  rw [k.1,k.2,e1,e2]) hy (zkF X)
def zd8 (out:List Prt) (s:Prt):List Prt:=match out.getLast? with
 | some l=>if zci l s=0 then out.set (out.length-1) (l.1,l.2.1,l.2.2+1) else out++[s]
 | none=>[s]
def zcC (L:List Prt):List Prt:=L.foldl zd8 []
theorem zh2 (L:List Prt) (s:Prt):zcC (L++[s])=zd8 (zcC L) s:=by simp [zcC]
theorem zoZ (out:List Prt) (s:Prt):(zd8 out s).length<=out.length+1:=by
 unfold zd8
 split
 .split <;> simp
 .simp
theorem zso (L:List Prt):(zcC L).length<=L.length/\(∀ l∈zcC L,∃ s∈L,zdh l=zdh s)/\((∀ s∈L,s.2.2=1)->∀ l∈zcC L,0<=l.2.2/\l.2.2<=L.length):=by
 refine zdz (P:=fun L=>(zcC L).length<=L.length/\(∀ l∈zcC L,∃ s∈L,zdh l=zdh s)/\((∀ s∈L,s.2.2=1)->∀ l∈zcC L,0<=l.2.2/\l.2.2<=L.length)) ⟨by simp [zcC],by simp [zcC],by simp [zcC]⟩ (fun L s ih=>?_) L
 obtain ⟨i1,i2,i3⟩:=ih
 rw [zh2]
 have hl:=zoZ (zcC L) s
 refine ⟨by rw [List.length_append,List.length_singleton]; omega,fun l hm=>?_,fun h1 l hm=>?_⟩
 .unfold zd8 at hm
  split at hm
  .rename_i l0 hl0
   split at hm
   .rcases List.mem_or_eq_of_mem_set hm with hm | e
    .obtain ⟨t,t1,t2⟩:=i2 l hm
     exact ⟨t,by simp [t1],t2⟩
    .obtain ⟨t,t1,t2⟩:=i2 l0 (List.mem_of_getLast? hl0)
     exact ⟨t,by simp [t1],by rw [e,<- t2]; rfl⟩
   .rcases List.mem_append.1 hm with hm | hm
    .obtain ⟨t,t1,t2⟩:=i2 l hm
     exact ⟨t,by simp [t1],t2⟩
    .rw [List.mem_singleton] at hm
     exact ⟨s,by simp,by rw [hm]⟩
  .rw [List.mem_singleton] at hm
   exact ⟨s,by simp,by rw [hm]⟩
 .have j3:=i3 (fun t ht=>h1 t (by simp [ht]))
  have hs:=h1 s (by simp)
  rw [List.length_append,List.length_singleton]
  unfold zd8 at hm
  split at hm
  .rename_i l0 hl0
   split at hm
   .rcases List.mem_or_eq_of_mem_set hm with hm | e
    .have:=j3 l hm; omega
    .have:=j3 l0 (List.mem_of_getLast? hl0)
     rw [e]; simp only; omega
   .rcases List.mem_append.1 hm with hm | hm
    .have:=j3 l hm; omega
    .rw [List.mem_singleton] at hm; rw [hm]; omega
  .rw [List.mem_singleton] at hm; rw [hm]; omega
def parP (t:List Int):List Prt:=zcC (zfY (prtL t))
def pcP (s:Prt):List Int:=s.1.map fun c=>ixT (trN 6) c+1
def skP (s:Prt):Int:=ixT (trN 6) s.2.1+1
theorem zBE:(trN 6).map (fun t=>(parP t).map fun s=>(s.2.2,pcP s,skP s))=parT.map fun r=>r.map fun c=>((c.1:Int),nvs c.2.1,(c.2.2:Int)):=by decide +kernel
def tfS (n:Nat) (J:List (List Int)) (r f:Int):List (List Int):=((J[r.toNat]?.getD []).filter fun x=>decide (x≠f)).map fun x=>tfF n J x r
theorem znl (n:Nat) (J:List (List Int)) (r f:Int):tfF (n+1) J r f=canF 7 (zaQ (tfS n J r f)):=rfl
def tfOk:Nat->List (List Int)->Int->Int->Bool
 | 0,_,_,_=>false
 | n+1,J,r,f=>(decide (0<=r) && decide (r<J.length)) && ((decide ((J[r.toNat]?.getD []).length<=10) && (J[r.toNat]?.getD []).all fun x=>decide (x=f) || tfOk n J x r) &&
   (((tfS n J r f).all fun b=>decide (b.length<=100) && b.all fun x=>decide (0<=x) && decide (x<=100)) && (lvC (zaQ (tfS n J r f)) && decide ((zaQ (tfS n J r f)).length<=7))))
def rwB (J:List (List Int)) (n:Nat):Bool:=decide (J.length=n) && J.all fun r=>decide (r.length<=10)
def cuB (t:List Int) (m:Nat):Bool :=
 ((List.range t.length).all fun i=>decide (-1<=(parL t)[i]?.getD 0) && decide ((parL t)[i]?.getD 0<i)) &&
 (((List.range (t.length+1)).all fun i=>rwB (cuN t m i).near t.length && (decide ((cuN t m i).top.length=t.length) && (decide ((cuN t m i).tops.length<=i) && decide ((cuN t m i).btw.length<=i)))) &&
 (((cuN t m t.length).tops.all fun i=>tfOk 7 (cuN t m t.length).near i (-1) && decide ((tfF 7 (cuN t m t.length).near i (-1)).length<=100)) &&
 (((cuN t m t.length).btw.all fun e=>(decide (0<=e.1) && decide (e.1<(cuN t m t.length).tops.length)) && ((decide (0<=e.2) && decide (e.2<(cuN t m t.length).tops.length)) && decide (e.1≠e.2))) &&
 (((List.range ((cuN t m t.length).btw.length+1)).all fun j=>rwB (jnN (cuN t m t.length).btw (cuN t m t.length).tops.length j) (cuN t m t.length).tops.length) &&
 (tfOk 7 (jnN (cuN t m t.length).btw (cuN t m t.length).tops.length (cuN t m t.length).btw.length) 0 (-1))))))
theorem zx7:(trN 6).all (fun t=>(List.range (2 ^ (t.length-1))).all fun k=>cuB t (2*k))=true:=by decide +kernel
theorem zzH:(trN 6).all (fun t=>((prtL t).all fun s=>(decide (s.1.length<=6) && s.1.all fun r=>decide (r.length<=6)) && decide (s.2.1.length<=6)) && decide ((parP t).length<=100))=true:=by decide +kernel
end Go.Proofs.YthhdollpkieknaaGreat


namespace Go.Proofs.YthhdollpkieknaaGreat
open Go.Abs
theorem zgf (t:List Int):(parL t).length=t.length:=by simp [parL]
theorem zrJ {t:List Int} {i:Nat} (h:i<t.length):(parL t).take (i+1)=(parL t).take i++[parK t (t[i]?.getD 0) i]:=by
 rw [List.take_succ_eq_append_getElem (by rw [zgf]; exact h)]
 simp [parL]
theorem zlW (t:List Int) (hl:t.length<=1000) (hb:∀ x∈t,0<=x/\x<=1000):Con Tryz.prog 290 [.sl t.length (avs t)] (.own 3 t.length (avs (parL t))):=by
 have tk:=fun i h=>zrJ (t:=t) (i:=i) h
 have ta:(parL t).take t.length=parL t:=List.take_of_length_le (by rw [zgf]; exact Nat.le_refl _)
 have lL:=zgf t
 generalize parL t=L at *
 refine zab Tryz.mixed ⟨7,[],[],[]⟩ Tryz.func290 ?_
 rw [Tryz.ntmps290]
 simp [go_sem]
 refine zac (List.range' 3 4++List.range' 10 25) (fun i:Nat=>[(3,.own 3 i (avs (L.take i))),(10,.int i)]) (fun i=>i<=t.length) (fun i=>t.length-i) 0 (by simp) (by simp [go_sem]) (by simp [go_sem]) ?_
 intro i hi
 by_cases hil:i<t.length
 .have hii:(i:Int)<t.length:=by omega
  have dr:=zav hil
  have t1:=tk i hil
  have bx:=hb _ (memD 0 hil)
  have eI:iat t i=t[i]?.getD 0:=rfl
  have ng:¬ t=[]:=by rintro rfl; simp at hil
  rw [eI] at dr
  generalize hl0:t[i]?.getD 0=l at *
  simp [go_sem,hii,dr]
  refine ⟨ng,⟨by omega,by omega⟩,?_⟩
  refine zac (6::List.range' 17 13) (fun k:Nat=>[(6,.int ((k:Int)-1))]) (fun k=>k<=i/\parK t l i=parK t l k) (fun k=>k) i ⟨Nat.le_refl _,rfl⟩ (by simp [go_sem]) (by simp [go_sem]) ?_
  rintro k ⟨h1,h2⟩
  cases k with
  | zero =>
   have e:parK t l 0 = -1:=rfl
   rw [h2,e] at t1
   simp [go_sem]
   refine ⟨⟨by omega,by omega,by omega⟩,⟨by omega,by omega⟩,i+1,by omega,by omega,(Off.reset (by intro x hx; simp at hx |-; omega) (by simp) (by simp [go_sem,zaa])),?_⟩
   rw [t1,zam]
   exact ⟨⟨rfl,rfl⟩,by omega⟩
  | succ k =>
   have dk:=zav (a:=t) (v:=k) (by omega)
   have eK:iat t k=t[k]?.getD 0:=rfl
   rw [eK] at dk
   have bk:=hb _ (memD 0 (show k<t.length by omega))
   have e1:((k+1:Nat):Int)-1=k:=by omega
   rw [e1]
   rw [show parK t l (k+1)=if t[k]?.getD 0=l-1 then (k:Int) else parK t l k from rfl] at h2
   generalize t[k]?.getD 0=x at *
   by_cases hx:x=l-1
   .rw [if_pos hx] at h2
    rw [h2] at t1
    simp [go_sem,dk,hx]
    refine ⟨⟨by omega,ng⟩,⟨by omega,by omega⟩,⟨by omega,by omega,by omega⟩,⟨by omega,by omega⟩,i+1,by omega,by omega,(Off.reset (by intro x hx; simp at hx |-; omega) (by simp) (by simp [go_sem,zaa])),?_⟩
    rw [t1,zam]
    exact ⟨⟨rfl,rfl⟩,by omega⟩
   .rw [if_neg hx] at h2
    simp [go_sem,dk,hx]
    refine ⟨⟨by omega,ng⟩,⟨by omega,by omega⟩,⟨by omega,by omega⟩,k,⟨by omega,h2⟩,by omega,zaa _ _ _ (by simp),?_⟩
    rfl
 .have e:i=t.length:=by omega
  subst e
  have hii:¬ (t.length:Int)<t.length:=by omega
  rw [ta]
  simp [go_sem,hii]
theorem ztb {n:Nat} {J:List (List Int)} {r f:Int} (h:tfOk (n+1) J r f=true):(0<=r/\r<J.length)/\((J[r.toNat]?.getD []).length<=10/\∀ x∈J[r.toNat]?.getD [],x=f\/tfOk n J x r=true)/\(∀ b∈tfS n J r f,b.length<=100/\∀ x∈b,0<=x/\x<=100)/\Lv (zaQ (tfS n J r f))/\(zaQ (tfS n J r f)).length<=7:=by
 rw [tfOk] at h
 simp only [Bool.and_eq_true,Bool.or_eq_true,decide_eq_true_eq,List.all_eq_true] at h
 exact ⟨h.1,h.2.1,h.2.2.1,ziE h.2.2.2.1,h.2.2.2.2⟩
def tfL (n:Nat) (J:List (List Int)) (r f:Int) (l:List Int):List (List Int):=(l.filter fun x=>decide (x≠f)).map fun x=>tfF n J x r
theorem zuk (n:Nat) (J:List (List Int)) (r f x:Int) (l:List Int):tfL n J r f (l++[x])=tfL n J r f l++if x=f then [] else [tfF n J x r]:=by
 unfold tfL
 rw [List.filter_append,List.map_append]
 by_cases h:x=f <;> simp [h]
theorem zss (n:Nat) (J:List (List Int)) (r f:Int) (l:List Int):(tfL n J r f l).length<=l.length:=by
 unfold tfL
 rw [List.length_map]
 exact List.length_filter_le _ _
theorem zh6:∀ (n:Nat) (J:List (List Int)) (r f:Int),tfOk n J r f=true->Con Tryz.prog 291 [.sl J.length (mat J),.int r,.int f] (.own 2 (tfF n J r f).length (avs (tfF n J r f)))
 | 0,J,r,f,h=>by simp [tfOk] at h
 | n+1,J,r,f,h=>by
  obtain ⟨h1,⟨h2,h3⟩,h4,h5,h6⟩:=ztb h
  obtain ⟨k,rfl⟩:∃ k:Nat,r=k:=⟨r.toNat,by omega⟩
  rw [Int.toNat_natCast] at h2 h3
  have ih:=fun x hx=>zh6 n J x k hx
  have hk:k<J.length:=by omega
  have dm:=zag hk
  have hT:tfS n J k f=tfL n J k f (J[k]?.getD []):=by unfold tfS tfL; rw [Int.toNat_natCast]
  have cR:=zf7 (tfS n J k f) (by rw [hT]; have:=zss n J k f (J[k]?.getD []); omega) (fun b hb=>⟨by have:=(h4 b hb).1; omega,fun x hx=>by have:=(h4 b hb).2 x hx; omega⟩)
  have cC:=zbE 7 (zaQ (tfS n J k f)) (by omega) h5 h6
  have eL:(tfF (n+1) J k f).length=(zaQ (tfS n J k f)).length:=by rw [znl,zbZ 7 _ h5 h6]
  rw [eL,znl]
  generalize zaQ (tfS n J k f)=RT at *
  generalize canF 7 RT=CT at *
  rw [hT] at h4 cR
  generalize hrow:J[k]?.getD []=R at *
  have sn:=zuk n J k f
  have lb:=zss n J k f
  have b0:tfL n J k f []=[]:=rfl
  clear hT h4
  generalize tfL n J k f=TL at *
  have o0:omat ([]:List (List Int))=[]:=rfl
  refine zab Tryz.mixed ⟨10,[],[],[]⟩ Tryz.func291 ?_
  rw [Tryz.ntmps291]
  simp [go_sem]
  have nJ:¬ J=[]:=by rintro rfl; simp at hk
  simp [go_sem,dm]
  refine ⟨⟨hk,nJ⟩,?_⟩
  refine zac (7::9::List.range' 16 15) (fun i:Nat=>[(7,.own 25 (TL (R.take i)).length (omat (TL (R.take i)))),(16,.int i)]) (fun i=>i<=R.length) (fun i=>R.length-i) 0 (by simp) (by simp [go_sem,b0,o0]) (by simp [go_sem]) ?_
  intro i hi
  by_cases hil:i<R.length
  .have hii:(i:Int)<R.length:=by omega
   have dr:=zav hil
   have hx:=h3 (iat R i) (memD 0 hil)
   have nR:¬ R=[]:=by rintro rfl; simp at hil
   have tk:R.take (i+1)=R.take i++[iat R i]:=by
    rw [List.take_succ_eq_append_getElem hil]
    unfold iat
    rw [List.getElem?_eq_getElem hil]; rfl
   have s1:=sn (iat R i) (R.take i)
   have b1:=lb (R.take i)
   have bt:(R.take i).length<=10:=by rw [List.length_take]; omega
   rw [<- tk] at s1
   have lB:(TL (R.take i)).length<=10:=by omega
   generalize TL (R.take i)=B at *
   generalize iat R i=x at *
   by_cases e:x=f
   .rw [if_pos e,List.append_nil] at s1
    simp [go_sem,hii,dr,e]
    refine ⟨nR,⟨by omega,by omega⟩,i+1,by omega,by omega,zaa _ _ _ (by simp),?_⟩
    rw [s1]
    exact ⟨⟨rfl,rfl⟩,by omega⟩
   .rw [if_neg e] at s1
    have c1:=ih x (hx.resolve_left e)
    generalize tfF n J x k=v at *
    simp [go_sem,hii,dr,e]
    refine ⟨nR,?_⟩
    refine CallVC.of (c1) ?_
    simp [go_sem]
    refine ⟨⟨by omega,by omega⟩,⟨by omega,by omega⟩,i+1,by omega,by omega,zaa _ _ _ (by simp),?_⟩
    rw [s1,zaZ]
    exact ⟨⟨by simp,rfl⟩,by omega⟩
  .have e:i=R.length:=by omega
   subst e
   have hii:¬ (R.length:Int)<R.length:=by omega
   rw [List.take_length]
   generalize TL R=B at *
   simp [go_sem,hii]
   refine CallVC.of (cR) ?_
   simp [go_sem]
   refine CallVC.of (cC) ?_
   simp [go_sem]
theorem zyt {m i:Nat} (hm:m<1000000) (hi:i<60):andI .i64 (shrI .i64 (m:Int) (i:Int)) 1=((m / 2 ^ i%2:Nat):Int):=by
 have e1:shrI .i64 (m:Int) (i:Int)=((m / 2 ^ i:Nat):Int):=by
  show (m:Int).fdiv (2 ^ min (i:Int).toNat 64)=_
  rw [Int.toNat_natCast,Nat.min_eq_left (by omega),Int.fdiv_eq_ediv_of_nonneg _ (Int.pow_nonneg (by decide))]
  simp
 have hl:m / 2 ^ i<1000000:=Nat.lt_of_le_of_lt (Nat.div_le_self _ _) hm
 rw [e1]
 generalize m / 2 ^ i=n at *
 have e2:(BitVec.ofInt 64 (n:Int)).toNat=n:=by
  rw [BitVec.toNat_ofInt]; simp; omega
 have e3:(BitVec.ofInt 64 (1:Int)).toNat=1:=by decide
 show IntKind.wrap .i64 ((BitVec.ofInt 64 (n:Int) &&& BitVec.ofInt 64 1).toNat:Int)=_
 rw [BitVec.toNat_and,e2,e3,Nat.and_one_is_mod]
 exact zee (by unfold inK; have a:IntKind.min .i64 = -9223372036854775808:=by decide
               have b:IntKind.max .i64=9223372036854775807:=by decide
               rw [a,b]; omega)
end Go.Proofs.YthhdollpkieknaaGreat


namespace Go.Proofs.YthhdollpkieknaaGreat
open Go.Abs
def nrC (r:List Int):AV:=if r=[] then .val (.slice none 0 0) else .own 3 r.length (avs r)
def nrA (J:List (List Int)):List AV:=J.map nrC
def btA (B:List (Int × Int)):List AV:=B.flatMap fun e=>[.int e.1,.int e.2]
theorem zjt (J:List (List Int)):(nrA J).length=J.length:=by simp [nrA]
theorem zia {J:List (List Int)} {k:Nat} (h:k<J.length):(nrA J)[k]?=some (nrC (J[k]?.getD [])):=by
 simp [nrA,h]
theorem ziF (J:List (List Int)) (k:Nat) (r:List Int):(nrA J).set k (nrC r)=nrA (J.set k r):=by simp [nrA,List.map_set]
theorem zjo {r:List Int} (x:Int):nrC (r++[x])=.own 3 (r.length+1) (avs r++[.int x]):=by
 unfold nrC
 rw [if_neg (by simp),List.length_append,List.length_singleton,zam]
theorem zsr (X:List (Int × Int)):(X.flatMap fun e=>[AV.int e.1,AV.int e.2]).length=X.length*2:=by
 induction X with
 | nil=>rfl
 | cons s X ih=>rw [List.flatMap_cons,List.length_append,ih,List.length_cons]; simp; omega
theorem zpk (d:Int × Int) {L:List (Int × Int)} {i:Nat} (h:i<L.length):(L.flatMap fun e=>[AV.int e.1,AV.int e.2]).drop (i*2)=[.int (L[i]?.getD d).1,.int (L[i]?.getD d).2]++(L.drop (i+1)).flatMap fun e=>[AV.int e.1,AV.int e.2]:=by
 have e1:((L.take i).flatMap fun e=>[AV.int e.1,AV.int e.2]).length=i*2:=by rw [zsr,List.length_take,Nat.min_eq_left (by omega)]
 have e2:L.drop i=L[i]?.getD d::L.drop (i+1):=by rw [List.drop_eq_getElem_cons h]; simp [h]
 have e3:(L.flatMap fun e=>[AV.int e.1,AV.int e.2])=(L.take i).flatMap (fun e=>[AV.int e.1,AV.int e.2])++(L.drop i).flatMap fun e=>[AV.int e.1,AV.int e.2]:=by rw [<- List.flatMap_append,List.take_append_drop]
 rw [e3,List.drop_append_of_le_length (by omega),e2,List.flatMap_cons,List.drop_eq_nil_of_le (by omega),List.nil_append]
theorem ztG (B:List (Int × Int)):(btA B).length=B.length*2:=by
 induction B with
 | nil=>rfl
 | cons e B ih=>simp only [btA,List.flatMap_cons,List.length_append,List.length_cons,List.length_nil] at *; omega
theorem zvX {t:List Int} {m:Nat} (h:cuB t m=true) :
  (∀ i,i<t.length -> -1<=(parL t)[i]?.getD 0/\(parL t)[i]?.getD 0<i) /\
  (∀ i,i<t.length+1->((cuN t m i).near.length=t.length/\∀ r∈(cuN t m i).near,r.length<=10)/\(cuN t m i).top.length=t.length/\(cuN t m i).tops.length<=i/\(cuN t m i).btw.length<=i) /\
  (∀ i∈(cuN t m t.length).tops,tfOk 7 (cuN t m t.length).near i (-1)=true/\(tfF 7 (cuN t m t.length).near i (-1)).length<=100) /\
  (∀ e∈(cuN t m t.length).btw,(0<=e.1/\e.1<(cuN t m t.length).tops.length)/\(0<=e.2/\e.2<(cuN t m t.length).tops.length)/\e.1≠e.2) /\
  (∀ j,j<(cuN t m t.length).btw.length+1->(jnN (cuN t m t.length).btw (cuN t m t.length).tops.length j).length=(cuN t m t.length).tops.length/\∀ r∈jnN (cuN t m t.length).btw (cuN t m t.length).tops.length j,r.length<=10) /\
  tfOk 7 (jnN (cuN t m t.length).btw (cuN t m t.length).tops.length (cuN t m t.length).btw.length) 0 (-1)=true:=by
 unfold cuB rwB at h
 simp only [Bool.and_eq_true,List.all_eq_true,decide_eq_true_eq,List.mem_range] at h
 exact ⟨h.1,h.2.1,h.2.2.1,h.2.2.2.1,h.2.2.2.2.1,h.2.2.2.2.2⟩
theorem Off.tr {W:List Nat} {S0 S1 S2:St} (h:Off W S0 S1) (h2:Off W S1 S2):Off W S0 S2:=fun i hi=>(h2 i hi).trans (h i hi)
theorem Con.nxL {P:Program} {f:FuncId} {args args':List AV} {r:AV} (hw:NXL args args') (h:Con P f args' r):Con P f args r :=
 ⟨h.1,fun w vs hl ha=>h.2 w vs (by rw [hw.len]; exact hl) fun tm oss=>hw.repT (ha tm oss)⟩
theorem zBL:∀ J:List (List Int),NXL (frzL (nrA J)) (mat J)
 | []=>.nil
 | r::J=>by
  have ih:=zBL J
  refine .cons ?_ ih
  unfold nrC
  by_cases h:r=[]
  .rw [if_pos h,h]; exact .nil
  .rw [if_neg h]
   show NX (.sl r.length (frzL (avs r))) _
   rw [zhG]; exact .same _
theorem zie (n:Nat) (J:List (List Int)) (r f:Int) (h:tfOk n J r f=true):Con Tryz.prog 291 [.sl J.length (frzL (nrA J)),.int r,.int f] (.own 2 (tfF n J r f).length (avs (tfF n J r f))) :=
 Con.nxL (.cons (.sl _ (zBL J)) (.cons (.same _) (.cons (.same _) .nil))) (zh6 n J r f h)
theorem zyD {B:List (Int × Int)} {k:Nat} (h:k<B.length):(btA B).drop (k*2)=[.int (B[k]?.getD (0,0)).1,.int (B[k]?.getD (0,0)).2]++btA (B.drop (k+1)):=zpk (0,0) h
theorem DrawVC6.facts {P:Program} {cf:Cfg} {N:Nat × List Nat} {ops:Array Oper} {K:St->Prop} {S:St} (W:List Nat) (Fs:List (Nat × AV)) (F:St->Prop) (hS:∀ x∈Fs,S x.1=x.2)
  (h:∀ S0:St,(∀ x∈Fs,S0 x.1=x.2)->DrawVC6 P cf N ops (fun S'=>Off W S0 S'/\F S') S0) (hK:∀ S',Off W S S'->F S'->K S'):DrawVC6 P cf N ops K S :=
 DrawVC6.mono (h S hS) fun S' h=>hK S' h.1 h.2
theorem zh7 (t:List Int) (m:Nat):∀ i,i<=t.length->(∀ k,k<i -> -1<=(parL t)[k]?.getD 0/\(parL t)[k]?.getD 0<k)->∀ j,i<=j->(cuN t m i).near[j]?.getD []=[]
 | 0,_,_,j,_=>by
  show (List.replicate t.length ([]:List Int))[j]?.getD []=[]
  by_cases h:j<t.length
  .rw [List.getElem?_replicate_of_lt h]; rfl
  .rw [List.getElem?_eq_none (by simp; omega)]; rfl
 | i+1,hi,hp,j,hj=>by
  have ih:=zh7 t m i (by omega) (fun k hk=>hp k (by omega)) j (by omega)
  have hpi:=hp i (by omega)
  rw [zm1]
  unfold zoE
  split
  .exact ih
  .rename_i hn
   have h0:¬ (parL t)[i]?.getD 0<0:=fun x=>hn (.inl x)
   show (ziM _ _ _)[j]?.getD []=[]
   unfold ziM
   rw [List.getElem?_set_ne (by omega),List.getElem?_set_ne (by omega)]
   exact ih
theorem zxJ (t:List Int) (m:Nat) (hm:m<1000) (h:cuB t m=true) (hl:t.length<=7) (hb:∀ x∈t,0<=x/\x<=1000) (ht:0<t.length) :
  Con Tryz.prog 244 [.sl t.length (avs t),.int m] (.tup [.own 25 (cuR t m).1.length (omat (cuR t m).1),.own 2 (cuR t m).2.1.length (avs (cuR t m).2.1)]):=by
 obtain ⟨s1,s2,s3,s4,s5,s6⟩:=zvX h
 have s0:∀ i,i<t.length->(cuN t m i).near[i]?.getD []=[]:=fun i hi=>zh7 t m i (by omega) (fun k hk=>s1 k (by omega)) i (Nat.le_refl _)
 have cP:=zlW t (by omega) hb
 have pl:=zgf t
 have z0:(cuN t m 0)=⟨List.replicate t.length [],List.replicate t.length 0,[],[]⟩:=rfl
 have zs:=zm1 t m
 have r1:nrA (cuN t m 0).near=List.replicate t.length (.val (.slice none 0 0)):=by rw [z0]; simp [nrA,nrC]
 have r2:avs (cuN t m 0).top=List.replicate t.length (.int 0):=by rw [z0]; simp [avs]
 have r3:(cuN t m 0).tops=[]:=rfl
 have r4:(cuN t m 0).btw=[]:=rfl
 generalize parL t=P at *
 generalize hS:cuN t m=S at *
 refine zab Tryz.mixed ⟨19,[],[],[3000800000000,3002400000000,3002500000000]⟩ Tryz.func244 ?_
 rw [Tryz.ntmps244]
 simp [go_sem]
 refine CallVC.of (cP) ?_
 simp [go_sem]
 refine ⟨by kernel_rfl,⟨by omega,by omega⟩,⟨by omega,by omega⟩,?_⟩
 refine ⟨by kernel_rfl,?_⟩
 simp [go_sem]
 refine zac (List.range' 7 6++List.range' 31 66) (fun i:Nat=>[(7,.own 149 t.length (nrA (S i).near)),(8,.own 3 t.length (avs (S i).top)),(9,.own 3 (S i).tops.length (avs (S i).tops)),(10,.own 238 (S i).btw.length (btA (S i).btw)),(31,.int i)]) (fun i=>i<=t.length) (fun i=>t.length-i) 0 (by simp) (by simp [go_sem,r1,r2,r3,r4,btA]) (by simp [go_sem]) ?_
 intro i hi
 by_cases hil:i<t.length
 .have hii:(i:Int)<t.length:=by omega
  obtain ⟨⟨n1,n2⟩,n3,n4,n5⟩:=s2 i (by omega)
  have s0:=s0 i hil
  obtain ⟨p1,p2⟩:=s1 i hil
  have z1:=zs i
  have dp:=zav (a:=P) (v:=i) (by omega)
  have eI:iat P i=P[i]?.getD 0:=rfl
  rw [eI] at dp
  unfold zoE at z1
  have gp:(avs P)[i]?=some (.int (P[i]?.getD 0)):=by
   have:=List.getElem?_drop (xs:=avs P) (i:=i) (j:=0)
   rw [dp] at this
   simpa using this.symm
  have bl:=zyt (m:=m) (i:=i) (by omega) (by omega)
  have eB:bitB m i=true ↔ m / 2 ^ i%2=1:=by
   unfold bitB
   exact ⟨fun h=>Nat.eq_of_beq_eq_true h,fun h=>by rw [h]; rfl⟩
  generalize P[i]?.getD 0=p at *
  generalize S i=Z at *
  obtain ⟨N,T,O,B⟩:=Z
  simp only at n1 n2 n3 n4 n5 z1 s0
  by_cases hp:p<0
  .rw [if_pos (.inl hp),if_neg (by omega)] at z1
   have hp0:¬ 0<=p:=by omega
   simp [go_sem,hii,gp,hp,hp0]
   refine ⟨by omega,⟨by omega,by omega⟩,⟨by omega,by omega⟩,i+1,by omega,by omega,zaa _ _ _ (by simp),?_⟩
   rw [z1]
   exact ⟨rfl,za0 _ _ _,⟨by simp,by rw [zam]⟩,⟨rfl,rfl⟩,by omega⟩
  .obtain ⟨q,rfl⟩:∃ q:Nat,p=q:=⟨p.toNat,by omega⟩
   have hp0:(0:Int)<=q:=by omega
   rw [Int.toNat_natCast] at z1
   by_cases hb:bitB m i=true
   .rw [if_pos (.inr hb),if_pos hp0] at z1
    rw [eB.1 hb] at bl
    have h8:(avs T).set i (.val (.int .i64 O.length))=avs (T.set i O.length):=za0 _ _ _
    have lT:(T.set i (O.length:Int)).length=T.length:=by rw [List.length_set]
    have dq:=zav (a:=T.set i (O.length:Int)) (v:=q) (by omega)
    have gq:(avs (T.set i (O.length:Int)))[q]?=some (.int (iat (T.set i (O.length:Int)) q)):=by
     have:=List.getElem?_drop (xs:=avs (T.set i (O.length:Int))) (i:=q) (j:=0)
     rw [dq] at this
     simpa using this.symm
    have di:=zav (a:=T.set i (O.length:Int)) (v:=i) (by omega)
    have gi:(avs (T.set i (O.length:Int)))[i]?=some (.int O.length):=by
     have:=List.getElem?_drop (xs:=avs (T.set i (O.length:Int))) (i:=i) (j:=0)
     rw [di] at this
     have e:iat (T.set i (O.length:Int)) i=O.length:=by
      unfold iat
      rw [List.getElem?_set_self (by omega)]; rfl
     rw [e] at this
     simpa using this.symm
    have eq:iat (T.set i (O.length:Int)) q=(T.set i (O.length:Int))[q]?.getD 0:=rfl
    rw [<- eq] at z1
    generalize iat (T.set i (O.length:Int)) q=v at *
    generalize T.set i (O.length:Int)=T' at *
    simp [go_sem,hii,gp,hp,hp0,bl,h8]
    refine ⟨by omega,⟨by omega,by omega⟩,by kernel_rfl,?_⟩
    have lb:=ztG B
    simp [go_sem,gq,gi]
    refine ⟨by omega,hil,⟨lb,by omega,by omega⟩,?_⟩
    refine ⟨by kernel_rfl,?_⟩
    simp [go_sem]
    refine ⟨⟨by omega,by omega⟩,i+1,by omega,by omega,zaa _ _ _ (by simp),?_⟩
    rw [z1]
    exact ⟨rfl,rfl,⟨by simp,by rw [zam]⟩,⟨by simp,by simp [btA]⟩,by omega⟩
   .rw [if_neg (by intro x; exact x.elim hp hb)] at z1
    have hq:¬ ((m:Int) / 2 ^ i%2=1):=by
     intro x
     apply hb
     apply eB.2
     have:((m / 2 ^ i%2:Nat):Int)=1:=by rw [<- x]; simp
     omega
    have dq:=zav (a:=T) (v:=q) (by omega)
    have gq:(avs T)[q]?=some (.int (iat T q)):=by
     have:=List.getElem?_drop (xs:=avs T) (i:=q) (j:=0)
     rw [dq] at this
     simpa using this.symm
    have eq:iat T q=T[q]?.getD 0:=rfl
    rw [<- eq] at z1
    have g1:=zia (J:=N) (k:=q) (by omega)
    have g2:=zia (J:=N) (k:=i) (by omega)
    have ln:=zjt N
    generalize iat T q=v at *
    have gi0:N[i]?.getD []=[]:=s0
    rw [gi0,show nrC []=.val (.slice none 0 0) from rfl] at g2
    simp [go_sem,hii,gp,hp,hp0,bl,hq,gq]
    have jE:nrA (ziM N q i)=((nrA N).set q (.own 3 ((N[q]?.getD []).length+1) (avs (N[q]?.getD [])++[.int i]))).set i (.own 3 1 [.int q]):=by
     have e1:=zjo (r:=N[q]?.getD []) (i:Int)
     have e2:=zjo (r:=[]) (q:Int)
     rw [<- e1,show (AV.own 3 1 [.int (q:Int)])=nrC ([]++[(q:Int)]) from e2.symm,ziF,ziF]
     unfold ziM
     rw [gi0]
    refine ⟨by omega,by omega,DrawVC6.facts (List.range' 7 6++List.range' 31 66) [(7,.own 149 t.length (nrA N)),(11,.int i),(12,.int q),(8,.own 3 t.length (avs (T.set i v))),(9,.own 3 O.length (avs O)),(10,.own 238 B.length (btA B)),(31,.int i)]
     (fun S'=>S' 7=.own 149 t.length (nrA (ziM N q i))/\S' 8=.own 3 t.length (avs (T.set i v))/\S' 9=.own 3 O.length (avs O)/\S' 10=.own 238 B.length (btA B)/\S' 31=.int i) (by simp [go_sem,za0]) ?_ ?_⟩
    .intro S0 hS0
     have f7:=hS0 (7,.own 149 t.length (nrA N)) (by simp)
     have f11:=hS0 (11,.int i) (by simp)
     have f12:=hS0 (12,.int q) (by simp)
     have f8:=hS0 (8,.own 3 t.length (avs (T.set i v))) (by simp)
     have f9:=hS0 (9,.own 3 O.length (avs O)) (by simp)
     have f10:=hS0 (10,.own 238 B.length (btA B)) (by simp)
     have f31:=hS0 (31,.int i) (by simp)
     simp only at f7 f11 f12 f8 f9 f10 f31
     rw [jE]
     clear hS0 jE z1 s1 s2 s3 s4 s5 s6 zs r1 r2 r3 r4 cP
     by_cases hr:N[q]?.getD []=[]
     .rw [hr]
      rw [hr,show nrC []=.val (.slice none 0 0) from rfl] at g1
      refine ⟨[(0,10),(2,10),(11,10),(13,10),(14,10),(0,17),(2,17),(2,19)],[[0,1,2,3,4,5,6,7,8,9,11,12,13,14,10,15,16,17,18,19,20,21],[0,1,2,3,4,5,6,7,8,9,11,12,13,10,14,15,16,17,18,19,20,21],[0,1,2,3,4,5,6,7,8,9,11,10,12,13,14,15,16,17,18,19,20,21],[0,1,2,3,4,5,6,7,8,9,10,11,12,13,14,15,16,17,18,19,20,21],[0,1,3,4,5,6,7,8,9,11,12,13,14,10,2,15,16,17,18,19,20,21],[0,1,3,4,5,6,7,8,9,11,12,13,14,10,15,16,17,2,18,19,20,21],[0,1,3,4,5,6,7,8,9,11,12,13,14,10,15,16,17,18,19,2,20,21],[0,1,3,4,5,6,7,8,9,11,12,13,10,2,14,15,16,17,18,19,20,21],[0,1,3,4,5,6,7,8,9,11,12,13,10,14,15,16,17,2,18,19,20,21],[0,1,3,4,5,6,7,8,9,11,12,13,10,14,15,16,17,18,19,2,20,21],[0,1,3,4,5,6,7,8,9,11,10,2,12,13,14,15,16,17,18,19,20,21],[0,1,3,4,5,6,7,8,9,11,10,12,13,14,15,16,17,2,18,19,20,21],[0,1,3,4,5,6,7,8,9,11,10,12,13,14,15,16,17,18,19,2,20,21],[0,1,3,4,5,6,7,8,9,10,2,11,12,13,14,15,16,17,18,19,20,21],[0,1,3,4,5,6,7,8,9,10,11,12,13,14,15,16,17,2,18,19,20,21],[0,1,3,4,5,6,7,8,9,10,11,12,13,14,15,16,17,18,19,2,20,21],[1,2,3,4,5,6,7,8,9,11,12,13,14,10,0,15,16,17,18,19,20,21],[1,2,3,4,5,6,7,8,9,11,12,13,14,10,15,16,17,0,18,19,20,21],[1,2,3,4,5,6,7,8,9,11,12,13,10,0,14,15,16,17,18,19,20,21],[1,2,3,4,5,6,7,8,9,11,12,13,10,14,15,16,17,0,18,19,20,21],[1,2,3,4,5,6,7,8,9,11,10,0,12,13,14,15,16,17,18,19,20,21],[1,2,3,4,5,6,7,8,9,11,10,12,13,14,15,16,17,0,18,19,20,21],[1,2,3,4,5,6,7,8,9,10,0,11,12,13,14,15,16,17,18,19,20,21],[1,2,3,4,5,6,7,8,9,10,11,12,13,14,15,16,17,0,18,19,20,21],[1,3,4,5,6,7,8,9,11,12,13,14,10,0,2,15,16,17,18,19,20,21],[1,3,4,5,6,7,8,9,11,12,13,14,10,0,15,16,17,2,18,19,20,21],[1,3,4,5,6,7,8,9,11,12,13,14,10,0,15,16,17,18,19,2,20,21],[1,3,4,5,6,7,8,9,11,12,13,14,10,2,15,16,17,0,18,19,20,21],[1,3,4,5,6,7,8,9,11,12,13,14,10,15,16,17,0,2,18,19,20,21],[1,3,4,5,6,7,8,9,11,12,13,14,10,15,16,17,0,18,19,2,20,21],[1,3,4,5,6,7,8,9,11,12,13,10,0,2,14,15,16,17,18,19,20,21],[1,3,4,5,6,7,8,9,11,12,13,10,0,14,15,16,17,2,18,19,20,21],[1,3,4,5,6,7,8,9,11,12,13,10,0,14,15,16,17,18,19,2,20,21],[1,3,4,5,6,7,8,9,11,12,13,10,2,14,15,16,17,0,18,19,20,21],[1,3,4,5,6,7,8,9,11,12,13,10,14,15,16,17,0,2,18,19,20,21],[1,3,4,5,6,7,8,9,11,12,13,10,14,15,16,17,0,18,19,2,20,21],[1,3,4,5,6,7,8,9,11,10,0,2,12,13,14,15,16,17,18,19,20,21],[1,3,4,5,6,7,8,9,11,10,0,12,13,14,15,16,17,2,18,19,20,21],[1,3,4,5,6,7,8,9,11,10,0,12,13,14,15,16,17,18,19,2,20,21],[1,3,4,5,6,7,8,9,11,10,2,12,13,14,15,16,17,0,18,19,20,21],[1,3,4,5,6,7,8,9,11,10,12,13,14,15,16,17,0,2,18,19,20,21],[1,3,4,5,6,7,8,9,11,10,12,13,14,15,16,17,0,18,19,2,20,21],[1,3,4,5,6,7,8,9,10,0,2,11,12,13,14,15,16,17,18,19,20,21],[1,3,4,5,6,7,8,9,10,0,11,12,13,14,15,16,17,2,18,19,20,21],[1,3,4,5,6,7,8,9,10,0,11,12,13,14,15,16,17,18,19,2,20,21],[1,3,4,5,6,7,8,9,10,2,11,12,13,14,15,16,17,0,18,19,20,21],[1,3,4,5,6,7,8,9,10,11,12,13,14,15,16,17,0,2,18,19,20,21],[1,3,4,5,6,7,8,9,10,11,12,13,14,15,16,17,0,18,19,2,20,21]],fun _=>[],by kernel_rfl,?_⟩
      simp only [AllY,and_true]
      refine ⟨?_,?_,?_,?_,?_,?_,?_,?_,?_,?_,?_,?_,?_,?_,?_,?_,?_,?_,?_,?_,?_,?_,?_,?_,?_,?_,?_,?_,?_,?_,?_,?_,?_,?_,?_,?_,?_,?_,?_,?_,?_,?_,?_,?_,?_,?_,?_,?_⟩
      all_goals
       simp [go_sem,f7,f11,f12,f8,f9,f10,f31,g1,g2]
       exact ⟨by omega,by omega,by omega,by omega,by omega,by omega,by kernel_rfl,fun _ _=>rfl⟩
     .rw [nrC,if_neg hr] at g1
      have rl:=n2 _ (memD [] (show q<N.length by omega))
      generalize N[q]?.getD []=r at *
      have hne:¬ q=i:=by omega
      have c1:q<t.length:=by omega
      have c2:i<t.length:=by omega
      have c3:(r.length+1)*8<=140737488355328:=by omega
      have c4:r.length<=9223372036854775806:=by omega
      have c5:q<(nrA N).length/\i<(nrA N).length:=⟨by omega,by omega⟩
      have gs:((nrA N).set q AV.any)[i]?=some (.val (.slice none 0 0)):=by rw [List.getElem?_set_ne hne]; exact g2
      refine ⟨[(0,10),(2,10),(11,10),(13,10),(14,10),(0,17),(2,17),(2,19)],[[0,1,2,3,4,5,6,7,8,9,11,12,13,14,10,15,16,17,18,19,20,21],[0,1,2,3,4,5,6,7,8,9,11,12,13,10,14,15,16,17,18,19,20,21],[0,1,2,3,4,5,6,7,8,9,11,10,12,13,14,15,16,17,18,19,20,21],[0,1,2,3,4,5,6,7,8,9,10,11,12,13,14,15,16,17,18,19,20,21],[0,1,3,4,5,6,7,8,9,11,12,13,14,10,2,15,16,17,18,19,20,21],[0,1,3,4,5,6,7,8,9,11,12,13,14,10,15,16,17,2,18,19,20,21],[0,1,3,4,5,6,7,8,9,11,12,13,14,10,15,16,17,18,19,2,20,21],[0,1,3,4,5,6,7,8,9,11,12,13,10,2,14,15,16,17,18,19,20,21],[0,1,3,4,5,6,7,8,9,11,12,13,10,14,15,16,17,2,18,19,20,21],[0,1,3,4,5,6,7,8,9,11,12,13,10,14,15,16,17,18,19,2,20,21],[0,1,3,4,5,6,7,8,9,11,10,2,12,13,14,15,16,17,18,19,20,21],[0,1,3,4,5,6,7,8,9,11,10,12,13,14,15,16,17,2,18,19,20,21],[0,1,3,4,5,6,7,8,9,11,10,12,13,14,15,16,17,18,19,2,20,21],[0,1,3,4,5,6,7,8,9,10,2,11,12,13,14,15,16,17,18,19,20,21],[0,1,3,4,5,6,7,8,9,10,11,12,13,14,15,16,17,2,18,19,20,21],[0,1,3,4,5,6,7,8,9,10,11,12,13,14,15,16,17,18,19,2,20,21],[1,2,3,4,5,6,7,8,9,11,12,13,14,10,0,15,16,17,18,19,20,21],[1,2,3,4,5,6,7,8,9,11,12,13,14,10,15,16,17,0,18,19,20,21],[1,2,3,4,5,6,7,8,9,11,12,13,10,0,14,15,16,17,18,19,20,21],[1,2,3,4,5,6,7,8,9,11,12,13,10,14,15,16,17,0,18,19,20,21],[1,2,3,4,5,6,7,8,9,11,10,0,12,13,14,15,16,17,18,19,20,21],[1,2,3,4,5,6,7,8,9,11,10,12,13,14,15,16,17,0,18,19,20,21],[1,2,3,4,5,6,7,8,9,10,0,11,12,13,14,15,16,17,18,19,20,21],[1,2,3,4,5,6,7,8,9,10,11,12,13,14,15,16,17,0,18,19,20,21],[1,3,4,5,6,7,8,9,11,12,13,14,10,0,2,15,16,17,18,19,20,21],[1,3,4,5,6,7,8,9,11,12,13,14,10,0,15,16,17,2,18,19,20,21],[1,3,4,5,6,7,8,9,11,12,13,14,10,0,15,16,17,18,19,2,20,21],[1,3,4,5,6,7,8,9,11,12,13,14,10,2,15,16,17,0,18,19,20,21],[1,3,4,5,6,7,8,9,11,12,13,14,10,15,16,17,0,2,18,19,20,21],[1,3,4,5,6,7,8,9,11,12,13,14,10,15,16,17,0,18,19,2,20,21],[1,3,4,5,6,7,8,9,11,12,13,10,0,2,14,15,16,17,18,19,20,21],[1,3,4,5,6,7,8,9,11,12,13,10,0,14,15,16,17,2,18,19,20,21],[1,3,4,5,6,7,8,9,11,12,13,10,0,14,15,16,17,18,19,2,20,21],[1,3,4,5,6,7,8,9,11,12,13,10,2,14,15,16,17,0,18,19,20,21],[1,3,4,5,6,7,8,9,11,12,13,10,14,15,16,17,0,2,18,19,20,21],[1,3,4,5,6,7,8,9,11,12,13,10,14,15,16,17,0,18,19,2,20,21],[1,3,4,5,6,7,8,9,11,10,0,2,12,13,14,15,16,17,18,19,20,21],[1,3,4,5,6,7,8,9,11,10,0,12,13,14,15,16,17,2,18,19,20,21],[1,3,4,5,6,7,8,9,11,10,0,12,13,14,15,16,17,18,19,2,20,21],[1,3,4,5,6,7,8,9,11,10,2,12,13,14,15,16,17,0,18,19,20,21],[1,3,4,5,6,7,8,9,11,10,12,13,14,15,16,17,0,2,18,19,20,21],[1,3,4,5,6,7,8,9,11,10,12,13,14,15,16,17,0,18,19,2,20,21],[1,3,4,5,6,7,8,9,10,0,2,11,12,13,14,15,16,17,18,19,20,21],[1,3,4,5,6,7,8,9,10,0,11,12,13,14,15,16,17,2,18,19,20,21],[1,3,4,5,6,7,8,9,10,0,11,12,13,14,15,16,17,18,19,2,20,21],[1,3,4,5,6,7,8,9,10,2,11,12,13,14,15,16,17,0,18,19,20,21],[1,3,4,5,6,7,8,9,10,11,12,13,14,15,16,17,0,2,18,19,20,21],[1,3,4,5,6,7,8,9,10,11,12,13,14,15,16,17,0,18,19,2,20,21]],fun _=>[],by kernel_rfl,?_⟩
      simp only [AllY,and_true]
      refine ⟨?_,?_,?_,?_,?_,?_,?_,?_,?_,?_,?_,?_,?_,?_,?_,?_,?_,?_,?_,?_,?_,?_,?_,?_,?_,?_,?_,?_,?_,?_,?_,?_,?_,?_,?_,?_,?_,?_,?_,?_,?_,?_,?_,?_,?_,?_,?_,?_⟩
      all_goals
       simp [go_sem,f7,f11,f12,f8,f9,f10,f31,g1,g2,gs,c1,c2,c3,c4]
       exact ⟨by omega,by omega,by kernel_rfl,fun _ _=>rfl⟩
    .rintro S' hO ⟨h7,h8,h9,h10,h31⟩
     simp [go_sem,h31,h7,h8,h9,h10]
     refine ⟨⟨by omega,by omega⟩,i+1,by omega,by omega,Off.tr (by simp [go_sem]; exact zaa _ _ _ (by simp)) hO,?_⟩
     rw [z1]
     exact ⟨rfl,rfl,⟨rfl,rfl⟩,⟨rfl,rfl⟩,by omega⟩
 .have e:i=t.length:=by omega
  subst e
  have hii:¬ (t.length:Int)<t.length:=by omega
  have s3:=s3
  have s4:=s4
  generalize hZ:S t.length=Z at *
  obtain ⟨N,T,O,B⟩:=Z
  obtain ⟨⟨n1,n2⟩,n3,n4,n5⟩:=s2 t.length (by omega)
  rw [hZ] at n1 n2 n3 n4 n5
  simp only at s3 s4 s5 s6 n1 n2 n3 n4 n5
  have cT:=fun x hx=>zie 7 N x (-1) (s3 x hx).1
  have tL:=fun x hx=>(s3 x hx).2
  rw [n1] at cT
  have eC:cuR t m=(srtT (O.map fun x=>tfF 7 N x (-1)),tfF 7 (jnN B O.length B.length) 0 (-1),1):=by
   unfold cuR
   rw [show cuN t m t.length=⟨N,T,O,B⟩ by rw [hS,hZ]]
  rw [eC]
  obtain ⟨TF,hTF⟩:∃ F:Int->List Int,F=fun x=>tfF 7 N x (-1):=⟨_,rfl⟩
  have eT:∀ x,tfF 7 N x (-1)=TF x:=fun x=>by rw [hTF]
  rw [<- hTF]
  simp only [eT] at cT tL
  clear hTF eT
  simp [go_sem,hii]
  refine ⟨by kernel_rfl,⟨by omega,by omega⟩,?_⟩
  refine ⟨by kernel_rfl,?_⟩
  simp [go_sem]
  refine zac (13::16::List.range' 103 11) (fun k:Nat=>[(13,.own 25 k (omat ((O.map TF).take k))),(103,.int k)]) (fun k=>k<=O.length) (fun k=>O.length-k) 0 (by simp) (by simp [go_sem,omat]) (by simp [go_sem]) ?_
  intro k hk
  by_cases hkl:k<O.length
  .have hki:(k:Int)<O.length:=by omega
   have dk:=zav (a:=O) (v:=k) hkl
   have gk:(avs O)[k]?=some (.int (iat O k)):=by
    have:=List.getElem?_drop (xs:=avs O) (i:=k) (j:=0)
    rw [dk] at this
    simpa using this.symm
   have cx:=cT (iat O k) (memD 0 hkl)
   have t1:(O.map TF).take (k+1)=(O.map TF).take k++[TF (iat O k)]:=by
    rw [List.take_succ_eq_append_getElem (by rw [List.length_map]; exact hkl),List.getElem_map]
    unfold iat
    rw [List.getElem?_eq_getElem hkl]; rfl
   have l1:=tL (iat O k) (memD 0 hkl)
   generalize iat O k=x at *
   simp [go_sem,hki,gk]
   refine CallVC.of (cx) ?_
   simp [go_sem]
   generalize TF x=y at *
   refine ⟨⟨by omega,by omega,by omega⟩,⟨by omega,by omega⟩,k+1,by omega,by omega,zaa _ _ _ (by simp),?_⟩
   rw [t1,zaZ]
   exact ⟨⟨rfl,rfl⟩,by omega⟩
  .have e:k=O.length:=by omega
   subst e
   have hki:¬ (O.length:Int)<O.length:=by omega
   rw [List.take_of_length_le (by rw [List.length_map]; exact Nat.le_refl _)]
   have cF:=zd4 (O.map TF) (fun m hm=>by
    obtain ⟨x,hx,rfl⟩:=List.mem_map.1 hm
    have:=tL x hx; omega) (by rw [List.length_map]; omega)
   have cJ:=zie 7 (jnN B O.length B.length) 0 (-1) s6
   have j0:nrA (jnN B O.length 0)=List.replicate O.length (.val (.slice none 0 0)):=by simp [jnN,nrA,nrC]
   have js:∀ j,(h:j<B.length)->jnN B O.length (j+1)=ziM (jnN B O.length j) (B[j]?.getD (0,0)).1.toNat (B[j]?.getD (0,0)).2.toNat:=fun j h=>by
    unfold jnN
    rw [List.take_succ_eq_append_getElem h,List.foldl_append,List.getElem?_eq_getElem h]; rfl
   rw [List.length_map] at cF
   rw [(s5 B.length (by omega)).1] at cJ
   have lo:=(zbR (O.map TF)).length_eq
   rw [List.length_map] at lo
   try rw [lo]
   generalize O.map TF=OF at *
   generalize jnN B O.length=JN at *
   clear cT tL s6 eC zs s2 hS hZ
   simp [go_sem,hki]
   refine zac (14::18::List.range' 116 31) (fun j:Nat=>[(14,.own 149 O.length (nrA (JN j))),(116,.int j)]) (fun j=>j<=B.length) (fun j=>B.length-j) 0 (by simp) (by simp [go_sem,j0]) (by simp [go_sem]) ?_
   intro j hj
   by_cases hjl:j<B.length
   .have hji:(j:Int)<B.length:=by omega
    have dB:=zyD hjl
    obtain ⟨q1,q2⟩:=s5 j (by omega)
    obtain ⟨u1,u2,u3⟩:=s4 _ (memD (0,0) hjl)
    have sj:=js j hjl
    generalize B[j]?.getD (0,0)=e at *
    obtain ⟨e1,e2⟩:=e
    simp only at u1 u2 u3 sj dB
    obtain ⟨x,rfl⟩:∃ x:Nat,e1=x:=⟨e1.toNat,by omega⟩
    obtain ⟨y,rfl⟩:∃ y:Nat,e2=y:=⟨e2.toNat,by omega⟩
    rw [Int.toNat_natCast,Int.toNat_natCast] at sj
    generalize JN j=J at *
    have g1:=zia (J:=J) (k:=x) (by omega)
    have g2:=zia (J:=J) (k:=y) (by omega)
    have lB:=ztG B
    have lJ:=zjt J
    have nB:¬ btA B=[]:=by intro e; rw [e] at lB; simp at lB; omega
    simp [go_sem,hji,dB]
    refine ⟨⟨nB,by omega⟩,?_⟩
    refine DrawVC6.facts (14::18::List.range' 116 31) [(14,.own 149 O.length (nrA J)),(18,.box 238 [.int x,.int y]),(116,.int j)] (fun S'=>S' 14=.own 149 O.length (nrA (J.set x (J[x]?.getD []++[(y:Int)])))/\S' 18=.box 238 [.int x,.int y]/\S' 116=.int j) (by simp [go_sem]) ?_ ?_
    .intro S0 hS0
     have f14:=hS0 (14,.own 149 O.length (nrA J)) (by simp)
     have f18:=hS0 (18,.box 238 [.int x,.int y]) (by simp)
     have f116:=hS0 (116,.int j) (by simp)
     simp only at f14 f18 f116
     have jE:nrA (J.set x (J[x]?.getD []++[(y:Int)]))=(nrA J).set x (.own 3 ((J[x]?.getD []).length+1) (avs (J[x]?.getD [])++[.int y])):=by
      rw [<- zjo,ziF]
     have g1:=zia (J:=J) (k:=x) (by omega)
     have lJ:=zjt J
     have d1:x<O.length:=by omega
     have d2:x<(nrA J).length:=by omega
     have rl:=q2 _ (memD [] (show x<J.length by omega))
     rw [jE]
     clear hS0 jE
     by_cases hr:J[x]?.getD []=[]
     .rw [hr,show nrC []=.val (.slice none 0 0) from rfl] at g1
      rw [hr]
      refine ⟨[(0,11)],[[0,1,2,3,4,5,6,7,8,9,10,11,12,13],[1,2,3,4,5,6,7,8,9,10,11,0,12,13]],fun _=>[],by kernel_rfl,?_⟩
      simp only [AllY,and_true]
      refine ⟨?_,?_⟩
      all_goals
       simp [go_sem,f14,f18,f116,g1,d1]
       exact ⟨by omega,by kernel_rfl,fun _ _=>rfl⟩
     .rw [nrC,if_neg hr] at g1
      generalize J[x]?.getD []=r at *
      have d3:(r.length+1)*8<=140737488355328:=by omega
      have d4:r.length<=9223372036854775806:=by omega
      refine ⟨[(0,11)],[[0,1,2,3,4,5,6,7,8,9,10,11,12,13],[1,2,3,4,5,6,7,8,9,10,11,0,12,13]],fun _=>[],by kernel_rfl,?_⟩
      simp only [AllY,and_true]
      refine ⟨?_,?_⟩
      all_goals
       simp [go_sem,f14,f18,f116,g1,d1,d3,d4]
       exact ⟨by omega,by kernel_rfl,fun _ _=>rfl⟩
    rintro S1 hO1 ⟨h14,h18,h116⟩
    have ly:((J.set x (J[x]?.getD []++[(y:Int)]))[y]?.getD [])=J[y]?.getD []:=by rw [List.getElem?_set_ne (by omega)]
    have lset:(J.set x (J[x]?.getD []++[(y:Int)])).length=J.length:=List.length_set
    have sj2:ziM J x y=(J.set x (J[x]?.getD []++[(y:Int)])).set y ((J.set x (J[x]?.getD []++[(y:Int)]))[y]?.getD []++[(x:Int)]):=by rw [ly]; rfl
    rw [sj2] at sj
    have rly:=q2 _ (memD [] (show y<J.length by omega))
    rw [<- ly] at rly
    generalize J.set x (J[x]?.getD []++[(y:Int)])=J1 at *
    simp [go_sem]
    refine DrawVC6.facts (14::18::List.range' 116 31) [(14,.own 149 O.length (nrA J1)),(18,.box 238 [.int x,.int y]),(116,.int j)] (fun S'=>S' 14=.own 149 O.length (nrA (J1.set y (J1[y]?.getD []++[(x:Int)])))/\S' 18=.box 238 [.int x,.int y]/\S' 116=.int j) (by simp [go_sem,h14,h18,h116]) ?_ ?_
    .intro S0 hS0
     have f14:=hS0 (14,.own 149 O.length (nrA J1)) (by simp)
     have f18:=hS0 (18,.box 238 [.int x,.int y]) (by simp)
     have f116:=hS0 (116,.int j) (by simp)
     simp only at f14 f18 f116
     have jE:nrA (J1.set y (J1[y]?.getD []++[(x:Int)]))=(nrA J1).set y (.own 3 ((J1[y]?.getD []).length+1) (avs (J1[y]?.getD [])++[.int x])):=by
      rw [<- zjo,ziF]
     have g1:=zia (J:=J1) (k:=y) (by omega)
     have lJ:=zjt J1
     have d1:y<O.length:=by omega
     have d2:y<(nrA J1).length:=by omega
     have rl:=rly
     rw [jE]
     clear hS0 jE
     by_cases hr:J1[y]?.getD []=[]
     .rw [hr,show nrC []=.val (.slice none 0 0) from rfl] at g1
      rw [hr]
      refine ⟨[(0,11)],[[0,1,2,3,4,5,6,7,8,9,10,11,12,13],[1,2,3,4,5,6,7,8,9,10,11,0,12,13]],fun _=>[],by kernel_rfl,?_⟩
      simp only [AllY,and_true]
      refine ⟨?_,?_⟩
      all_goals
       simp [go_sem,f14,f18,f116,g1,d1]
       exact ⟨by omega,by kernel_rfl,fun _ _=>rfl⟩
     .rw [nrC,if_neg hr] at g1
      generalize J1[y]?.getD []=r at *
      have d3:(r.length+1)*8<=140737488355328:=by omega
      have d4:r.length<=9223372036854775806:=by omega
      refine ⟨[(0,11)],[[0,1,2,3,4,5,6,7,8,9,10,11,12,13],[1,2,3,4,5,6,7,8,9,10,11,0,12,13]],fun _=>[],by kernel_rfl,?_⟩
      simp only [AllY,and_true]
      refine ⟨?_,?_⟩
      all_goals
       simp [go_sem,f14,f18,f116,g1,d1,d3,d4]
       exact ⟨by omega,by kernel_rfl,fun _ _=>rfl⟩
    rintro S2 hO2 ⟨k14,k18,k116⟩
    simp [go_sem,k116,k14]
    refine ⟨⟨by omega,by omega⟩,j+1,by omega,by omega,Off.tr (Off.tr (by simp [go_sem]; exact zaa _ _ _ (by simp)) hO1) hO2,?_⟩
    rw [sj]
    exact ⟨rfl,by omega⟩
   .have e:j=B.length:=by omega
    subst e
    have hji:¬ (B.length:Int)<B.length:=by omega
    simp [go_sem,hji]
    refine CallVC.of (cF) ?_
    simp [go_sem]
    refine CallVC.of (cJ) ?_
    simp [go_sem]
end Go.Proofs.YthhdollpkieknaaGreat


namespace Go.Proofs.YthhdollpkieknaaGreat
open Go.Abs Go.Shelf Go.Sort
def paF (s:Prt):List AV:=[.sl s.1.length (mat s.1),.sl s.2.1.length (avs s.2.1),.int s.2.2]
theorem zrS (s:Prt):frzL (paF s)=paF s:=by simp [paF,frzL,frz]
theorem zek (X:List Prt):(X.flatMap paF).length=X.length*3:=by
 induction X with
 | nil=>rfl
 | cons s X ih=>rw [List.flatMap_cons,List.length_append,ih]; simp [paF]; omega
def PaOk (s:Prt):Prop:=(s.1.length<=100/\∀ r∈s.1,r.length<=100)/\s.2.1.length<=100
theorem znZ [DrawK] (s r:Prt) (hs:PaOk s) (hr:PaOk r):Con Tryz.prog 245 [.agg (paF s),.agg (paF r)] (.int (zci s r)):=by
 obtain ⟨⟨s1,s2⟩,s3⟩:=hs
 obtain ⟨⟨r1,r2⟩,r3⟩:=hr
 have c1:=zbo s.2.1 r.2.1 (by omega) (by omega)
 have c2:=zeR s.1 r.1 (by omega) (by omega) (fun x hx=>by have:=s2 x hx; omega) (fun x hx=>by have:=r2 x hx; omega)
 unfold zci paF
 generalize za4 s.1 r.1=w at *
 generalize cmpT s.2.1 r.2.1=v at *
 by_cases v0:v=0
 .rw [if_pos v0]
  refine zab Tryz.mixed ⟨6,[],[],[]⟩ Tryz.func245 ?_
  rw [Tryz.ntmps245]
  simp [go_sem]
  refine CallVC.of (c1) ?_
  simp [go_sem]
  simp [go_sem,v0]
  refine CallVC.of (c2) ?_
  simp [go_sem]
 .rw [if_neg v0]
  refine zab Tryz.mixed ⟨6,[],[],[]⟩ Tryz.func245 ?_
  rw [Tryz.ntmps245]
  simp [go_sem]
  refine CallVC.of (c1) ?_
  simp [go_sem]
  simp [go_sem,v0]
theorem zsW (X:List Prt) (h1:∀ s∈X,s.2.2=1) (hok:∀ s∈X,PaOk s) (hn:X.length<=1048576) :
  GCon Tryz.prog 247 [.own 172 X.length (X.flatMap paF),.val (.func (.func 245) #[] #[])] (.tup []) [.own 172 X.length ((zfY X).flatMap paF),.any]:=by
 obtain ⟨ys,p1,p2,p3⟩:=zkD Tryz.sortParts 3 Tryz.isAgg172 Tryz.sizeOf172 ⟨_,Tryz.func247,by decide,rfl⟩ paF zci zCe 245 172 (by kernel_rfl) X (fun _ _=>rfl)
  (fun x hx y hy=>by rw [zrS,zrS]; exact @znZ ⟨1⟩ x y (hok x hx) (hok y hy)) (by omega)
 have e:ys=zfY X:=zk0 p1 h1 p2
 subst e
 exact p3
theorem zCp (x1 x2 x3 y3:AV):∀ P:List AV,(P++[x1,x2,x3]).set (P.length+2) y3=P++[x1,x2,y3]
 | []=>rfl
 | p::P=>by
  have:=zCp x1 x2 x3 y3 P
  show p::(P++[x1,x2,x3]).set (P.length+2) y3=p::(P++[x1,x2,y3])
  rw [this]
theorem zpd (O:List Prt) (l s:Prt):zd8 (O++[l]) s=if zci l s=0 then O++[(l.1,l.2.1,l.2.2+1)] else O++[l]++[s]:=by
 have e:∀ O:List Prt,(O++[l]).set O.length (l.1,l.2.1,l.2.2+1)=O++[(l.1,l.2.1,l.2.2+1)]:=fun O=>by
  induction O with
  | nil=>rfl
  | cons o O ih=>rw [List.cons_append,List.length_cons,List.set_cons_succ,ih]; rfl
 unfold zd8
 rw [List.getLast?_concat]
 simp only [List.length_append,List.length_singleton,Nat.add_sub_cancel,e]
theorem zye:∀ n,n<=6->shlI .i64 1 ((n:Nat):Int)=((2 ^ n:Nat):Int):=by decide
theorem zvs (t:List Int):(prtL t).length=2 ^ (t.length-1):=by simp [prtL]
theorem zzs {t:List Int} {k:Nat} (h:k<2 ^ (t.length-1)):(prtL t)[k]?.getD ([],[],0)=cuR t (2*k):=by simp [prtL,h]
theorem zhK {t:List Int} (h:t∈trN 6):GCon Tryz.prog 187 [.sl t.length (avs t)] (.own 172 (parP t).length ((parP t).flatMap paF)) [.any]:=by
 obtain ⟨tL,t6,_⟩:=zcy h
 have t0:0<t.length:=tL.1
 have hcu:=fun k (hk:k<2 ^ (t.length-1))=>List.all_eq_true.1 (List.all_eq_true.1 zx7 t h) k (List.mem_range.2 hk)
 have hpr:=List.all_eq_true.1 zzH t h
 simp only [Bool.and_eq_true,List.all_eq_true,decide_eq_true_eq] at hpr
 obtain ⟨hp1,hp2⟩:=hpr
 have bt:∀ x∈t,0<=x/\x<=1000:=fun x hx=>by
  have ok:(trN 6).all (fun t=>t.all fun x=>decide (0<=x) && decide (x<=1000))=true:=by decide +kernel
  have:=List.all_eq_true.1 (List.all_eq_true.1 ok t h) x hx
  simpa using this
 have pw6:2 ^ (t.length-1)<=32/\2 ^ t.length=2*2 ^ (t.length-1):=by
  refine ⟨Nat.pow_le_pow_right (by omega) (show t.length-1<=5 by omega),?_⟩
  rw [<- Nat.pow_succ',Nat.succ_eq_add_one,Nat.sub_add_cancel t0]
 have hcut:=fun k (hk:k<2 ^ (t.length-1))=>zxJ t (2*k) (by omega) (hcu k hk) (by omega) bt t0
 have ok1:∀ s∈prtL t,s.2.2=1/\PaOk s:=fun s hs=>by
  obtain ⟨k,_,rfl⟩:=List.mem_map.1 hs
  have:=hp1 _ hs
  exact ⟨rfl,⟨by omega,fun r hr=>by have:=this.1.2 r hr; omega⟩,by omega⟩
 have so0:∀ s∈zfY (prtL t),s.2.2=1/\PaOk s:=fun s hs=>ok1 s ((zcE _).mem_iff.1 hs)
 have pl:=zvs t
 have cS:=zsW (prtL t) (fun s hs=>(ok1 s hs).1) (fun s hs=>(ok1 s hs).2) (by omega)
 have sl0:=zrC (prtL t)
 have shl:=zye t.length t6
 have tk:∀ k,k<2 ^ (t.length-1)->(prtL t).take (k+1)=(prtL t).take k++[cuR t (2*k)]:=fun k hk=>by
  rw [List.take_succ_eq_append_getElem (by omega),<- zzs hk,List.getElem?_eq_getElem (by omega)]; rfl
 have hT:parP t=zcC (zfY (prtL t)):=rfl
 rw [hT]
 rw [pw6.2] at shl
 rw [pl] at cS sl0
 have ta:(prtL t).take (2 ^ (t.length-1))=prtL t:=List.take_of_length_le (by omega)
 generalize prtL t=PL at *
 generalize 2 ^ (t.length-1)=M at *
 have paL:=fun k=>zek (PL.take k)
 refine zap Tryz.mixed ⟨12,[27,28],[1000000+247],[]⟩ [] Tryz.func187 ?_
 rw [Tryz.ntmps187]
 simp [go_sem]
 refine zac (List.range' 3 4++List.range' 13 19) (fun k:Nat=>[(3,.own 172 k ((PL.take k).flatMap paF)),(4,.int (2*(k:Int)))]) (fun k=>k<=M) (fun k=>M-k) 0 (by simp) (by simp [go_sem]) (by simp [go_sem]) ?_
 intro k hk
 by_cases hkl:k<M
 .have hki:2*(k:Int)<((2*M:Nat):Int):=by omega
  have c1:=hcut k hkl
  have t1:=tk k hkl
  have e2:((2*k:Nat):Int)=2*(k:Int):=by omega
  rw [e2] at c1
  have lk:=paL k
  rw [List.length_take,Nat.min_eq_left (by omega)] at lk
  have hx:paF (cuR t (2*k))=[.sl (cuR t (2*k)).1.length (mat (cuR t (2*k)).1),.sl (cuR t (2*k)).2.1.length (avs (cuR t (2*k)).2.1),.int 1]:=rfl
  generalize cuR t (2*k)=y at *
  generalize hC:(PL.take k).flatMap paF=C at *
  simp [go_sem,shl,hkl]
  refine CallVC.of (c1) ?_
  simp [go_sem]
  refine ⟨⟨by rw [lk],by omega,by omega⟩,⟨by omega,by omega⟩,k+1,by omega,by omega,zaa _ _ _ (by simp),?_⟩
  rw [t1,List.flatMap_append,hC]
  refine ⟨⟨rfl,?_⟩,by omega⟩
  simp [hx]
 .have e:k=M:=by omega
  subst e
  have hki:¬ 2*(k:Int)<((2*k:Nat):Int):=by omega
  rw [ta]
  simp [go_sem,shl]
  refine ⟨_,_,cS,?_⟩
  simp [go_sem]
  have so:=so0
  have sl:(zfY PL).length=k:=sl0
  generalize zfY PL=S at *
  refine zac (8::10::11::List.range' 38 33) (fun i:Nat=>[(8,.own 172 (zcC (S.take i)).length ((zcC (S.take i)).flatMap paF)),(38,.int i)]) (fun i=>i<=k) (fun i=>k-i) 0 (by simp) (by simp [go_sem,zcC]) (by simp [go_sem]) ?_
  intro i hi
  by_cases hi2:i<k
  .have hii:(i:Int)<k:=by omega
   have hS:i<S.length:=by omega
   have dr:(S.flatMap paF).drop (i*3)=paF (S[i]?.getD ([],[],0))++(S.drop (i+1)).flatMap paF:=by
    have e1:((S.take i).flatMap paF).length=i*3:=by rw [zek,List.length_take,Nat.min_eq_left (by omega)]
    have e2:S.drop i=S[i]?.getD ([],[],0)::S.drop (i+1):=by rw [List.drop_eq_getElem_cons hS]; simp [hS]
    have e3:S.flatMap paF=(S.take i).flatMap paF++(S.drop i).flatMap paF:=by rw [<- List.flatMap_append,List.take_append_drop]
    rw [e3,List.drop_append_of_le_length (by omega),e2,List.flatMap_cons,List.drop_eq_nil_of_le (by omega),List.nil_append]
   have hs:=so _ (memD ([],[],0) hS)
   generalize hsp:S[i]?.getD ([],[],0)=s at *
   obtain ⟨a,b,k⟩:=s
   obtain ⟨hk,hs⟩:=hs
   simp only at hk
   subst hk
   simp only [paF] at dr
   have ml:(S.flatMap paF).length=k*3:=by rw [zek,sl]
   have nm:¬ S.flatMap paF=[]:=by intro e; rw [e] at ml; simp at ml; omega
   have gs:zcC (S.take (i+1))=zd8 (zcC (S.take i)) (a,b,1):=by
    rw [List.take_succ_eq_append_getElem hS,zh2]
    congr 1
    rw [<- hsp,List.getElem?_eq_getElem hS]; rfl
   have iv:=zso (S.take i)
   generalize S.flatMap paF=M at *
   rcases (List.eq_nil_or_concat (zcC (S.take i))) with ho | ⟨O,l,ho⟩
   .rw [ho,show zd8 [] (a,b,1)=[(a,b,1)] from rfl] at gs
    rw [ho]
    simp [go_sem,hii,dr]
    refine ⟨⟨nm,by omega⟩,by kernel_rfl,?_⟩
    refine ⟨by kernel_rfl,?_⟩
    simp [go_sem]
    refine ⟨⟨by omega,by omega⟩,i+1,by omega,by omega,zaa _ _ _ (by simp),?_⟩
    rw [gs]
    exact ⟨⟨rfl,by simp [paF]⟩,by omega⟩
   .rw [List.concat_eq_append] at ho
    rw [ho] at iv
    rw [ho,zpd] at gs
    rw [ho]
    obtain ⟨i1,i2,i3⟩:=iv
    have kb:=i3 (fun s hs=>(so s (List.mem_of_mem_take hs)).1) l (by simp)
    have hl:PaOk l:=by
     obtain ⟨t,t1,t2⟩:=i2 l (by simp)
     have:=(so t (List.mem_of_mem_take t1)).2
     simp only [zdh,Prod.mk.injEq] at t2
     unfold PaOk
     rw [t2.1,t2.2]; exact this
    have cG:=znZ l (a,b,1) hl hs
    have cl:((O++[l]).flatMap paF).length=(O.length+1)*3:=by rw [zek]; simp
    have cd:((O++[l]).flatMap paF).drop (O.length*3)=[.sl l.1.length (mat l.1),.sl l.2.1.length (avs l.2.1),.int l.2.2]:=by
     rw [List.flatMap_append,List.drop_append_of_le_length (by rw [zek]; omega),List.drop_eq_nil_of_le (by rw [zek]; omega)]
     simp [paF]
    have cs:∀ y,((O++[l]).flatMap paF).set (O.length*3+2) y=O.flatMap paF++[.sl l.1.length (mat l.1),.sl l.2.1.length (avs l.2.1),y]:=fun y=>by
     have e:=zCp (.sl l.1.length (mat l.1)) (.sl l.2.1.length (avs l.2.1)) (.int l.2.2) y (O.flatMap paF)
     rw [zek] at e
     rw [<- e,List.flatMap_append]; simp [paF]
    have ol:(O++[l]).length=O.length+1:=by simp
    have i1':O.length+1<=i:=by
     rw [ol,List.length_take] at i1; omega
    rw [List.length_take] at i3
    simp only [paF] at cG
    rw [ol]
    generalize hC:(O++[l]).flatMap paF=C at *
    have cg:C[O.length*3+2]?=some (.val (.int .i64 l.2.2)):=by rw [<- List.getElem?_drop,cd]; rfl
    have nC:¬ C=[]:=by intro e; rw [e] at cl; simp at cl
    have hd:0<O.length+1:=by omega
    generalize hv:zci l (a,b,1)=v at *
    by_cases hz:v=0
    .rw [if_pos hz] at gs
     subst hz
     simp [go_sem,hii,dr,hd,cd]
     refine ⟨⟨nm,by omega⟩,by kernel_rfl,?_⟩
     refine ⟨by omega,by omega,⟨nC,by omega⟩,?_⟩
     refine CallD.of (cG) ?_
     simp [go_sem]
     refine ⟨by kernel_rfl,?_⟩
     simp [go_sem]
     simp [go_sem,cg]
     have tl:(S.take i).length<=i:=by rw [List.length_take]; omega
     have kk:0<=l.2.2/\l.2.2<=1000:=by omega
     refine ⟨by omega,by omega,nC,⟨by omega,by omega⟩,by omega,nC,by omega,⟨by omega,by omega⟩,i+1,by omega,by omega,zaa _ _ _ (by simp),?_⟩
     rw [gs,cs]
     refine ⟨⟨by simp,?_⟩,by omega⟩
     rw [List.flatMap_append]
     simp [paF]
    .rw [if_neg hz] at gs
     simp [go_sem,hii,dr,hd,cd]
     refine ⟨⟨nm,by omega⟩,by kernel_rfl,?_⟩
     refine ⟨by omega,by omega,⟨nC,by omega⟩,?_⟩
     refine CallD.of (cG) ?_
     simp [go_sem]
     simp [go_sem,hz]
     refine ⟨by kernel_rfl,?_⟩
     simp [go_sem]
     refine ⟨⟨by rw [cl],by omega,by omega⟩,⟨by omega,by omega⟩,i+1,by omega,by omega,zaa _ _ _ (by simp),?_⟩
     rw [gs]
     refine ⟨⟨by simp,?_⟩,by omega⟩
     rw [List.flatMap_append,hC]
     simp [paF]
  .have e:i=S.length:=by omega
   subst e
   have hii:¬ (S.length:Int)<k:=by omega
   rw [List.take_length]
   simp [go_sem,hii]
end Go.Proofs.YthhdollpkieknaaGreat


namespace Go.Proofs.YthhdollpkieknaaGreat
open Go.Abs
def prX (s:Prt) (k:Nat):AV:=if k=0 then .val (.slice none 0 0) else .own 3 k (avs ((pcP s).take k))
def mpX (s:Prt):List AV:=[.int s.2.2,if s.1=[] then .val (.slice none 0 0) else .own 3 s.1.length (avs (pcP s)),.int (skP s)]
def rwP (t:List Int):AV:=.sl (parP t).length (frzL ((parP t).flatMap mpX))
theorem zzc {t:List Int} (h:t∈trN 6):(parP t).length<=100/\∀ s∈parP t,s.1.length<=6/\(∀ r∈s.1,r.length<=6)/\s.2.1.length<=6/\0<=s.2.2/\s.2.2<=100:=by
 have ok:(trN 6).all (fun t=>decide ((parP t).length<=100) && (parP t).all fun s=>decide (s.1.length<=6) && (s.1.all (fun r=>decide (r.length<=6)) && (decide (s.2.1.length<=6) && (decide (0<=s.2.2) && decide (s.2.2<=100)))))=true:=by decide +kernel
 have k:=List.all_eq_true.1 ok t h
 simp only [Bool.and_eq_true,decide_eq_true_eq,List.all_eq_true] at k
 exact k
theorem zhF:GCon Tryz.prog 100 [.agg [.sl 37 (mat (trN 6)),.sl 37 fcF]] (.own 165 37 ((trN 6).map rwP)) [.agg [.sl 37 (mat (trN 6)),.sl 37 fcF]]:=by
 have l6:=zaI
 have at6:=fun t h=>zcy (t:=t) h
 have tw:((trN 6).map rwP).take 37=(trN 6).map rwP:=List.take_of_length_le (by rw [List.length_map]; omega)
 have cPl:=fun t h1 h2 h3=>zg4 (trN 6) 37 fcF t h1 h2 h3
 rw [l6] at cPl
 generalize fcF=FC at *
 refine zap Tryz.mixed ⟨12,[57],[1000000+187],[]⟩ [0] Tryz.func100 ?_
 rw [Tryz.ntmps100]
 simp [go_sem]
 refine zac (3::5::6::8::9::11::List.range' 16 45) (fun i:Nat=>[(3,.own 165 i (((trN 6).map rwP).take i)),(16,.int i)]) (fun i=>i<=37) (fun i=>37-i) 0 (by simp) (by simp [go_sem]) (by simp [go_sem]) ?_
 intro i hi
 by_cases hil:i<37
 .have hii:(i:Int)<37:=by omega
  have hl:i<(trN 6).length:=by omega
  have dm:=zag hl
  have hm:=memD [] hl
  have cC:=zhK hm
  obtain ⟨b1,b2⟩:=zzc hm
  have nm:¬ trN 6=[]:=by intro e; rw [e] at l6; simp at l6
  have tki:((trN 6).map rwP).take (i+1)=((trN 6).map rwP).take i++[rwP ((trN 6)[i]?.getD [])]:=by
   rw [List.take_succ_eq_append_getElem (by rw [List.length_map]; omega),List.getElem_map,List.getElem?_eq_getElem hl]; rfl
  have lti:(((trN 6).map rwP).take i).length=i:=by rw [List.length_take,List.length_map]; omega
  have hrw:rwP ((trN 6)[i]?.getD [])=.sl (parP ((trN 6)[i]?.getD [])).length (frzL ((parP ((trN 6)[i]?.getD [])).flatMap mpX)):=rfl
  have lRW:((trN 6).map rwP).length=37:=by rw [List.length_map]; omega
  generalize (trN 6)[i]?.getD []=t at *
  generalize parP t=L at *
  generalize (trN 6).map rwP=RW at *
  simp [go_sem,hii,dm]
  refine ⟨nm,?_⟩
  refine ⟨_,_,cC,?_⟩
  simp [go_sem]
  refine zac (6::8::9::11::List.range' 24 32) (fun j:Nat=>[(6,.own 167 j ((L.take j).flatMap mpX)),(24,.int j)]) (fun j=>j<=L.length) (fun j=>L.length-j) 0 (by simp) (by simp [go_sem]) (by simp [go_sem]) ?_
  intro j hj
  by_cases hjl:j<L.length
  .have hji:(j:Int)<L.length:=by omega
   have dr:=zfq paF (fun _=>rfl) ([],[],0) hjl
   have nL:¬ L.flatMap paF=[]:=by intro e; have:=zbk paF (fun _=>rfl) L; rw [e] at this; simp at this; omega
   have lL:=zbk paF (fun _=>rfl) L
   have hms:=memD ([],[],0) hjl
   obtain ⟨c1,c2,c3,c4,c5⟩:=b2 _ hms
   have tkj:L.take (j+1)=L.take j++[L[j]?.getD ([],[],0)]:=by
    rw [List.take_succ_eq_append_getElem hjl,List.getElem?_eq_getElem hjl]; rfl
   have clj:=zbk mpX (fun _=>rfl) (L.take j)
   rw [List.length_take,Nat.min_eq_left (by omega)] at clj
   generalize L[j]?.getD ([],[],0)=s at *
   obtain ⟨sa,sb,sc⟩:=s
   simp only [paF] at dr
   simp only at c1 c2 c3 c4 c5
   have hMX:mpX (sa,sb,sc)=[.int sc,if sa=[] then .val (.slice none 0 0) else .own 3 sa.length (avs (pcP (sa,sb,sc))),.int (ixT (trN 6) sb+1)]:=rfl
   have hcp:pcP (sa,sb,sc)=sa.map fun c=>ixT (trN 6) c+1:=rfl
   have hcr:∀ k,prX (sa,sb,sc) k=if k=0 then .val (.slice none 0 0) else .own 3 k (avs ((pcP (sa,sb,sc)).take k)):=fun k=>rfl
   have hcl:(pcP (sa,sb,sc)).length=sa.length:=by rw [hcp,List.length_map]
   have cPs:=cPl sb (by omega) (fun r hr=>by have:=(at6 r hr).2.1; omega) (by omega)
   have bsk:=zhq (trN 6) sb
   rw [l6] at bsk
   generalize ixT (trN 6) sb+1=sk at *
   generalize hCP:pcP (sa,sb,sc)=cps at *
   generalize hMC:L.flatMap paF=MC at *
   generalize hC:(L.take j).flatMap mpX=C at *
   simp [go_sem,hji,dr]
   refine ⟨⟨nL,by omega⟩,by kernel_rfl,?_⟩
   refine CallD.of (cPs) ?_
   simp [go_sem]
   refine ⟨by kernel_rfl,?_⟩
   simp [go_sem]
   refine zac (9::11::List.range' 38 13) (fun k:Nat=>[(9,.box 167 [.int sc,prX (sa,sb,sc) k,.int sk]),(38,.int k)]) (fun k=>k<=sa.length) (fun k=>sa.length-k) 0 (by simp) (by simp [go_sem,prX]) (by simp [go_sem,prX]) ?_
   intro k hk
   by_cases hkl:k<sa.length
   .have hki:(k:Int)<sa.length:=by omega
    have dk:=zag hkl
    have hmk:=memD [] hkl
    have hk6:=c2 _ hmk
    have na:¬ sa=[]:=by rintro rfl; simp at hkl
    have cP:=cPl (sa[k]?.getD []) (by omega) (fun r hr=>by have:=(at6 r hr).2.1; omega) (by omega)
    have bp:=zhq (trN 6) (sa[k]?.getD [])
    rw [l6] at bp
    have tkk:cps.take (k+1)=cps.take k++[ixT (trN 6) (sa[k]?.getD [])+1]:=by
     rw [List.take_succ_eq_append_getElem (by omega)]
     congr 2
     subst hcp
     rw [List.getElem_map,List.getElem?_eq_getElem hkl]; rfl
    have lk:(cps.take k).length=k:=by rw [List.length_take]; omega
    have x1:prX (sa,sb,sc) (k+1)=.own 3 (k+1) (avs (cps.take k++[ixT (trN 6) (sa[k]?.getD [])+1])):=by rw [hcr,if_neg (by omega),tkk]
    generalize sa[k]?.getD []=r at *
    generalize ixT (trN 6) r+1=v at *
    by_cases k0:k=0
    .have x0:prX (sa,sb,sc) k=.val (.slice none 0 0):=by rw [hcr,if_pos k0]
     rw [x0]
     simp [go_sem,hki,dk]
     refine ⟨na,by kernel_rfl,?_⟩
     refine CallD.of (cP) ?_
     simp [go_sem]
     refine ⟨by kernel_rfl,?_⟩
     simp [go_sem]
     refine ⟨⟨by omega,by omega⟩,k+1,by omega,by omega,zaa _ _ _ (by simp),?_⟩
     rw [x1]
     subst k0
     exact ⟨by simp [avs],by omega⟩
    .have x0:prX (sa,sb,sc) k=.own 3 k (avs (cps.take k)):=by rw [hcr,if_neg k0]
     rw [x0]
     simp [go_sem,hki,dk]
     refine ⟨na,by kernel_rfl,?_⟩
     refine CallD.of (cP) ?_
     simp [go_sem]
     refine ⟨⟨by omega,by omega,by omega⟩,?_⟩
     refine ⟨by kernel_rfl,?_⟩
     simp [go_sem]
     refine ⟨⟨by omega,by omega⟩,k+1,by omega,by omega,zaa _ _ _ (by simp),?_⟩
     rw [x1,zam]
     exact ⟨rfl,by omega⟩
   .have e:k=sa.length:=by omega
    subst e
    have hki:¬ (sa.length:Int)<sa.length:=by omega
    by_cases s0:sa=[]
    .have x0:prX (sa,sb,sc) sa.length=.val (.slice none 0 0):=by rw [hcr,if_pos (by rw [s0]; rfl)]
     rw [x0]
     rw [if_pos s0] at hMX
     simp [go_sem,hki]
     refine ⟨⟨by rw [clj],by omega,by omega⟩,⟨by omega,by omega⟩,j+1,by omega,by omega,(Off.reset (by intro x hx; simp at hx |-; omega) (by simp) (by simp [go_sem,zaa])),?_⟩
     rw [tkj,List.flatMap_append,hC]
     refine ⟨⟨by omega,?_⟩,by omega⟩
     simp [hMX]
    .have x0:prX (sa,sb,sc) sa.length=.own 3 sa.length (avs cps):=by
      rw [hcr,if_neg (by intro e; exact s0 (List.length_eq_zero_iff.1 e)),List.take_of_length_le (by omega)]
     rw [x0]
     rw [if_neg s0] at hMX
     simp [go_sem,hki]
     refine ⟨⟨by rw [clj],by omega,by omega⟩,⟨by omega,by omega⟩,j+1,by omega,by omega,(Off.reset (by intro x hx; simp at hx |-; omega) (by simp) (by simp [go_sem,zaa])),?_⟩
     rw [tkj,List.flatMap_append,hC]
     refine ⟨⟨by omega,?_⟩,by omega⟩
     simp [hMX]
  .have e:j=L.length:=by omega
   subst e
   have hji:¬ (L.length:Int)<L.length:=by omega
   rw [List.take_length]
   simp [go_sem,hji]
   refine ⟨⟨by omega,by omega,by omega⟩,⟨by omega,by omega⟩,i+1,by omega,by omega,(Off.reset (by intro x hx; simp at hx |-; omega) (by simp) (by simp [go_sem,zaa])),?_⟩
   rw [tki,hrw]
   exact ⟨⟨rfl,rfl⟩,by omega⟩
 .have e:i=37:=by omega
  subst e
  rw [tw]
  simp [go_sem]
def ppF:List AV:=parT.map fun r=>.sl r.length (r.flatMap ctF)
theorem zxa:∀ T:List (List Int),frzL (T.map rwP)=T.map rwP
 | []=>rfl
 | t::T=>by
  rw [List.map_cons,frzL,zxa T]; rfl
theorem zwI:∀ L:List Prt,NXL (frzL (L.flatMap mpX)) ((L.map fun s=>(s.2.2,pcP s,skP s)).flatMap fun x=>[.int x.1,.sl x.2.1.length (avs x.2.1),.int x.2.2])
 | []=>.nil
 | s::L=>by
  rw [List.map_cons,List.flatMap_cons,List.flatMap_cons,zlL]
  refine NXL.app (zwI L) ?_
  by_cases h:s.1=[]
  .have e:mpX s=[.int s.2.2,.val (.slice none 0 0),.int (skP s)]:=by unfold mpX; rw [if_pos h]
   have e2:pcP s=[]:=by unfold pcP; rw [h]; rfl
   rw [e,e2]
   exact .cons (.same _) (.cons .nil (.cons (.same _) .nil))
  .have e:mpX s=[.int s.2.2,.own 3 s.1.length (avs (pcP s)),.int (skP s)]:=by unfold mpX; rw [if_neg h]
   have e2:(pcP s).length=s.1.length:=by simp [pcP]
   rw [e]
   show NXL [.int s.2.2,.sl s.1.length (frzL (avs (pcP s))),.int (skP s)] [.int s.2.2,.sl (pcP s).length (avs (pcP s)),.int (skP s)]
   rw [zhG,e2]
   exact NXL.same _
theorem zrW:∀ T:List (List Int),NXL (T.map rwP) (T.map fun t=>trG ((parP t).map fun s=>(s.2.2,pcP s,skP s)))
 | []=>.nil
 | t::T=>by
  rw [List.map_cons,List.map_cons]
  refine .cons ?_ (zrW T)
  show NX (.sl (parP t).length (frzL ((parP t).flatMap mpX))) (trG _)
  unfold trG
  rw [List.length_map]
  exact .sl _ (zwI _)
theorem zy6:((trN 6).map fun t=>trG ((parP t).map fun s=>(s.2.2,pcP s,skP s)))=ppF:=by
 have e:=congrArg (List.map trG) zBE
 rw [List.map_map,List.map_map] at e
 refine (Eq.trans ?_ e).trans ?_
 .rfl
 .unfold ppF
  refine List.map_congr_left fun r _=>?_
  show trG (r.map _)=_
  unfold trG
  rw [List.length_map,List.flatMap_map]
  show AV.sl r.length (r.flatMap fun c=>[.int c.1,.sl (nvs c.2.1).length (avs (nvs c.2.1)),.int c.2.2])=_
  simp only [zjb]
  rfl
theorem zgy:GCon Tryz.prog 100 [.agg [.sl 37 (mat (trN 6)),.sl 37 fcF]] (.sl 37 ppF) [.agg [.sl 37 (mat (trN 6)),.sl 37 fcF]]:=by
 refine GCon.nx (.sl 37 ?_) (GCon.frzR zhF (show frz (.own _ 37 _)=.sl 37 (frzL ((trN 6).map rwP)) from rfl))
 rw [zxa,<- zy6]
 exact zrW _
end Go.Proofs.YthhdollpkieknaaGreat


namespace Go.Proofs.YthhdollpkieknaaGreat
open Go.Abs
theorem zBV {i:Nat} (hi:i<38):(ptR i).length<=100/\∀ c∈ptR i,c.2.1.length<=100/\c.1<=100/\(∀ v∈c.2.1,v<38)/\c.2.2<38:=by
 have ok:(List.range 38).all (fun i=>decide ((ptR i).length<=100) && (ptR i).all fun c=>decide (c.2.1.length<=100) && (decide (c.1<=100) && (c.2.1.all (fun v=>decide (v<38)) && decide (c.2.2<38))))=true:=by decide +kernel
 have h:=List.all_eq_true.1 ok i (List.mem_range.2 hi)
 simp only [Bool.and_eq_true,List.all_eq_true,decide_eq_true_eq] at h
 exact h
theorem zuU {i:Nat} (h:i<37):ppF.drop i=.sl (ptR (i+1)).length ((ptR (i+1)).flatMap ctF)::ppF.drop (i+1):=by
 have l:parT.length=37:=by decide +kernel
 have hl:i<ppF.length:=by unfold ppF; rw [List.length_map,l]; exact h
 rw [List.drop_eq_getElem_cons hl]
 congr 1
 have e:ppF[i]?=some (.sl (ptR (i+1)).length ((ptR (i+1)).flatMap ctF)):=by
  unfold ppF ptR
  rw [List.getElem?_map,Nat.add_sub_cancel,List.getElem?_eq_getElem (by rw [l]; exact h)]; rfl
 rw [List.getElem?_eq_getElem hl] at e
 exact Option.some.inj e
theorem zBZ:¬ ppF=[]:=by
 intro e
 have l:parT.length=37:=by decide +kernel
 have:=congrArg List.length e
 unfold ppF at this
 rw [List.length_map,l] at this; simp at this
def psF (o a:List Int) (s0:Int) (L:List Ctp):Int:=L.foldl (fun s c=>s-(c.1:Int)*(iat a c.2.2*vlN o c.2.1%10007)%10007) s0
theorem zju (o a:List Int) (s0:Int) (L:List Ctp) (c:Ctp):psF o a s0 (L++[c])=psF o a s0 L-(c.1:Int)*(iat a c.2.2*vlN o c.2.1%10007)%10007:=by simp [psF]
theorem zwG (o a:List Int) (s0:Int) (L:List Ctp):psF o a s0 L<=s0/\s0-10006*L.length<=psF o a s0 L:=by
 generalize hn:L.length=n
 induction n generalizing L with
 | zero=>rw [List.length_eq_zero_iff.1 hn]; exact ⟨Int.le_refl _,by show s0-_<=s0; omega⟩
 | succ n ih =>
  rcases List.eq_nil_or_concat L with rfl | ⟨h,y,rfl⟩
  .simp at hn
  .rw [List.concat_eq_append] at hn |-
   obtain ⟨i1,i2⟩:=ih h (by simpa using hn)
   rw [zju]
   omega
theorem zxp (o a:List Int) (s0:Int) (L:List Ctp):psF o a s0 L%10007=(s0-rowI (iat o) (iat a) L)%10007:=by
 generalize hn:L.length=n
 induction n generalizing L with
 | zero=>rw [List.length_eq_zero_iff.1 hn]; show s0%10007=(s0-0)%10007; rw [Int.sub_zero]
 | succ n ih =>
  rcases List.eq_nil_or_concat L with rfl | ⟨h,c,rfl⟩
  .simp at hn
  .rw [List.concat_eq_append] at hn |-
   have i1:=ih h (by simpa using hn)
   rw [zju,zey]
   have e:(c.1:Int)*(iat a c.2.2*vlN o c.2.1%10007)%10007=(c.1:Int)*(prI (iat o) c.2.1*iat a c.2.2)%10007:=by
    refine zaq rfl ?_
    rw [Int.emod_emod_of_dvd _ (Int.dvd_refl _),Int.mul_comm]
    exact zaq (zrV o c.2.1) rfl
   rw [e]
   generalize (c.1:Int)*(prI (iat o) c.2.1*iat a c.2.2)=z at *
   generalize psF o a s0 h=p at *
   generalize rowI (iat o) (iat a) h=r at *
   omega
def fitX (q:Int) (a w:List Int) (i:Nat):List Int:=fitN q a w i++List.replicate (37-i) 0
theorem zv4 (q:Int) (a w:List Int) {i:Nat} (h:i<=37):(fitX q a w i).length=38:=by
 unfold fitX
 rw [List.length_append,zco,List.length_replicate]; omega
theorem zAQ (q:Int) (a w:List Int) (i:Nat):∀ x∈fitX q a w i,isN x:=fun x hx=>by
 rcases List.mem_append.1 hx with hx | hx
 .have:=zta q a w i x hx; exact ⟨this.1,by have:=this.2; omega⟩
 .rw [List.mem_replicate] at hx; rw [hx.2]; exact ⟨by decide,by decide⟩
theorem zvC (q:Int) (a w:List Int) {i:Nat} (h:i<37):(fitX q a w i).set (i+1) (((iat w (i+1)-rowI (iat (fitN q a w i)) (iat a) (psR (i+1)))*q)%10007)=fitX q a w (i+1):=by
 have k:=zlr (((iat w (i+1)-rowI (iat (fitN q a w i)) (iat a) (psR (i+1)))*q)%10007) (fitN q a w i) (36-i)
 rw [zco,show 36-i+1=37-i by omega] at k
 unfold fitX
 rw [k,show 37-(i+1)=36-i by omega]
 rfl
theorem zzU (q:Int) (a w:List Int) {i v:Nat} (h:v<=i):iat (fitX q a w i) v=iat (fitN q a w i) v:=by
 unfold iat fitX
 rw [List.getElem?_append_left (by rw [zco]; omega)]
theorem zp1 (a w:List Int) (ha:N38 a) (hw:N38 w) :
  Con Tryz.prog 136 [.agg [.sl 37 (mat (trN 6)),.sl 37 fcF],.sl a.length (avs a),.sl w.length (avs w)] (.own 2 38 (avs (fitS (pw (iat a 1) 10005) a w))):=by
 have cM:=zgy
 have la:=ha.1
 have lw:=hw.1
 have na:=ha.ne
 have nw:=hw.ne
 have cI:=zpp (iat a 1) (ha.Ns.get 1)
 have da1:=zav (a:=a) (v:=1) (by omega)
 rw [List.drop_one] at da1
 have x0:avs (fitX (pw (iat a 1) 10005) a w 0)=List.replicate 38 (.int 0):=rfl
 have x37:fitX (pw (iat a 1) 10005) a w 37=fitS (pw (iat a 1) 10005) a w:=by unfold fitX fitS; simp
 have xl:=fun i h=>zv4 (pw (iat a 1) 10005) a w (i:=i) h
 have xN:=zAQ (pw (iat a 1) 10005) a w
 have xs:=fun i h=>zvC (pw (iat a 1) 10005) a w (i:=i) h
 have xa:=fun i v h=>zzU (pw (iat a 1) 10005) a w (i:=i) (v:=v) h
 have qN:=pw_N (iat a 1) 10005
 rw [<- x37]
 generalize fitX (pw (iat a 1) 10005) a w=X at *
 generalize fitN (pw (iat a 1) 10005) a w=Y at *
 generalize pw (iat a 1) 10005=q at *
 generalize iat a 1=a1 at *
 have nP:=zBZ
 have pd:=fun i h=>zuU (i:=i) h
 generalize ppF=PP at *
 generalize fcF=FC at *
 refine zab Tryz.mixed ⟨14,[],[1000000+100],[]⟩ Tryz.func136 ?_
 rw [Tryz.ntmps136]
 simp [go_sem]
 refine ⟨by kernel_rfl,?_⟩
 simp [go_sem,da1]
 refine ⟨⟨by omega,na⟩,?_⟩
 refine CallD.of (cI) ?_
 simp [go_sem]
 refine ⟨by kernel_rfl,?_⟩
 simp [go_sem]
 refine ⟨_,_,cM,?_⟩
 simp [go_sem]
 refine zac (7::9::10::11::13::List.range' 22 47) (fun i:Nat=>[(7,.own 2 38 (avs (X i))),(22,.int i)]) (fun i=>i<=37) (fun i=>37-i) 0 (by simp) (by simp [go_sem,x0]) (by simp [go_sem]) ?_
 intro i hi
 by_cases hil:i<37
 .have hii:(i:Int)<37:=by omega
  have dr:=pd i hil
  obtain ⟨r1,r2⟩:=zBV (i:=i+1) (by omega)
  have dw:=zav (a:=w) (v:=i+1) (by omega)
  have wN:isN (iat w (i+1)):=hw.Ns.get _
  have xl1:=xl i (by omega)
  have xN1:=xN i
  have xs1:=xs i hil
  have xa1:=xa i
  have hps:psR (i+1)=(ptR (i+1)).filter fun c=>!decide (c.2.2=1):=rfl
  have pk:=(zsz (i:=i+1) (by omega) (by omega)).1
  rw [hps] at xs1 pk
  generalize ptR (i+1)=R at *
  generalize hXI:X i=XI at *
  generalize Y i=YI at *
  have w0:=wN.1; have w1:=wN.2
  generalize hw1:iat w (i+1)=wi at *
  simp [go_sem,hii,dr,dw]
  refine ⟨nP,⟨by omega,by omega⟩,⟨by omega,by omega,nw⟩,?_⟩
  refine zac (11::13::List.range' 34 25) (fun j:Nat=>[(11,.int (psF XI a wi ((R.take j).filter fun c=>!decide (c.2.2=1)))),(34,.int j)]) (fun j=>j<=R.length) (fun j=>R.length-j) 0 (by simp) (by simp [go_sem,psF]) (by simp [go_sem]) ?_
  intro j hj
  by_cases hjl:j<R.length
  .have hji:(j:Int)<R.length:=by omega
   have cd:=zge hjl
   have hmm:=memD (0,[],0) hjl
   obtain ⟨q1,q2,k1,k2⟩:=r2 _ hmm
   have k3:=fun h=>pk _ (List.mem_filter.2 ⟨hmm,h⟩)
   have tj:(R.take (j+1)).filter (fun c=>!decide (c.2.2=1))=(R.take j).filter (fun c=>!decide (c.2.2=1))++[R[j]?.getD (0,[],0)].filter (fun c=>!decide (c.2.2=1)):=by
    rw [<- List.filter_append,List.take_succ_eq_append_getElem hjl,List.getElem?_eq_getElem hjl]; rfl
   have rs:=zju XI a wi ((R.take j).filter fun c=>!decide (c.2.2=1)) (R[j]?.getD (0,[],0))
   have bd:=zwG XI a wi ((R.take j).filter fun c=>!decide (c.2.2=1))
   have bl:((R.take j).filter fun c=>!decide (c.2.2=1)).length<=100:=by
    have:=List.length_filter_le (fun c:Ctp=>!decide (c.2.2=1)) (R.take j)
    rw [List.length_take] at this; omega
   have nR:¬ R.flatMap ctF=[]:=by intro e; have:=zcZ R; rw [e] at this; simp at this; omega
   have lR:=zcZ R
   generalize (R.take j).filter (fun c=>!decide (c.2.2=1))=F at *
   generalize R[j]?.getD (0,[],0)=c at *
   obtain ⟨n,l,t⟩:=c
   simp only [ctF] at cd q1 q2 k1 k2 k3 rs
   generalize hMC:R.flatMap ctF=MC at *
   by_cases ht:t=1
   .rw [List.filter_cons,if_neg (by simpa using ht),List.filter_nil,List.append_nil] at tj
    have hti:(t:Int)=1:=by omega
    simp [go_sem,hji,cd,hti]
    refine ⟨nR,⟨by omega,by omega⟩,j+1,by omega,by omega,zaa _ _ _ (by simp),?_⟩
    rw [tj]
    exact ⟨rfl,by omega⟩
   .rw [List.filter_cons,if_pos (by simpa using ht),List.filter_nil] at tj
    rw [<- tj] at rs
    have hti:¬ (t:Int)=1:=by omega
    have k4:=k3 (by simpa using ht)
    have cV:=zgM XI l xN1 (by omega) q1 (fun v hv=>by have:=k4 v hv; omega)
    rw [xl1] at cV
    have vN:=zun XI l
    have aN:isN (iat a t):=ha.Ns.get t
    have dat:=zav (a:=a) (v:=t) (by omega)
    have f1:=zax aN vN
    have c1:=za3 (iat a t*vlN XI l) f1.1 f1.2
    have m1:=zaf (iat a t*vlN XI l)
    have f2:=zax (show isN (n:Int) from ⟨by omega,by omega⟩) m1
    have c2:=za3 ((n:Int)*(iat a t*vlN XI l%10007)) f2.1 f2.2
    have m2:=zaf ((n:Int)*(iat a t*vlN XI l%10007))
    have v1:=m2.1; have v2:=m2.2
    obtain ⟨f3,f4⟩:=f1
    obtain ⟨f5,f6⟩:=f2
    generalize psF XI a wi F=s at *
    generalize hp1:iat a t*vlN XI l%10007=p1 at *
    generalize hp2:(n:Int)*p1%10007=p2 at *
    generalize vlN XI l=y at *
    generalize iat a t=z at *
    simp [go_sem,hji,cd,hti]
    refine ⟨nR,by kernel_rfl,?_⟩
    simp [go_sem,dat]
    refine ⟨⟨by omega,na⟩,?_⟩
    refine CallD.of (cV) ?_
    simp [go_sem]
    refine ⟨⟨f3,f4⟩,?_⟩
    refine CallD.of (c1) ?_
    simp [go_sem]
    refine ⟨⟨f5,f6⟩,?_⟩
    refine CallD.of (c2) ?_
    simp [go_sem]
    refine ⟨⟨by omega,by omega⟩,?_⟩
    refine ⟨by kernel_rfl,?_⟩
    simp [go_sem]
    refine ⟨⟨by omega,by omega⟩,j+1,by omega,by omega,zaa _ _ _ (by simp),?_⟩
    rw [rs]
    exact ⟨rfl,by omega⟩
  .have e:j=R.length:=by omega
   subst e
   have hji:¬ (R.length:Int)<R.length:=by omega
   have rm:=zxp XI a wi (R.filter fun c=>!decide (c.2.2=1))
   have bd:=zwG XI a wi (R.filter fun c=>!decide (c.2.2=1))
   have bl:(R.filter fun c=>!decide (c.2.2=1)).length<=100:=by
    have:=List.length_filter_le (fun c:Ctp=>!decide (c.2.2=1)) R
    omega
   have re:rowI (iat XI) (iat a) (R.filter fun c=>!decide (c.2.2=1))%10007=rowI (iat YI) (iat a) (R.filter fun c=>!decide (c.2.2=1))%10007:=zbY fun c hc=>⟨fun v hv=>by rw [xa1 v (by have:=pk c hc v hv; omega)],rfl⟩
   have vE:psF XI a wi (R.filter fun c=>!decide (c.2.2=1))%10007*q%10007=(wi-rowI (iat YI) (iat a) (R.filter fun c=>!decide (c.2.2=1)))*q%10007:=by
    refine zaq ?_ rfl
    rw [Int.emod_emod_of_dvd _ (Int.dvd_refl _),rm]
    omega
   rw [<- vE] at xs1
   rw [List.take_length]
   generalize psF XI a wi (R.filter fun c=>!decide (c.2.2=1))=s at *
   have cN:=za3 s (by omega) (by omega)
   have sN:=zaf s
   have f1:=zax sN qN
   have c2:=za3 (s%10007*q) f1.1 f1.2
   have m2:=zaf (s%10007*q)
   obtain ⟨f3,f4⟩:=f1
   generalize s%10007=s1 at *
   generalize hv:s1*q%10007=v at *
   simp [go_sem,hji]
   refine ⟨⟨by omega,by omega⟩,?_⟩
   refine CallVC.of (cN) ?_
   simp [go_sem]
   refine ⟨⟨f3,f4⟩,?_⟩
   refine CallVC.of (c2) ?_
   simp [go_sem]
   refine ⟨⟨by omega,by omega⟩,by omega,⟨by omega,by omega⟩,i+1,by omega,by omega,(Off.reset (by intro x hx; simp at hx |-; omega) (by simp) (by simp [go_sem,zaa])),?_⟩
   rw [<- xs1]
   exact ⟨za0 _ _ _,by omega⟩
 .have e:i=37:=by omega
  subst e
  simp [go_sem]
end Go.Proofs.YthhdollpkieknaaGreat


namespace Go.Proofs.YthhdollpkieknaaGreat
open Go.Abs
theorem zyp:pw 1 10005=1:=by
 have:=zpf 1
 rw [show ((1:Nat):Int)=1 from rfl] at this
 rw [<- this]; decide +kernel
theorem ziN (a:List Int) (ha:Ch a):Con Tryz.prog 88 [.agg [.sl 37 (mat (trN 6)),.sl 37 fcF],.sl a.length (avs a)] (.own 2 38 (avs (logS a))):=by
 have c1:=zfk
 have c2:=zp1 exaS a zbV.1 ha.1
 rw [ztw,zyp,zyE ha,zbV.1.1] at c2
 generalize logS a=X at *
 generalize exaS=E at *
 generalize fcF=FC at *
 refine zab Tryz.mixed ⟨5,[],[],[]⟩ Tryz.func88 ?_
 rw [Tryz.ntmps88]
 simp [go_sem]
 refine ⟨by kernel_rfl,?_⟩
 refine CallD.of (c1) ?_
 simp [go_sem]
 refine CallD.of (c2) ?_
 simp [go_sem]
 refine ⟨by kernel_rfl,?_⟩
 simp [go_sem]
theorem ziQ (a:List Int) (ha:Ch a):Con Tryz.prog 19 [.sl a.length (avs a)] (.tup [.own 2 38 (avs (logS a)),.int 0]):=by
 have c1:=zbU a (by rw [ha.1.1]; omega)
 rw [ha.ck] at c1
 have cF:=zbI
 have c2:=ziN a ha
 generalize logS a=E at *
 generalize fcF=FC at *
 refine zab Tryz.mixed ⟨5,[],[1000000+71],[]⟩ Tryz.func19 ?_
 rw [Tryz.ntmps19]
 simp [go_sem]
 refine CallVC.of (c1) ?_
 simp [go_sem]
 refine ⟨_,_,cF,?_⟩
 simp [go_sem]
 refine CallVC.of (c2) ?_
 simp [go_sem]
end Go.Proofs.YthhdollpkieknaaGreat


namespace Go.Proofs.YthhdollpkieknaaGreat
open Go.Abs
theorem zvB:exaS=mapW 1 exN:=by rw [ztp]; exact zv1
theorem zrG {A:List (List Int)} {B:List Int} {f:List (List Mon)} {y:List Int} {n:Nat} (n1:1<=n) (hT:Tab A B) (hf:FieldOk (n:Int) f) (hy:y.length=n) (hN:Ns y) (hfl:f.length=n) {j:Nat} (hj:j<7) (ho:(j:Int)<=orT A B (trN 6)) :
  (zay (steS A B f (poS y)))[j]?.getD []=(zay (floS f y 6))[j]?.getD []:=by
 have hs:R7 n (poS y):=by rw [<- hy]; exact zme hN
 have r1:=zk7 (A:=A) (B:=B) (f:=f) hs
 have r2:=zow (f:=f) hy hN
 obtain ⟨e1,l1,v1⟩:=zeQ n1 r1 hj
 obtain ⟨e2,l2,v2⟩:=zeQ n1 r2 hj
 rw [e1,e2]
 refine List.ext_getElem (by rw [l1,l2]) fun k h1 h2=>?_
 have hk:k<n:=by omega
 have a1:=v1 k hk
 have a2:=v2 k hk
 rw [List.getElem?_eq_getElem h1,Option.getD_some] at a1
 rw [List.getElem?_eq_getElem h2,Option.getD_some] at a2
 rw [a1,a2]
 cases j with
 | zero=>rw [zhl hy hN hk,zgw hy hk]
 | succ j =>
  have m:=zm8 hT hf hy hN hfl hk (j:=j) (by omega) ho
  have n1:isN (en (steS A B f (poS y)) k (j+1)):=(r1.row hk).2.get _
  have n2:isN (en (floS f y 6) k (j+1)):=(r2.row hk).2.get _
  have:=n1.1; have:=n1.2; have:=n2.1; have:=n2.2
  omega
theorem DrS.small8 {z:Int} {f:List (List Mon)} (h:DrS z f):zcj f:=⟨by have:=h.2.2.1; omega,fun p hp=>⟨by have:=(h.2.2.2 p hp).1; omega,fun q hq=>by have:=(h.2.2.2 p hp).2 q hq; omega⟩⟩
theorem zxq (c:List Int) (hl:c.length<=9223372036854775807) (hb:∀ x∈c,0<=x/\x<=255):Con Tryz.prog 3 [.sl c.length (bys c)] (.bool true):=by
 have cB:=zEf c hl
 by_cases hc4:4096<c.length
 .refine zab Tryz.mixed ⟨37,[106],[2000000+9],[]⟩ Tryz.func3 ?_
  rw [Tryz.ntmps3]
  simp [go_sem]
  refine CallVC.of (cB) ?_
  simp [go_sem]
  simp [go_sem,hc4]
 .have hc:Byt c:=⟨by omega,hb⟩
  have cD:=zfW c hc
  refine zab Tryz.mixed ⟨37,[106],[2000000+9],[]⟩ Tryz.func3 ?_
  rw [Tryz.ntmps3]
  simp [go_sem]
  refine CallVC.of (cB) ?_
  simp [go_sem]
  simp [go_sem,hc4]
  refine ⟨_,cD,?_⟩
  rintro _ _ ⟨rfl,A,B,z,f,y,hz,hD,hy4,rfl⟩
  have hS:=hD.small8
  have c1:=zkq A B z f y (by have:=hz.1; omega) (by have:=hz.2.1; omega) (fun r h=>by have:=hz.2.2 r h; omega) hS (by omega)
  have c2:=zf0 A B z f y (by have:=hz.1; omega) (by have:=hz.2.1; omega) (fun r h=>by have:=hz.2.2 r h; omega) hS (by omega)
  have cLo:=zjK A B z f y (by have:=hz.1; omega) (by have:=hz.2.1; omega) (fun r h=>by have:=hz.2.2 r h; omega) hS (by omega)
  have cF:=zkt z f y hS (by omega)
  unfold ssR at c1 c2
  unfold loR at cLo
  unfold fsR at cF
  have ok:=zB7 A B z f y
  simp [go_sem]
  refine CallVC.of (c1) ?_
  simp [go_sem]
  refine CallVC.of (c2) ?_
  simp [go_sem]
  by_cases hE:stE A B z f y=0
  .obtain ⟨hT,hF,yl,yN⟩:=zkJ hE
   have z1:=hF.lo
   have z3:=hF.hi
   have fl:=hF.len
   obtain ⟨n,rfl⟩:∃ n:Nat,z=n:=⟨z.toNat,by omega⟩
   have hyn:y.length=n:=by omega
   have hfn:f.length=n:=by omega
   have n1:1<=n:=by omega
   have hFb:zaM n f=true:=zdX.2 hF
   have x1:ssX A B n f y=zay (steS A B f (poS y)):=by unfold ssX; rw [if_pos hE]
   have e4:fpE n f y=0:=by unfold fpE; rw [if_pos hFb,if_pos (zjy.2 ⟨by omega,yN⟩)]
   have x3:fsX n f y=zay (floS f y 6):=by unfold fsX; rw [if_pos e4]
   have hA:=zeo hT
   have hT2:=zqs hT
   have hA2:=zeo hT2
   have cC:=zeF A B hT
   have cC2:=zeF (adA A B) (adB B) hT2
   have mB:mapB (mapW 1 (chW A B))=true:=hA.1.mapB
   have cT:=zfO (mapW 1 (chW A B)) n f y (by rw [zdQ]; omega) hS (by omega)
   have eT:trE (mapW 1 (chW A B)) n f y=0:=by
    unfold trE
    rw [mB,hFb,zjy.2 ⟨by omega,yN⟩]; rfl
   have xT:trX (mapW 1 (chW A B)) n f y=zay (steS A B f (poS y)):=by
    unfold trX
    rw [if_pos eT,zl0 hT hF hyn yN hfn]
   unfold trR at cT
   rw [eT,xT,zdQ] at cT
   have cX:=zph
   have cU:=zfO exaS n f y (by rw [zbV.1.1]; omega) hS (by omega)
   have eU:trE exaS n f y=0:=by
    unfold trE
    rw [zbV.1.mapB,hFb,zjy.2 ⟨by omega,yN⟩]; rfl
   have xU:trX exaS n f y=zay (floS f y 6):=by
    unfold trX
    rw [if_pos eU,zvB,zlu hF hyn yN hfn]
   unfold trR at cU
   rw [eU,xU,zbV.1.1] at cU
   have cO:=zrg A B hT
   rw [zmT hT] at cO
   have cO2:=zjW _ hA
   obtain ⟨p,lp,p6,po,pz,pn⟩:=zBn (A:=A) (B:=B) n1 hT hF hyn yN hfn
   have xo:loX A B n f y=p:=by unfold loX; rw [if_pos hE,hyn,lp]
   have sf:=fun j hj ho=>zrG (j:=j) n1 hT hF hyn yN hfn hj ho
   rw [zmT hT] at po sf
   have hs:R7 n (poS y):=by rw [<- hyn]; exact zme yN
   have rS:=fun j hj=>zeQ (j:=j) n1 (zk7 (A:=A) (B:=B) (f:=f) hs) hj
   have rF:=fun j hj=>zeQ (j:=j) n1 (zow (f:=f) hyn yN) hj
   have nS:=fun j hj=>(rS j hj).1 ▸ (rS j hj).2.1
   have nF:=fun j hj=>(rF j hj).1 ▸ (rF j hj).2.1
   have lS:(zay (steS A B f (poS y))).length=7:=by rw [za5]; exact ((zk7 (A:=A) (B:=B) (f:=f) hs).row (k:=0) (by omega)).1
   have lF:(zay (floS f y 6)).length=7:=by rw [za5]; exact ((zow (f:=f) hyn yN).row (k:=0) (by omega)).1
   have c3:=zqg (zay (steS A B f (poS y))) (zay (steS A B f (poS y))) (by omega) (fun r hr=>by rw [<- x1] at hr; have:=ok.2 r hr; omega)
   have c4:=zqg (zay (floS f y 6)) (zay (floS f y 6)) (by omega) (fun r hr=>by
    obtain ⟨j,hj,rfl⟩:=List.getElem_of_mem hr
    have:=nF j (by omega)
    rw [List.getElem?_eq_getElem hj,Option.getD_some] at this
    omega)
   simp only [decide_true] at c3 c4
   have cMM:=ziQ _ hA
   have cEx:=zt4 _ (zja (mapW 1 (chW A B)))
   rw [ztl hA] at cEx
   have cAd:=zk6 _ hA
   rw [zsm hT] at cAd
   have cTu:=zfZ A B hT
   have cSc:=zpE (mapW 1 (chW (adA A B) (adB B))) 10006 hA2.1 ⟨by decide,by decide⟩
   rw [zse (k:=10006) (l := -1) (by decide)] at cSc
   have cCv:=zyV (mapW 1 (chW A B)) (scS (-1) (mapW 1 (chW (adA A B) (adB B)))) hA (zmd _ _)
   rw [zmE hT,(zmd (-1) (mapW 1 (chW (adA A B) (adB B)))).1] at cCv
   have cUn:=zht
   have cl1:=zcP (mapW 1 (chW A B)) (mapW 1 (chW A B)) (by rw [zdQ]; omega)
   have cl2:=zcP (mapW 1 (chW (adA A B) (adB B))) (mapW 1 (chW (adA A B) (adB B))) (by rw [zdQ]; omega)
   have cl3:=zcP zbT zbT (by rw [zc2.1.1]; omega)
   simp only [decide_true] at cl1 cl2 cl3
   rw [zc2.1.1] at cl3
   have ob:=zBf hA zbV
   rw [x3,lF,e4] at cF
   rw [lS] at cT c3
   rw [lF] at cU c4
   rw [xo,hE] at cLo
   rw [zdQ] at cO2 cMM cAd cSc cCv cl1 cl2
   rw [(zja (mapW 1 (chW A B))).1.1] at cEx
   rw [x1,hE,lS]
   clear rS rF xT xU eT eU mB x1 x3 c1 c2 lp xo hD hz ok hs hA hA2 hT2
   generalize mapW 1 (chW A B)=a at *
   generalize mapW 1 (chW (adA A B) (adB B))=d at *
   generalize scS (-1) d=dn at *
   generalize logS a=lg at *
   generalize zbT=un at *
   generalize exaS=E at *
   generalize agS a E=p0 at *
   generalize zay (steS A B f (poS y))=S at *
   generalize zay (floS f y 6)=G at *
   have pi:¬ (p:Int)<p0:=by omega
   simp [go_sem]
   refine CallVC.of (cC) ?_
   simp [go_sem]
   refine CallVC.of (cO) ?_
   simp [go_sem]
   refine CallVC.of (cO2) ?_
   simp [go_sem]
   refine CallVC.of (cLo) ?_
   simp [go_sem]
   refine CallVC.of (cT) ?_
   simp [go_sem]
   refine CallVC.of (cF) ?_
   simp [go_sem]
   refine ⟨by kernel_rfl,?_⟩
   refine CallD.of (cX) ?_
   simp [go_sem]
   refine CallD.of (cU) ?_
   simp [go_sem]
   refine ⟨by kernel_rfl,?_⟩
   simp [go_sem]
   refine CallVC.of (cMM) ?_
   simp [go_sem]
   refine CallVC.of (cEx) ?_
   simp -implicitDefEqProofs [go_sem,pi]
   refine CallVC.of (c3) ?_
   simp [go_sem]
   refine CallVC.of (c4) ?_
   simp [go_sem]
   refine CallVC.of (cl1) ?_
   simp -implicitDefEqProofs [go_sem]
   refine zac (2::28::List.range' 191 21) (fun i:Nat=>[(28,.int i)]) (fun i=>i<=7) (fun i=>7-i) 0 (by simp) (by simp [go_sem]) (by simp [go_sem]) ?_
   intro i hi
   by_cases hip:(i:Int)<=p0
   .by_cases h7:i<7
    .have h7i:(i:Int)<7:=by omega
     have oS:=zbz (A:=S) (k:=i) (by omega)
     have oG:=zbz (A:=G) (k:=i) (by omega)
     rw [nS i h7] at oS
     rw [nF i h7] at oG
     have e:=sf i h7 hip
     have cQ:=zcP (S[i]?.getD []) (S[i]?.getD []) (by rw [nS i h7]; omega)
     rw [nS i h7] at cQ
     simp only [decide_true] at cQ
     rw [<- e] at oG
     generalize S[i]?.getD []=Si at *
     simp [go_sem,hip,h7i,h7,oS,oG]
     refine ⟨by kernel_rfl,?_⟩
     repeat refine ⟨by omega,?_⟩
     refine CallD.of (cQ) ?_
     simp [go_sem]
     refine ⟨by kernel_rfl,?_⟩
     simp [go_sem]
     refine ⟨⟨by omega,by omega⟩,i+1,by omega,by omega,zaa _ _ _ (by simp),by omega⟩
    .have no:False:=by omega
     exact no.elim
   .simp [go_sem,hip]
    refine CallVC.of (cAd) ?_
    simp [go_sem]
    refine CallVC.of (cTu) ?_
    simp [go_sem]
    refine CallVC.of (cC2) ?_
    simp [go_sem]
    refine CallVC.of (cSc) ?_
    simp [go_sem]
    refine CallVC.of (cl2) ?_
    simp [go_sem]
    refine CallVC.of (cCv) ?_
    simp [go_sem]
    refine CallVC.of (cUn) ?_
    simp [go_sem]
    refine CallVC.of (cl3) ?_
    simp [go_sem]
  .have eX:ssX A B z f y=[]:=by unfold ssX; rw [if_neg hE]
   rw [eX]
   generalize stE A B z f y=e at *
   simp [go_sem,hE]
end Go.Proofs.YthhdollpkieknaaGreat

