/- Texts of the own layer and contracts, part 6: W49 E43 E44 E45 E46 E47 V15 W51 W50 E48 E49 E53 W65 W66 W67 W68 W52 W53 W70 W72 W33 W73 Q19 Q20 Q21 Q22 Q23 Q24 Q25 Q26 Q30 Q31 Q32 Q33 Q44 W0 W56 W34 W74 W76 E54 V2 V1 W1 W75 W42 O W2 L42. -/
import Derived.Test.YthhdollpkieknaaGreatRows
import Derived.WalkKit
import Derived.ProofKit
import Derived.OpenShut
import Derived.Test.YthhdollpkieknaaGreatM5
set_option linter.unusedSectionVars false
set_option linter.unusedVariables false
set_option linter.unusedSimpArgs false
set_option maxHeartbeats 40000000
set_option maxRecDepth 100000
namespace Go.Proofs.YthhdollpkieknaaGreat
open Go.Abs
def gokS (s:Spl):Bool:=(decide (s.1.length<=19) && s.1.all fun r=>decide (r.length<=100)) && (decide (s.2.1.length<=19) && s.2.1.all fun r=>decide (r.length<=100))
def cutL (t:List Int):List Spl:=gthS (srtS ((spl 6 t).map cntF))
theorem zoY:(trN 6).all (fun t=>decide ((spl 6 t).length<=1000) && (spl 6 t).all gokS)=true:=by kernel_rfl
theorem zm0:(trN 6).all (fun t=>decide ((cutL t).length<=100) && (cutL t).all fun s=>decide (s.1.length<=6) && (s.1.all (fun r=>decide (r.length<=6)) && (decide (s.2.1.length<=1) && (s.2.1.all (fun r=>decide (1<=r.length) && decide (r.length<=6)) && (decide (0<=s.2.2) && decide (s.2.2<=100))))))=true:=by kernel_rfl
theorem zn5 {t:List Int} (h:t∈trN 6):(∀ s∈spl 6 t,(s.1.length<=19/\∀ r∈s.1,r.length<=100)/\(s.2.1.length<=19/\∀ r∈s.2.1,r.length<=100))/\(spl 6 t).length<=1000:=by
 have k:=List.all_eq_true.1 zoY t h
 simp only [Bool.and_eq_true,decide_eq_true_eq,List.all_eq_true,gokS] at k
 exact ⟨fun s hs=>k.2 s hs,k.1⟩
theorem zkB {t:List Int} (h:t∈trN 6):(cutL t).length<=100/\∀ s∈cutL t,s.1.length<=6/\(∀ r∈s.1,r.length<=6)/\s.2.1.length<=1/\(∀ r∈s.2.1,1<=r.length/\r.length<=6)/\0<=s.2.2/\s.2.2<=100:=by
 have k:=List.all_eq_true.1 zm0 t h
 simp only [Bool.and_eq_true,decide_eq_true_eq,List.all_eq_true] at k
 exact k
def tkL (s:Spl):List Int:=s.2.1.headD []
def cuX (s:Spl):List AV:=[.sl s.1.length (mat s.1),if s.2.1=[] then .val (.slice none 0 0) else .sl (tkL s).length (avs (tkL s)),.int s.2.2]
def cuF (s:Spl):List AV:=[.sl s.1.length (mat s.1),.sl (tkL s).length (avs (tkL s)),.int s.2.2]
theorem zq9:∀ L:List Spl,NXL (L.flatMap cuX) (L.flatMap cuF)
 | []=>.nil
 | s::L=>by
  rw [List.flatMap_cons,List.flatMap_cons]
  refine NXL.app (zq9 L) (.cons (.same _) (.cons ?_ (.cons (.same _) .nil)))
  by_cases h:s.2.1=[]
  .rw [if_pos h]
   have e:tkL s=[]:=by unfold tkL; rw [h]; rfl
   rw [e]
   exact .nil
  .rw [if_neg h]; exact .same _
theorem zpS (X:List Spl):(X.flatMap cuX).length=X.length*3:=by
 induction X with
 | nil=>rfl
 | cons s X ih=>rw [List.flatMap_cons,List.length_append,ih]; simp [cuX]; omega
theorem zm4 {t:List Int} (h:t∈trN 6):GCon Tryz.prog 161 [.sl t.length (avs t)] (.own 148 (cutL t).length ((cutL t).flatMap cuF)) [.any]:=by
 have cS:=zhB 6 t (List.all_eq_true.1 zlT t h)
 have cG:=zjC (spl 6 t) (zn5 h).1 (zn5 h).2
 obtain ⟨b1,b2⟩:=zkB h
 refine GCon.nx (.own _ _ (zq9 _)) ?_
 unfold cutL at *
 generalize spl 6 t=Z at *
 generalize gthS (srtS (Z.map cntF))=L at *
 refine zai Tryz.mixed ⟨7,[],[1000000+237,1000000+236],[]⟩ [] Tryz.func161 ?_
 rw [Tryz.ntmps161]
 simp [go_sem]
 refine ⟨_,_,cS,?_⟩
 simp [go_sem]
 refine ⟨_,_,cG,?_⟩
 simp [go_sem]
 refine zac (3::5::6::List.range' 12 23) (fun i:Nat=>[(3,.own 148 i ((L.take i).flatMap cuX)),(12,.int i)]) (fun i=>i<=L.length) (fun i=>L.length-i) 0 (by simp) (by simp [go_sem]) (by simp [go_sem]) ?_
 intro i hi
 by_cases hib:i<L.length
 .have hii:(i:Int)<L.length:=by omega
  have dr:=zdU hib
  have nL:¬ L.flatMap spF=[]:=by intro e; have:=zaC L; rw [e] at this; simp at this; omega
  have hm:=memD ([],[],0) hib
  obtain ⟨c1,c2,c3,c4,c5,c6⟩:=b2 _ hm
  have tk:L.take (i+1)=L.take i++[L[i]?.getD ([],[],0)]:=by
   rw [List.take_succ_eq_append_getElem hib,List.getElem?_eq_getElem hib]; rfl
  have cl:=zpS (L.take i)
  rw [List.length_take,Nat.min_eq_left (by omega)] at cl
  have lL:=zaC L
  generalize L[i]?.getD ([],[],0)=s at *
  obtain ⟨a,b,k⟩:=s
  simp only [spF] at dr
  simp only at c1 c2 c3 c4 c5 c6
  generalize hC:(L.take i).flatMap cuX=C at *
  generalize hMC:L.flatMap spF=MC at *
  cases b with
  | nil =>
   simp [go_sem,hii,dr]
   refine ⟨⟨nL,by omega⟩,?_⟩
   refine ⟨⟨by rw [cl],by omega,by omega⟩,⟨by omega,by omega⟩,i+1,by omega,by omega,zaa _ _ _ (by simp),?_⟩
   rw [tk,List.flatMap_append,hC]
   refine ⟨⟨by omega,?_⟩,by omega⟩
   simp [cuX,tkL]
  | cons r b =>
   have e:b=[]:=List.length_eq_zero_iff.1 (by simpa using c3)
   subst e
   simp [go_sem,hii,dr,mat]
   refine ⟨⟨nL,by omega⟩,?_⟩
   refine ⟨⟨by rw [cl],by omega,by omega⟩,⟨by omega,by omega⟩,i+1,by omega,by omega,zaa _ _ _ (by simp),?_⟩
   rw [tk,List.flatMap_append,hC]
   refine ⟨⟨by omega,?_⟩,by omega⟩
   simp [cuX,tkL,mat]
 .have e:i=L.length:=by omega
  subst e
  have hii:¬ (L.length:Int)<L.length:=by omega
  rw [List.take_length]
  simp [go_sem,hii]
end Go.Proofs.YthhdollpkieknaaGreat


namespace Go.Proofs.YthhdollpkieknaaGreat
abbrev Mo:=Nat × List Nat
abbrev Py:=List Mo
def evm (r:Nat->Int):List Nat->Int
 | []=>1
 | v::m=>r v*evm r m
def evp (r:Nat->Int):Py->Int
 | []=>0
 | t::P=>(t.1:Int)*evm r t.2+evp r P
def insM (v:Nat):List Nat->List Nat
 | []=>[v]
 | w::m=>if Nat.ble v w then v::w::m else w::insM v m
def zjr:List Nat->List Nat->List Nat
 | [],n=>n
 | v::m,n=>insM v (zjr m n)
def cmM:List Nat->List Nat->Nat
 | [],[]=>1
 | [],_::_=>0
 | _::_,[]=>2
 | v::m,w::n=>if Nat.beq v w then cmM m n else if Nat.ble v w then 0 else 2
def addT (t:Mo):Py->Py
 | []=>[t]
 | u::P=>match cmM t.2 u.2 with
  | 0=>t::u::P
  | 1=>let c:=(t.1+u.1)%10007; if Nat.beq c 0 then P else (c,u.2)::P
  | _=>u::addT t P
def addP:Py->Py->Py
 | [],Q=>Q
 | t::P,Q=>addT t (addP P Q)
def mulT (t:Mo):Py->Py->Py
 | [],R=>R
 | u::P,R=>addT ((t.1*u.1)%10007,zjr t.2 u.2) (mulT t P R)
def mulP:Py->Py->Py
 | [],_=>[]
 | t::P,Q=>mulT t Q (mulP P Q)
theorem zj0 (r:Nat->Int) (v:Nat):∀ m,evm r (insM v m)=r v*evm r m
 | []=>rfl
 | w::m=>by
  unfold insM
  split
  .rfl
  .rw [evm,zj0 r v m,evm,Int.mul_left_comm]
theorem zkM (r:Nat->Int):∀ m n,evm r (zjr m n)=evm r m*evm r n
 | [],n=>by simp [zjr,evm]
 | v::m,n=>by rw [zjr,zj0,zkM r m n,evm,Int.mul_assoc]
theorem zoe:∀ {m n:List Nat},cmM m n=1->m=n
 | [],[],_=>rfl
 | [],_::_,h=>by simp [cmM] at h
 | _::_,[],h=>by simp [cmM] at h
 | v::m,w::n,h=>by
  unfold cmM at h
  by_cases e:Nat.beq v w=true
  .rw [if_pos e] at h
   rw [Nat.eq_of_beq_eq_true e,zoe h]
  .rw [if_neg e] at h
   split at h <;> simp at h
theorem zfI {a b c d:Int} (h:a%10007=b%10007) (k:c%10007=d%10007):(a+c)%10007=(b+d)%10007:=by omega
theorem za5 {a b c d:Int} (h:a%10007=b%10007) (k:c%10007=d%10007):(a*c)%10007=(b*d)%10007:=by
 rw [Int.mul_emod,h,k,<- Int.mul_emod]
theorem zfA (r:Nat->Int) (t:Mo):∀ P,evp r (addT t P)%10007=((t.1:Int)*evm r t.2+evp r P)%10007
 | []=>rfl
 | u::P=>by
  unfold addT
  split
  .rfl
  .rename_i h
   have e:=zoe h
   have h1:(((t.1+u.1)%10007:Nat):Int)*evm r u.2%10007=((t.1:Int)+u.1)*evm r u.2%10007:=by
    refine za5 ?_ rfl
    omega
   rw [Int.add_mul] at h1
   show evp r (if Nat.beq ((t.1+u.1)%10007) 0=true then P else ((t.1+u.1)%10007,u.2)::P)%10007=_
   rw [e,evp]
   split
   .rename_i h0
    have h0:=Nat.eq_of_beq_eq_true h0
    rw [h0] at h1
    simp only [Int.natCast_zero,Int.zero_mul] at h1
    omega
   .rw [evp]
    simp only
    omega
  .rw [evp,evp]
   have:=zfA r t P
   omega
theorem zfN (r:Nat->Int):∀ P Q,evp r (addP P Q)%10007=(evp r P+evp r Q)%10007
 | [],Q=>by simp [addP,evp]
 | t::P,Q=>by
  rw [addP,zfA,evp]
  have:=zfN r P Q
  omega
theorem zil (r:Nat->Int) (t:Mo):∀ P R,evp r (mulT t P R)%10007=((t.1:Int)*evm r t.2*evp r P+evp r R)%10007
 | [],R=>by simp [mulT,evp]
 | u::P,R=>by
  rw [mulT,zfA,evp]
  have h:=zil r t P R
  have h1:(((t.1*u.1)%10007:Nat):Int)*evm r (zjr t.2 u.2)%10007=(t.1:Int)*evm r t.2*((u.1:Int)*evm r u.2)%10007:=by
   rw [zkM,show (t.1:Int)*evm r t.2*((u.1:Int)*evm r u.2)=((t.1:Int)*u.1)*(evm r t.2*evm r u.2) by ac_rfl]
   refine za5 ?_ rfl
   omega
  rw [Int.mul_add]
  generalize (t.1:Int)*evm r t.2*((u.1:Int)*evm r u.2)=A at *
  generalize (t.1:Int)*evm r t.2*evp r P=B at *
  simp only
  omega
theorem zex (r:Nat->Int):∀ P Q,evp r (mulP P Q)%10007=(evp r P*evp r Q)%10007
 | [],Q=>by simp [mulP,evp]
 | t::P,Q=>by
  rw [mulP,zil,evp,Int.add_mul]
  have:=zex r P Q
  omega
end Go.Proofs.YthhdollpkieknaaGreat


namespace Go.Proofs.YthhdollpkieknaaGreat
def cutT:List (List (Nat × List Nat × Nat)):=[[(1,[],1),(1,[1],0)],
 [(1,[],2),(1,[1],1),(1,[2],0)],
 [(1,[],3),(1,[1],2),(1,[2],1),(1,[3],0)],
 [(1,[],4),(2,[1],2),(1,[1,1],1),(1,[4],0)],
 [(1,[],5),(1,[1],3),(1,[2],2),(1,[3],1),(1,[5],0)],
 [(1,[],6),(2,[1],3),(1,[1,1],2),(1,[4],1),(1,[6],0)],
 [(1,[],7),(1,[1],3),(1,[1],4),(1,[2],2),(1,[1,1],2),(1,[1,2],1),(1,[7],0)],
 [(1,[],8),(3,[1],4),(3,[1,1],2),(1,[1,1,1],1),(1,[8],0)],
 [(1,[],9),(1,[1],5),(1,[2],3),(1,[3],2),(1,[5],1),(1,[9],0)],
 [(1,[],10),(2,[1],5),(1,[1,1],3),(1,[4],2),(1,[6],1),(1,[10],0)],
 [(1,[],11),(1,[1],5),(1,[1],6),(1,[2],3),(1,[1,1],3),(1,[1,2],2),(1,[7],1),(1,[11],0)],
 [(1,[],12),(1,[1],5),(1,[1],7),(1,[2],4),(1,[1,1],3),(1,[3],2),(1,[1,2],2),(1,[1,3],1),(1,[12],0)],
 [(1,[],13),(3,[1],6),(3,[1,1],3),(1,[1,1,1],2),(1,[8],1),(1,[13],0)],
 [(1,[],14),(1,[1],6),(2,[1],7),(2,[1,1],3),(1,[1,1],4),(1,[4],2),(1,[1,1,1],2),(1,[1,4],1),(1,[14],0)],
 [(1,[],15),(2,[1],7),(2,[2],3),(1,[1,1],4),(2,[1,2],2),(1,[2,2],1),(1,[15],0)],
 [(1,[],16),(2,[1],7),(1,[1],8),(1,[2],4),(1,[1,1],3),(2,[1,1],4),(2,[1,2],2),(1,[1,1,1],2),(1,[1,1,2],1),(1,[16],0)],
 [(1,[],17),(4,[1],8),(6,[1,1],4),(4,[1,1,1],2),(1,[1,1,1,1],1),(1,[17],0)],
 [(1,[],18),(1,[1],9),(1,[2],5),(1,[3],3),(1,[5],2),(1,[9],1),(1,[18],0)],
 [(1,[],19),(2,[1],9),(1,[1,1],5),(1,[4],3),(1,[6],2),(1,[10],1),(1,[19],0)],
 [(1,[],20),(1,[1],9),(1,[1],10),(1,[2],5),(1,[1,1],5),(1,[1,2],3),(1,[7],2),(1,[11],1),(1,[20],0)],
 [(1,[],21),(1,[1],9),(1,[1],11),(1,[2],6),(1,[1,1],5),(1,[3],3),(1,[1,2],3),(1,[1,3],2),(1,[12],1),(1,[21],0)],
 [(1,[],22),(1,[1],9),(1,[1],12),(1,[2],7),(1,[1,1],5),(1,[3],4),(1,[1,2],3),(1,[5],2),(1,[1,3],2),(1,[1,5],1),(1,[22],0)],
 [(1,[],23),(3,[1],10),(3,[1,1],5),(1,[1,1,1],3),(1,[8],2),(1,[13],1),(1,[23],0)],
 [(1,[],24),(1,[1],10),(2,[1],11),(2,[1,1],5),(1,[1,1],6),(1,[4],3),(1,[1,1,1],3),(1,[1,4],2),(1,[14],1),(1,[24],0)],
 [(1,[],25),(1,[1],10),(2,[1],12),(2,[1,1],5),(1,[1,1],7),(1,[4],4),(1,[1,1,1],3),(1,[6],2),(1,[1,4],2),(1,[1,6],1),(1,[25],0)],
 [(1,[],26),(2,[1],11),(2,[2],5),(1,[1,1],6),(2,[1,2],3),(1,[2,2],2),(1,[15],1),(1,[26],0)],
 [(1,[],27),(2,[1],11),(1,[1],13),(1,[2],6),(1,[1,1],5),(2,[1,1],6),(2,[1,2],3),(1,[1,1,1],3),(1,[1,1,2],2),(1,[16],1),(1,[27],0)],
 [(1,[],28),(1,[1],11),(1,[1],12),(1,[1],14),(1,[2],7),(1,[1,1],5),(1,[1,1],6),(1,[1,1],7),(1,[1,2],3),(1,[1,2],4),(1,[1,1,1],3),(1,[7],2),(1,[1,1,2],2),(1,[1,7],1),(1,[28],0)],
 [(1,[],29),(1,[1],12),(1,[1],15),(1,[2],5),(1,[2],7),(1,[1,1],7),(1,[3],3),(1,[1,2],3),(1,[1,2],4),(1,[1,3],2),(1,[2,2],2),(1,[2,3],1),(1,[29],0)],
 [(1,[],30),(2,[1],12),(1,[1],16),(1,[2],8),(1,[1,1],5),(2,[1,1],7),(1,[3],4),(2,[1,2],4),(1,[1,1,1],3),(2,[1,3],2),(1,[1,1,2],2),(1,[1,1,3],1),(1,[30],0)],
 [(1,[],31),(4,[1],13),(6,[1,1],6),(4,[1,1,1],3),(1,[1,1,1,1],2),(1,[17],1),(1,[31],0)],
 [(1,[],32),(1,[1],13),(3,[1],14),(3,[1,1],6),(3,[1,1],7),(3,[1,1,1],3),(1,[1,1,1],4),(1,[8],2),(1,[1,1,1,1],2),(1,[1,8],1),(1,[32],0)],
 [(1,[],33),(1,[1],14),(2,[1],15),(1,[2],6),(3,[1,1],7),(1,[4],3),(2,[1,2],3),(1,[1,1,1],4),(1,[1,4],2),(1,[1,1,2],2),(1,[2,4],1),(1,[33],0)],
 [(1,[],34),(2,[1],14),(2,[1],16),(1,[1,1],6),(4,[1,1],7),(1,[1,1],8),(1,[4],4),(2,[1,1,1],3),(2,[1,1,1],4),(2,[1,4],2),(1,[1,1,1,1],2),(1,[1,1,4],1),(1,[34],0)],
 [(1,[],35),(1,[1],15),(2,[1],16),(2,[2],7),(2,[1,1],7),(1,[1,1],8),(2,[1,2],3),(2,[1,2],4),(1,[1,1,1],4),(1,[2,2],2),(2,[1,1,2],2),(1,[1,2,2],1),(1,[35],0)],
 [(1,[],36),(3,[1],16),(1,[1],17),(1,[2],8),(3,[1,1],7),(3,[1,1],8),(3,[1,2],4),(1,[1,1,1],3),(3,[1,1,1],4),(3,[1,1,2],2),(1,[1,1,1,1],2),(1,[1,1,1,2],1),(1,[36],0)],
 [(1,[],37),(5,[1],17),(10,[1,1],8),(10,[1,1,1],4),(5,[1,1,1,1],2),(1,[1,1,1,1,1],1),(1,[37],0)]]
abbrev Ctp:=Nat × List Nat × Nat
def prI (A:Nat->Int):List Nat->Int
 | []=>1
 | v::m=>A v*prI A m
def rowI (A B:Nat->Int):List Ctp->Int
 | []=>0
 | c::L=>(c.1:Int)*(prI A c.2.1*B c.2.2)+rowI A B L
def zle (A:Nat->Py):List Nat->Py
 | []=>[(1,[])]
 | v::m=>mulP (A v) (zle A m)
def rowP (A B:Nat->Py):List Ctp->Py
 | []=>[]
 | c::L=>addP (mulP [(c.1,[])] (mulP (zle A c.2.1) (B c.2.2))) (rowP A B L)
theorem zpH (r:Nat->Int):evp r [(1,[])]=1:=by simp [evp,evm]
theorem zsw (r:Nat->Int) (c:Nat):evp r [(c,[])]=c:=by simp [evp,evm]
theorem zr9 (r:Nat->Int) (v:Nat):evp r [(1,[v])]=r v:=by simp [evp,evm]
theorem zik (r:Nat->Int) {A:Nat->Py} {A':Nat->Int}:∀ m,(∀ v∈m,evp r (A v)%10007=A' v%10007)->evp r (zle A m)%10007=prI A' m%10007
 | [],_=>by rw [zle,zpH]; rfl
 | v::m,h=>by rw [zle,zex,prI]; exact za5 (h v (by simp)) (zik r m fun w hw=>h w (by simp [hw]))
theorem zfx (r:Nat->Int) {A B:Nat->Py} {A' B':Nat->Int}:∀ L:List Ctp,(∀ c∈L,(∀ v∈c.2.1,evp r (A v)%10007=A' v%10007)/\evp r (B c.2.2)%10007=B' c.2.2%10007)->evp r (rowP A B L)%10007=rowI A' B' L%10007
 | [],_=>rfl
 | c::L,h=>by
  rw [rowP,zfN,rowI]
  refine zfI ?_ (zfx r L fun d hd=>h d (by simp [hd]))
  rw [zex,zsw]
  refine za5 rfl ?_
  rw [zex]
  exact za5 (zik r _ (h c (by simp)).1) (h c (by simp)).2
def v0 (k i:Nat):Py:=[(1,[k+i])]
def iat (a:List Int) (i:Nat):Int:=a[i]?.getD 0
def N38 (a:List Int):Prop:=a.length=38/\∀ x∈a,0<=x/\x<10007
def Ch (a:List Int):Prop:=N38 a/\iat a 0=1
theorem N38.at {a:List Int} (h:N38 a) (i:Nat):0<=iat a i/\iat a i<10007:=by
 unfold iat
 by_cases e:i<a.length
 .rw [List.getElem?_eq_getElem e]; exact h.2 _ (List.getElem_mem e)
 .rw [List.getElem?_eq_none (by omega)]; simp
def mk38 (f:Nat->Int):List Int:=(List.range 38).map fun i=>f i%10007
theorem zki (f:Nat->Int):N38 (mk38 f):=by
 refine ⟨by simp [mk38],fun x hx=>?_⟩
 obtain ⟨i,_,rfl⟩:=List.mem_map.1 hx
 exact ⟨Int.emod_nonneg _ (by decide),Int.emod_lt_of_pos _ (by decide)⟩
theorem zfS (f:Nat->Int) {i:Nat} (h:i<38):iat (mk38 f) i=f i%10007:=by
 unfold iat mk38
 rw [List.getElem?_map,List.getElem?_range h]; rfl
theorem zmZ (f:Nat->Int) {i:Nat} (h:i<38):iat (mk38 f) i%10007=f i%10007:=by
 rw [zfS f h,Int.emod_emod_of_dvd _ (Int.dvd_refl _)]
theorem zoB {f g:Nat->Int} (h:∀ i,i<38->f i%10007=g i%10007):mk38 f=mk38 g:=List.map_congr_left fun i hi=>h i (List.mem_range.1 hi)
end Go.Proofs.YthhdollpkieknaaGreat


namespace Go.Proofs.YthhdollpkieknaaGreat
def ndT:List Nat:=[0,1,2,3,3,4,4,4,4,5,5,5,5,5,5,5,5,5,6,6,6,6,6,6,6,6,6,6,6,6,6,6,6,6,6,6,6,6]
def nd (i:Nat):Nat:=ndT[i]?.getD 0
def scS (k:Int) (a:List Int):List Int:=mk38 fun i=>iat a i*k ^ nd i
theorem zmL (k:Int) (a:List Int):N38 (scS k a):=zki _
theorem zlh (r:Nat->Int) (v:Nat):∀ n,evm r (List.replicate n v)=r v ^ n
 | 0=>by simp [evm]
 | n+1=>by rw [List.replicate_succ,evm,zlh r v n,Int.pow_succ,Int.mul_comm]
end Go.Proofs.YthhdollpkieknaaGreat


namespace Go.Proofs.YthhdollpkieknaaGreat
theorem zqF {i:Nat} (hi:i<38):nd i<=6:=by
 have ok:(List.range 38).all (fun j=>decide (nd j<=6))=true:=by decide +kernel
 exact of_decide_eq_true (List.all_eq_true.1 ok i (List.mem_range.2 hi))
end Go.Proofs.YthhdollpkieknaaGreat


namespace Go.Proofs.YthhdollpkieknaaGreat
end Go.Proofs.YthhdollpkieknaaGreat


namespace Go.Proofs.YthhdollpkieknaaGreat
open Go.Abs
def mapB (a:List Int):Bool:=decide (a.length=38) && zdF a
theorem zg9 (a:List Int) (ha:a.length<=9223372036854775807):Con Tryz.prog 77 [.sl a.length (avs a)] (.bool (mapB a)):=by
 have cN:=zb1 a ha
 unfold mapB
 by_cases h:a.length=38
 .have hi:(a.length:Int)=38:=by omega
  rw [decide_eq_true h]
  refine zab Tryz.mixed ⟨3,[],[],[]⟩ Tryz.func77 ?_
  rw [Tryz.ntmps77]
  simp [go_sem,hi]
  refine CallVC.of (cN) ?_
  simp [go_sem]
 .have hi:¬ (a.length:Int)=38:=by omega
  rw [decide_eq_false h]
  refine zab Tryz.mixed ⟨3,[],[],[]⟩ Tryz.func77 ?_
  rw [Tryz.ntmps77]
  simp [go_sem,hi]
end Go.Proofs.YthhdollpkieknaaGreat


namespace Go.Proofs.YthhdollpkieknaaGreat
open Go.Abs
def nvs (l:List Nat):List Int:=l.map fun (v:Nat)=>(v:Int)
theorem zfJ (l:List Nat):(nvs l).length=l.length:=by simp [nvs]
theorem zqJ {l:List Nat} {i:Nat} (h:i<l.length):(nvs l).getD i 0=((l[i]?.getD 0:Nat):Int):=by rw [List.getD_eq_getElem?_getD]; simp [nvs,h]
theorem N38.Ns {a:List Int} (h:N38 a):Ns a:=fun x hx=>by have:=h.2 x hx; exact ⟨this.1,by have:=this.2; omega⟩
theorem ziv {a:List Int} (h:mapB a=true):N38 a:=by
 unfold mapB at h
 simp only [Bool.and_eq_true,decide_eq_true_eq] at h
 have hn:=zhN.1 h.2
 exact ⟨by omega,fun x hx=>by have:=hn x hx; exact ⟨this.1,by have:=this.2; omega⟩⟩
theorem N38.mapB {a:List Int} (h:N38 a):mapB a=true:=by
 unfold Go.Proofs.YthhdollpkieknaaGreat.mapB
 rw [h.1,zhN.2 h.Ns]; rfl
theorem zao {a:List Int} {v:Nat} (h:v<a.length):(avs a).drop v=.int (iat a v)::avs (a.drop (v+1)):=by
 rw [zaq h,List.getD_eq_getElem?_getD]; rfl
def vlN (a:List Int) (l:List Nat):Int:=l.foldl (fun o v=>o*iat a v%10007) 1
theorem zfU (a:List Int) (l:List Nat) (v:Nat):vlN a (l++[v])=vlN a l*iat a v%10007:=by simp [vlN]
theorem zqR (a:List Int) (l:List Nat):isN (vlN a l):=by
 rcases List.eq_nil_or_concat l with rfl | ⟨h,x,rfl⟩
 .show isN 1; exact ⟨by decide,by decide⟩
 .rw [List.concat_eq_append,zfU]; exact zaG _
theorem zfo (A:Nat->Int) (v:Nat):∀ l,prI A (l++[v])=prI A l*A v
 | []=>by simp [prI]
 | w::l=>by rw [List.cons_append,prI,zfo A v l,prI,Int.mul_assoc]
theorem zph (a:List Int) (l:List Nat):vlN a l%10007=prI (iat a) l%10007:=by
 generalize hn:l.length=n
 induction n generalizing l with
 | zero=>rw [List.length_eq_zero_iff.1 hn]; rfl
 | succ n ih =>
  rcases List.eq_nil_or_concat l with rfl | ⟨h,x,rfl⟩
  .simp at hn
  .rw [List.concat_eq_append] at hn |-
   rw [zfU,zfo,Int.emod_emod_of_dvd _ (Int.dvd_refl _)]
   exact za5 (ih h (by simpa using hn)) rfl
theorem zlv (a:List Int) (l:List Nat) (ha:Ns a) (hal:a.length<=1048576) (hl:l.length<=100) (h:∀ v∈l,v<a.length) :
  Con Tryz.prog 186 [.sl a.length (avs a),.sl l.length (avs (nvs l))] (.int (vlN a l)):=by
 refine zab Tryz.mixed ⟨8,[],[],[]⟩ Tryz.func186 ?_
 rw [Tryz.ntmps186]
 simp [go_sem]
 refine zac (5::7::List.range' 10 12) (fun i:Nat=>[(5,.int (vlN a (l.take i))),(10,.int i)]) (fun i=>i<=l.length) (fun i=>l.length-i) 0 (by simp) (by simp [go_sem,vlN]) (by simp [go_sem]) ?_
 intro i hi
 by_cases hil:i<l.length
 .have hii:(i:Int)<l.length:=by omega
  have hm:=h _ (memD 0 hil)
  have tk:l.take (i+1)=l.take i++[l[i]?.getD 0]:=by
   rw [List.take_succ_eq_append_getElem hil,List.getElem?_eq_getElem hil]; rfl
  have hN:=zqR a (l.take i)
  have hv:isN (iat a (l[i]?.getD 0)):=ha.get _
  have cN:=zeL (vlN a (l.take i)*iat a (l[i]?.getD 0)) (zaS hN hv).1 (zaS hN hv).2
  have dr:=zaq (show i<(nvs l).length by rw [zfJ]; exact hil)
  rw [zqJ hil] at dr
  have nl:¬ nvs l=[]:=by intro e; have:=zfJ l; rw [e] at this; simp at this; omega
  have ar:=zao hm
  have na:¬ a=[]:=by intro e; rw [e] at hm; simp at hm
  have e:=zfU a (l.take i) (l[i]?.getD 0)
  rw [<- tk] at e
  have fm:=zaS hN hv
  generalize l[i]?.getD 0=v at *
  generalize iat a v=x at *
  simp [go_sem,hii,dr,ar]
  refine ⟨nl,⟨hm,na⟩,⟨fm.1,fm.2⟩,?_⟩
  refine CallVC.of (cN) ?_
  simp [go_sem]
  refine ⟨⟨by omega,by omega⟩,i+1,by omega,by omega,zaa _ _ _ (by simp),?_⟩
  rw [e]
  exact ⟨rfl,by omega⟩
 .have e:i=l.length:=by omega
  subst e
  have hii:¬ (l.length:Int)<l.length:=by omega
  rw [List.take_length]
  simp [go_sem,hii]
def ctF (c:Ctp):List AV:=[.int c.1,.sl c.2.1.length (avs (nvs c.2.1)),.int c.2.2]
def fcF:List AV:=cutT.map fun r=>.sl r.length (r.flatMap ctF)
theorem zhE (X:List Ctp):(X.flatMap ctF).length=X.length*3:=by
 induction X with
 | nil=>rfl
 | cons s X ih=>rw [List.flatMap_cons,List.length_append,ih]; simp [ctF]; omega
theorem zmt {L:List Ctp} {i:Nat} (h:i<L.length):(L.flatMap ctF).drop (i*3)=ctF (L[i]?.getD (0,[],0))++(L.drop (i+1)).flatMap ctF:=by
 have e1:((L.take i).flatMap ctF).length=i*3:=by rw [zhE,List.length_take,Nat.min_eq_left (by omega)]
 have e2:L.drop i=L[i]?.getD (0,[],0)::L.drop (i+1):=by rw [List.drop_eq_getElem_cons h]; simp [h]
 have e3:L.flatMap ctF=(L.take i).flatMap ctF++(L.drop i).flatMap ctF:=by rw [<- List.flatMap_append,List.take_append_drop]
 rw [e3,List.drop_append_of_le_length (by omega),e2,List.flatMap_cons,List.drop_eq_nil_of_le (by omega),List.nil_append]
theorem zd2 (A B:Nat->Int) (c:Ctp):∀ L,rowI A B (L++[c])=rowI A B L+(c.1:Int)*(prI A c.2.1*B c.2.2)
 | []=>by simp [rowI]
 | d::L=>by rw [List.cons_append,rowI,zd2 A B c L,rowI,Int.add_assoc]
theorem zkq (f:Nat->Int) {i:Nat} (h:i<38):(mk38 f).take (i+1)=(mk38 f).take i++[f i%10007]:=by
 have hl:i<(mk38 f).length:=by rw [(zki f).1]; exact h
 rw [List.take_succ_eq_append_getElem hl]
 have:=zfS f h
 unfold iat at this
 rw [List.getElem?_eq_getElem hl] at this
 rw [<- this]; rfl
end Go.Proofs.YthhdollpkieknaaGreat


namespace Go.Proofs.YthhdollpkieknaaGreat
open Go.Abs
def cp (s:Spl):List Int:=s.1.map fun c=>ixT (trN 6) c+1
def tp (s:Spl):Int:=if tkL s=[] then 0 else ixT (trN 6) (tkL s)+1
theorem zra:(trN 6).map (fun t=>(cutL t).map fun s=>(s.2.2,cp s,tp s))=cutT.map fun r=>r.map fun c=>((c.1:Int),nvs c.2.1,(c.2.2:Int)):=by kernel_rfl
def crX (s:Spl) (j:Nat):AV:=if j=0 then .val (.slice none 0 0) else .own 3 j (avs ((cp s).take j))
def mcX (s:Spl):List AV:=[.int s.2.2,if s.1=[] then .val (.slice none 0 0) else .own 3 s.1.length (avs (cp s)),.int (tp s)]
def rwX (t:List Int):AV:=.own 151 (cutL t).length ((cutL t).flatMap mcX)
def fcX (i:Nat):AV:=if i=0 then .val (.slice none 0 0) else .own 144 i (((trN 6).take i).map rwX)
theorem zaX {α:Type} (F:α->List AV) (hF:∀ s,(F s).length=3) (X:List α):(X.flatMap F).length=X.length*3:=by
 induction X with
 | nil=>rfl
 | cons s X ih=>rw [List.flatMap_cons,List.length_append,ih,hF,List.length_cons]; omega
theorem zdp {α:Type} (F:α->List AV) (hF:∀ s,(F s).length=3) (d:α) {L:List α} {i:Nat} (h:i<L.length):(L.flatMap F).drop (i*3)=F (L[i]?.getD d)++(L.drop (i+1)).flatMap F:=by
 have e1:((L.take i).flatMap F).length=i*3:=by rw [zaX F hF,List.length_take,Nat.min_eq_left (by omega)]
 have e2:L.drop i=L[i]?.getD d::L.drop (i+1):=by rw [List.drop_eq_getElem_cons h]; simp [h]
 have e3:L.flatMap F=(L.take i).flatMap F++(L.drop i).flatMap F:=by rw [<- List.flatMap_append,List.take_append_drop]
 rw [e3,List.drop_append_of_le_length (by omega),e2,List.flatMap_cons,List.drop_eq_nil_of_le (by omega),List.nil_append]
theorem zjA:GCon Tryz.prog 71 [] (.agg [.sl 37 (mat (trN 6)),.own 144 37 ((trN 6).map rwX)]) []:=by
 have cT:=zgG 6 (by omega)
 have l6:=zch
 have at6:=fun t h=>zkF (t:=t) h
 have e6:((6:Nat):Int)=6:=rfl
 rw [e6] at cT
 rw [l6] at cT
 refine RCon.toG ?_
 refine zbq Tryz.mixed ⟨10,[10,56],[1000000+161],[]⟩ [] Tryz.func71 ?_
 rw [Tryz.ntmps71]
 simp [go_sem]
 refine CallVC.of (cT) ?_
 simp [go_sem]
 refine zac (1::3::4::6::7::9::List.range' 15 52) (fun i:Nat=>[(1,.box 88 [.sl 37 (mat (trN 6)),fcX i]),(15,.int i)]) (fun i=>i<=37) (fun i=>37-i) 0 (by simp) (by simp [go_sem,fcX]) (by simp [go_sem,fcX]) ?_
 intro i hi
 by_cases hil:i<37
 .have hii:(i:Int)<37:=by omega
  have hl:i<(trN 6).length:=by omega
  have dm:=zat hl
  have hm:=memD [] hl
  have cC:=zm4 hm
  obtain ⟨b1,b2⟩:=zkB hm
  have nm:¬ trN 6=[]:=by intro e; rw [e] at l6; simp at l6
  have tki:(trN 6).take (i+1)=(trN 6).take i++[(trN 6)[i]?.getD []]:=by
   rw [List.take_succ_eq_append_getElem hl,List.getElem?_eq_getElem hl]; rfl
  have x1:fcX (i+1)=.own 144 (i+1) (((trN 6).take i).map rwX++[rwX ((trN 6)[i]?.getD [])]):=by
   unfold fcX
   rw [if_neg (by omega),tki,List.map_append]; rfl
  have hrw:rwX ((trN 6)[i]?.getD [])=.own 151 (cutL ((trN 6)[i]?.getD [])).length ((cutL ((trN 6)[i]?.getD [])).flatMap mcX):=rfl
  have lti:(((trN 6).take i).map rwX).length=i:=by rw [List.length_map,List.length_take]; omega
  by_cases i0:i=0
  .have x0:fcX i=.val (.slice none 0 0):=by unfold fcX; rw [if_pos i0]
   rw [x0]
   generalize (trN 6)[i]?.getD []=t at *
   generalize cutL t=L at *
   have xf:AV.own 144 1 [AV.own 151 L.length (L.flatMap mcX)]=fcX (i+1):=by rw [x1,<- hrw,i0]; simp
   simp [go_sem,hii,dm]
   refine ⟨nm,?_⟩
   refine ⟨_,_,cC,?_⟩
   simp [go_sem]
   refine zac (4::6::7::9::List.range' 23 37) (fun j:Nat=>[(4,.own 151 j ((L.take j).flatMap mcX)),(23,.int j)]) (fun j=>j<=L.length) (fun j=>L.length-j) 0 (by simp) (by simp [go_sem]) (by simp [go_sem]) ?_
   intro j hj
   by_cases hjl:j<L.length
   .have hji:(j:Int)<L.length:=by omega
    have dr:=zdp cuF (fun _=>rfl) ([],[],0) hjl
    have nL:¬ L.flatMap cuF=[]:=by intro e; have:=zaX cuF (fun _=>rfl) L; rw [e] at this; simp at this; omega
    have lL:=zaX cuF (fun _=>rfl) L
    have hms:=memD ([],[],0) hjl
    obtain ⟨c1,c2,c3,c4,c5,c6⟩:=b2 _ hms
    have tkj:L.take (j+1)=L.take j++[L[j]?.getD ([],[],0)]:=by
     rw [List.take_succ_eq_append_getElem hjl,List.getElem?_eq_getElem hjl]; rfl
    have clj:=zaX mcX (fun _=>rfl) (L.take j)
    rw [List.length_take,Nat.min_eq_left (by omega)] at clj
    generalize L[j]?.getD ([],[],0)=s at *
    obtain ⟨sa,sb,sc⟩:=s
    simp only [cuF] at dr
    simp only at c1 c2 c3 c4 c5 c6
    have tk1:(tkL (sa,sb,sc)).length<=6:=by
     unfold tkL
     cases sb with
     | nil=>simp
     | cons r b=>exact (c4 r (by simp)).2
    have hMX:mcX (sa,sb,sc)=[.int sc,if sa=[] then .val (.slice none 0 0) else .own 3 sa.length (avs (cp (sa,sb,sc))),.int (tp (sa,sb,sc))]:=rfl
    have htp:tp (sa,sb,sc)=if tkL (sa,sb,sc)=[] then 0 else ixT (trN 6) (tkL (sa,sb,sc))+1:=rfl
    have hcp:cp (sa,sb,sc)=sa.map fun c=>ixT (trN 6) c+1:=rfl
    have hcr:∀ k,crX (sa,sb,sc) k=if k=0 then .val (.slice none 0 0) else .own 3 k (avs ((cp (sa,sb,sc)).take k)):=fun k=>rfl
    have hcl:(cp (sa,sb,sc)).length=sa.length:=by rw [hcp,List.length_map]
    have cPt:=zd3 (trN 6) 0 [] (tkL (sa,sb,sc)) (by omega) (fun r hr=>by have:=(at6 r hr).2.1; omega) (by omega)
    have btp:=zeg (trN 6) (tkL (sa,sb,sc))
    rw [l6] at cPt btp
    generalize tkL (sa,sb,sc)=tk at *
    generalize tp (sa,sb,sc)=tpv at *
    generalize hCP:cp (sa,sb,sc)=cps at *
    generalize hMC:L.flatMap cuF=MC at *
    generalize hC:(L.take j).flatMap mcX=C at *
    simp [go_sem,hji,dr]
    refine ⟨⟨nL,by omega⟩,?_⟩
    refine zac (7::9::List.range' 33 13) (fun k:Nat=>[(7,.box 151 [.int sc,crX (sa,sb,sc) k,.int 0]),(33,.int k)]) (fun k=>k<=sa.length) (fun k=>sa.length-k) 0 (by simp) (by simp [go_sem,crX]) (by simp [go_sem,crX]) ?_
    intro k hk
    by_cases hkl:k<sa.length
    .have hki:(k:Int)<sa.length:=by omega
     have dk:=zat hkl
     have hmk:=memD [] hkl
     have hk6:=c2 _ hmk
     have na:¬ sa=[]:=by rintro rfl; simp at hkl
     have cP:=zd3 (trN 6) 0 [] (sa[k]?.getD []) (by omega) (fun r hr=>by have:=(at6 r hr).2.1; omega) (by omega)
     rw [l6] at cP
     have bp:=zeg (trN 6) (sa[k]?.getD [])
     rw [l6] at bp
     have tkk:cps.take (k+1)=cps.take k++[ixT (trN 6) (sa[k]?.getD [])+1]:=by
      rw [List.take_succ_eq_append_getElem (by omega)]
      congr 2
      subst hcp
      rw [List.getElem_map,List.getElem?_eq_getElem hkl]; rfl
     have lk:(cps.take k).length=k:=by rw [List.length_take]; omega
     have x1:crX (sa,sb,sc) (k+1)=.own 3 (k+1) (avs (cps.take k++[ixT (trN 6) (sa[k]?.getD [])+1])):=by rw [hcr,if_neg (by omega),tkk]
     generalize sa[k]?.getD []=r at *
     generalize ixT (trN 6) r+1=v at *
     by_cases k0:k=0
     .have x0:crX (sa,sb,sc) k=.val (.slice none 0 0):=by rw [hcr,if_pos k0]
      rw [x0]
      simp [go_sem,hki,dk]
      refine ⟨na,by kernel_rfl,?_⟩
      refine CallD.of (cP) ?_
      simp [go_sem]
      refine ⟨by kernel_rfl,?_⟩
      simp [go_sem]
      refine ⟨⟨by omega,by omega⟩,k+1,by omega,by omega,zaa _ _ _ (by simp),?_⟩
      rw [x1]
      subst k0
      exact ⟨by simp [avs],by omega⟩
     .have x0:crX (sa,sb,sc) k=.own 3 k (avs (cps.take k)):=by rw [hcr,if_neg k0]
      rw [x0]
      simp [go_sem,hki,dk]
      refine ⟨na,by kernel_rfl,?_⟩
      refine CallD.of (cP) ?_
      simp [go_sem]
      refine ⟨⟨by omega,by omega,by omega⟩,?_⟩
      refine ⟨by kernel_rfl,?_⟩
      simp [go_sem]
      refine ⟨⟨by omega,by omega⟩,k+1,by omega,by omega,zaa _ _ _ (by simp),?_⟩
      rw [x1,zaE]
      exact ⟨rfl,by omega⟩
    .have e:k=sa.length:=by omega
     subst e
     have hki:¬ (sa.length:Int)<sa.length:=by omega
     by_cases s0:sa=[]
     .have x0:crX (sa,sb,sc) sa.length=.val (.slice none 0 0):=by rw [hcr,if_pos (by rw [s0]; rfl)]
      rw [x0]
      rw [if_pos s0] at hMX
      by_cases ht:0<tk.length
      .have t0:¬ tk=[]:=by rintro rfl; simp at ht
       rw [if_neg t0] at htp
       simp [go_sem,hki,ht]
       refine CallVC.of (cPt) ?_
       simp [go_sem]
       refine ⟨⟨by rw [clj],by omega,by omega⟩,⟨by omega,by omega⟩,j+1,by omega,by omega,(Off.reset (by intro x hx; simp at hx |-; omega) (by simp) (by simp [go_sem,zaa])),?_⟩
       rw [tkj,List.flatMap_append,hC]
       refine ⟨⟨by omega,?_⟩,by omega⟩
       simp [hMX,htp]
      .have t0:tk=[]:=List.length_eq_zero_iff.1 (by omega)
       rw [if_pos t0] at htp
       simp [go_sem,hki,ht]
       refine ⟨⟨by rw [clj],by omega,by omega⟩,⟨by omega,by omega⟩,j+1,by omega,by omega,(Off.reset (by intro x hx; simp at hx |-; omega) (by simp) (by simp [go_sem,zaa])),?_⟩
       rw [tkj,List.flatMap_append,hC]
       refine ⟨⟨by omega,?_⟩,by omega⟩
       simp [hMX,htp]
     .have x0:crX (sa,sb,sc) sa.length=.own 3 sa.length (avs cps):=by
       rw [hcr,if_neg (by intro e; exact s0 (List.length_eq_zero_iff.1 e)),List.take_of_length_le (by omega)]
      rw [x0]
      rw [if_neg s0] at hMX
      by_cases ht:0<tk.length
      .have t0:¬ tk=[]:=by rintro rfl; simp at ht
       rw [if_neg t0] at htp
       simp [go_sem,hki,ht]
       refine CallVC.of (cPt) ?_
       simp [go_sem]
       refine ⟨⟨by rw [clj],by omega,by omega⟩,⟨by omega,by omega⟩,j+1,by omega,by omega,(Off.reset (by intro x hx; simp at hx |-; omega) (by simp) (by simp [go_sem,zaa])),?_⟩
       rw [tkj,List.flatMap_append,hC]
       refine ⟨⟨by omega,?_⟩,by omega⟩
       simp [hMX,htp]
      .have t0:tk=[]:=List.length_eq_zero_iff.1 (by omega)
       rw [if_pos t0] at htp
       simp [go_sem,hki,ht]
       refine ⟨⟨by rw [clj],by omega,by omega⟩,⟨by omega,by omega⟩,j+1,by omega,by omega,(Off.reset (by intro x hx; simp at hx |-; omega) (by simp) (by simp [go_sem,zaa])),?_⟩
       rw [tkj,List.flatMap_append,hC]
       refine ⟨⟨by omega,?_⟩,by omega⟩
       simp [hMX,htp]
   .have e:j=L.length:=by omega
    subst e
    have hji:¬ (L.length:Int)<L.length:=by omega
    rw [List.take_length]
    simp [go_sem,hji]
    exact ⟨⟨by omega,by omega⟩,i+1,by omega,by omega,(by repeat (first | exact zaa _ _ _ (by simp) | (refine Off.reset (by intro x hx; simp at hx |-; omega) (by simp) ?_; simp -failIfUnchanged [go_sem,zaa]))),xf,by omega⟩
  .have x0:fcX i=.own 144 i (((trN 6).take i).map rwX):=by unfold fcX; rw [if_neg i0]
   rw [x0]
   generalize (trN 6)[i]?.getD []=t at *
   generalize cutL t=L at *
   generalize ((trN 6).take i).map rwX=FR at *
   have xf:AV.own 144 (i+1) (FR++[AV.own 151 L.length (L.flatMap mcX)])=fcX (i+1):=by rw [x1,<- hrw]
   simp [go_sem,hii,dm]
   refine ⟨nm,?_⟩
   refine ⟨_,_,cC,?_⟩
   simp [go_sem]
   refine zac (4::6::7::9::List.range' 23 37) (fun j:Nat=>[(4,.own 151 j ((L.take j).flatMap mcX)),(23,.int j)]) (fun j=>j<=L.length) (fun j=>L.length-j) 0 (by simp) (by simp [go_sem]) (by simp [go_sem]) ?_
   intro j hj
   by_cases hjl:j<L.length
   .have hji:(j:Int)<L.length:=by omega
    have dr:=zdp cuF (fun _=>rfl) ([],[],0) hjl
    have nL:¬ L.flatMap cuF=[]:=by intro e; have:=zaX cuF (fun _=>rfl) L; rw [e] at this; simp at this; omega
    have lL:=zaX cuF (fun _=>rfl) L
    have hms:=memD ([],[],0) hjl
    obtain ⟨c1,c2,c3,c4,c5,c6⟩:=b2 _ hms
    have tkj:L.take (j+1)=L.take j++[L[j]?.getD ([],[],0)]:=by
     rw [List.take_succ_eq_append_getElem hjl,List.getElem?_eq_getElem hjl]; rfl
    have clj:=zaX mcX (fun _=>rfl) (L.take j)
    rw [List.length_take,Nat.min_eq_left (by omega)] at clj
    generalize L[j]?.getD ([],[],0)=s at *
    obtain ⟨sa,sb,sc⟩:=s
    simp only [cuF] at dr
    simp only at c1 c2 c3 c4 c5 c6
    have tk1:(tkL (sa,sb,sc)).length<=6:=by
     unfold tkL
     cases sb with
     | nil=>simp
     | cons r b=>exact (c4 r (by simp)).2
    have hMX:mcX (sa,sb,sc)=[.int sc,if sa=[] then .val (.slice none 0 0) else .own 3 sa.length (avs (cp (sa,sb,sc))),.int (tp (sa,sb,sc))]:=rfl
    have htp:tp (sa,sb,sc)=if tkL (sa,sb,sc)=[] then 0 else ixT (trN 6) (tkL (sa,sb,sc))+1:=rfl
    have hcp:cp (sa,sb,sc)=sa.map fun c=>ixT (trN 6) c+1:=rfl
    have hcr:∀ k,crX (sa,sb,sc) k=if k=0 then .val (.slice none 0 0) else .own 3 k (avs ((cp (sa,sb,sc)).take k)):=fun k=>rfl
    have hcl:(cp (sa,sb,sc)).length=sa.length:=by rw [hcp,List.length_map]
    have cPt:=zd3 (trN 6) i (frzL FR) (tkL (sa,sb,sc)) (by omega) (fun r hr=>by have:=(at6 r hr).2.1; omega) (by omega)
    have btp:=zeg (trN 6) (tkL (sa,sb,sc))
    rw [l6] at cPt btp
    generalize tkL (sa,sb,sc)=tk at *
    generalize tp (sa,sb,sc)=tpv at *
    generalize hCP:cp (sa,sb,sc)=cps at *
    generalize hMC:L.flatMap cuF=MC at *
    generalize hC:(L.take j).flatMap mcX=C at *
    simp [go_sem,hji,dr]
    refine ⟨⟨nL,by omega⟩,?_⟩
    refine zac (7::9::List.range' 33 13) (fun k:Nat=>[(7,.box 151 [.int sc,crX (sa,sb,sc) k,.int 0]),(33,.int k)]) (fun k=>k<=sa.length) (fun k=>sa.length-k) 0 (by simp) (by simp [go_sem,crX]) (by simp [go_sem,crX]) ?_
    intro k hk
    by_cases hkl:k<sa.length
    .have hki:(k:Int)<sa.length:=by omega
     have dk:=zat hkl
     have hmk:=memD [] hkl
     have hk6:=c2 _ hmk
     have na:¬ sa=[]:=by rintro rfl; simp at hkl
     have cP:=zd3 (trN 6) i (frzL FR) (sa[k]?.getD []) (by omega) (fun r hr=>by have:=(at6 r hr).2.1; omega) (by omega)
     rw [l6] at cP
     have bp:=zeg (trN 6) (sa[k]?.getD [])
     rw [l6] at bp
     have tkk:cps.take (k+1)=cps.take k++[ixT (trN 6) (sa[k]?.getD [])+1]:=by
      rw [List.take_succ_eq_append_getElem (by omega)]
      congr 2
      subst hcp
      rw [List.getElem_map,List.getElem?_eq_getElem hkl]; rfl
     have lk:(cps.take k).length=k:=by rw [List.length_take]; omega
     have x1:crX (sa,sb,sc) (k+1)=.own 3 (k+1) (avs (cps.take k++[ixT (trN 6) (sa[k]?.getD [])+1])):=by rw [hcr,if_neg (by omega),tkk]
     generalize sa[k]?.getD []=r at *
     generalize ixT (trN 6) r+1=v at *
     by_cases k0:k=0
     .have x0:crX (sa,sb,sc) k=.val (.slice none 0 0):=by rw [hcr,if_pos k0]
      rw [x0]
      simp [go_sem,hki,dk]
      refine ⟨na,by kernel_rfl,?_⟩
      refine CallD.of (cP) ?_
      simp [go_sem]
      refine ⟨by kernel_rfl,?_⟩
      simp [go_sem]
      refine ⟨⟨by omega,by omega⟩,k+1,by omega,by omega,zaa _ _ _ (by simp),?_⟩
      rw [x1]
      subst k0
      exact ⟨by simp [avs],by omega⟩
     .have x0:crX (sa,sb,sc) k=.own 3 k (avs (cps.take k)):=by rw [hcr,if_neg k0]
      rw [x0]
      simp [go_sem,hki,dk]
      refine ⟨na,by kernel_rfl,?_⟩
      refine CallD.of (cP) ?_
      simp [go_sem]
      refine ⟨⟨by omega,by omega,by omega⟩,?_⟩
      refine ⟨by kernel_rfl,?_⟩
      simp [go_sem]
      refine ⟨⟨by omega,by omega⟩,k+1,by omega,by omega,zaa _ _ _ (by simp),?_⟩
      rw [x1,zaE]
      exact ⟨rfl,by omega⟩
    .have e:k=sa.length:=by omega
     subst e
     have hki:¬ (sa.length:Int)<sa.length:=by omega
     by_cases s0:sa=[]
     .have x0:crX (sa,sb,sc) sa.length=.val (.slice none 0 0):=by rw [hcr,if_pos (by rw [s0]; rfl)]
      rw [x0]
      rw [if_pos s0] at hMX
      by_cases ht:0<tk.length
      .have t0:¬ tk=[]:=by rintro rfl; simp at ht
       rw [if_neg t0] at htp
       simp [go_sem,hki,ht]
       refine CallVC.of (cPt) ?_
       simp [go_sem]
       refine ⟨⟨by rw [clj],by omega,by omega⟩,⟨by omega,by omega⟩,j+1,by omega,by omega,(Off.reset (by intro x hx; simp at hx |-; omega) (by simp) (by simp [go_sem,zaa])),?_⟩
       rw [tkj,List.flatMap_append,hC]
       refine ⟨⟨by omega,?_⟩,by omega⟩
       simp [hMX,htp]
      .have t0:tk=[]:=List.length_eq_zero_iff.1 (by omega)
       rw [if_pos t0] at htp
       simp [go_sem,hki,ht]
       refine ⟨⟨by rw [clj],by omega,by omega⟩,⟨by omega,by omega⟩,j+1,by omega,by omega,(Off.reset (by intro x hx; simp at hx |-; omega) (by simp) (by simp [go_sem,zaa])),?_⟩
       rw [tkj,List.flatMap_append,hC]
       refine ⟨⟨by omega,?_⟩,by omega⟩
       simp [hMX,htp]
     .have x0:crX (sa,sb,sc) sa.length=.own 3 sa.length (avs cps):=by
       rw [hcr,if_neg (by intro e; exact s0 (List.length_eq_zero_iff.1 e)),List.take_of_length_le (by omega)]
      rw [x0]
      rw [if_neg s0] at hMX
      by_cases ht:0<tk.length
      .have t0:¬ tk=[]:=by rintro rfl; simp at ht
       rw [if_neg t0] at htp
       simp [go_sem,hki,ht]
       refine CallVC.of (cPt) ?_
       simp [go_sem]
       refine ⟨⟨by rw [clj],by omega,by omega⟩,⟨by omega,by omega⟩,j+1,by omega,by omega,(Off.reset (by intro x hx; simp at hx |-; omega) (by simp) (by simp [go_sem,zaa])),?_⟩
       rw [tkj,List.flatMap_append,hC]
       refine ⟨⟨by omega,?_⟩,by omega⟩
       simp [hMX,htp]
      .have t0:tk=[]:=List.length_eq_zero_iff.1 (by omega)
       rw [if_pos t0] at htp
       simp [go_sem,hki,ht]
       refine ⟨⟨by rw [clj],by omega,by omega⟩,⟨by omega,by omega⟩,j+1,by omega,by omega,(Off.reset (by intro x hx; simp at hx |-; omega) (by simp) (by simp [go_sem,zaa])),?_⟩
       rw [tkj,List.flatMap_append,hC]
       refine ⟨⟨by omega,?_⟩,by omega⟩
       simp [hMX,htp]
   .have e:j=L.length:=by omega
    subst e
    have hji:¬ (L.length:Int)<L.length:=by omega
    rw [List.take_length]
    simp [go_sem,hji]
    exact ⟨⟨by omega,by omega,by omega⟩,⟨by omega,by omega⟩,i+1,by omega,by omega,(by repeat (first | exact zaa _ _ _ (by simp) | (refine Off.reset (by intro x hx; simp at hx |-; omega) (by simp) ?_; simp -failIfUnchanged [go_sem,zaa]))),xf,by omega⟩
 .have e:i=37:=by omega
  subst e
  have x:fcX 37=.own 144 37 ((trN 6).map rwX):=by
   unfold fcX
   rw [if_neg (by omega),List.take_of_length_le (by omega)]
  rw [x]
  simp [go_sem]
def trG (row:List (Int × List Int × Int)):AV:=.sl row.length (row.flatMap fun x=>[.int x.1,.sl x.2.1.length (avs x.2.1),.int x.2.2])
theorem zhk:∀ a b:List AV,frzL (a++b)=frzL a++frzL b
 | [],b=>rfl
 | c::a,b=>by rw [List.cons_append,frzL,zhk a b,frzL]; rfl
theorem zn0:∀ L:List Spl,NXL (frzL (L.flatMap mcX)) ((L.map fun s=>(s.2.2,cp s,tp s)).flatMap fun x=>[.int x.1,.sl x.2.1.length (avs x.2.1),.int x.2.2])
 | []=>.nil
 | s::L=>by
  rw [List.map_cons,List.flatMap_cons,List.flatMap_cons,zhk]
  refine NXL.app (zn0 L) ?_
  by_cases h:s.1=[]
  .have e:mcX s=[.int s.2.2,.val (.slice none 0 0),.int (tp s)]:=by unfold mcX; rw [if_pos h]
   have e2:cp s=[]:=by unfold cp; rw [h]; rfl
   rw [e,e2]
   exact .cons (.same _) (.cons .nil (.cons (.same _) .nil))
  .have e:mcX s=[.int s.2.2,.own 3 s.1.length (avs (cp s)),.int (tp s)]:=by unfold mcX; rw [if_neg h]
   have e2:(cp s).length=s.1.length:=by simp [cp]
   rw [e]
   show NXL [.int s.2.2,.sl s.1.length (frzL (avs (cp s))),.int (tp s)] [.int s.2.2,.sl (cp s).length (avs (cp s)),.int (tp s)]
   rw [zfs,e2]
   exact NXL.same _
theorem znW:∀ T:List (List Int),NXL (frzL (T.map rwX)) (T.map fun t=>trG ((cutL t).map fun s=>(s.2.2,cp s,tp s)))
 | []=>.nil
 | t::T=>by
  rw [List.map_cons,List.map_cons]
  refine .cons ?_ (znW T)
  show NX (.sl (cutL t).length (frzL ((cutL t).flatMap mcX))) (trG _)
  unfold trG
  rw [List.length_map]
  exact .sl _ (zn0 _)
theorem zo1:((trN 6).map fun t=>trG ((cutL t).map fun s=>(s.2.2,cp s,tp s)))=fcF:=by
 have e:=congrArg (List.map trG) zra
 rw [List.map_map,List.map_map] at e
 refine (Eq.trans ?_ e).trans ?_
 .rfl
 .unfold fcF
  refine List.map_congr_left fun r _=>?_
  show trG (r.map _)=_
  unfold trG
  rw [List.length_map,List.flatMap_map]
  show AV.sl r.length (r.flatMap fun c=>[.int c.1,.sl (nvs c.2.1).length (avs (nvs c.2.1)),.int c.2.2])=_
  simp only [zfJ]
  rfl
theorem zeZ:GCon Tryz.prog 71 [] (.agg [.sl 37 (mat (trN 6)),.sl 37 fcF]) []:=by
 refine GCon.nxA (.cons (.same _) (.cons (.sl 37 ?_) .nil)) (GCon.frzR zjA rfl)
 rw [<- zo1]
 exact znW _
end Go.Proofs.YthhdollpkieknaaGreat


namespace Go.Proofs.YthhdollpkieknaaGreat
def vb (k i:Nat):Py:=if Nat.beq i 0 then [] else [(1,[k+i])]
theorem znZ {r:Nat->Int} {k:Nat} {A:Nat->Int} (h0:A 0%10007=0) (h:∀ i,i<38->r (k+i)=A i) {i:Nat} (hi:i<38):evp r (vb k i)%10007=A i%10007:=by
 unfold vb
 split
 .rename_i e
  rw [Nat.eq_of_beq_eq_true e,h0]; rfl
 .rw [zr9,h i hi]
def Inf (b:List Int):Prop:=N38 b/\iat b 0=0
end Go.Proofs.YthhdollpkieknaaGreat


namespace Go.Proofs.YthhdollpkieknaaGreat
def parT:List (List (Nat × List Nat × Nat)):=[[(1,[1],1)],
 [(1,[2],1),(1,[1,1],2)],
 [(1,[3],1),(2,[1,2],2),(1,[1,1,1],3)],
 [(1,[4],1),(2,[1,2],2),(1,[1,1,1],4)],
 [(1,[5],1),(2,[1,3],2),(1,[2,2],2),(3,[1,1,2],3),(1,[1,1,1,1],5)],
 [(1,[6],1),(2,[1,3],2),(1,[1,4],2),(2,[1,1,2],3),(1,[1,1,2],4),(1,[1,1,1,1],6)],
 [(1,[7],1),(1,[1,3],2),(1,[1,4],2),(1,[2,2],2),(1,[1,1,2],3),(2,[1,1,2],4),(1,[1,1,1,1],7)],
 [(1,[8],1),(3,[1,4],2),(3,[1,1,2],4),(1,[1,1,1,1],8)],
 [(1,[9],1),(2,[1,5],2),(2,[2,3],2),(3,[1,1,3],3),(3,[1,2,2],3),(4,[1,1,1,2],5),(1,[1,1,1,1,1],9)],
 [(1,[10],1),(2,[1,5],2),(1,[1,6],2),(1,[2,4],2),(2,[1,1,3],3),(1,[1,1,4],3),(2,[1,2,2],3),(1,[1,1,3],4),(2,[1,1,1,2],5),(2,[1,1,1,2],6),(1,[1,1,1,1,1],10)],
 [(1,[11],1),(1,[1,5],2),(1,[1,6],2),(1,[1,7],2),(1,[2,3],2),(2,[1,1,3],3),(1,[1,1,4],3),(1,[1,2,2],3),(1,[1,1,3],4),(1,[1,2,2],4),(1,[1,1,1,2],5),(2,[1,1,1,2],6),(1,[1,1,1,2],7),(1,[1,1,1,1,1],11)],
 [(1,[12],1),(1,[1,5],2),(1,[1,7],2),(1,[2,3],2),(1,[2,4],2),(1,[1,1,4],3),(2,[1,2,2],3),(2,[1,1,3],4),(1,[1,2,2],4),(1,[1,1,1,2],5),(3,[1,1,1,2],7),(1,[1,1,1,1,1],12)],
 [(1,[13],1),(3,[1,6],2),(1,[1,8],2),(3,[1,1,4],3),(3,[1,1,3],4),(3,[1,1,1,2],6),(1,[1,1,1,2],8),(1,[1,1,1,1,1],13)],
 [(1,[14],1),(1,[1,6],2),(2,[1,7],2),(1,[2,4],2),(2,[1,2,2],3),(2,[1,1,3],4),(2,[1,1,4],4),(1,[1,1,1,2],6),(2,[1,1,1,2],7),(1,[1,1,1,2],8),(1,[1,1,1,1,1],14)],
 [(1,[15],1),(2,[1,7],2),(2,[2,3],2),(2,[1,1,3],3),(1,[1,1,4],4),(3,[1,2,2],4),(4,[1,1,1,2],7),(1,[1,1,1,1,1],15)],
 [(1,[16],1),(2,[1,7],2),(1,[1,8],2),(1,[2,4],2),(1,[1,1,4],3),(1,[1,1,3],4),(2,[1,1,4],4),(2,[1,2,2],4),(2,[1,1,1,2],7),(2,[1,1,1,2],8),(1,[1,1,1,1,1],16)],
 [(1,[17],1),(4,[1,8],2),(6,[1,1,4],4),(4,[1,1,1,2],8),(1,[1,1,1,1,1],17)],
 [(1,[18],1),(2,[1,9],2),(2,[2,5],2),(1,[3,3],2),(3,[1,1,5],3),(6,[1,2,3],3),(1,[2,2,2],3),(4,[1,1,1,3],5),(6,[1,1,2,2],5),(5,[1,1,1,1,2],9),(1,[1,1,1,1,1,1],18)],
 [(1,[19],1),(2,[1,9],2),(1,[1,10],2),(1,[2,6],2),(1,[3,4],2),(2,[1,1,5],3),(1,[1,1,6],3),(4,[1,2,3],3),(2,[1,2,4],3),(1,[1,1,5],4),(2,[1,1,1,3],5),(1,[1,1,1,4],5),(4,[1,1,2,2],5),(2,[1,1,1,3],6),(1,[1,1,2,2],6),(2,[1,1,1,1,2],9),(3,[1,1,1,1,2],10),(1,[1,1,1,1,1,1],19)],
 [(1,[20],1),(1,[1,9],2),(1,[1,10],2),(1,[1,11],2),(1,[2,5],2),(1,[2,7],2),(2,[1,1,5],3),(1,[1,1,6],3),(1,[1,1,7],3),(2,[1,2,3],3),(1,[1,2,4],3),(1,[2,2,2],3),(1,[1,1,5],4),(1,[1,2,3],4),(2,[1,1,1,3],5),(1,[1,1,1,4],5),(2,[1,1,2,2],5),(1,[1,1,1,3],6),(3,[1,1,2,2],6),(1,[1,1,1,3],7),(1,[1,1,1,1,2],9),(2,[1,1,1,1,2],10),(2,[1,1,1,1,2],11),(1,[1,1,1,1,1,1],20)],
 [(1,[21],1),(1,[1,9],2),(1,[1,11],2),(1,[1,12],2),(1,[2,6],2),(1,[3,3],2),(1,[1,1,5],3),(1,[1,1,6],3),(1,[1,1,7],3),(3,[1,2,3],3),(1,[1,2,4],3),(1,[1,1,5],4),(2,[1,2,3],4),(1,[1,1,1,3],5),(1,[1,1,1,4],5),(2,[1,1,2,2],5),(2,[1,1,1,3],6),(1,[1,1,2,2],6),(1,[1,1,1,3],7),(2,[1,1,2,2],7),(1,[1,1,1,1,2],9),(3,[1,1,1,1,2],11),(1,[1,1,1,1,2],12),(1,[1,1,1,1,1,1],21)],
 [(1,[22],1),(1,[1,9],2),(1,[1,12],2),(1,[2,5],2),(1,[2,7],2),(1,[3,4],2),(1,[1,1,7],3),(2,[1,2,3],3),(2,[1,2,4],3),(1,[2,2,2],3),(2,[1,1,5],4),(2,[1,2,3],4),(1,[1,1,1,4],5),(3,[1,1,2,2],5),(3,[1,1,1,3],7),(3,[1,1,2,2],7),(1,[1,1,1,1,2],9),(4,[1,1,1,1,2],12),(1,[1,1,1,1,1,1],22)],
 [(1,[23],1),(3,[1,10],2),(1,[1,13],2),(1,[2,8],2),(3,[1,1,6],3),(1,[1,1,8],3),(3,[1,2,4],3),(3,[1,1,5],4),(3,[1,1,1,4],5),(3,[1,1,1,3],6),(3,[1,1,2,2],6),(1,[1,1,1,3],8),(3,[1,1,1,1,2],10),(2,[1,1,1,1,2],13),(1,[1,1,1,1,1,1],23)],
 [(1,[24],1),(1,[1,10],2),(2,[1,11],2),(1,[1,14],2),(1,[3,4],2),(1,[1,1,6],3),(2,[1,1,7],3),(2,[1,2,3],3),(1,[1,2,4],3),(2,[1,1,5],4),(1,[1,1,6],4),(1,[1,2,4],4),(2,[1,1,2,2],5),(3,[1,1,1,3],6),(2,[1,1,1,4],6),(2,[1,1,2,2],7),(1,[1,1,1,3],8),(1,[1,1,1,1,2],10),(2,[1,1,1,1,2],11),(1,[1,1,1,1,2],13),(1,[1,1,1,1,2],14),(1,[1,1,1,1,1,1],24)],
 [(1,[25],1),(1,[1,10],2),(2,[1,12],2),(1,[2,6],2),(1,[4,4],2),(2,[1,2,3],3),(3,[1,2,4],3),(2,[1,1,5],4),(1,[1,1,6],4),(1,[1,1,7],4),(1,[1,2,4],4),(2,[1,1,2,2],5),(1,[1,1,1,4],6),(1,[1,1,2,2],6),(2,[1,1,1,3],7),(1,[1,1,1,4],7),(2,[1,1,2,2],7),(1,[1,1,1,3],8),(1,[1,1,1,1,2],10),(2,[1,1,1,1,2],12),(2,[1,1,1,1,2],14),(1,[1,1,1,1,1,1],25)],
 [(1,[26],1),(2,[1,11],2),(1,[1,15],2),(2,[2,5],2),(2,[1,1,5],3),(2,[1,1,7],3),(2,[1,2,3],3),(1,[1,1,6],4),(2,[1,2,3],4),(1,[2,2,2],4),(2,[1,1,1,3],5),(1,[1,1,1,4],6),(3,[1,1,2,2],6),(2,[1,1,1,3],7),(2,[1,1,2,2],7),(4,[1,1,1,1,2],11),(1,[1,1,1,1,2],15),(1,[1,1,1,1,1,1],26)],
 [(1,[27],1),(2,[1,11],2),(1,[1,13],2),(1,[1,16],2),(1,[2,6],2),(1,[1,1,6],3),(2,[1,1,7],3),(1,[1,1,8],3),(1,[1,2,4],3),(1,[1,1,5],4),(2,[1,1,6],4),(2,[1,2,3],4),(1,[1,1,1,4],5),(1,[1,1,1,3],6),(2,[1,1,1,4],6),(2,[1,1,2,2],6),(2,[1,1,1,3],7),(1,[1,1,1,3],8),(1,[1,1,2,2],8),(2,[1,1,1,1,2],11),(2,[1,1,1,1,2],13),(1,[1,1,1,1,2],16),(1,[1,1,1,1,1,1],27)],
 [(1,[28],1),(1,[1,11],2),(1,[1,12],2),(1,[1,14],2),(2,[2,7],2),(1,[1,1,7],3),(1,[1,2,3],3),(1,[1,2,4],3),(1,[2,2,2],3),(1,[1,1,5],4),(1,[1,1,6],4),(2,[1,1,7],4),(1,[1,2,3],4),(1,[1,2,4],4),(1,[1,1,2,2],5),(2,[1,1,2,2],6),(2,[1,1,1,3],7),(2,[1,1,1,4],7),(1,[1,1,2,2],7),(1,[1,1,1,3],8),(1,[1,1,2,2],8),(1,[1,1,1,1,2],11),(1,[1,1,1,1,2],12),(2,[1,1,1,1,2],14),(1,[1,1,1,1,2],16),(1,[1,1,1,1,1,1],28)],
 [(1,[29],1),(1,[1,12],2),(1,[1,15],2),(1,[2,5],2),(1,[2,7],2),(1,[3,3],2),(1,[1,1,5],3),(1,[1,1,7],3),(2,[1,2,3],3),(1,[1,1,7],4),(3,[1,2,3],4),(1,[1,2,4],4),(1,[2,2,2],4),(1,[1,1,1,3],5),(2,[1,1,1,3],7),(1,[1,1,1,4],7),(6,[1,1,2,2],7),(2,[1,1,1,1,2],12),(3,[1,1,1,1,2],15),(1,[1,1,1,1,1,1],29)],
 [(1,[30],1),(2,[1,12],2),(1,[1,16],2),(1,[2,8],2),(1,[3,4],2),(1,[1,1,8],3),(2,[1,2,4],3),(1,[1,1,5],4),(2,[1,1,7],4),(2,[1,2,3],4),(2,[1,2,4],4),(1,[1,1,1,4],5),(2,[1,1,1,4],7),(4,[1,1,2,2],7),(2,[1,1,1,3],8),(1,[1,1,2,2],8),(2,[1,1,1,1,2],12),(3,[1,1,1,1,2],16),(1,[1,1,1,1,1,1],30)],
 [(1,[31],1),(4,[1,13],2),(1,[1,17],2),(4,[1,1,8],3),(6,[1,1,6],4),(6,[1,1,1,4],6),(4,[1,1,1,3],8),(4,[1,1,1,1,2],13),(1,[1,1,1,1,2],17),(1,[1,1,1,1,1,1],31)],
 [(1,[32],1),(1,[1,13],2),(3,[1,14],2),(1,[2,8],2),(3,[1,2,4],3),(3,[1,1,6],4),(3,[1,1,7],4),(1,[1,1,8],4),(3,[1,1,2,2],6),(3,[1,1,1,4],7),(3,[1,1,1,3],8),(1,[1,1,1,4],8),(1,[1,1,1,1,2],13),(3,[1,1,1,1,2],14),(1,[1,1,1,1,2],17),(1,[1,1,1,1,1,1],32)],
 [(1,[33],1),(1,[1,14],2),(2,[1,15],2),(1,[2,6],2),(1,[3,4],2),(1,[1,1,6],3),(2,[1,2,3],3),(3,[1,1,7],4),(2,[1,2,3],4),(2,[1,2,4],4),(1,[1,1,1,3],6),(2,[1,1,1,3],7),(1,[1,1,1,4],7),(4,[1,1,2,2],7),(1,[1,1,1,4],8),(1,[1,1,2,2],8),(2,[1,1,1,1,2],14),(2,[1,1,1,1,2],15),(1,[1,1,1,1,2],16),(1,[1,1,1,1,1,1],33)],
 [(1,[34],1),(2,[1,14],2),(2,[1,16],2),(1,[4,4],2),(2,[1,2,4],3),(1,[1,1,6],4),(4,[1,1,7],4),(1,[1,1,8],4),(2,[1,2,4],4),(1,[1,1,1,4],6),(4,[1,1,2,2],7),(2,[1,1,1,3],8),(3,[1,1,1,4],8),(2,[1,1,1,1,2],14),(2,[1,1,1,1,2],16),(1,[1,1,1,1,2],17),(1,[1,1,1,1,1,1],34)],
 [(1,[35],1),(1,[1,15],2),(2,[1,16],2),(2,[2,7],2),(2,[1,1,7],3),(2,[1,1,7],4),(1,[1,1,8],4),(2,[1,2,3],4),(2,[1,2,4],4),(1,[2,2,2],4),(2,[1,1,1,3],7),(2,[1,1,1,4],7),(2,[1,1,2,2],7),(1,[1,1,1,4],8),(3,[1,1,2,2],8),(1,[1,1,1,1,2],15),(4,[1,1,1,1,2],16),(1,[1,1,1,1,1,1],35)],
 [(1,[36],1),(3,[1,16],2),(1,[1,17],2),(1,[2,8],2),(1,[1,1,8],3),(3,[1,1,7],4),(3,[1,1,8],4),(3,[1,2,4],4),(3,[1,1,1,4],7),(1,[1,1,1,3],8),(3,[1,1,1,4],8),(3,[1,1,2,2],8),(3,[1,1,1,1,2],16),(2,[1,1,1,1,2],17),(1,[1,1,1,1,1,1],36)],
 [(1,[37],1),(5,[1,17],2),(10,[1,1,8],4),(10,[1,1,1,4],8),(5,[1,1,1,1,2],17),(1,[1,1,1,1,1,1],37)]]
def ptR (i:Nat):List Ctp:=parT[i-1]?.getD []
def sbI (B A:Nat->Int) (i:Nat):Int:=if i=0 then A 0 else rowI B A (ptR i)
def sbP (B A:Nat->Py) (i:Nat):Py:=if Nat.beq i 0 then A 0 else rowP B A (ptR i)
theorem zif {i:Nat} (hi:i<38):∀ c∈ptR i,(∀ v∈c.2.1,v<38)/\c.2.2<38:=by
 have ok:(List.range 38).all (fun i=>(ptR i).all fun c=>c.2.1.all (fun v=>decide (v<38)) && decide (c.2.2<38))=true:=by decide +kernel
 intro c hc
 have h:=List.all_eq_true.1 (List.all_eq_true.1 ok i (List.mem_range.2 hi)) c hc
 simp only [Bool.and_eq_true,List.all_eq_true,decide_eq_true_eq] at h
 exact h
theorem zn2 (r:Nat->Int) {A B:Nat->Py} {A' B':Nat->Int} (h:∀ v,v<38->evp r (A v)%10007=A' v%10007) (k:∀ v,v<38->evp r (B v)%10007=B' v%10007) {i:Nat} (hi:i<38):evp r (sbP A B i)%10007=sbI A' B' i%10007:=by
 unfold sbP sbI
 by_cases e:i=0
 .subst e; exact k 0 (by omega)
 .rw [if_neg e,if_neg (by intro x; exact e (Nat.eq_of_beq_eq_true x))]
  exact zfx r _ fun c hc=>⟨fun v hv=>h v ((zif hi c hc).1 v hv),k _ (zif hi c hc).2⟩
def sbS (b a:List Int):List Int:=mk38 (sbI (iat b) (iat a))
theorem zec (b a:List Int):N38 (sbS b a):=zki _
theorem zos (b a:List Int) {i:Nat} (hi:i<38):iat (sbS b a) i%10007=sbI (iat b) (iat a) i%10007:=zmZ _ hi
end Go.Proofs.YthhdollpkieknaaGreat


namespace Go.Proofs.YthhdollpkieknaaGreat
open Go.Abs Go.Shelf Go.Sort
def bitB (m i:Nat):Bool:=Nat.beq (m / 2 ^ i%2) 1
def parK (t:List Int) (l:Int):Nat->Int
 | 0 => -1
 | k+1=>if t[k]?.getD 0=l-1 then (k:Int) else parK t l k
def parL (t:List Int):List Int:=(List.range t.length).map fun i=>parK t (t[i]?.getD 0) i
structure CuS where
 near:List (List Int)
 top:List Int
 tops:List Int
 btw:List (Int × Int)
def zf0 (J:List (List Int)) (p i:Nat):List (List Int):=(J.set p (J[p]?.getD []++[(i:Int)])).set i (J[i]?.getD []++[(p:Int)])
def zh1 (P:List Int) (m:Nat) (S:CuS) (i:Nat):CuS :=
 if P[i]?.getD 0<0\/bitB m i=true then
  ⟨S.near,S.top.set i S.tops.length,S.tops++[(i:Int)],if 0<=P[i]?.getD 0 then S.btw++[((S.top.set i S.tops.length)[(P[i]?.getD 0).toNat]?.getD 0,(S.tops.length:Int))] else S.btw⟩
 else ⟨zf0 S.near (P[i]?.getD 0).toNat i,S.top.set i (S.top[(P[i]?.getD 0).toNat]?.getD 0),S.tops,S.btw⟩
def cuN (t:List Int) (m i:Nat):CuS:=(List.range i).foldl (zh1 (parL t) m) ⟨List.replicate t.length [],List.replicate t.length 0,[],[]⟩
theorem zix (t:List Int) (m i:Nat):cuN t m (i+1)=zh1 (parL t) m (cuN t m i) i:=by simp [cuN,List.range_succ]
def jnN (B:List (Int × Int)) (n j:Nat):List (List Int):=(B.take j).foldl (fun J e=>zf0 J e.1.toNat e.2.toNat) (List.replicate n [])
def tfF:Nat->List (List Int)->Int->Int->List Int
 | 0,_,_,_=>[]
 | n+1,J,r,f=>canF 7 (zaA (((J[r.toNat]?.getD []).filter fun x=>decide (x≠f)).map fun x=>tfF n J x r))
def cuR (t:List Int) (m:Nat):List (List Int) × List Int × Int :=
 let S:=cuN t m t.length
 (srtT (S.tops.map fun i=>tfF 7 S.near i (-1)),tfF 7 (jnN S.btw S.tops.length S.btw.length) 0 (-1),1)
def prtL (t:List Int):List (List (List Int) × List Int × Int):=(List.range (2 ^ (t.length-1))).map fun k=>cuR t (2*k)
abbrev Prt:=List (List Int) × List Int × Int
def zbu (s r:Prt):Int:=if cmpT s.2.1 r.2.1=0 then zaO s.1 r.1 else cmpT s.2.1 r.2.1
theorem linPa:LinC (fun p q:List Int × List (List Int)=>if cmpT p.1 q.1=0 then zaO p.2 q.2 else cmpT p.1 q.1):=linT.pair linFs
def zb4 (s:Prt):List Int × List (List Int):=(s.2.1,s.1)
theorem zqI:SWO (Go.Proofs.ltOf zbu):=linPa.swo zb4
theorem paT2 {a b d:Prt} (h1:zbu a b<0) (h2:zbu b d<0):zbu a d<0:=linPa.trans (zb4 a) (zb4 b) (zb4 d) h1 h2
theorem paI2 (a:Prt):¬ zbu a a<0:=by
 have:zbu a a=0:=linPa.self (zb4 a)
 omega
theorem paZ2 {a b:Prt}:zbu a b=0 ↔ zb4 a=zb4 b:=linPa.zero (zb4 a) (zb4 b)
theorem zr3 {a b:Prt}:zbu a b<0 ↔ 0<zbu b a:=linPa.anti (zb4 a) (zb4 b)
def zhu (p:Prt):List Prt->List Prt
 | []=>[p]
 | s::S=>if zbu p s<0 then p::s::S else s::zhu p S
def zdD:List Prt->List Prt
 | []=>[]
 | s::S=>zhu s (zdD S)
theorem zdj (p:Prt):∀ S,(zhu p S).Perm (p::S)
 | []=>.refl _
 | s::S=>by
  rw [zhu]; split
  .exact .refl _
  .exact ((zdj p S).cons s).trans (.swap _ _ _)
theorem zbF:∀ S,(zdD S).Perm S
 | []=>.refl _
 | s::S=>(zdj s _).trans ((zbF S).cons s)
theorem zkA (S:List Prt):(zdD S).length=S.length:=(zbF S).length_eq
theorem zgA (p:Prt):∀ S:List Prt,S.Pairwise (fun x y=>¬ zbu y x<0)->(zhu p S).Pairwise (fun x y=>¬ zbu y x<0)
 | [],_=>by simp [zhu]
 | s::S,h=>by
  obtain ⟨h1,h2⟩:=List.pairwise_cons.1 h
  rw [zhu]; split
  .rename_i hl
   refine .cons (fun y hy=>?_) h
   rcases List.mem_cons.1 hy with e | hy
   .rw [e]; intro hc; exact paI2 p (paT2 hl hc)
   .intro hc; exact h1 y hy (paT2 hc hl)
  .rename_i hl
   refine .cons (fun y hy=>?_) (zgA p S h2)
   rcases List.mem_cons.1 ((zdj p S).mem_iff.1 hy) with e | hy
   .rw [e]; exact hl
   .exact h1 y hy
theorem zgR:∀ S:List Prt,(zdD S).Pairwise (fun x y=>¬ zbu y x<0)
 | []=>.nil
 | s::S=>zgA s _ (zgR S)
theorem zgN {ys X:List Prt} (hp:ys.Perm X) (h1:∀ s∈X,s.2.2=1) (hy:ys.Pairwise (fun x y=>¬ zbu y x<0)):ys=zdD X :=
 (hp.trans (zbF X).symm).eq_of_pairwise (fun a b ha hb k1 k2=>by
  have e1:=h1 a (hp.mem_iff.1 ha)
  have e2:=h1 b ((zbF X).mem_iff.1 hb)
  have z:zbu a b=0:=by
   have k3:¬ 0<zbu a b:=fun x=>k1 (zr3.2 x)
   omega
  have k:=paZ2.1 z
  obtain ⟨a1,a2,a3⟩:=a
  obtain ⟨b1,b2,b3⟩:=b
  simp only [zb4,Prod.mk.injEq] at k e1 e2
  rw [k.1,k.2,e1,e2]) hy (zgR X)
def zcB (out:List Prt) (s:Prt):List Prt:=match out.getLast? with
 | some l=>if zbu l s=0 then out.set (out.length-1) (l.1,l.2.1,l.2.2+1) else out++[s]
 | none=>[s]
def zbE (L:List Prt):List Prt:=L.foldl zcB []
theorem zfc (L:List Prt) (s:Prt):zbE (L++[s])=zcB (zbE L) s:=by simp [zbE]
theorem zjP (out:List Prt) (s:Prt):(zcB out s).length<=out.length+1:=by
 unfold zcB
 split
 .split <;> simp
 .simp
theorem zkb (L:List Prt):(zbE L).length<=L.length/\(∀ l∈zbE L,∃ s∈L,zb4 l=zb4 s)/\((∀ s∈L,s.2.2=1)->∀ l∈zbE L,0<=l.2.2/\l.2.2<=L.length):=by
 refine zbQ (P:=fun L=>(zbE L).length<=L.length/\(∀ l∈zbE L,∃ s∈L,zb4 l=zb4 s)/\((∀ s∈L,s.2.2=1)->∀ l∈zbE L,0<=l.2.2/\l.2.2<=L.length)) ⟨by simp [zbE],by simp [zbE],by simp [zbE]⟩ (fun L s ih=>?_) L
 obtain ⟨i1,i2,i3⟩:=ih
 rw [zfc]
 have hl:=zjP (zbE L) s
 refine ⟨by rw [List.length_append,List.length_singleton]; omega,fun l hm=>?_,fun h1 l hm=>?_⟩
 .unfold zcB at hm
  split at hm
  .rename_i l0 hl0
   split at hm
   .rcases List.mem_or_eq_of_mem_set hm with hm | e
    .obtain ⟨t,t1,t2⟩:=i2 l hm
     exact ⟨t,by simp [t1],t2⟩
    .obtain ⟨t,t1,t2⟩:=i2 l0 (List.mem_of_getLast? hl0)
     exact ⟨t,by simp [t1],by rw [e,<- t2]; rfl⟩
   .rcases List.mem_append.1 hm with hm | hm
    .obtain ⟨t,t1,t2⟩:=i2 l hm
     exact ⟨t,by simp [t1],t2⟩
    .rw [List.mem_singleton] at hm
     exact ⟨s,by simp,by rw [hm]⟩
  .rw [List.mem_singleton] at hm
   exact ⟨s,by simp,by rw [hm]⟩
 .have j3:=i3 (fun t ht=>h1 t (by simp [ht]))
  have hs:=h1 s (by simp)
  rw [List.length_append,List.length_singleton]
  unfold zcB at hm
  split at hm
  .rename_i l0 hl0
   split at hm
   .rcases List.mem_or_eq_of_mem_set hm with hm | e
    .have:=j3 l hm; omega
    .have:=j3 l0 (List.mem_of_getLast? hl0)
     rw [e]; simp only; omega
   .rcases List.mem_append.1 hm with hm | hm
    .have:=j3 l hm; omega
    .rw [List.mem_singleton] at hm; rw [hm]; omega
  .rw [List.mem_singleton] at hm; rw [hm]; omega
def parP (t:List Int):List Prt:=zbE (zdD (prtL t))
def pcP (s:Prt):List Int:=s.1.map fun c=>ixT (trN 6) c+1
def skP (s:Prt):Int:=ixT (trN 6) s.2.1+1
theorem zrb:(trN 6).map (fun t=>(parP t).map fun s=>(s.2.2,pcP s,skP s))=parT.map fun r=>r.map fun c=>((c.1:Int),nvs c.2.1,(c.2.2:Int)):=by decide +kernel
def tfS (n:Nat) (J:List (List Int)) (r f:Int):List (List Int):=((J[r.toNat]?.getD []).filter fun x=>decide (x≠f)).map fun x=>tfF n J x r
theorem zh5 (n:Nat) (J:List (List Int)) (r f:Int):tfF (n+1) J r f=canF 7 (zaA (tfS n J r f)):=rfl
def tfOk:Nat->List (List Int)->Int->Int->Bool
 | 0,_,_,_=>false
 | n+1,J,r,f=>(decide (0<=r) && decide (r<J.length)) && ((decide ((J[r.toNat]?.getD []).length<=10) && (J[r.toNat]?.getD []).all fun x=>decide (x=f) || tfOk n J x r) &&
   (((tfS n J r f).all fun b=>decide (b.length<=100) && b.all fun x=>decide (0<=x) && decide (x<=100)) && (lvC (zaA (tfS n J r f)) && decide ((zaA (tfS n J r f)).length<=7))))
def rwB (J:List (List Int)) (n:Nat):Bool:=decide (J.length=n) && J.all fun r=>decide (r.length<=10)
def cuB (t:List Int) (m:Nat):Bool :=
 ((List.range t.length).all fun i=>decide (-1<=(parL t)[i]?.getD 0) && decide ((parL t)[i]?.getD 0<i)) &&
 (((List.range (t.length+1)).all fun i=>rwB (cuN t m i).near t.length && (decide ((cuN t m i).top.length=t.length) && (decide ((cuN t m i).tops.length<=i) && decide ((cuN t m i).btw.length<=i)))) &&
 (((cuN t m t.length).tops.all fun i=>tfOk 7 (cuN t m t.length).near i (-1) && decide ((tfF 7 (cuN t m t.length).near i (-1)).length<=100)) &&
 (((cuN t m t.length).btw.all fun e=>(decide (0<=e.1) && decide (e.1<(cuN t m t.length).tops.length)) && ((decide (0<=e.2) && decide (e.2<(cuN t m t.length).tops.length)) && decide (e.1≠e.2))) &&
 (((List.range ((cuN t m t.length).btw.length+1)).all fun j=>rwB (jnN (cuN t m t.length).btw (cuN t m t.length).tops.length j) (cuN t m t.length).tops.length) &&
 (tfOk 7 (jnN (cuN t m t.length).btw (cuN t m t.length).tops.length (cuN t m t.length).btw.length) 0 (-1))))))
theorem zo8:(trN 6).all (fun t=>(List.range (2 ^ (t.length-1))).all fun k=>cuB t (2*k))=true:=by decide +kernel
theorem zpO:(trN 6).all (fun t=>((prtL t).all fun s=>(decide (s.1.length<=6) && s.1.all fun r=>decide (r.length<=6)) && decide (s.2.1.length<=6)) && decide ((parP t).length<=100))=true:=by decide +kernel
end Go.Proofs.YthhdollpkieknaaGreat


namespace Go.Proofs.YthhdollpkieknaaGreat
open Go.Abs
theorem zf4 (t:List Int) (l:Int):∀ k,-1<=parK t l k/\parK t l k<k
 | 0=>by simp [parK]
 | k+1=>by
  have:=zf4 t l k
  unfold parK
  split <;> omega
theorem zdK (t:List Int):(parL t).length=t.length:=by simp [parL]
theorem zj3 {t:List Int} {i:Nat} (h:i<t.length):(parL t).take (i+1)=(parL t).take i++[parK t (t[i]?.getD 0) i]:=by
 rw [List.take_succ_eq_append_getElem (by rw [zdK]; exact h)]
 simp [parL]
theorem zhs (t:List Int) (hl:t.length<=1000) (hb:∀ x∈t,0<=x/\x<=1000):Con Tryz.prog 290 [.sl t.length (avs t)] (.own 3 t.length (avs (parL t))):=by
 have tk:=fun i h=>zj3 (t:=t) (i:=i) h
 have ta:(parL t).take t.length=parL t:=List.take_of_length_le (by rw [zdK]; exact Nat.le_refl _)
 have lL:=zdK t
 generalize parL t=L at *
 refine zab Tryz.mixed ⟨7,[],[],[]⟩ Tryz.func290 ?_
 rw [Tryz.ntmps290]
 simp [go_sem]
 refine zac (List.range' 3 4++List.range' 10 25) (fun i:Nat=>[(3,.own 3 i (avs (L.take i))),(10,.int i)]) (fun i=>i<=t.length) (fun i=>t.length-i) 0 (by simp) (by simp [go_sem]) (by simp [go_sem]) ?_
 intro i hi
 by_cases hil:i<t.length
 .have hii:(i:Int)<t.length:=by omega
  have dr:=zao hil
  have t1:=tk i hil
  have bx:=hb _ (memD 0 hil)
  have eI:iat t i=t[i]?.getD 0:=rfl
  have ng:¬ t=[]:=by rintro rfl; simp at hil
  rw [eI] at dr
  generalize hl0:t[i]?.getD 0=l at *
  simp [go_sem,hii,dr]
  refine ⟨ng,⟨by omega,by omega⟩,?_⟩
  refine zac (6::List.range' 17 13) (fun k:Nat=>[(6,.int ((k:Int)-1))]) (fun k=>k<=i/\parK t l i=parK t l k) (fun k=>k) i ⟨Nat.le_refl _,rfl⟩ (by simp [go_sem]) (by simp [go_sem]) ?_
  rintro k ⟨h1,h2⟩
  cases k with
  | zero =>
   have e:parK t l 0 = -1:=rfl
   rw [h2,e] at t1
   simp [go_sem]
   refine ⟨⟨by omega,by omega,by omega⟩,⟨by omega,by omega⟩,i+1,by omega,by omega,(Off.reset (by intro x hx; simp at hx |-; omega) (by simp) (by simp [go_sem,zaa])),?_⟩
   rw [t1,zaE]
   exact ⟨⟨rfl,rfl⟩,by omega⟩
  | succ k =>
   have dk:=zao (a:=t) (v:=k) (by omega)
   have eK:iat t k=t[k]?.getD 0:=rfl
   rw [eK] at dk
   have bk:=hb _ (memD 0 (show k<t.length by omega))
   have e1:((k+1:Nat):Int)-1=k:=by omega
   rw [e1]
   rw [show parK t l (k+1)=if t[k]?.getD 0=l-1 then (k:Int) else parK t l k from rfl] at h2
   generalize t[k]?.getD 0=x at *
   by_cases hx:x=l-1
   .rw [if_pos hx] at h2
    rw [h2] at t1
    simp [go_sem,dk,hx]
    refine ⟨⟨by omega,ng⟩,⟨by omega,by omega⟩,⟨by omega,by omega,by omega⟩,⟨by omega,by omega⟩,i+1,by omega,by omega,(Off.reset (by intro x hx; simp at hx |-; omega) (by simp) (by simp [go_sem,zaa])),?_⟩
    rw [t1,zaE]
    exact ⟨⟨rfl,rfl⟩,by omega⟩
   .rw [if_neg hx] at h2
    simp [go_sem,dk,hx]
    refine ⟨⟨by omega,ng⟩,⟨by omega,by omega⟩,⟨by omega,by omega⟩,k,⟨by omega,h2⟩,by omega,zaa _ _ _ (by simp),?_⟩
    rfl
 .have e:i=t.length:=by omega
  subst e
  have hii:¬ (t.length:Int)<t.length:=by omega
  rw [ta]
  simp [go_sem,hii]
theorem zlV {n:Nat} {J:List (List Int)} {r f:Int} (h:tfOk (n+1) J r f=true):(0<=r/\r<J.length)/\((J[r.toNat]?.getD []).length<=10/\∀ x∈J[r.toNat]?.getD [],x=f\/tfOk n J x r=true)/\(∀ b∈tfS n J r f,b.length<=100/\∀ x∈b,0<=x/\x<=100)/\Lv (zaA (tfS n J r f))/\(zaA (tfS n J r f)).length<=7:=by
 rw [tfOk] at h
 simp only [Bool.and_eq_true,Bool.or_eq_true,decide_eq_true_eq,List.all_eq_true] at h
 exact ⟨h.1,h.2.1,h.2.2.1,zhW h.2.2.2.1,h.2.2.2.2⟩
def tfL (n:Nat) (J:List (List Int)) (r f:Int) (l:List Int):List (List Int):=(l.filter fun x=>decide (x≠f)).map fun x=>tfF n J x r
theorem zmz (n:Nat) (J:List (List Int)) (r f x:Int) (l:List Int):tfL n J r f (l++[x])=tfL n J r f l++if x=f then [] else [tfF n J x r]:=by
 unfold tfL
 rw [List.filter_append,List.map_append]
 by_cases h:x=f <;> simp [h]
theorem zkm (n:Nat) (J:List (List Int)) (r f:Int) (l:List Int):(tfL n J r f l).length<=l.length:=by
 unfold tfL
 rw [List.length_map]
 exact List.length_filter_le _ _
theorem zfe:∀ (n:Nat) (J:List (List Int)) (r f:Int),tfOk n J r f=true->Con Tryz.prog 291 [.sl J.length (mat J),.int r,.int f] (.own 2 (tfF n J r f).length (avs (tfF n J r f)))
 | 0,J,r,f,h=>by simp [tfOk] at h
 | n+1,J,r,f,h=>by
  obtain ⟨h1,⟨h2,h3⟩,h4,h5,h6⟩:=zlV h
  obtain ⟨k,rfl⟩:∃ k:Nat,r=k:=⟨r.toNat,by omega⟩
  rw [Int.toNat_natCast] at h2 h3
  have ih:=fun x hx=>zfe n J x k hx
  have hk:k<J.length:=by omega
  have dm:=zat hk
  have hT:tfS n J k f=tfL n J k f (J[k]?.getD []):=by unfold tfS tfL; rw [Int.toNat_natCast]
  have cR:=zdQ (tfS n J k f) (by rw [hT]; have:=zkm n J k f (J[k]?.getD []); omega) (fun b hb=>⟨by have:=(h4 b hb).1; omega,fun x hx=>by have:=(h4 b hb).2 x hx; omega⟩)
  have cC:=zbb 7 (zaA (tfS n J k f)) (by omega) h5 h6
  have eL:(tfF (n+1) J k f).length=(zaA (tfS n J k f)).length:=by rw [zh5,zaN 7 _ h5 h6]
  rw [eL,zh5]
  generalize zaA (tfS n J k f)=RT at *
  generalize canF 7 RT=CT at *
  rw [hT] at h4 cR
  generalize hrow:J[k]?.getD []=R at *
  have sn:=zmz n J k f
  have lb:=zkm n J k f
  have b0:tfL n J k f []=[]:=rfl
  clear hT h4
  generalize tfL n J k f=TL at *
  have o0:omat ([]:List (List Int))=[]:=rfl
  refine zab Tryz.mixed ⟨10,[],[],[]⟩ Tryz.func291 ?_
  rw [Tryz.ntmps291]
  simp [go_sem]
  have nJ:¬ J=[]:=by rintro rfl; simp at hk
  simp [go_sem,dm]
  refine ⟨⟨hk,nJ⟩,?_⟩
  refine zac (7::9::List.range' 16 15) (fun i:Nat=>[(7,.own 25 (TL (R.take i)).length (omat (TL (R.take i)))),(16,.int i)]) (fun i=>i<=R.length) (fun i=>R.length-i) 0 (by simp) (by simp [go_sem,b0,o0]) (by simp [go_sem]) ?_
  intro i hi
  by_cases hil:i<R.length
  .have hii:(i:Int)<R.length:=by omega
   have dr:=zao hil
   have hx:=h3 (iat R i) (memD 0 hil)
   have nR:¬ R=[]:=by rintro rfl; simp at hil
   have tk:R.take (i+1)=R.take i++[iat R i]:=by
    rw [List.take_succ_eq_append_getElem hil]
    unfold iat
    rw [List.getElem?_eq_getElem hil]; rfl
   have s1:=sn (iat R i) (R.take i)
   have b1:=lb (R.take i)
   have bt:(R.take i).length<=10:=by rw [List.length_take]; omega
   rw [<- tk] at s1
   have lB:(TL (R.take i)).length<=10:=by omega
   generalize TL (R.take i)=B at *
   generalize iat R i=x at *
   by_cases e:x=f
   .rw [if_pos e,List.append_nil] at s1
    simp [go_sem,hii,dr,e]
    refine ⟨nR,⟨by omega,by omega⟩,i+1,by omega,by omega,zaa _ _ _ (by simp),?_⟩
    rw [s1]
    exact ⟨⟨rfl,rfl⟩,by omega⟩
   .rw [if_neg e] at s1
    have c1:=ih x (hx.resolve_left e)
    generalize tfF n J x k=v at *
    simp [go_sem,hii,dr,e]
    refine ⟨nR,?_⟩
    refine CallVC.of (c1) ?_
    simp [go_sem]
    refine ⟨⟨by omega,by omega⟩,⟨by omega,by omega⟩,i+1,by omega,by omega,zaa _ _ _ (by simp),?_⟩
    rw [s1,zbA]
    exact ⟨⟨by simp,rfl⟩,by omega⟩
  .have e:i=R.length:=by omega
   subst e
   have hii:¬ (R.length:Int)<R.length:=by omega
   rw [List.take_length]
   generalize TL R=B at *
   simp [go_sem,hii]
   refine CallVC.of (cR) ?_
   simp [go_sem]
   refine CallVC.of (cC) ?_
   simp [go_sem]
theorem zeB {m i:Nat} (hm:m<1000000) (hi:i<60):andI .i64 (shrI .i64 (m:Int) (i:Int)) 1=((m / 2 ^ i%2:Nat):Int):=by
 have e1:shrI .i64 (m:Int) (i:Int)=((m / 2 ^ i:Nat):Int):=by
  show (m:Int).fdiv (2 ^ min (i:Int).toNat 64)=_
  rw [Int.toNat_natCast,Nat.min_eq_left (by omega),Int.fdiv_eq_ediv_of_nonneg _ (Int.pow_nonneg (by decide))]
  simp
 have hl:m / 2 ^ i<1000000:=Nat.lt_of_le_of_lt (Nat.div_le_self _ _) hm
 rw [e1]
 generalize m / 2 ^ i=n at *
 have e2:(BitVec.ofInt 64 (n:Int)).toNat=n:=by
  rw [BitVec.toNat_ofInt]; simp; omega
 have e3:(BitVec.ofInt 64 (1:Int)).toNat=1:=by decide
 show IntKind.wrap .i64 ((BitVec.ofInt 64 (n:Int) &&& BitVec.ofInt 64 1).toNat:Int)=_
 rw [BitVec.toNat_and,e2,e3,Nat.and_one_is_mod]
 exact zdn (by unfold inK; have a:IntKind.min .i64 = -9223372036854775808:=by decide
               have b:IntKind.max .i64=9223372036854775807:=by decide
               rw [a,b]; omega)
end Go.Proofs.YthhdollpkieknaaGreat


namespace Go.Proofs.YthhdollpkieknaaGreat
open Go.Abs
def nrC (r:List Int):AV:=if r=[] then .val (.slice none 0 0) else .own 3 r.length (avs r)
def nrA (J:List (List Int)):List AV:=J.map nrC
def btA (B:List (Int × Int)):List AV:=B.flatMap fun e=>[.int e.1,.int e.2]
theorem zfF (J:List (List Int)):(nrA J).length=J.length:=by simp [nrA]
theorem zeX {J:List (List Int)} {k:Nat} (h:k<J.length):(nrA J)[k]?=some (nrC (J[k]?.getD [])):=by
 simp [nrA,h]
theorem zfW (J:List (List Int)) (k:Nat) (r:List Int):(nrA J).set k (nrC r)=nrA (J.set k r):=by simp [nrA,List.map_set]
theorem zfH {r:List Int} (x:Int):nrC (r++[x])=.own 3 (r.length+1) (avs r++[.int x]):=by
 unfold nrC
 rw [if_neg (by simp),List.length_append,List.length_singleton,zaE]
theorem zlj (X:List (Int × Int)):(X.flatMap fun e=>[AV.int e.1,AV.int e.2]).length=X.length*2:=by
 induction X with
 | nil=>rfl
 | cons s X ih=>rw [List.flatMap_cons,List.length_append,ih,List.length_cons]; simp; omega
theorem zi9 (d:Int × Int) {L:List (Int × Int)} {i:Nat} (h:i<L.length):(L.flatMap fun e=>[AV.int e.1,AV.int e.2]).drop (i*2)=[.int (L[i]?.getD d).1,.int (L[i]?.getD d).2]++(L.drop (i+1)).flatMap fun e=>[AV.int e.1,AV.int e.2]:=by
 have e1:((L.take i).flatMap fun e=>[AV.int e.1,AV.int e.2]).length=i*2:=by rw [zlj,List.length_take,Nat.min_eq_left (by omega)]
 have e2:L.drop i=L[i]?.getD d::L.drop (i+1):=by rw [List.drop_eq_getElem_cons h]; simp [h]
 have e3:(L.flatMap fun e=>[AV.int e.1,AV.int e.2])=(L.take i).flatMap (fun e=>[AV.int e.1,AV.int e.2])++(L.drop i).flatMap fun e=>[AV.int e.1,AV.int e.2]:=by rw [<- List.flatMap_append,List.take_append_drop]
 rw [e3,List.drop_append_of_le_length (by omega),e2,List.flatMap_cons,List.drop_eq_nil_of_le (by omega),List.nil_append]
theorem zlb (B:List (Int × Int)):(btA B).length=B.length*2:=by
 induction B with
 | nil=>rfl
 | cons e B ih=>simp only [btA,List.flatMap_cons,List.length_append,List.length_cons,List.length_nil] at *; omega
theorem znx {t:List Int} {m:Nat} (h:cuB t m=true) :
  (∀ i,i<t.length -> -1<=(parL t)[i]?.getD 0/\(parL t)[i]?.getD 0<i) /\
  (∀ i,i<t.length+1->((cuN t m i).near.length=t.length/\∀ r∈(cuN t m i).near,r.length<=10)/\(cuN t m i).top.length=t.length/\(cuN t m i).tops.length<=i/\(cuN t m i).btw.length<=i) /\
  (∀ i∈(cuN t m t.length).tops,tfOk 7 (cuN t m t.length).near i (-1)=true/\(tfF 7 (cuN t m t.length).near i (-1)).length<=100) /\
  (∀ e∈(cuN t m t.length).btw,(0<=e.1/\e.1<(cuN t m t.length).tops.length)/\(0<=e.2/\e.2<(cuN t m t.length).tops.length)/\e.1≠e.2) /\
  (∀ j,j<(cuN t m t.length).btw.length+1->(jnN (cuN t m t.length).btw (cuN t m t.length).tops.length j).length=(cuN t m t.length).tops.length/\∀ r∈jnN (cuN t m t.length).btw (cuN t m t.length).tops.length j,r.length<=10) /\
  tfOk 7 (jnN (cuN t m t.length).btw (cuN t m t.length).tops.length (cuN t m t.length).btw.length) 0 (-1)=true:=by
 unfold cuB rwB at h
 simp only [Bool.and_eq_true,List.all_eq_true,decide_eq_true_eq,List.mem_range] at h
 exact ⟨h.1,h.2.1,h.2.2.1,h.2.2.2.1,h.2.2.2.2.1,h.2.2.2.2.2⟩
theorem Off.tr {W:List Nat} {S0 S1 S2:St} (h:Off W S0 S1) (h2:Off W S1 S2):Off W S0 S2:=fun i hi=>(h2 i hi).trans (h i hi)
theorem Con.nxL {P:Program} {f:FuncId} {args args':List AV} {r:AV} (hw:NXL args args') (h:Con P f args' r):Con P f args r :=
 ⟨h.1,fun w vs hl ha=>h.2 w vs (by rw [hw.len]; exact hl) fun tm oss=>hw.repT (ha tm oss)⟩
theorem zqX:∀ J:List (List Int),NXL (frzL (nrA J)) (mat J)
 | []=>.nil
 | r::J=>by
  have ih:=zqX J
  refine .cons ?_ ih
  unfold nrC
  by_cases h:r=[]
  .rw [if_pos h,h]; exact .nil
  .rw [if_neg h]
   show NX (.sl r.length (frzL (avs r))) _
   rw [zfs]; exact .same _
theorem ze7 (n:Nat) (J:List (List Int)) (r f:Int) (h:tfOk n J r f=true):Con Tryz.prog 291 [.sl J.length (frzL (nrA J)),.int r,.int f] (.own 2 (tfF n J r f).length (avs (tfF n J r f))) :=
 Con.nxL (.cons (.sl _ (zqX J)) (.cons (.same _) (.cons (.same _) .nil))) (zfe n J r f h)
theorem zoR {B:List (Int × Int)} {k:Nat} (h:k<B.length):(btA B).drop (k*2)=[.int (B[k]?.getD (0,0)).1,.int (B[k]?.getD (0,0)).2]++btA (B.drop (k+1)):=zi9 (0,0) h
theorem DrawVC6.facts {P:Program} {cf:Cfg} {N:Nat × List Nat} {ops:Array Oper} {K:St->Prop} {S:St} (W:List Nat) (Fs:List (Nat × AV)) (F:St->Prop) (hS:∀ x∈Fs,S x.1=x.2)
  (h:∀ S0:St,(∀ x∈Fs,S0 x.1=x.2)->DrawVC6 P cf N ops (fun S'=>Off W S0 S'/\F S') S0) (hK:∀ S',Off W S S'->F S'->K S'):DrawVC6 P cf N ops K S :=
 DrawVC6.mono (h S hS) fun S' h=>hK S' h.1 h.2
theorem zfb (t:List Int) (m:Nat):∀ i,i<=t.length->(∀ k,k<i -> -1<=(parL t)[k]?.getD 0/\(parL t)[k]?.getD 0<k)->∀ j,i<=j->(cuN t m i).near[j]?.getD []=[]
 | 0,_,_,j,_=>by
  show (List.replicate t.length ([]:List Int))[j]?.getD []=[]
  by_cases h:j<t.length
  .rw [List.getElem?_replicate_of_lt h]; rfl
  .rw [List.getElem?_eq_none (by simp; omega)]; rfl
 | i+1,hi,hp,j,hj=>by
  have ih:=zfb t m i (by omega) (fun k hk=>hp k (by omega)) j (by omega)
  have hpi:=hp i (by omega)
  rw [zix]
  unfold zh1
  split
  .exact ih
  .rename_i hn
   have h0:¬ (parL t)[i]?.getD 0<0:=fun x=>hn (.inl x)
   show (zf0 _ _ _)[j]?.getD []=[]
   unfold zf0
   rw [List.getElem?_set_ne (by omega),List.getElem?_set_ne (by omega)]
   exact ih
theorem zoJ (t:List Int) (m:Nat) (hm:m<1000) (h:cuB t m=true) (hl:t.length<=7) (hb:∀ x∈t,0<=x/\x<=1000) (ht:0<t.length) :
  Con Tryz.prog 244 [.sl t.length (avs t),.int m] (.tup [.own 25 (cuR t m).1.length (omat (cuR t m).1),.own 2 (cuR t m).2.1.length (avs (cuR t m).2.1)]):=by
 obtain ⟨s1,s2,s3,s4,s5,s6⟩:=znx h
 have s0:∀ i,i<t.length->(cuN t m i).near[i]?.getD []=[]:=fun i hi=>zfb t m i (by omega) (fun k hk=>s1 k (by omega)) i (Nat.le_refl _)
 have cP:=zhs t (by omega) hb
 have pl:=zdK t
 have z0:(cuN t m 0)=⟨List.replicate t.length [],List.replicate t.length 0,[],[]⟩:=rfl
 have zs:=zix t m
 have r1:nrA (cuN t m 0).near=List.replicate t.length (.val (.slice none 0 0)):=by rw [z0]; simp [nrA,nrC]
 have r2:avs (cuN t m 0).top=List.replicate t.length (.int 0):=by rw [z0]; simp [avs]
 have r3:(cuN t m 0).tops=[]:=rfl
 have r4:(cuN t m 0).btw=[]:=rfl
 generalize parL t=P at *
 generalize hS:cuN t m=S at *
 refine zab Tryz.mixed ⟨19,[],[],[3000800000000,3002400000000,3002500000000]⟩ Tryz.func244 ?_
 rw [Tryz.ntmps244]
 simp [go_sem]
 refine CallVC.of (cP) ?_
 simp [go_sem]
 refine ⟨by kernel_rfl,⟨by omega,by omega⟩,⟨by omega,by omega⟩,?_⟩
 refine ⟨by kernel_rfl,?_⟩
 simp [go_sem]
 refine zac (List.range' 7 6++List.range' 31 66) (fun i:Nat=>[(7,.own 149 t.length (nrA (S i).near)),(8,.own 3 t.length (avs (S i).top)),(9,.own 3 (S i).tops.length (avs (S i).tops)),(10,.own 238 (S i).btw.length (btA (S i).btw)),(31,.int i)]) (fun i=>i<=t.length) (fun i=>t.length-i) 0 (by simp) (by simp [go_sem,r1,r2,r3,r4,btA]) (by simp [go_sem]) ?_
 intro i hi
 by_cases hil:i<t.length
 .have hii:(i:Int)<t.length:=by omega
  obtain ⟨⟨n1,n2⟩,n3,n4,n5⟩:=s2 i (by omega)
  have s0:=s0 i hil
  obtain ⟨p1,p2⟩:=s1 i hil
  have z1:=zs i
  have dp:=zao (a:=P) (v:=i) (by omega)
  have eI:iat P i=P[i]?.getD 0:=rfl
  rw [eI] at dp
  unfold zh1 at z1
  have gp:(avs P)[i]?=some (.int (P[i]?.getD 0)):=by
   have:=List.getElem?_drop (xs:=avs P) (i:=i) (j:=0)
   rw [dp] at this
   simpa using this.symm
  have bl:=zeB (m:=m) (i:=i) (by omega) (by omega)
  have eB:bitB m i=true ↔ m / 2 ^ i%2=1:=by
   unfold bitB
   exact ⟨fun h=>Nat.eq_of_beq_eq_true h,fun h=>by rw [h]; rfl⟩
  generalize P[i]?.getD 0=p at *
  generalize S i=Z at *
  obtain ⟨N,T,O,B⟩:=Z
  simp only at n1 n2 n3 n4 n5 z1 s0
  by_cases hp:p<0
  .rw [if_pos (.inl hp),if_neg (by omega)] at z1
   have hp0:¬ 0<=p:=by omega
   simp [go_sem,hii,gp,hp,hp0]
   refine ⟨by omega,⟨by omega,by omega⟩,⟨by omega,by omega⟩,i+1,by omega,by omega,zaa _ _ _ (by simp),?_⟩
   rw [z1]
   exact ⟨rfl,zaM _ _ _,⟨by simp,by rw [zaE]⟩,⟨rfl,rfl⟩,by omega⟩
  .obtain ⟨q,rfl⟩:∃ q:Nat,p=q:=⟨p.toNat,by omega⟩
   have hp0:(0:Int)<=q:=by omega
   rw [Int.toNat_natCast] at z1
   by_cases hb:bitB m i=true
   .rw [if_pos (.inr hb),if_pos hp0] at z1
    rw [eB.1 hb] at bl
    have h8:(avs T).set i (.val (.int .i64 O.length))=avs (T.set i O.length):=zaM _ _ _
    have lT:(T.set i (O.length:Int)).length=T.length:=by rw [List.length_set]
    have dq:=zao (a:=T.set i (O.length:Int)) (v:=q) (by omega)
    have gq:(avs (T.set i (O.length:Int)))[q]?=some (.int (iat (T.set i (O.length:Int)) q)):=by
     have:=List.getElem?_drop (xs:=avs (T.set i (O.length:Int))) (i:=q) (j:=0)
     rw [dq] at this
     simpa using this.symm
    have di:=zao (a:=T.set i (O.length:Int)) (v:=i) (by omega)
    have gi:(avs (T.set i (O.length:Int)))[i]?=some (.int O.length):=by
     have:=List.getElem?_drop (xs:=avs (T.set i (O.length:Int))) (i:=i) (j:=0)
     rw [di] at this
     have e:iat (T.set i (O.length:Int)) i=O.length:=by
      unfold iat
      rw [List.getElem?_set_self (by omega)]; rfl
     rw [e] at this
     simpa using this.symm
    have eq:iat (T.set i (O.length:Int)) q=(T.set i (O.length:Int))[q]?.getD 0:=rfl
    rw [<- eq] at z1
    generalize iat (T.set i (O.length:Int)) q=v at *
    generalize T.set i (O.length:Int)=T' at *
    simp [go_sem,hii,gp,hp,hp0,bl,h8]
    refine ⟨by omega,⟨by omega,by omega⟩,by kernel_rfl,?_⟩
    have lb:=zlb B
    simp [go_sem,gq,gi]
    refine ⟨by omega,hil,⟨lb,by omega,by omega⟩,?_⟩
    refine ⟨by kernel_rfl,?_⟩
    simp [go_sem]
    refine ⟨⟨by omega,by omega⟩,i+1,by omega,by omega,zaa _ _ _ (by simp),?_⟩
    rw [z1]
    exact ⟨rfl,rfl,⟨by simp,by rw [zaE]⟩,⟨by simp,by simp [btA]⟩,by omega⟩
   .rw [if_neg (by intro x; exact x.elim hp hb)] at z1
    have hq:¬ ((m:Int) / 2 ^ i%2=1):=by
     intro x
     apply hb
     apply eB.2
     have:((m / 2 ^ i%2:Nat):Int)=1:=by rw [<- x]; simp
     omega
    have dq:=zao (a:=T) (v:=q) (by omega)
    have gq:(avs T)[q]?=some (.int (iat T q)):=by
     have:=List.getElem?_drop (xs:=avs T) (i:=q) (j:=0)
     rw [dq] at this
     simpa using this.symm
    have eq:iat T q=T[q]?.getD 0:=rfl
    rw [<- eq] at z1
    have g1:=zeX (J:=N) (k:=q) (by omega)
    have g2:=zeX (J:=N) (k:=i) (by omega)
    have ln:=zfF N
    generalize iat T q=v at *
    have gi0:N[i]?.getD []=[]:=s0
    rw [gi0,show nrC []=.val (.slice none 0 0) from rfl] at g2
    simp [go_sem,hii,gp,hp,hp0,bl,hq,gq]
    have jE:nrA (zf0 N q i)=((nrA N).set q (.own 3 ((N[q]?.getD []).length+1) (avs (N[q]?.getD [])++[.int i]))).set i (.own 3 1 [.int q]):=by
     have e1:=zfH (r:=N[q]?.getD []) (i:Int)
     have e2:=zfH (r:=[]) (q:Int)
     rw [<- e1,show (AV.own 3 1 [.int (q:Int)])=nrC ([]++[(q:Int)]) from e2.symm,zfW,zfW]
     unfold zf0
     rw [gi0]
    refine ⟨by omega,by omega,DrawVC6.facts (List.range' 7 6++List.range' 31 66) [(7,.own 149 t.length (nrA N)),(11,.int i),(12,.int q),(8,.own 3 t.length (avs (T.set i v))),(9,.own 3 O.length (avs O)),(10,.own 238 B.length (btA B)),(31,.int i)]
     (fun S'=>S' 7=.own 149 t.length (nrA (zf0 N q i))/\S' 8=.own 3 t.length (avs (T.set i v))/\S' 9=.own 3 O.length (avs O)/\S' 10=.own 238 B.length (btA B)/\S' 31=.int i) (by simp [go_sem,zaM]) ?_ ?_⟩
    .intro S0 hS0
     have f7:=hS0 (7,.own 149 t.length (nrA N)) (by simp)
     have f11:=hS0 (11,.int i) (by simp)
     have f12:=hS0 (12,.int q) (by simp)
     have f8:=hS0 (8,.own 3 t.length (avs (T.set i v))) (by simp)
     have f9:=hS0 (9,.own 3 O.length (avs O)) (by simp)
     have f10:=hS0 (10,.own 238 B.length (btA B)) (by simp)
     have f31:=hS0 (31,.int i) (by simp)
     simp only at f7 f11 f12 f8 f9 f10 f31
     rw [jE]
     clear hS0 jE z1 s1 s2 s3 s4 s5 s6 zs r1 r2 r3 r4 cP
     by_cases hr:N[q]?.getD []=[]
     .rw [hr]
      rw [hr,show nrC []=.val (.slice none 0 0) from rfl] at g1
      refine ⟨[(0,10),(2,10),(11,10),(13,10),(14,10),(0,17),(2,17),(2,19)],[[0,1,2,3,4,5,6,7,8,9,11,12,13,14,10,15,16,17,18,19,20,21],[0,1,2,3,4,5,6,7,8,9,11,12,13,10,14,15,16,17,18,19,20,21],[0,1,2,3,4,5,6,7,8,9,11,10,12,13,14,15,16,17,18,19,20,21],[0,1,2,3,4,5,6,7,8,9,10,11,12,13,14,15,16,17,18,19,20,21],[0,1,3,4,5,6,7,8,9,11,12,13,14,10,2,15,16,17,18,19,20,21],[0,1,3,4,5,6,7,8,9,11,12,13,14,10,15,16,17,2,18,19,20,21],[0,1,3,4,5,6,7,8,9,11,12,13,14,10,15,16,17,18,19,2,20,21],[0,1,3,4,5,6,7,8,9,11,12,13,10,2,14,15,16,17,18,19,20,21],[0,1,3,4,5,6,7,8,9,11,12,13,10,14,15,16,17,2,18,19,20,21],[0,1,3,4,5,6,7,8,9,11,12,13,10,14,15,16,17,18,19,2,20,21],[0,1,3,4,5,6,7,8,9,11,10,2,12,13,14,15,16,17,18,19,20,21],[0,1,3,4,5,6,7,8,9,11,10,12,13,14,15,16,17,2,18,19,20,21],[0,1,3,4,5,6,7,8,9,11,10,12,13,14,15,16,17,18,19,2,20,21],[0,1,3,4,5,6,7,8,9,10,2,11,12,13,14,15,16,17,18,19,20,21],[0,1,3,4,5,6,7,8,9,10,11,12,13,14,15,16,17,2,18,19,20,21],[0,1,3,4,5,6,7,8,9,10,11,12,13,14,15,16,17,18,19,2,20,21],[1,2,3,4,5,6,7,8,9,11,12,13,14,10,0,15,16,17,18,19,20,21],[1,2,3,4,5,6,7,8,9,11,12,13,14,10,15,16,17,0,18,19,20,21],[1,2,3,4,5,6,7,8,9,11,12,13,10,0,14,15,16,17,18,19,20,21],[1,2,3,4,5,6,7,8,9,11,12,13,10,14,15,16,17,0,18,19,20,21],[1,2,3,4,5,6,7,8,9,11,10,0,12,13,14,15,16,17,18,19,20,21],[1,2,3,4,5,6,7,8,9,11,10,12,13,14,15,16,17,0,18,19,20,21],[1,2,3,4,5,6,7,8,9,10,0,11,12,13,14,15,16,17,18,19,20,21],[1,2,3,4,5,6,7,8,9,10,11,12,13,14,15,16,17,0,18,19,20,21],[1,3,4,5,6,7,8,9,11,12,13,14,10,0,2,15,16,17,18,19,20,21],[1,3,4,5,6,7,8,9,11,12,13,14,10,0,15,16,17,2,18,19,20,21],[1,3,4,5,6,7,8,9,11,12,13,14,10,0,15,16,17,18,19,2,20,21],[1,3,4,5,6,7,8,9,11,12,13,14,10,2,15,16,17,0,18,19,20,21],[1,3,4,5,6,7,8,9,11,12,13,14,10,15,16,17,0,2,18,19,20,21],[1,3,4,5,6,7,8,9,11,12,13,14,10,15,16,17,0,18,19,2,20,21],[1,3,4,5,6,7,8,9,11,12,13,10,0,2,14,15,16,17,18,19,20,21],[1,3,4,5,6,7,8,9,11,12,13,10,0,14,15,16,17,2,18,19,20,21],[1,3,4,5,6,7,8,9,11,12,13,10,0,14,15,16,17,18,19,2,20,21],[1,3,4,5,6,7,8,9,11,12,13,10,2,14,15,16,17,0,18,19,20,21],[1,3,4,5,6,7,8,9,11,12,13,10,14,15,16,17,0,2,18,19,20,21],[1,3,4,5,6,7,8,9,11,12,13,10,14,15,16,17,0,18,19,2,20,21],[1,3,4,5,6,7,8,9,11,10,0,2,12,13,14,15,16,17,18,19,20,21],[1,3,4,5,6,7,8,9,11,10,0,12,13,14,15,16,17,2,18,19,20,21],[1,3,4,5,6,7,8,9,11,10,0,12,13,14,15,16,17,18,19,2,20,21],[1,3,4,5,6,7,8,9,11,10,2,12,13,14,15,16,17,0,18,19,20,21],[1,3,4,5,6,7,8,9,11,10,12,13,14,15,16,17,0,2,18,19,20,21],[1,3,4,5,6,7,8,9,11,10,12,13,14,15,16,17,0,18,19,2,20,21],[1,3,4,5,6,7,8,9,10,0,2,11,12,13,14,15,16,17,18,19,20,21],[1,3,4,5,6,7,8,9,10,0,11,12,13,14,15,16,17,2,18,19,20,21],[1,3,4,5,6,7,8,9,10,0,11,12,13,14,15,16,17,18,19,2,20,21],[1,3,4,5,6,7,8,9,10,2,11,12,13,14,15,16,17,0,18,19,20,21],[1,3,4,5,6,7,8,9,10,11,12,13,14,15,16,17,0,2,18,19,20,21],[1,3,4,5,6,7,8,9,10,11,12,13,14,15,16,17,0,18,19,2,20,21]],fun _=>[],by kernel_rfl,?_⟩
      simp only [AllY,and_true]
      refine ⟨?_,?_,?_,?_,?_,?_,?_,?_,?_,?_,?_,?_,?_,?_,?_,?_,?_,?_,?_,?_,?_,?_,?_,?_,?_,?_,?_,?_,?_,?_,?_,?_,?_,?_,?_,?_,?_,?_,?_,?_,?_,?_,?_,?_,?_,?_,?_,?_⟩
      all_goals
       simp [go_sem,f7,f11,f12,f8,f9,f10,f31,g1,g2]
       exact ⟨by omega,by omega,by omega,by omega,by omega,by omega,by kernel_rfl,fun _ _=>rfl⟩
     .rw [nrC,if_neg hr] at g1
      have rl:=n2 _ (memD [] (show q<N.length by omega))
      generalize N[q]?.getD []=r at *
      have hne:¬ q=i:=by omega
      have c1:q<t.length:=by omega
      have c2:i<t.length:=by omega
      have c3:(r.length+1)*8<=140737488355328:=by omega
      have c4:r.length<=9223372036854775806:=by omega
      have c5:q<(nrA N).length/\i<(nrA N).length:=⟨by omega,by omega⟩
      have gs:((nrA N).set q AV.any)[i]?=some (.val (.slice none 0 0)):=by rw [List.getElem?_set_ne hne]; exact g2
      refine ⟨[(0,10),(2,10),(11,10),(13,10),(14,10),(0,17),(2,17),(2,19)],[[0,1,2,3,4,5,6,7,8,9,11,12,13,14,10,15,16,17,18,19,20,21],[0,1,2,3,4,5,6,7,8,9,11,12,13,10,14,15,16,17,18,19,20,21],[0,1,2,3,4,5,6,7,8,9,11,10,12,13,14,15,16,17,18,19,20,21],[0,1,2,3,4,5,6,7,8,9,10,11,12,13,14,15,16,17,18,19,20,21],[0,1,3,4,5,6,7,8,9,11,12,13,14,10,2,15,16,17,18,19,20,21],[0,1,3,4,5,6,7,8,9,11,12,13,14,10,15,16,17,2,18,19,20,21],[0,1,3,4,5,6,7,8,9,11,12,13,14,10,15,16,17,18,19,2,20,21],[0,1,3,4,5,6,7,8,9,11,12,13,10,2,14,15,16,17,18,19,20,21],[0,1,3,4,5,6,7,8,9,11,12,13,10,14,15,16,17,2,18,19,20,21],[0,1,3,4,5,6,7,8,9,11,12,13,10,14,15,16,17,18,19,2,20,21],[0,1,3,4,5,6,7,8,9,11,10,2,12,13,14,15,16,17,18,19,20,21],[0,1,3,4,5,6,7,8,9,11,10,12,13,14,15,16,17,2,18,19,20,21],[0,1,3,4,5,6,7,8,9,11,10,12,13,14,15,16,17,18,19,2,20,21],[0,1,3,4,5,6,7,8,9,10,2,11,12,13,14,15,16,17,18,19,20,21],[0,1,3,4,5,6,7,8,9,10,11,12,13,14,15,16,17,2,18,19,20,21],[0,1,3,4,5,6,7,8,9,10,11,12,13,14,15,16,17,18,19,2,20,21],[1,2,3,4,5,6,7,8,9,11,12,13,14,10,0,15,16,17,18,19,20,21],[1,2,3,4,5,6,7,8,9,11,12,13,14,10,15,16,17,0,18,19,20,21],[1,2,3,4,5,6,7,8,9,11,12,13,10,0,14,15,16,17,18,19,20,21],[1,2,3,4,5,6,7,8,9,11,12,13,10,14,15,16,17,0,18,19,20,21],[1,2,3,4,5,6,7,8,9,11,10,0,12,13,14,15,16,17,18,19,20,21],[1,2,3,4,5,6,7,8,9,11,10,12,13,14,15,16,17,0,18,19,20,21],[1,2,3,4,5,6,7,8,9,10,0,11,12,13,14,15,16,17,18,19,20,21],[1,2,3,4,5,6,7,8,9,10,11,12,13,14,15,16,17,0,18,19,20,21],[1,3,4,5,6,7,8,9,11,12,13,14,10,0,2,15,16,17,18,19,20,21],[1,3,4,5,6,7,8,9,11,12,13,14,10,0,15,16,17,2,18,19,20,21],[1,3,4,5,6,7,8,9,11,12,13,14,10,0,15,16,17,18,19,2,20,21],[1,3,4,5,6,7,8,9,11,12,13,14,10,2,15,16,17,0,18,19,20,21],[1,3,4,5,6,7,8,9,11,12,13,14,10,15,16,17,0,2,18,19,20,21],[1,3,4,5,6,7,8,9,11,12,13,14,10,15,16,17,0,18,19,2,20,21],[1,3,4,5,6,7,8,9,11,12,13,10,0,2,14,15,16,17,18,19,20,21],[1,3,4,5,6,7,8,9,11,12,13,10,0,14,15,16,17,2,18,19,20,21],[1,3,4,5,6,7,8,9,11,12,13,10,0,14,15,16,17,18,19,2,20,21],[1,3,4,5,6,7,8,9,11,12,13,10,2,14,15,16,17,0,18,19,20,21],[1,3,4,5,6,7,8,9,11,12,13,10,14,15,16,17,0,2,18,19,20,21],[1,3,4,5,6,7,8,9,11,12,13,10,14,15,16,17,0,18,19,2,20,21],[1,3,4,5,6,7,8,9,11,10,0,2,12,13,14,15,16,17,18,19,20,21],[1,3,4,5,6,7,8,9,11,10,0,12,13,14,15,16,17,2,18,19,20,21],[1,3,4,5,6,7,8,9,11,10,0,12,13,14,15,16,17,18,19,2,20,21],[1,3,4,5,6,7,8,9,11,10,2,12,13,14,15,16,17,0,18,19,20,21],[1,3,4,5,6,7,8,9,11,10,12,13,14,15,16,17,0,2,18,19,20,21],[1,3,4,5,6,7,8,9,11,10,12,13,14,15,16,17,0,18,19,2,20,21],[1,3,4,5,6,7,8,9,10,0,2,11,12,13,14,15,16,17,18,19,20,21],[1,3,4,5,6,7,8,9,10,0,11,12,13,14,15,16,17,2,18,19,20,21],[1,3,4,5,6,7,8,9,10,0,11,12,13,14,15,16,17,18,19,2,20,21],[1,3,4,5,6,7,8,9,10,2,11,12,13,14,15,16,17,0,18,19,20,21],[1,3,4,5,6,7,8,9,10,11,12,13,14,15,16,17,0,2,18,19,20,21],[1,3,4,5,6,7,8,9,10,11,12,13,14,15,16,17,0,18,19,2,20,21]],fun _=>[],by kernel_rfl,?_⟩
      simp only [AllY,and_true]
      refine ⟨?_,?_,?_,?_,?_,?_,?_,?_,?_,?_,?_,?_,?_,?_,?_,?_,?_,?_,?_,?_,?_,?_,?_,?_,?_,?_,?_,?_,?_,?_,?_,?_,?_,?_,?_,?_,?_,?_,?_,?_,?_,?_,?_,?_,?_,?_,?_,?_⟩
      all_goals
       simp [go_sem,f7,f11,f12,f8,f9,f10,f31,g1,g2,gs,c1,c2,c3,c4]
       exact ⟨by omega,by omega,by kernel_rfl,fun _ _=>rfl⟩
    .rintro S' hO ⟨h7,h8,h9,h10,h31⟩
     simp [go_sem,h31,h7,h8,h9,h10]
     refine ⟨⟨by omega,by omega⟩,i+1,by omega,by omega,Off.tr (by simp [go_sem]; exact zaa _ _ _ (by simp)) hO,?_⟩
     rw [z1]
     exact ⟨rfl,rfl,⟨rfl,rfl⟩,⟨rfl,rfl⟩,by omega⟩
 .have e:i=t.length:=by omega
  subst e
  have hii:¬ (t.length:Int)<t.length:=by omega
  have s3:=s3
  have s4:=s4
  generalize hZ:S t.length=Z at *
  obtain ⟨N,T,O,B⟩:=Z
  obtain ⟨⟨n1,n2⟩,n3,n4,n5⟩:=s2 t.length (by omega)
  rw [hZ] at n1 n2 n3 n4 n5
  simp only at s3 s4 s5 s6 n1 n2 n3 n4 n5
  have cT:=fun x hx=>ze7 7 N x (-1) (s3 x hx).1
  have tL:=fun x hx=>(s3 x hx).2
  rw [n1] at cT
  have eC:cuR t m=(srtT (O.map fun x=>tfF 7 N x (-1)),tfF 7 (jnN B O.length B.length) 0 (-1),1):=by
   unfold cuR
   rw [show cuN t m t.length=⟨N,T,O,B⟩ by rw [hS,hZ]]
  rw [eC]
  obtain ⟨TF,hTF⟩:∃ F:Int->List Int,F=fun x=>tfF 7 N x (-1):=⟨_,rfl⟩
  have eT:∀ x,tfF 7 N x (-1)=TF x:=fun x=>by rw [hTF]
  rw [<- hTF]
  simp only [eT] at cT tL
  clear hTF eT
  simp [go_sem,hii]
  refine ⟨by kernel_rfl,⟨by omega,by omega⟩,?_⟩
  refine ⟨by kernel_rfl,?_⟩
  simp [go_sem]
  refine zac (13::16::List.range' 103 11) (fun k:Nat=>[(13,.own 25 k (omat ((O.map TF).take k))),(103,.int k)]) (fun k=>k<=O.length) (fun k=>O.length-k) 0 (by simp) (by simp [go_sem,omat]) (by simp [go_sem]) ?_
  intro k hk
  by_cases hkl:k<O.length
  .have hki:(k:Int)<O.length:=by omega
   have dk:=zao (a:=O) (v:=k) hkl
   have gk:(avs O)[k]?=some (.int (iat O k)):=by
    have:=List.getElem?_drop (xs:=avs O) (i:=k) (j:=0)
    rw [dk] at this
    simpa using this.symm
   have cx:=cT (iat O k) (memD 0 hkl)
   have t1:(O.map TF).take (k+1)=(O.map TF).take k++[TF (iat O k)]:=by
    rw [List.take_succ_eq_append_getElem (by rw [List.length_map]; exact hkl),List.getElem_map]
    unfold iat
    rw [List.getElem?_eq_getElem hkl]; rfl
   have l1:=tL (iat O k) (memD 0 hkl)
   generalize iat O k=x at *
   simp [go_sem,hki,gk]
   refine CallVC.of (cx) ?_
   simp [go_sem]
   generalize TF x=y at *
   refine ⟨⟨by omega,by omega,by omega⟩,⟨by omega,by omega⟩,k+1,by omega,by omega,zaa _ _ _ (by simp),?_⟩
   rw [t1,zbA]
   exact ⟨⟨rfl,rfl⟩,by omega⟩
  .have e:k=O.length:=by omega
   subst e
   have hki:¬ (O.length:Int)<O.length:=by omega
   rw [List.take_of_length_le (by rw [List.length_map]; exact Nat.le_refl _)]
   have cF:=zdd (O.map TF) (fun m hm=>by
    obtain ⟨x,hx,rfl⟩:=List.mem_map.1 hm
    have:=tL x hx; omega) (by rw [List.length_map]; omega)
   have cJ:=ze7 7 (jnN B O.length B.length) 0 (-1) s6
   have j0:nrA (jnN B O.length 0)=List.replicate O.length (.val (.slice none 0 0)):=by simp [jnN,nrA,nrC]
   have js:∀ j,(h:j<B.length)->jnN B O.length (j+1)=zf0 (jnN B O.length j) (B[j]?.getD (0,0)).1.toNat (B[j]?.getD (0,0)).2.toNat:=fun j h=>by
    unfold jnN
    rw [List.take_succ_eq_append_getElem h,List.foldl_append,List.getElem?_eq_getElem h]; rfl
   rw [List.length_map] at cF
   rw [(s5 B.length (by omega)).1] at cJ
   have lo:=(zbe (O.map TF)).length_eq
   rw [List.length_map] at lo
   try rw [lo]
   generalize O.map TF=OF at *
   generalize jnN B O.length=JN at *
   clear cT tL s6 eC zs s2 hS hZ
   simp [go_sem,hki]
   refine zac (14::18::List.range' 116 31) (fun j:Nat=>[(14,.own 149 O.length (nrA (JN j))),(116,.int j)]) (fun j=>j<=B.length) (fun j=>B.length-j) 0 (by simp) (by simp [go_sem,j0]) (by simp [go_sem]) ?_
   intro j hj
   by_cases hjl:j<B.length
   .have hji:(j:Int)<B.length:=by omega
    have dB:=zoR hjl
    obtain ⟨q1,q2⟩:=s5 j (by omega)
    obtain ⟨u1,u2,u3⟩:=s4 _ (memD (0,0) hjl)
    have sj:=js j hjl
    generalize B[j]?.getD (0,0)=e at *
    obtain ⟨e1,e2⟩:=e
    simp only at u1 u2 u3 sj dB
    obtain ⟨x,rfl⟩:∃ x:Nat,e1=x:=⟨e1.toNat,by omega⟩
    obtain ⟨y,rfl⟩:∃ y:Nat,e2=y:=⟨e2.toNat,by omega⟩
    rw [Int.toNat_natCast,Int.toNat_natCast] at sj
    generalize JN j=J at *
    have g1:=zeX (J:=J) (k:=x) (by omega)
    have g2:=zeX (J:=J) (k:=y) (by omega)
    have lB:=zlb B
    have lJ:=zfF J
    have nB:¬ btA B=[]:=by intro e; rw [e] at lB; simp at lB; omega
    simp [go_sem,hji,dB]
    refine ⟨⟨nB,by omega⟩,?_⟩
    refine DrawVC6.facts (14::18::List.range' 116 31) [(14,.own 149 O.length (nrA J)),(18,.box 238 [.int x,.int y]),(116,.int j)] (fun S'=>S' 14=.own 149 O.length (nrA (J.set x (J[x]?.getD []++[(y:Int)])))/\S' 18=.box 238 [.int x,.int y]/\S' 116=.int j) (by simp [go_sem]) ?_ ?_
    .intro S0 hS0
     have f14:=hS0 (14,.own 149 O.length (nrA J)) (by simp)
     have f18:=hS0 (18,.box 238 [.int x,.int y]) (by simp)
     have f116:=hS0 (116,.int j) (by simp)
     simp only at f14 f18 f116
     have jE:nrA (J.set x (J[x]?.getD []++[(y:Int)]))=(nrA J).set x (.own 3 ((J[x]?.getD []).length+1) (avs (J[x]?.getD [])++[.int y])):=by
      rw [<- zfH,zfW]
     have g1:=zeX (J:=J) (k:=x) (by omega)
     have lJ:=zfF J
     have d1:x<O.length:=by omega
     have d2:x<(nrA J).length:=by omega
     have rl:=q2 _ (memD [] (show x<J.length by omega))
     rw [jE]
     clear hS0 jE
     by_cases hr:J[x]?.getD []=[]
     .rw [hr,show nrC []=.val (.slice none 0 0) from rfl] at g1
      rw [hr]
      refine ⟨[(0,11)],[[0,1,2,3,4,5,6,7,8,9,10,11,12,13],[1,2,3,4,5,6,7,8,9,10,11,0,12,13]],fun _=>[],by kernel_rfl,?_⟩
      simp only [AllY,and_true]
      refine ⟨?_,?_⟩
      all_goals
       simp [go_sem,f14,f18,f116,g1,d1]
       exact ⟨by omega,by kernel_rfl,fun _ _=>rfl⟩
     .rw [nrC,if_neg hr] at g1
      generalize J[x]?.getD []=r at *
      have d3:(r.length+1)*8<=140737488355328:=by omega
      have d4:r.length<=9223372036854775806:=by omega
      refine ⟨[(0,11)],[[0,1,2,3,4,5,6,7,8,9,10,11,12,13],[1,2,3,4,5,6,7,8,9,10,11,0,12,13]],fun _=>[],by kernel_rfl,?_⟩
      simp only [AllY,and_true]
      refine ⟨?_,?_⟩
      all_goals
       simp [go_sem,f14,f18,f116,g1,d1,d3,d4]
       exact ⟨by omega,by kernel_rfl,fun _ _=>rfl⟩
    rintro S1 hO1 ⟨h14,h18,h116⟩
    have ly:((J.set x (J[x]?.getD []++[(y:Int)]))[y]?.getD [])=J[y]?.getD []:=by rw [List.getElem?_set_ne (by omega)]
    have lset:(J.set x (J[x]?.getD []++[(y:Int)])).length=J.length:=List.length_set
    have sj2:zf0 J x y=(J.set x (J[x]?.getD []++[(y:Int)])).set y ((J.set x (J[x]?.getD []++[(y:Int)]))[y]?.getD []++[(x:Int)]):=by rw [ly]; rfl
    rw [sj2] at sj
    have rly:=q2 _ (memD [] (show y<J.length by omega))
    rw [<- ly] at rly
    generalize J.set x (J[x]?.getD []++[(y:Int)])=J1 at *
    simp [go_sem]
    refine DrawVC6.facts (14::18::List.range' 116 31) [(14,.own 149 O.length (nrA J1)),(18,.box 238 [.int x,.int y]),(116,.int j)] (fun S'=>S' 14=.own 149 O.length (nrA (J1.set y (J1[y]?.getD []++[(x:Int)])))/\S' 18=.box 238 [.int x,.int y]/\S' 116=.int j) (by simp [go_sem,h14,h18,h116]) ?_ ?_
    .intro S0 hS0
     have f14:=hS0 (14,.own 149 O.length (nrA J1)) (by simp)
     have f18:=hS0 (18,.box 238 [.int x,.int y]) (by simp)
     have f116:=hS0 (116,.int j) (by simp)
     simp only at f14 f18 f116
     have jE:nrA (J1.set y (J1[y]?.getD []++[(x:Int)]))=(nrA J1).set y (.own 3 ((J1[y]?.getD []).length+1) (avs (J1[y]?.getD [])++[.int x])):=by
      rw [<- zfH,zfW]
     have g1:=zeX (J:=J1) (k:=y) (by omega)
     have lJ:=zfF J1
     have d1:y<O.length:=by omega
     have d2:y<(nrA J1).length:=by omega
     have rl:=rly
     rw [jE]
     clear hS0 jE
     by_cases hr:J1[y]?.getD []=[]
     .rw [hr,show nrC []=.val (.slice none 0 0) from rfl] at g1
      rw [hr]
      refine ⟨[(0,11)],[[0,1,2,3,4,5,6,7,8,9,10,11,12,13],[1,2,3,4,5,6,7,8,9,10,11,0,12,13]],fun _=>[],by kernel_rfl,?_⟩
      simp only [AllY,and_true]
      refine ⟨?_,?_⟩
      all_goals
       simp [go_sem,f14,f18,f116,g1,d1]
       exact ⟨by omega,by kernel_rfl,fun _ _=>rfl⟩
     .rw [nrC,if_neg hr] at g1
      generalize J1[y]?.getD []=r at *
      have d3:(r.length+1)*8<=140737488355328:=by omega
      have d4:r.length<=9223372036854775806:=by omega
      refine ⟨[(0,11)],[[0,1,2,3,4,5,6,7,8,9,10,11,12,13],[1,2,3,4,5,6,7,8,9,10,11,0,12,13]],fun _=>[],by kernel_rfl,?_⟩
      simp only [AllY,and_true]
      refine ⟨?_,?_⟩
      all_goals
       simp [go_sem,f14,f18,f116,g1,d1,d3,d4]
       exact ⟨by omega,by kernel_rfl,fun _ _=>rfl⟩
    rintro S2 hO2 ⟨k14,k18,k116⟩
    simp [go_sem,k116,k14]
    refine ⟨⟨by omega,by omega⟩,j+1,by omega,by omega,Off.tr (Off.tr (by simp [go_sem]; exact zaa _ _ _ (by simp)) hO1) hO2,?_⟩
    rw [sj]
    exact ⟨rfl,by omega⟩
   .have e:j=B.length:=by omega
    subst e
    have hji:¬ (B.length:Int)<B.length:=by omega
    simp [go_sem,hji]
    refine CallVC.of (cF) ?_
    simp [go_sem]
    refine CallVC.of (cJ) ?_
    simp [go_sem]
end Go.Proofs.YthhdollpkieknaaGreat


namespace Go.Proofs.YthhdollpkieknaaGreat
open Go.Abs Go.Shelf Go.Sort
def paF (s:Prt):List AV:=[.sl s.1.length (mat s.1),.sl s.2.1.length (avs s.2.1),.int s.2.2]
theorem zl1 (s:Prt):frzL (paF s)=paF s:=by simp [paF,frzL,frz]
theorem zcL (X:List Prt):(X.flatMap paF).length=X.length*3:=by
 induction X with
 | nil=>rfl
 | cons s X ih=>rw [List.flatMap_cons,List.length_append,ih]; simp [paF]; omega
def PaOk (s:Prt):Prop:=(s.1.length<=100/\∀ r∈s.1,r.length<=100)/\s.2.1.length<=100
theorem ziw [DrawK] (s r:Prt) (hs:PaOk s) (hr:PaOk r):Con Tryz.prog 245 [.agg (paF s),.agg (paF r)] (.int (zbu s r)):=by
 obtain ⟨⟨s1,s2⟩,s3⟩:=hs
 obtain ⟨⟨r1,r2⟩,r3⟩:=hr
 have c1:=zaZ s.2.1 r.2.1 (by omega) (by omega)
 have c2:=zc0 s.1 r.1 (by omega) (by omega) (fun x hx=>by have:=s2 x hx; omega) (fun x hx=>by have:=r2 x hx; omega)
 unfold zbu paF
 generalize zaO s.1 r.1=w at *
 generalize cmpT s.2.1 r.2.1=v at *
 by_cases v0:v=0
 .rw [if_pos v0]
  refine zab Tryz.mixed ⟨6,[],[],[]⟩ Tryz.func245 ?_
  rw [Tryz.ntmps245]
  simp [go_sem]
  refine CallVC.of (c1) ?_
  simp [go_sem]
  simp [go_sem,v0]
  refine CallVC.of (c2) ?_
  simp [go_sem]
 .rw [if_neg v0]
  refine zab Tryz.mixed ⟨6,[],[],[]⟩ Tryz.func245 ?_
  rw [Tryz.ntmps245]
  simp [go_sem]
  refine CallVC.of (c1) ?_
  simp [go_sem]
  simp [go_sem,v0]
theorem zkN (X:List Prt) (h1:∀ s∈X,s.2.2=1) (hok:∀ s∈X,PaOk s) (hn:X.length<=1048576) :
  GCon Tryz.prog 247 [.own 172 X.length (X.flatMap paF),.val (.func (.func 245) #[] #[])] (.tup []) [.own 172 X.length ((zdD X).flatMap paF),.any]:=by
 obtain ⟨ys,p1,p2,p3⟩:=zgq Tryz.sortParts 3 Tryz.isAgg172 Tryz.sizeOf172 ⟨_,Tryz.func247,by decide,rfl⟩ paF zbu zqI 245 172 (by kernel_rfl) X (fun _ _=>rfl)
  (fun x hx y hy=>by rw [zl1,zl1]; exact @ziw ⟨1⟩ x y (hok x hx) (hok y hy)) (by omega)
 have e:ys=zdD X:=zgN p1 h1 p2
 subst e
 exact p3
theorem zq5 (x1 x2 x3 y3:AV):∀ P:List AV,(P++[x1,x2,x3]).set (P.length+2) y3=P++[x1,x2,y3]
 | []=>rfl
 | p::P=>by
  have:=zq5 x1 x2 x3 y3 P
  show p::(P++[x1,x2,x3]).set (P.length+2) y3=p::(P++[x1,x2,y3])
  rw [this]
theorem zjd (O:List Prt) (l s:Prt):zcB (O++[l]) s=if zbu l s=0 then O++[(l.1,l.2.1,l.2.2+1)] else O++[l]++[s]:=by
 have e:∀ O:List Prt,(O++[l]).set O.length (l.1,l.2.1,l.2.2+1)=O++[(l.1,l.2.1,l.2.2+1)]:=fun O=>by
  induction O with
  | nil=>rfl
  | cons o O ih=>rw [List.cons_append,List.length_cons,List.set_cons_succ,ih]; rfl
 unfold zcB
 rw [List.getLast?_concat]
 simp only [List.length_append,List.length_singleton,Nat.add_sub_cancel,e]
theorem zko:∀ n,n<=6->shlI .i64 1 ((n:Nat):Int)=((2 ^ n:Nat):Int):=by decide
theorem zmf (t:List Int):(prtL t).length=2 ^ (t.length-1):=by simp [prtL]
theorem zpW {t:List Int} {k:Nat} (h:k<2 ^ (t.length-1)):(prtL t)[k]?.getD ([],[],0)=cuR t (2*k):=by simp [prtL,h]
theorem zeR {t:List Int} (h:t∈trN 6):GCon Tryz.prog 187 [.sl t.length (avs t)] (.own 172 (parP t).length ((parP t).flatMap paF)) [.any]:=by
 obtain ⟨tL,t6,_⟩:=zkF h
 have t0:0<t.length:=tL.1
 have hcu:=fun k (hk:k<2 ^ (t.length-1))=>List.all_eq_true.1 (List.all_eq_true.1 zo8 t h) k (List.mem_range.2 hk)
 have hpr:=List.all_eq_true.1 zpO t h
 simp only [Bool.and_eq_true,List.all_eq_true,decide_eq_true_eq] at hpr
 obtain ⟨hp1,hp2⟩:=hpr
 have bt:∀ x∈t,0<=x/\x<=1000:=fun x hx=>by
  have ok:(trN 6).all (fun t=>t.all fun x=>decide (0<=x) && decide (x<=1000))=true:=by decide +kernel
  have:=List.all_eq_true.1 (List.all_eq_true.1 ok t h) x hx
  simpa using this
 have pw6:2 ^ (t.length-1)<=32/\2 ^ t.length=2*2 ^ (t.length-1):=by
  refine ⟨Nat.pow_le_pow_right (by omega) (show t.length-1<=5 by omega),?_⟩
  rw [<- Nat.pow_succ',Nat.succ_eq_add_one,Nat.sub_add_cancel t0]
 have hcut:=fun k (hk:k<2 ^ (t.length-1))=>zoJ t (2*k) (by omega) (hcu k hk) (by omega) bt t0
 have ok1:∀ s∈prtL t,s.2.2=1/\PaOk s:=fun s hs=>by
  obtain ⟨k,_,rfl⟩:=List.mem_map.1 hs
  have:=hp1 _ hs
  exact ⟨rfl,⟨by omega,fun r hr=>by have:=this.1.2 r hr; omega⟩,by omega⟩
 have so0:∀ s∈zdD (prtL t),s.2.2=1/\PaOk s:=fun s hs=>ok1 s ((zbF _).mem_iff.1 hs)
 have pl:=zmf t
 have cS:=zkN (prtL t) (fun s hs=>(ok1 s hs).1) (fun s hs=>(ok1 s hs).2) (by omega)
 have sl0:=zkA (prtL t)
 have shl:=zko t.length t6
 have tk:∀ k,k<2 ^ (t.length-1)->(prtL t).take (k+1)=(prtL t).take k++[cuR t (2*k)]:=fun k hk=>by
  rw [List.take_succ_eq_append_getElem (by omega),<- zpW hk,List.getElem?_eq_getElem (by omega)]; rfl
 have hT:parP t=zbE (zdD (prtL t)):=rfl
 rw [hT]
 rw [pw6.2] at shl
 rw [pl] at cS sl0
 have ta:(prtL t).take (2 ^ (t.length-1))=prtL t:=List.take_of_length_le (by omega)
 generalize prtL t=PL at *
 generalize 2 ^ (t.length-1)=M at *
 have paL:=fun k=>zcL (PL.take k)
 refine zai Tryz.mixed ⟨12,[27,28],[1000000+247],[]⟩ [] Tryz.func187 ?_
 rw [Tryz.ntmps187]
 simp [go_sem]
 refine zac (List.range' 3 4++List.range' 13 19) (fun k:Nat=>[(3,.own 172 k ((PL.take k).flatMap paF)),(4,.int (2*(k:Int)))]) (fun k=>k<=M) (fun k=>M-k) 0 (by simp) (by simp [go_sem]) (by simp [go_sem]) ?_
 intro k hk
 by_cases hkl:k<M
 .have hki:2*(k:Int)<((2*M:Nat):Int):=by omega
  have c1:=hcut k hkl
  have t1:=tk k hkl
  have e2:((2*k:Nat):Int)=2*(k:Int):=by omega
  rw [e2] at c1
  have lk:=paL k
  rw [List.length_take,Nat.min_eq_left (by omega)] at lk
  have hx:paF (cuR t (2*k))=[.sl (cuR t (2*k)).1.length (mat (cuR t (2*k)).1),.sl (cuR t (2*k)).2.1.length (avs (cuR t (2*k)).2.1),.int 1]:=rfl
  generalize cuR t (2*k)=y at *
  generalize hC:(PL.take k).flatMap paF=C at *
  simp [go_sem,shl,hkl]
  refine CallVC.of (c1) ?_
  simp [go_sem]
  refine ⟨⟨by rw [lk],by omega,by omega⟩,⟨by omega,by omega⟩,k+1,by omega,by omega,zaa _ _ _ (by simp),?_⟩
  rw [t1,List.flatMap_append,hC]
  refine ⟨⟨rfl,?_⟩,by omega⟩
  simp [hx]
 .have e:k=M:=by omega
  subst e
  have hki:¬ 2*(k:Int)<((2*k:Nat):Int):=by omega
  rw [ta]
  simp [go_sem,shl]
  refine ⟨_,_,cS,?_⟩
  simp [go_sem]
  have so:=so0
  have sl:(zdD PL).length=k:=sl0
  generalize zdD PL=S at *
  refine zac (8::10::11::List.range' 38 33) (fun i:Nat=>[(8,.own 172 (zbE (S.take i)).length ((zbE (S.take i)).flatMap paF)),(38,.int i)]) (fun i=>i<=k) (fun i=>k-i) 0 (by simp) (by simp [go_sem,zbE]) (by simp [go_sem]) ?_
  intro i hi
  by_cases hi2:i<k
  .have hii:(i:Int)<k:=by omega
   have hS:i<S.length:=by omega
   have dr:(S.flatMap paF).drop (i*3)=paF (S[i]?.getD ([],[],0))++(S.drop (i+1)).flatMap paF:=by
    have e1:((S.take i).flatMap paF).length=i*3:=by rw [zcL,List.length_take,Nat.min_eq_left (by omega)]
    have e2:S.drop i=S[i]?.getD ([],[],0)::S.drop (i+1):=by rw [List.drop_eq_getElem_cons hS]; simp [hS]
    have e3:S.flatMap paF=(S.take i).flatMap paF++(S.drop i).flatMap paF:=by rw [<- List.flatMap_append,List.take_append_drop]
    rw [e3,List.drop_append_of_le_length (by omega),e2,List.flatMap_cons,List.drop_eq_nil_of_le (by omega),List.nil_append]
   have hs:=so _ (memD ([],[],0) hS)
   generalize hsp:S[i]?.getD ([],[],0)=s at *
   obtain ⟨a,b,k⟩:=s
   obtain ⟨hk,hs⟩:=hs
   simp only at hk
   subst hk
   simp only [paF] at dr
   have ml:(S.flatMap paF).length=k*3:=by rw [zcL,sl]
   have nm:¬ S.flatMap paF=[]:=by intro e; rw [e] at ml; simp at ml; omega
   have gs:zbE (S.take (i+1))=zcB (zbE (S.take i)) (a,b,1):=by
    rw [List.take_succ_eq_append_getElem hS,zfc]
    congr 1
    rw [<- hsp,List.getElem?_eq_getElem hS]; rfl
   have iv:=zkb (S.take i)
   generalize S.flatMap paF=M at *
   rcases (List.eq_nil_or_concat (zbE (S.take i))) with ho | ⟨O,l,ho⟩
   .rw [ho,show zcB [] (a,b,1)=[(a,b,1)] from rfl] at gs
    rw [ho]
    simp [go_sem,hii,dr]
    refine ⟨⟨nm,by omega⟩,by kernel_rfl,?_⟩
    refine ⟨by kernel_rfl,?_⟩
    simp [go_sem]
    refine ⟨⟨by omega,by omega⟩,i+1,by omega,by omega,zaa _ _ _ (by simp),?_⟩
    rw [gs]
    exact ⟨⟨rfl,by simp [paF]⟩,by omega⟩
   .rw [List.concat_eq_append] at ho
    rw [ho] at iv
    rw [ho,zjd] at gs
    rw [ho]
    obtain ⟨i1,i2,i3⟩:=iv
    have kb:=i3 (fun s hs=>(so s (List.mem_of_mem_take hs)).1) l (by simp)
    have hl:PaOk l:=by
     obtain ⟨t,t1,t2⟩:=i2 l (by simp)
     have:=(so t (List.mem_of_mem_take t1)).2
     simp only [zb4,Prod.mk.injEq] at t2
     unfold PaOk
     rw [t2.1,t2.2]; exact this
    have cG:=ziw l (a,b,1) hl hs
    have cl:((O++[l]).flatMap paF).length=(O.length+1)*3:=by rw [zcL]; simp
    have cd:((O++[l]).flatMap paF).drop (O.length*3)=[.sl l.1.length (mat l.1),.sl l.2.1.length (avs l.2.1),.int l.2.2]:=by
     rw [List.flatMap_append,List.drop_append_of_le_length (by rw [zcL]; omega),List.drop_eq_nil_of_le (by rw [zcL]; omega)]
     simp [paF]
    have cs:∀ y,((O++[l]).flatMap paF).set (O.length*3+2) y=O.flatMap paF++[.sl l.1.length (mat l.1),.sl l.2.1.length (avs l.2.1),y]:=fun y=>by
     have e:=zq5 (.sl l.1.length (mat l.1)) (.sl l.2.1.length (avs l.2.1)) (.int l.2.2) y (O.flatMap paF)
     rw [zcL] at e
     rw [<- e,List.flatMap_append]; simp [paF]
    have ol:(O++[l]).length=O.length+1:=by simp
    have i1':O.length+1<=i:=by
     rw [ol,List.length_take] at i1; omega
    rw [List.length_take] at i3
    simp only [paF] at cG
    rw [ol]
    generalize hC:(O++[l]).flatMap paF=C at *
    have cg:C[O.length*3+2]?=some (.val (.int .i64 l.2.2)):=by rw [<- List.getElem?_drop,cd]; rfl
    have nC:¬ C=[]:=by intro e; rw [e] at cl; simp at cl
    have hd:0<O.length+1:=by omega
    generalize hv:zbu l (a,b,1)=v at *
    by_cases hz:v=0
    .rw [if_pos hz] at gs
     subst hz
     simp [go_sem,hii,dr,hd,cd]
     refine ⟨⟨nm,by omega⟩,by kernel_rfl,?_⟩
     refine ⟨by omega,by omega,⟨nC,by omega⟩,?_⟩
     refine CallD.of (cG) ?_
     simp [go_sem]
     refine ⟨by kernel_rfl,?_⟩
     simp [go_sem]
     simp [go_sem,cg]
     have tl:(S.take i).length<=i:=by rw [List.length_take]; omega
     have kk:0<=l.2.2/\l.2.2<=1000:=by omega
     refine ⟨by omega,by omega,nC,⟨by omega,by omega⟩,by omega,nC,by omega,⟨by omega,by omega⟩,i+1,by omega,by omega,zaa _ _ _ (by simp),?_⟩
     rw [gs,cs]
     refine ⟨⟨by simp,?_⟩,by omega⟩
     rw [List.flatMap_append]
     simp [paF]
    .rw [if_neg hz] at gs
     simp [go_sem,hii,dr,hd,cd]
     refine ⟨⟨nm,by omega⟩,by kernel_rfl,?_⟩
     refine ⟨by omega,by omega,⟨nC,by omega⟩,?_⟩
     refine CallD.of (cG) ?_
     simp [go_sem]
     simp [go_sem,hz]
     refine ⟨by kernel_rfl,?_⟩
     simp [go_sem]
     refine ⟨⟨by rw [cl],by omega,by omega⟩,⟨by omega,by omega⟩,i+1,by omega,by omega,zaa _ _ _ (by simp),?_⟩
     rw [gs]
     refine ⟨⟨by simp,?_⟩,by omega⟩
     rw [List.flatMap_append,hC]
     simp [paF]
  .have e:i=S.length:=by omega
   subst e
   have hii:¬ (S.length:Int)<k:=by omega
   rw [List.take_length]
   simp [go_sem,hii]
end Go.Proofs.YthhdollpkieknaaGreat


namespace Go.Proofs.YthhdollpkieknaaGreat
open Go.Abs
def prX (s:Prt) (k:Nat):AV:=if k=0 then .val (.slice none 0 0) else .own 3 k (avs ((pcP s).take k))
def mpX (s:Prt):List AV:=[.int s.2.2,if s.1=[] then .val (.slice none 0 0) else .own 3 s.1.length (avs (pcP s)),.int (skP s)]
def rwP (t:List Int):AV:=.sl (parP t).length (frzL ((parP t).flatMap mpX))
theorem zop {t:List Int} (h:t∈trN 6):(parP t).length<=100/\∀ s∈parP t,s.1.length<=6/\(∀ r∈s.1,r.length<=6)/\s.2.1.length<=6/\0<=s.2.2/\s.2.2<=100:=by
 have ok:(trN 6).all (fun t=>decide ((parP t).length<=100) && (parP t).all fun s=>decide (s.1.length<=6) && (s.1.all (fun r=>decide (r.length<=6)) && (decide (s.2.1.length<=6) && (decide (0<=s.2.2) && decide (s.2.2<=100)))))=true:=by decide +kernel
 have k:=List.all_eq_true.1 ok t h
 simp only [Bool.and_eq_true,decide_eq_true_eq,List.all_eq_true] at k
 exact k
theorem zea:GCon Tryz.prog 100 [.agg [.sl 37 (mat (trN 6)),.sl 37 fcF]] (.own 165 37 ((trN 6).map rwP)) [.agg [.sl 37 (mat (trN 6)),.sl 37 fcF]]:=by
 have l6:=zch
 have at6:=fun t h=>zkF (t:=t) h
 have tw:((trN 6).map rwP).take 37=(trN 6).map rwP:=List.take_of_length_le (by rw [List.length_map]; omega)
 have cPl:=fun t h1 h2 h3=>zd3 (trN 6) 37 fcF t h1 h2 h3
 rw [l6] at cPl
 generalize fcF=FC at *
 refine zai Tryz.mixed ⟨12,[57],[1000000+187],[]⟩ [0] Tryz.func100 ?_
 rw [Tryz.ntmps100]
 simp [go_sem]
 refine zac (3::5::6::8::9::11::List.range' 16 45) (fun i:Nat=>[(3,.own 165 i (((trN 6).map rwP).take i)),(16,.int i)]) (fun i=>i<=37) (fun i=>37-i) 0 (by simp) (by simp [go_sem]) (by simp [go_sem]) ?_
 intro i hi
 by_cases hil:i<37
 .have hii:(i:Int)<37:=by omega
  have hl:i<(trN 6).length:=by omega
  have dm:=zat hl
  have hm:=memD [] hl
  have cC:=zeR hm
  obtain ⟨b1,b2⟩:=zop hm
  have nm:¬ trN 6=[]:=by intro e; rw [e] at l6; simp at l6
  have tki:((trN 6).map rwP).take (i+1)=((trN 6).map rwP).take i++[rwP ((trN 6)[i]?.getD [])]:=by
   rw [List.take_succ_eq_append_getElem (by rw [List.length_map]; omega),List.getElem_map,List.getElem?_eq_getElem hl]; rfl
  have lti:(((trN 6).map rwP).take i).length=i:=by rw [List.length_take,List.length_map]; omega
  have hrw:rwP ((trN 6)[i]?.getD [])=.sl (parP ((trN 6)[i]?.getD [])).length (frzL ((parP ((trN 6)[i]?.getD [])).flatMap mpX)):=rfl
  have lRW:((trN 6).map rwP).length=37:=by rw [List.length_map]; omega
  generalize (trN 6)[i]?.getD []=t at *
  generalize parP t=L at *
  generalize (trN 6).map rwP=RW at *
  simp [go_sem,hii,dm]
  refine ⟨nm,?_⟩
  refine ⟨_,_,cC,?_⟩
  simp [go_sem]
  refine zac (6::8::9::11::List.range' 24 32) (fun j:Nat=>[(6,.own 167 j ((L.take j).flatMap mpX)),(24,.int j)]) (fun j=>j<=L.length) (fun j=>L.length-j) 0 (by simp) (by simp [go_sem]) (by simp [go_sem]) ?_
  intro j hj
  by_cases hjl:j<L.length
  .have hji:(j:Int)<L.length:=by omega
   have dr:=zdp paF (fun _=>rfl) ([],[],0) hjl
   have nL:¬ L.flatMap paF=[]:=by intro e; have:=zaX paF (fun _=>rfl) L; rw [e] at this; simp at this; omega
   have lL:=zaX paF (fun _=>rfl) L
   have hms:=memD ([],[],0) hjl
   obtain ⟨c1,c2,c3,c4,c5⟩:=b2 _ hms
   have tkj:L.take (j+1)=L.take j++[L[j]?.getD ([],[],0)]:=by
    rw [List.take_succ_eq_append_getElem hjl,List.getElem?_eq_getElem hjl]; rfl
   have clj:=zaX mpX (fun _=>rfl) (L.take j)
   rw [List.length_take,Nat.min_eq_left (by omega)] at clj
   generalize L[j]?.getD ([],[],0)=s at *
   obtain ⟨sa,sb,sc⟩:=s
   simp only [paF] at dr
   simp only at c1 c2 c3 c4 c5
   have hMX:mpX (sa,sb,sc)=[.int sc,if sa=[] then .val (.slice none 0 0) else .own 3 sa.length (avs (pcP (sa,sb,sc))),.int (ixT (trN 6) sb+1)]:=rfl
   have hcp:pcP (sa,sb,sc)=sa.map fun c=>ixT (trN 6) c+1:=rfl
   have hcr:∀ k,prX (sa,sb,sc) k=if k=0 then .val (.slice none 0 0) else .own 3 k (avs ((pcP (sa,sb,sc)).take k)):=fun k=>rfl
   have hcl:(pcP (sa,sb,sc)).length=sa.length:=by rw [hcp,List.length_map]
   have cPs:=cPl sb (by omega) (fun r hr=>by have:=(at6 r hr).2.1; omega) (by omega)
   have bsk:=zeg (trN 6) sb
   rw [l6] at bsk
   generalize ixT (trN 6) sb+1=sk at *
   generalize hCP:pcP (sa,sb,sc)=cps at *
   generalize hMC:L.flatMap paF=MC at *
   generalize hC:(L.take j).flatMap mpX=C at *
   simp [go_sem,hji,dr]
   refine ⟨⟨nL,by omega⟩,by kernel_rfl,?_⟩
   refine CallD.of (cPs) ?_
   simp [go_sem]
   refine ⟨by kernel_rfl,?_⟩
   simp [go_sem]
   refine zac (9::11::List.range' 38 13) (fun k:Nat=>[(9,.box 167 [.int sc,prX (sa,sb,sc) k,.int sk]),(38,.int k)]) (fun k=>k<=sa.length) (fun k=>sa.length-k) 0 (by simp) (by simp [go_sem,prX]) (by simp [go_sem,prX]) ?_
   intro k hk
   by_cases hkl:k<sa.length
   .have hki:(k:Int)<sa.length:=by omega
    have dk:=zat hkl
    have hmk:=memD [] hkl
    have hk6:=c2 _ hmk
    have na:¬ sa=[]:=by rintro rfl; simp at hkl
    have cP:=cPl (sa[k]?.getD []) (by omega) (fun r hr=>by have:=(at6 r hr).2.1; omega) (by omega)
    have bp:=zeg (trN 6) (sa[k]?.getD [])
    rw [l6] at bp
    have tkk:cps.take (k+1)=cps.take k++[ixT (trN 6) (sa[k]?.getD [])+1]:=by
     rw [List.take_succ_eq_append_getElem (by omega)]
     congr 2
     subst hcp
     rw [List.getElem_map,List.getElem?_eq_getElem hkl]; rfl
    have lk:(cps.take k).length=k:=by rw [List.length_take]; omega
    have x1:prX (sa,sb,sc) (k+1)=.own 3 (k+1) (avs (cps.take k++[ixT (trN 6) (sa[k]?.getD [])+1])):=by rw [hcr,if_neg (by omega),tkk]
    generalize sa[k]?.getD []=r at *
    generalize ixT (trN 6) r+1=v at *
    by_cases k0:k=0
    .have x0:prX (sa,sb,sc) k=.val (.slice none 0 0):=by rw [hcr,if_pos k0]
     rw [x0]
     simp [go_sem,hki,dk]
     refine ⟨na,by kernel_rfl,?_⟩
     refine CallD.of (cP) ?_
     simp [go_sem]
     refine ⟨by kernel_rfl,?_⟩
     simp [go_sem]
     refine ⟨⟨by omega,by omega⟩,k+1,by omega,by omega,zaa _ _ _ (by simp),?_⟩
     rw [x1]
     subst k0
     exact ⟨by simp [avs],by omega⟩
    .have x0:prX (sa,sb,sc) k=.own 3 k (avs (cps.take k)):=by rw [hcr,if_neg k0]
     rw [x0]
     simp [go_sem,hki,dk]
     refine ⟨na,by kernel_rfl,?_⟩
     refine CallD.of (cP) ?_
     simp [go_sem]
     refine ⟨⟨by omega,by omega,by omega⟩,?_⟩
     refine ⟨by kernel_rfl,?_⟩
     simp [go_sem]
     refine ⟨⟨by omega,by omega⟩,k+1,by omega,by omega,zaa _ _ _ (by simp),?_⟩
     rw [x1,zaE]
     exact ⟨rfl,by omega⟩
   .have e:k=sa.length:=by omega
    subst e
    have hki:¬ (sa.length:Int)<sa.length:=by omega
    by_cases s0:sa=[]
    .have x0:prX (sa,sb,sc) sa.length=.val (.slice none 0 0):=by rw [hcr,if_pos (by rw [s0]; rfl)]
     rw [x0]
     rw [if_pos s0] at hMX
     simp [go_sem,hki]
     refine ⟨⟨by rw [clj],by omega,by omega⟩,⟨by omega,by omega⟩,j+1,by omega,by omega,(Off.reset (by intro x hx; simp at hx |-; omega) (by simp) (by simp [go_sem,zaa])),?_⟩
     rw [tkj,List.flatMap_append,hC]
     refine ⟨⟨by omega,?_⟩,by omega⟩
     simp [hMX]
    .have x0:prX (sa,sb,sc) sa.length=.own 3 sa.length (avs cps):=by
      rw [hcr,if_neg (by intro e; exact s0 (List.length_eq_zero_iff.1 e)),List.take_of_length_le (by omega)]
     rw [x0]
     rw [if_neg s0] at hMX
     simp [go_sem,hki]
     refine ⟨⟨by rw [clj],by omega,by omega⟩,⟨by omega,by omega⟩,j+1,by omega,by omega,(Off.reset (by intro x hx; simp at hx |-; omega) (by simp) (by simp [go_sem,zaa])),?_⟩
     rw [tkj,List.flatMap_append,hC]
     refine ⟨⟨by omega,?_⟩,by omega⟩
     simp [hMX]
  .have e:j=L.length:=by omega
   subst e
   have hji:¬ (L.length:Int)<L.length:=by omega
   rw [List.take_length]
   simp [go_sem,hji]
   refine ⟨⟨by omega,by omega,by omega⟩,⟨by omega,by omega⟩,i+1,by omega,by omega,(Off.reset (by intro x hx; simp at hx |-; omega) (by simp) (by simp [go_sem,zaa])),?_⟩
   rw [tki,hrw]
   exact ⟨⟨rfl,rfl⟩,by omega⟩
 .have e:i=37:=by omega
  subst e
  rw [tw]
  simp [go_sem]
def ppF:List AV:=parT.map fun r=>.sl r.length (r.flatMap ctF)
theorem znY:∀ T:List (List Int),frzL (T.map rwP)=T.map rwP
 | []=>rfl
 | t::T=>by
  rw [List.map_cons,frzL,znY T]; rfl
theorem zoa:∀ L:List Prt,NXL (frzL (L.flatMap mpX)) ((L.map fun s=>(s.2.2,pcP s,skP s)).flatMap fun x=>[.int x.1,.sl x.2.1.length (avs x.2.1),.int x.2.2])
 | []=>.nil
 | s::L=>by
  rw [List.map_cons,List.flatMap_cons,List.flatMap_cons,zhk]
  refine NXL.app (zoa L) ?_
  by_cases h:s.1=[]
  .have e:mpX s=[.int s.2.2,.val (.slice none 0 0),.int (skP s)]:=by unfold mpX; rw [if_pos h]
   have e2:pcP s=[]:=by unfold pcP; rw [h]; rfl
   rw [e,e2]
   exact .cons (.same _) (.cons .nil (.cons (.same _) .nil))
  .have e:mpX s=[.int s.2.2,.own 3 s.1.length (avs (pcP s)),.int (skP s)]:=by unfold mpX; rw [if_neg h]
   have e2:(pcP s).length=s.1.length:=by simp [pcP]
   rw [e]
   show NXL [.int s.2.2,.sl s.1.length (frzL (avs (pcP s))),.int (skP s)] [.int s.2.2,.sl (pcP s).length (avs (pcP s)),.int (skP s)]
   rw [zfs,e2]
   exact NXL.same _
theorem zlx:∀ T:List (List Int),NXL (T.map rwP) (T.map fun t=>trG ((parP t).map fun s=>(s.2.2,pcP s,skP s)))
 | []=>.nil
 | t::T=>by
  rw [List.map_cons,List.map_cons]
  refine .cons ?_ (zlx T)
  show NX (.sl (parP t).length (frzL ((parP t).flatMap mpX))) (trG _)
  unfold trG
  rw [List.length_map]
  exact .sl _ (zoa _)
theorem zpu:((trN 6).map fun t=>trG ((parP t).map fun s=>(s.2.2,pcP s,skP s)))=ppF:=by
 have e:=congrArg (List.map trG) zrb
 rw [List.map_map,List.map_map] at e
 refine (Eq.trans ?_ e).trans ?_
 .rfl
 .unfold ppF
  refine List.map_congr_left fun r _=>?_
  show trG (r.map _)=_
  unfold trG
  rw [List.length_map,List.flatMap_map]
  show AV.sl r.length (r.flatMap fun c=>[.int c.1,.sl (nvs c.2.1).length (avs (nvs c.2.1)),.int c.2.2])=_
  simp only [zfJ]
  rfl
theorem zef:GCon Tryz.prog 100 [.agg [.sl 37 (mat (trN 6)),.sl 37 fcF]] (.sl 37 ppF) [.agg [.sl 37 (mat (trN 6)),.sl 37 fcF]]:=by
 refine GCon.nx (.sl 37 ?_) (GCon.frzR zea (show frz (.own _ 37 _)=.sl 37 (frzL ((trN 6).map rwP)) from rfl))
 rw [znY,<- zpu]
 exact zlx _
end Go.Proofs.YthhdollpkieknaaGreat


namespace Go.Proofs.YthhdollpkieknaaGreat
open Go.Abs
theorem zqt:¬ trN 6=[]:=by intro e; have:=zch; rw [e] at this; simp at this
theorem zqE {p:Nat} (h:p<37):((trN 6)[p]?.getD []).length=nd (p+1):=by
 have ok:(List.range 37).all (fun p=>decide (((trN 6)[p]?.getD []).length=nd (p+1)))=true:=by decide +kernel
 exact of_decide_eq_true (List.all_eq_true.1 ok p (List.mem_range.2 h))
theorem zpF (p:Nat) (hp:p<38):Con Tryz.prog 163 [.agg [.sl 37 (mat (trN 6)),.sl 37 fcF],.int p] (.int (nd p)):=by
 have nt:=zqt
 have l6:=zch
 generalize fcF=FC at *
 by_cases h0:p=0
 .subst h0
  refine zab Tryz.mixed ⟨5,[],[],[]⟩ Tryz.func163 ?_
  rw [Tryz.ntmps163]
  simp [go_sem]
  rfl
 .obtain ⟨q,rfl⟩:∃ q,p=q+1:=⟨p-1,by omega⟩
  have e:=zqE (p:=q) (by omega)
  have dm:=zat (xss:=trN 6) (k:=q) (by omega)
  rw [e] at dm
  have cL:=ziX (nd (q+1)) (avs ((trN 6)[q]?.getD [])) (by have:=zqF hp; omega)
  have e1:((q+1:Nat):Int)=(q:Int)+1:=by omega
  rw [e1]
  have e2:¬ (q:Int)+1=0:=by omega
  generalize (trN 6)[q]?.getD []=t at *
  generalize nd (q+1)=m at *
  refine zab Tryz.mixed ⟨5,[],[],[]⟩ Tryz.func163 ?_
  rw [Tryz.ntmps163]
  simp [go_sem]
  simp [go_sem,e2]
  have e3:((q:Int)+1-1)=q:=by omega
  simp [go_sem,e3,dm]
  refine ⟨by omega,⟨by omega,nt⟩,?_⟩
  refine CallVC.of (cL) ?_
  simp [go_sem]
theorem zm9 (k:Int) (a:List Int) {i:Nat} (h:i<38):(scS k a).take (i+1)=(scS k a).take i++[iat a i*k ^ nd i%10007]:=zkq _ h
theorem N38.take {a:List Int} (ha:N38 a):a.take 38=a:=List.take_of_length_le (by rw [ha.1]; exact Nat.le_refl _)
theorem zji (a:List Int) (k:Int) (ha:N38 a) (hk:isN k) :
  Con Tryz.prog 94 [.agg [.sl 37 (mat (trN 6)),.sl 37 fcF],.sl a.length (avs a),.int k] (.own 2 38 (avs (scS k a))):=by
 have tk:=fun i (h:i<38)=>zm9 k a h
 have ta:=(zmL k a).take
 have lo:=(zmL k a).1
 have la:=ha.1
 have cN:=fun p h=>zpF p h
 generalize scS k a=O at *
 generalize fcF=FC at *
 refine zab Tryz.mixed ⟨10,[],[],[]⟩ Tryz.func94 ?_
 rw [Tryz.ntmps94]
 simp [go_sem]
 refine zac (7::8::9::List.range' 13 17) (fun i:Nat=>[(7,.own 2 i (avs (O.take i))),(13,.int i)]) (fun i=>i<=38) (fun i=>38-i) 0 (by simp) (by simp [go_sem]) (by simp [go_sem]) ?_
 intro i hi
 by_cases hil:i<a.length
 .have hii:(i:Int)<a.length:=by omega
  have na:¬ a=[]:=by rintro rfl; simp at hil
  have dr:=zao hil
  have c1:=cN i (by omega)
  have n6:=zqF (i:=i) (by omega)
  have c2:=zrN k (nd i) hk (by omega) (by omega)
  have pN:=pw_N k (nd i)
  have xN:isN (iat a i):=ha.Ns.get i
  have f1:=zaS xN pN
  have c3:=zeL (iat a i*pw k (nd i)) f1.1 f1.2
  have e:iat a i*k ^ nd i%10007=iat a i*pw k (nd i)%10007:=by
   refine za5 rfl ?_
   unfold pw
   rw [Int.emod_emod_of_dvd _ (Int.dvd_refl _)]; rfl
  have t1:=tk i (by omega)
  rw [e] at t1
  generalize iat a i=x at *
  generalize pw k (nd i)=y at *
  generalize nd i=m at *
  simp [go_sem,hii,dr]
  refine ⟨na,?_⟩
  refine CallVC.of (c1) ?_
  simp [go_sem]
  refine CallVC.of (c2) ?_
  simp [go_sem]
  refine ⟨⟨f1.1,f1.2⟩,?_⟩
  refine CallVC.of (c3) ?_
  simp [go_sem]
  refine ⟨⟨by omega,by omega,by omega⟩,⟨by omega,by omega⟩,i+1,by omega,by omega,zaa _ _ _ (by simp),?_⟩
  rw [t1,zaE]
  exact ⟨⟨rfl,rfl⟩,by omega⟩
 .have e:i=a.length:=by omega
  subst e
  have hii:¬ (a.length:Int)<a.length:=by omega
  rw [la,ta]
  simp [go_sem,hii]
end Go.Proofs.YthhdollpkieknaaGreat


namespace Go.Proofs.YthhdollpkieknaaGreat
open Go.Abs
theorem zjz (a:List Int) (k:Int) (ha:N38 a) (hk:isN k) :
  Con Tryz.prog 25 [.sl a.length (avs a),.int k] (.tup [.own 2 38 (avs (scS k a)),.int 0]):=by
 have cM:=zg9 a (by rw [ha.1]; omega)
 rw [ha.mapB] at cM
 have cI:=zfk k
 have e:decide (0<=k/\k<=10006)=true:=decide_eq_true ⟨hk.1,by have:=hk.2; omega⟩
 rw [e] at cI
 have cF:=zeZ
 have cC:=zji a k ha hk
 generalize scS k a=X at *
 generalize fcF=FC at *
 refine zab Tryz.mixed ⟨6,[],[1000000+71],[]⟩ Tryz.func25 ?_
 rw [Tryz.ntmps25]
 simp [go_sem]
 refine CallVC.of (cM) ?_
 simp [go_sem]
 refine CallVC.of (cI) ?_
 simp [go_sem]
 refine ⟨_,_,cF,?_⟩
 simp [go_sem]
 refine CallVC.of (cC) ?_
 simp [go_sem]
theorem Ch.cons {a:List Int} (h:Ch a):avs a=.int 1::avs a.tail:=by
 have a0:=zao (a:=a) (v:=0) (by rw [h.1.1]; omega)
 rw [List.drop_zero,h.2,List.drop_one] at a0
 exact a0
theorem N38.ne {a:List Int} (h:N38 a):¬ a=[]:=by rintro rfl; have:=h.1; simp at this
end Go.Proofs.YthhdollpkieknaaGreat


namespace Go.Proofs.YthhdollpkieknaaGreat
open Go.Abs
theorem zqb {i:Nat} (hi:i<38):(ptR i).length<=100/\∀ c∈ptR i,c.2.1.length<=100/\c.1<=100/\(∀ v∈c.2.1,v<38)/\c.2.2<38:=by
 have ok:(List.range 38).all (fun i=>decide ((ptR i).length<=100) && (ptR i).all fun c=>decide (c.2.1.length<=100) && (decide (c.1<=100) && (c.2.1.all (fun v=>decide (v<38)) && decide (c.2.2<38))))=true:=by decide +kernel
 have h:=List.all_eq_true.1 ok i (List.mem_range.2 hi)
 simp only [Bool.and_eq_true,List.all_eq_true,decide_eq_true_eq] at h
 exact h
theorem znp {i:Nat} (h:i<37):ppF.drop i=.sl (ptR (i+1)).length ((ptR (i+1)).flatMap ctF)::ppF.drop (i+1):=by
 have l:parT.length=37:=by decide +kernel
 have hl:i<ppF.length:=by unfold ppF; rw [List.length_map,l]; exact h
 rw [List.drop_eq_getElem_cons hl]
 congr 1
 have e:ppF[i]?=some (.sl (ptR (i+1)).length ((ptR (i+1)).flatMap ctF)):=by
  unfold ppF ptR
  rw [List.getElem?_map,Nat.add_sub_cancel,List.getElem?_eq_getElem (by rw [l]; exact h)]; rfl
 rw [List.getElem?_eq_getElem hl] at e
 exact Option.some.inj e
theorem zqV:¬ ppF=[]:=by
 intro e
 have l:parT.length=37:=by decide +kernel
 have:=congrArg List.length e
 unfold ppF at this
 rw [List.length_map,l] at this; simp at this
end Go.Proofs.YthhdollpkieknaaGreat


namespace Go.Proofs.YthhdollpkieknaaGreat
open Go.Abs
def suF (b a:List Int) (L:List Ctp):Int:=L.foldl (fun s c=>s+(c.1:Int)*(iat a c.2.2*vlN b c.2.1%10007)%10007) 0
theorem ziW (b a:List Int) (L:List Ctp) (c:Ctp):suF b a (L++[c])=suF b a L+(c.1:Int)*(iat a c.2.2*vlN b c.2.1%10007)%10007:=by simp [suF]
theorem zfy (b a:List Int) (L:List Ctp):(0<=suF b a L/\suF b a L<=10006*L.length)/\suF b a L%10007=rowI (iat b) (iat a) L%10007:=by
 generalize hn:L.length=n
 induction n generalizing L with
 | zero=>rw [List.length_eq_zero_iff.1 hn]; exact ⟨⟨Int.le_refl _,by show (0:Int)<=_; omega⟩,rfl⟩
 | succ n ih =>
  rcases List.eq_nil_or_concat L with rfl | ⟨h,c,rfl⟩
  .simp at hn
  .rw [List.concat_eq_append] at hn |-
   obtain ⟨i1,i2⟩:=ih h (by simpa using hn)
   rw [ziW,zd2]
   have e:(c.1:Int)*(iat a c.2.2*vlN b c.2.1%10007)%10007=(c.1:Int)*(prI (iat b) c.2.1*iat a c.2.2)%10007:=by
    refine za5 rfl ?_
    rw [Int.emod_emod_of_dvd _ (Int.dvd_refl _),Int.mul_comm]
    exact za5 (zph b c.2.1) rfl
   rw [e]
   generalize (c.1:Int)*(prI (iat b) c.2.1*iat a c.2.2)=z at *
   generalize suF b a h=p at *
   generalize rowI (iat b) (iat a) h=r at *
   omega
theorem zhU (b a:List Int) {i:Nat} (h:i<37):(sbS b a).take (i+2)=(sbS b a).take (i+1)++[suF b a (ptR (i+1))%10007]:=by
 have l:(sbS b a).length=38:=(zec b a).1
 rw [List.take_succ_eq_append_getElem (by omega)]
 congr 2
 have k:=zfS (sbI (iat b) (iat a)) (i:=i+1) (by omega)
 have e:(sbS b a)[i+1]?=some (iat (sbS b a) (i+1)):=by
  unfold iat
  rw [List.getElem?_eq_getElem (by omega)]; rfl
 rw [List.getElem?_eq_getElem (by omega)] at e
 rw [Option.some.inj e,(zfy b a _).2]
 refine k.trans ?_
 unfold sbI
 rw [if_neg (by omega)]
theorem zmc (b a:List Int) (ha:N38 a):(sbS b a).take 1=[iat a 0]:=by
 have k:=zfS (sbI (iat b) (iat a)) (i:=0) (by omega)
 have h0:=ha.at 0
 have l:(sbS b a).length=38:=(zec b a).1
 unfold sbI at k
 rw [if_pos rfl,Int.emod_eq_of_lt h0.1 h0.2] at k
 rw [<- k]
 show _=[iat (sbS b a) 0]
 unfold iat
 rw [List.take_succ_eq_append_getElem (by omega),List.getElem?_eq_getElem (by omega)]
 rfl
theorem zm3 (b a:List Int) (hb:N38 b) (ha:N38 a):Con Tryz.prog 99 [.sl 37 ppF,.sl b.length (avs b),.sl a.length (avs a)] (.own 2 38 (avs (sbS b a))):=by
 have la:=ha.1
 have na:=ha.ne
 have lb:=hb.1
 have nb:=hb.ne
 have da1:=zao (a:=a) (v:=0) (by omega)
 rw [List.drop_zero,Nat.zero_add,List.drop_one] at da1
 have x0:=zmc b a ha
 have xs:=fun i h=>zhU b a (i:=i) h
 have xl:(sbS b a).take 38=sbS b a:=List.take_of_length_le (by rw [(zec b a).1]; omega)
 have a0:isN (iat a 0):=ha.Ns.get _
 have nP:=zqV
 have pd:=fun i h=>znp (i:=i) h
 have sl:=(zec b a).1
 generalize sbS b a=X at *
 generalize ppF=PP at *
 generalize iat a 0=v0 at *
 refine zab Tryz.mixed ⟨13,[],[],[]⟩ Tryz.func99 ?_
 rw [Tryz.ntmps99]
 simp [go_sem]
 simp [go_sem,da1]
 rw [<- da1]
 refine ⟨⟨by omega,na⟩,?_⟩
 refine zac (7::9::10::12::List.range' 19 34) (fun i:Nat=>[(7,.own 2 (i+1) (avs (X.take (i+1)))),(19,.int i)]) (fun i=>i<=37) (fun i=>37-i) 0 (by simp) (by simp [go_sem,x0,avs]) (by simp [go_sem]) ?_
 intro i hi
 by_cases hil:i<37
 .have hii:(i:Int)<37:=by omega
  have dr:=pd i hil
  obtain ⟨r1,r2⟩:=zqb (i:=i+1) (by omega)
  have xs1:=xs i hil
  have lX:(X.take (i+1)).length=i+1:=by rw [List.length_take]; omega
  generalize X.take (i+1)=XI at *
  generalize ptR (i+1)=R at *
  simp [go_sem,hii,dr]
  refine ⟨nP,?_⟩
  refine zac (10::12::List.range' 25 22) (fun j:Nat=>[(10,.int (suF b a (R.take j))),(25,.int j)]) (fun j=>j<=R.length) (fun j=>R.length-j) 0 (by simp) (by simp [go_sem,suF]) (by simp [go_sem]) ?_
  intro j hj
  by_cases hjl:j<R.length
  .have hji:(j:Int)<R.length:=by omega
   have cd:=zmt hjl
   have hmm:=memD (0,[],0) hjl
   obtain ⟨q1,q2,k1,k2⟩:=r2 _ hmm
   have tj:R.take (j+1)=R.take j++[R[j]?.getD (0,[],0)]:=by
    rw [List.take_succ_eq_append_getElem hjl,List.getElem?_eq_getElem hjl]; rfl
   have rs:=ziW b a (R.take j) (R[j]?.getD (0,[],0))
   rw [<- tj] at rs
   have bd:=(zfy b a (R.take j)).1
   have bl:(R.take j).length<=100:=by rw [List.length_take]; omega
   have nR:¬ R.flatMap ctF=[]:=by intro e; have:=zhE R; rw [e] at this; simp at this; omega
   have lR:=zhE R
   generalize R.take j=F at *
   generalize R[j]?.getD (0,[],0)=c at *
   obtain ⟨n,l,t⟩:=c
   simp only [ctF] at cd q1 q2 k1 k2 rs
   generalize hMC:R.flatMap ctF=MC at *
   have cV:=zlv b l hb.Ns (by omega) q1 (fun v hv=>by have:=k1 v hv; omega)
   have vN:=zqR b l
   have aN:isN (iat a t):=ha.Ns.get t
   have dat:=zao (a:=a) (v:=t) (by omega)
   have f1:=zaS aN vN
   have c1:=zeL (iat a t*vlN b l) f1.1 f1.2
   have m1:=zaG (iat a t*vlN b l)
   have f2:=zaS (show isN (n:Int) from ⟨by omega,by omega⟩) m1
   have c2:=zeL ((n:Int)*(iat a t*vlN b l%10007)) f2.1 f2.2
   have m2:=zaG ((n:Int)*(iat a t*vlN b l%10007))
   have v1:=m2.1; have v2:=m2.2
   obtain ⟨f3,f4⟩:=f1
   obtain ⟨f5,f6⟩:=f2
   generalize suF b a F=s at *
   generalize hp1:iat a t*vlN b l%10007=p1 at *
   generalize hp2:(n:Int)*p1%10007=p2 at *
   generalize vlN b l=y at *
   generalize iat a t=z at *
   simp [go_sem,hji,cd]
   refine ⟨nR,by kernel_rfl,?_⟩
   simp [go_sem,dat]
   refine ⟨⟨by omega,na⟩,?_⟩
   refine CallD.of (cV) ?_
   simp [go_sem]
   refine ⟨⟨f3,f4⟩,?_⟩
   refine CallD.of (c1) ?_
   simp [go_sem]
   refine ⟨⟨f5,f6⟩,?_⟩
   refine CallD.of (c2) ?_
   simp [go_sem]
   refine ⟨⟨by omega,by omega⟩,?_⟩
   refine ⟨by kernel_rfl,?_⟩
   simp [go_sem]
   refine ⟨⟨by omega,by omega⟩,j+1,by omega,by omega,zaa _ _ _ (by simp),?_⟩
   rw [rs]
   exact ⟨rfl,by omega⟩
  .have e:j=R.length:=by omega
   subst e
   have hji:¬ (R.length:Int)<R.length:=by omega
   have bd:=(zfy b a R).1
   rw [List.take_length]
   generalize suF b a R=s at *
   have cN:=zeL s (by omega) (by omega)
   generalize s%10007=s1 at *
   simp [go_sem,hji]
   refine CallVC.of (cN) ?_
   simp [go_sem]
   refine ⟨⟨by omega,by omega,by omega⟩,⟨by omega,by omega⟩,i+1,by omega,by omega,(Off.reset (by intro x hx; simp at hx |-; omega) (by simp) (by simp [go_sem,zaa])),?_⟩
   rw [xs1,zaE]
   exact ⟨⟨rfl,rfl⟩,by omega⟩
 .have e:i=37:=by omega
  subst e
  rw [xl]
  simp [go_sem]
def smE (b a:List Int):Int:=if mapB b=true/\mapB a=true then if iat b 0=0 then 0 else 5 else 1
def smX (b a:List Int):List Int:=if smE b a=0 then sbS b a else []
theorem zkr {b a:List Int} (h:smE b a=0):Inf b/\N38 a:=by
 unfold smE at h
 split at h
 .rename_i k
  split at h
  .rename_i k2; exact ⟨⟨ziv k.1,k2⟩,ziv k.2⟩
  .simp at h
 .simp at h
theorem zhF (b a:List Int) (hb:b.length<=1048576) (ha:a.length<=1048576):GCon Tryz.prog 89 [.sl b.length (avs b),.own 25 1 [.sl a.length (avs a)]] (.int (smE b a)) [.any,.any]:=by
 have cB:=zg9 b (by omega)
 have cA:=zg9 a (by omega)
 have hE:smE b a=if mapB b=true/\mapB a=true then if iat b 0=0 then 0 else 5 else 1:=rfl
 have b0:mapB b=true->(avs b).drop 0=.int (iat b 0)::avs (b.drop 1)/\¬ b=[]/\0<b.length:=fun h=>by
  have h:=ziv h
  exact ⟨zao (a:=b) (v:=0) (by rw [h.1]; omega),h.ne,by rw [h.1]; omega⟩
 rw [hE]
 generalize mapB b=mb at *
 generalize mapB a=ma at *
 generalize iat b 0=z at *
 refine zai Tryz.mixed ⟨7,[],[],[]⟩ [] Tryz.func89 ?_
 rw [Tryz.ntmps89]
 simp [go_sem]
 refine zac (4::6::List.range' 12 8) (fun k:Nat=>[(12,.int k),(4,if k=0 then .int 0 else .int 0)]) (fun k=>k<=2/\(1<=k->ma=true)/\(2<=k->mb=true)) (fun k=>2-k) 0 (by simp) (by simp [go_sem]) (by simp [go_sem]) ?_
 rintro k ⟨hk,k1,k2⟩
 rcases (show k=0\/k=1\/k=2 by omega) with rfl | rfl | rfl
 .simp [go_sem]
  refine CallVC.of (cA) ?_
  simp [go_sem]
  cases ma with
  | false =>
   simp [go_sem]
  | true =>
   simp [go_sem]
   exact ⟨1,by simp,by omega,zaa _ _ _ (by simp),rfl⟩
 .rw [k1 (by omega)] at *
  simp [go_sem]
  refine CallVC.of (cB) ?_
  simp [go_sem]
  cases mb with
  | false =>
   simp [go_sem]
  | true =>
   simp [go_sem]
   exact ⟨2,by simp,by omega,zaa _ _ _ (by simp),rfl⟩
 .obtain ⟨b0,b1,b2⟩:=b0 (k2 (by omega))
  rw [k1 (by omega),k2 (by omega)]
  rw [List.drop_zero] at b0
  simp [go_sem,b0]
  refine ⟨b2,?_⟩
  by_cases hz:z=0
  .simp [go_sem,hz]
  .simp [go_sem,hz]
theorem zb3 (b a:List Int) (hb:b.length<=1048576) (ha:a.length<=1048576) :
  Con Tryz.prog 29 [.sl b.length (avs b),.sl a.length (avs a)] (.tup [.own 2 (smX b a).length (avs (smX b a)),.int (smE b a)]):=by
 have c1:=zhF b a hb ha
 by_cases he:smE b a=0
 .obtain ⟨k1,k2⟩:=zkr he
  have cF:=zeZ
  have cM:=zef
  have c2:=zm3 b a k1.1 k2
  have eX:smX b a=sbS b a:=by unfold smX; rw [if_pos he]
  have l:=(zec b a).1
  rw [eX,he,l]
  rw [he] at c1
  clear eX he l
  generalize sbS b a=X at *
  generalize ppF=PP at *
  generalize fcF=FC at *
  refine zab Tryz.mixed ⟨7,[],[1000000+89,1000000+71,1000000+100],[]⟩ Tryz.func29 ?_
  rw [Tryz.ntmps29]
  simp [go_sem]
  refine ⟨_,_,c1,?_⟩
  simp [go_sem]
  refine ⟨_,_,cF,?_⟩
  simp [go_sem]
  refine ⟨_,_,cM,?_⟩
  simp [go_sem]
  refine CallVC.of (c2) ?_
  simp [go_sem]
 .have eX:smX b a=[]:=by unfold smX; rw [if_neg he]
  rw [eX]
  have n1:smE b a=1\/smE b a=5:=by unfold smE at he |-; split <;> (try split) <;> simp_all
  clear eX
  generalize smE b a=E at *
  show Con _ _ _ (.tup [.own 2 0 [],.int E])
  refine Con.n1 _ ?_
  refine zab Tryz.mixed ⟨7,[],[1000000+89,1000000+71,1000000+100],[]⟩ Tryz.func29 ?_
  rw [Tryz.ntmps29]
  simp [go_sem]
  refine ⟨_,_,c1,?_⟩
  simp [go_sem]
  simp [go_sem,he]
end Go.Proofs.YthhdollpkieknaaGreat


namespace Go.Proofs.YthhdollpkieknaaGreat
open Go.Abs
theorem zhm (a b:List Int) (ha:a.length<=1000000) (hb:b.length<=1000000):Con Tryz.prog 293 [.sl a.length (avs a),.sl b.length (avs b)] (.bool (ltT a b)):=by
 unfold ltT
 have c:=zgP b a (by omega) (by omega)
 by_cases h:a.length=b.length
 .have hi:(a.length:Int)=b.length:=by omega
  rw [if_pos h]
  refine zab Tryz.mixed ⟨5,[],[],[]⟩ Tryz.func293 ?_
  rw [Tryz.ntmps293]
  simp [go_sem,hi]
  refine CallVC.of (c) ?_
  simp [go_sem]
 .have hi:¬ (a.length:Int)=b.length:=by omega
  rw [if_neg h]
  refine zab Tryz.mixed ⟨5,[],[],[]⟩ Tryz.func293 ?_
  rw [Tryz.ntmps293]
  simp [go_sem,hi]
theorem zl9 (bs:List (List Int)) (hl:∀ b∈bs,b.length<=1000000) (hn:bs.length<=1000):GCon Tryz.prog 252 [.sl bs.length (mat bs)] (.sl bs.length (mat (srtT bs))) [.any]:=by
 refine zai Tryz.mixed ⟨7,[7,36,48],[],[]⟩ [] Tryz.func252 ?_
 rw [Tryz.ntmps252]
 simp [go_sem]
 refine zac ([3,4,5,6]++List.range' 8 41) (fun i:Nat=>[(3,.sl i (mat (srtT (bs.take i)))),(4,.int i)]) (fun i=>i<=bs.length) (fun i=>bs.length-i) 0 (by simp) (by simp [go_sem,srtT,mat]) (by simp [go_sem]) ?_
 intro i hi
 simp [go_sem]
 refine ⟨fun h=>?_,fun h=>?_⟩ <;> simp at h
 .have hif:i<bs.length:=by omega
  have hb:=memD [] hif
  have ht:srtT (bs.take (i+1))=insT (bs[i]?.getD []) (srtT (bs.take i)):=by
   rw [List.take_add_one,List.getElem?_eq_getElem hif,Option.toList_some,zes]; rfl
  have l1:=hl _ hb
  have sl:∀ s∈srtT (bs.take i),s.length<=1000000:=fun s hs=>hl s (List.mem_of_mem_take ((zbe _).mem_iff.1 hs))
  have il:(srtT (bs.take i)).length=i:=by rw [ziK]; simp; omega
  have mi:=zat hif
  have neb:¬ bs=[]:=by rintro rfl; simp at hif
  generalize hN:srtT (bs.take (i+1))=S2 at *
  generalize srtT (bs.take i)=S at *
  generalize bs[i]?.getD []=p at *
  have cO:=zfL p (by omega)
  subst il
  simp [go_sem]
  refine zac (5::List.range' 14 18) (fun a:Nat=>[(5,.int a)]) (fun a=>a<=S.length/\atT p S=a+atT p (S.drop a)) (fun a=>S.length-a) 0 (by simp) (by simp [go_sem]) (by simp [go_sem]) ?_
  rintro a ⟨ha,hat⟩
  by_cases has:a<S.length
  .have has':(a:Int)<S.length:=by omega
   have hd:S.drop a=S[a]?.getD []::S.drop (a+1):=by rw [List.drop_eq_getElem_cons has]; simp [has]
   rw [hd,atT] at hat
   have hg:=zat has
   have hsl:=sl _ (memD [] has)
   have neS:¬ S=[]:=by rintro rfl; simp at has
   have cL:=zhm p (S[a]?.getD []) (by omega) (by omega)
   by_cases hlt:ltT p (S[a]?.getD [])=true
   .rw [if_pos hlt] at hat
    rw [hlt] at cL
    have hS2:S2=S.take a++p::S.drop a:=by rw [ht,insT,hat,Nat.add_zero]
    simp [go_sem,has',hg,mi]
    refine ⟨by kernel_rfl,⟨hif,neb⟩,neS,?_⟩
    refine CallD.of (cL) ?_
    simp [go_sem]
    refine ⟨by kernel_rfl,?_⟩
    simp [go_sem]
    simp [go_sem,mi,zbf,zbh,za4]
    refine ⟨by kernel_rfl,⟨hif,neb⟩,?_⟩
    refine CallD.of (cO) ?_
    simp [go_sem]
    simp [go_sem,zbf,zbh,za4]
    refine ⟨by omega,⟨by omega,by omega⟩,?_⟩
    refine ⟨by kernel_rfl,?_⟩
    simp [go_sem]
    simp [go_sem,zbf,zbh,za4]
    refine ⟨by omega,⟨by omega,by omega⟩,⟨by omega,by omega,by omega,by omega⟩,⟨by omega,by omega⟩,S.length+1,by omega,by omega,(by repeat (first | exact zaa _ _ _ (by simp) | (refine Off.reset (by intro x hx; simp at hx |-; omega) (by simp) ?_; simp -failIfUnchanged [go_sem,zaa]))),⟨by omega,?_⟩,by omega⟩
    rw [hN,hS2,show (S.drop a).take (S.length-a)=S.drop a from List.take_of_length_le (by simp),<- zft (S.take a++p::S.drop a),zfv]; rfl
   .rw [if_neg hlt] at hat
    have hlf:ltT p (S[a]?.getD [])=false:=by simpa using hlt
    rw [hlf] at cL
    simp [go_sem,has',hg,mi]
    refine ⟨by kernel_rfl,⟨hif,neb⟩,neS,?_⟩
    refine CallD.of (cL) ?_
    simp [go_sem]
    refine ⟨by kernel_rfl,?_⟩
    simp [go_sem]
    exact ⟨by omega,a+1,⟨by omega,by omega⟩,by omega,zaa _ _ _ (by simp),by omega⟩
  .have has':¬ (a:Int)<S.length:=by omega
   have hd:S.drop a=[]:=List.drop_eq_nil_of_le (by omega)
   rw [hd,atT] at hat
   have hS2:S2=S.take a++p::S.drop a:=by rw [ht,insT,hat,Nat.add_zero]
   simp [go_sem,has']
   refine ⟨by kernel_rfl,?_⟩
   refine ⟨by kernel_rfl,?_⟩
   simp [go_sem]
   simp [go_sem,mi,zbf,zbh,za4]
   refine ⟨by kernel_rfl,⟨hif,neb⟩,?_⟩
   refine CallD.of (cO) ?_
   simp [go_sem]
   simp [go_sem,zbf,zbh,za4]
   refine ⟨by omega,⟨by omega,by omega⟩,?_⟩
   refine ⟨by kernel_rfl,?_⟩
   simp [go_sem]
   simp [go_sem,zbf,zbh,za4]
   refine ⟨by omega,⟨by omega,by omega⟩,⟨by omega,by omega,by omega,by omega⟩,⟨by omega,by omega⟩,S.length+1,by omega,by omega,(by repeat (first | exact zaa _ _ _ (by simp) | (refine Off.reset (by intro x hx; simp at hx |-; omega) (by simp) ?_; simp -failIfUnchanged [go_sem,zaa]))),⟨by omega,?_⟩,by omega⟩
   rw [hN,hS2,show (S.drop a).take (S.length-a)=S.drop a from List.take_of_length_le (by simp),<- zft (S.take a++p::S.drop a),zfv]; rfl
 .have e:i=bs.length:=by omega
  subst e
  rw [List.take_length]
  simp [go_sem]
end Go.Proofs.YthhdollpkieknaaGreat


namespace Go.Proofs.YthhdollpkieknaaGreat
open Go.Abs
theorem zcD (t:List Int) (i:Nat) (hi:i<t.length) (hl:t.length<=1000) (hb:∀ x∈t,0<=x/\x<=1000):Con Tryz.prog 249 [.sl t.length (avs t),.int i] (.int (parK t (iat t i) i)):=by
 have di:=zao hi
 have bi:0<=iat t i/\iat t i<=1000:=hb _ (memD 0 hi)
 have ng:¬ t=[]:=by rintro rfl; simp at hi
 generalize hx:iat t i=x at *
 clear hx
 generalize hF:parK t x i=F
 refine zab Tryz.mixed ⟨6,[],[],[]⟩ Tryz.func249 ?_
 rw [Tryz.ntmps249]
 simp [go_sem]
 refine ⟨⟨by omega,by omega⟩,?_⟩
 refine zac (4::5::List.range' 8 15) (fun k:Nat=>[(5,.int ((k:Int)-1))]) (fun k=>k<=i/\parK t x k=F) (fun k=>k) i ⟨Nat.le_refl _,hF⟩ (by simp [go_sem]) (by simp [go_sem]) ?_
 rintro k ⟨h1,h2⟩
 cases k with
 | zero =>
  have e:parK t x 0 = -1:=rfl
  rw [e] at h2
  subst h2
  simp [go_sem]
 | succ k =>
  have dk:=zao (a:=t) (v:=k) (by omega)
  have bk:0<=iat t k/\iat t k<=1000:=hb _ (memD 0 (show k<t.length by omega))
  have e1:((k+1:Nat):Int)-1=k:=by omega
  rw [e1]
  rw [show parK t x (k+1)=if iat t k=x-1 then (k:Int) else parK t x k from rfl] at h2
  generalize iat t k=y at *
  by_cases hy:y=x-1
  .rw [if_pos hy] at h2
   subst h2
   simp [go_sem]
   refine ⟨by kernel_rfl,?_⟩
   simp [go_sem,di,dk,hy]
   refine ⟨⟨by omega,ng⟩,⟨hi,ng⟩,⟨by omega,by omega⟩,?_⟩
   refine ⟨by kernel_rfl,?_⟩
   simp [go_sem]
  .rw [if_neg hy] at h2
   simp [go_sem]
   refine ⟨by kernel_rfl,?_⟩
   simp [go_sem,di,dk,hy]
   refine ⟨⟨by omega,ng⟩,⟨hi,ng⟩,⟨by omega,by omega⟩,?_⟩
   refine ⟨by kernel_rfl,?_⟩
   simp [go_sem]
   exact ⟨⟨by omega,by omega⟩,k,⟨by omega,h2⟩,by omega,zaa _ _ _ (by simp),by omega⟩
def blA (L:List Bool):List AV:=L.map fun b=>.val (.bool b)
@[simp] theorem zr7 (L:List Bool):(blA L).length=L.length:=by simp [blA]
theorem zpv {L:List Bool} {k:Nat} (h:k<L.length):(blA L)[k]?=some (.val (.bool (L[k]?.getD false))):=by
 unfold blA
 rw [List.getElem?_map,List.getElem?_eq_getElem h]; rfl
theorem zlX (L:List Bool) (k:Nat) (b:Bool):(blA L).set k (.val (.bool b))=blA (L.set k b):=by simp [blA,List.map_set]
def pcS (t:List Int) (m r:Nat) (s:List Int × List Bool) (i:Nat):List Int × List Bool :=
 if (r:Int)<=parK t (iat t i) i/\s.2[(parK t (iat t i) i).toNat]?.getD false=true/\m / 2 ^ i%2=0 then (s.1++[iat t i-iat t r],s.2.set i true) else s
def pcG (t:List Int) (m r:Nat):Nat->List Int × List Bool
 | 0=>([0],(List.replicate t.length false).set r true)
 | n+1=>pcS t m r (pcG t m r n) (r+1+n)
theorem zhh (t:List Int) (m r:Nat):∀ n,(pcG t m r n).1.length<=n+1/\(pcG t m r n).2.length=t.length
 | 0=>by simp [pcG]
 | n+1=>by
  obtain ⟨h1,h2⟩:=zhh t m r n
  unfold pcG pcS
  split
  .simp [h2]; omega
  .exact ⟨by omega,h2⟩
def pcL (t:List Int) (m r:Nat):List Int:=(pcG t m r (t.length-r-1)).1
theorem zht (t:List Int) (m:Nat) {r:Nat} (hr:r<t.length) (hl:t.length<=6):(pcL t m r).length<=6:=by
 have:=(zhh t m r (t.length-r-1)).1; unfold pcL; omega
def pcV (t:List Int) (m r:Nat):List Int:=canF 6 (pcL t m r)
theorem zjB (t:List Int) (m r:Nat) (hr:r<t.length) (hl:t.length<=6) (hb:∀ x∈t,0<=x/\x<=1000) (hm:m<1000) (hv:Lv (pcL t m r)) :
  Con Tryz.prog 251 [.sl t.length (avs t),.int m,.int r] (.own 2 (pcV t m r).length (avs (pcV t m r))):=by
 have gl:=zhh t m r
 have l6:=zht t m hr hl
 have lV:(pcV t m r).length=(pcL t m r).length:=zaN 6 _ hv (by omega)
 rw [lV]
 have cC:=zcj 6 (pcL t m r) (by omega) hv l6
 rw [show canF 6 (pcL t m r)=pcV t m r from rfl] at cC
 clear lV l6
 generalize pcV t m r=V at *
 have pe:pcG t m r (t.length-r-1)=(pcL t m r,(pcG t m r (t.length-r-1)).2):=rfl
 have p0:pcG t m r 0=([0],(List.replicate t.length false).set r true):=rfl
 have ps:∀ n,pcG t m r (n+1)=pcS t m r (pcG t m r n) (r+1+n):=fun _=>rfl
 have ng:¬ t=[]:=by rintro rfl; simp at hr
 have i0:List.replicate t.length (AV.val (.bool false))=blA (List.replicate t.length false):=by simp [blA]
 generalize pcL t m r=PL at *
 generalize hG:pcG t m r=G at *
 clear hv
 refine zab Tryz.mixed ⟨11,[],[],[]⟩ Tryz.func251 ?_
 rw [Tryz.ntmps251]
 simp [go_sem]
 refine ⟨⟨by omega,by omega⟩,hr,⟨by omega,by omega⟩,?_⟩
 rw [i0,zlX]
 refine zac (7::9::10::8::List.range' 20 41) (fun n:Nat=>[(7,.own 2 (G n).1.length (avs (G n).1)),(8,.own 4 t.length (blA (G n).2)),(9,.int ((r+1+n:Nat):Int))]) (fun n=>r+1+n<=t.length) (fun n=>t.length-n) 0 (by omega) (by simp [go_sem,p0,avs]) (by simp [go_sem]) ?_
 intro n hn
 obtain ⟨g1,g2⟩:=gl n
 by_cases hnl:r+1+n<t.length
 .have di:=zao (a:=t) (v:=r+1+n) hnl
  have dr:=zao (a:=t) (v:=r) hr
  have bi:0<=iat t (r+1+n)/\iat t (r+1+n)<=1000:=hb _ (memD 0 hnl)
  have br:0<=iat t r/\iat t r<=1000:=hb _ (memD 0 hr)
  have cP:=zcD t (r+1+n) hnl (by omega) hb
  have bq:=zf4 t (iat t (r+1+n)) (r+1+n)
  have s1:=ps n
  unfold pcS at s1
  have bl:=zeB (m:=m) (i:=r+1+n) (by omega) (by omega)
  have hni:((r+1+n:Nat):Int)<t.length:=by omega
  generalize parK t (iat t (r+1+n)) (r+1+n)=q at *
  generalize iat t (r+1+n)=x at *
  generalize iat t r=y at *
  generalize hi:r+1+n=i at *
  generalize hg1:G (n+1)=g1 at *
  generalize G n=g at *
  obtain ⟨o,B⟩:=g
  simp only at g1 g2 s1
  simp [go_sem,hni]
  refine CallVC.of (cP) ?_
  simp [go_sem]
  have hw:IntKind.wrap .u64 (i:Int)=i:=zcp (by omega) (by omega)
  by_cases h1:(r:Int)<=q
  .obtain ⟨k,rfl⟩:∃ k:Nat,q=k:=⟨q.toNat,by omega⟩
   rw [Int.toNat_natCast] at s1
   have gk:=zpv (L:=B) (k:=k) (by omega)
   have hkl:k<t.length:=by omega
   cases hbk:B[k]?.getD false with
   | false =>
    rw [hbk] at gk s1
    rw [if_neg (by simp)] at s1
    simp -implicitDefEqProofs [go_sem,h1,gk]
    refine ⟨hkl,⟨by omega,by omega⟩,n+1,by omega,by omega,zaa _ _ _ (by simp),?_⟩
    rw [hg1,s1]
    exact ⟨⟨rfl,rfl⟩,rfl,by omega⟩
   | true =>
    rw [hbk] at gk s1
    rcases Nat.mod_two_eq_zero_or_one (m / 2 ^ i) with h2 | h2
    .rw [h2] at bl s1
     rw [if_pos ⟨h1,rfl,rfl⟩] at s1
     simp -implicitDefEqProofs [go_sem,h1,gk,hw,bl]
     refine ⟨hkl,hnl,by omega,by kernel_rfl,?_⟩
     simp [go_sem,di,dr]
     refine ⟨⟨hnl,ng⟩,⟨hr,ng⟩,⟨by omega,by omega⟩,⟨by omega,by omega⟩,?_⟩
     refine ⟨by kernel_rfl,?_⟩
     simp [go_sem]
     refine ⟨⟨by omega,by omega⟩,n+1,by omega,by omega,zaa _ _ _ (by simp),?_⟩
     rw [hg1,s1]
     simp [avs,zlX]
     omega
    .rw [h2] at bl s1
     rw [if_neg (by simp)] at s1
     simp -implicitDefEqProofs [go_sem,h1,gk,hw,bl]
     refine ⟨hkl,⟨by omega,by omega⟩,n+1,by omega,by omega,zaa _ _ _ (by simp),?_⟩
     rw [hg1,s1]
     exact ⟨⟨rfl,rfl⟩,rfl,by omega⟩
  .rw [if_neg (fun h=>h1 h.1)] at s1
   simp -implicitDefEqProofs [go_sem,h1]
   refine ⟨⟨by omega,by omega⟩,n+1,by omega,by omega,zaa _ _ _ (by simp),?_⟩
   rw [hg1,s1]
   exact ⟨⟨rfl,rfl⟩,rfl,by omega⟩
 .have e:t.length-r-1=n:=by omega
  rw [e] at pe
  rw [pe]
  generalize r+1+n=i at *
  have hni:¬ (i:Int)<t.length:=by omega
  simp [go_sem,hni]
  refine CallVC.of (cC) ?_
  simp [go_sem]
def psL (t:List Int) (m:Nat):Nat->List (List Int)
 | 0=>[]
 | i+1=>psL t m i++if i=0\/m / 2 ^ i%2=1 then [pcV t m i] else []
theorem zhx (t:List Int) (m:Nat):∀ i,(psL t m i).length<=i
 | 0=>by simp [psL]
 | i+1=>by
  have:=zhx t m i
  unfold psL
  split <;> simp <;> omega
theorem zkU {t:List Int} {m:Nat}:∀ {i:Nat},∀ b∈psL t m i,∃ r,r<i/\b=pcV t m r
 | 0,b,h=>by simp [psL] at h
 | i+1,b,h=>by
  unfold psL at h
  rcases List.mem_append.1 h with h | h
  .obtain ⟨r,h1,h2⟩:=zkU b h
   exact ⟨r,by omega,h2⟩
  .split at h
   .exact ⟨i,by omega,by simpa using h⟩
   .simp at h
theorem zg3 (t:List Int) (m:Nat) (h0:0<t.length) (hl:t.length<=6) (hb:∀ x∈t,0<=x/\x<=1000) (hm:m<1000) (hv:∀ r,r<t.length->Lv (pcL t m r)) :
  GCon Tryz.prog 191 [.sl t.length (avs t),.int m] (.sl (psL t m t.length).length (mat (srtT (psL t m t.length)))) [.any,.any]:=by
 have cP:=fun r h=>zjB t m r h hl hb hm (hv r h)
 have c0:=cP 0 h0
 have lL:=zhx t m
 have cS:=zl9 (psL t m t.length) (fun b hb=>by
  obtain ⟨r,h1,rfl⟩:=zkU b hb
  have:=zaN 6 _ (hv r h1) (zht t m h1 hl)
  have:=zht t m h1 hl
  unfold pcV; omega) (by have:=lL t.length; omega)
 have s0:psL t m 1=[pcV t m 0]:=rfl
 have ss:∀ i,psL t m (i+1)=psL t m i++if i=0\/m / 2 ^ i%2=1 then [pcV t m i] else []:=fun _=>rfl
 generalize hL:psL t m=L at *
 generalize hV:pcV t m=V at *
 refine zai Tryz.mixed ⟨7,[30],[1000000+252],[]⟩ [] Tryz.func191 ?_
 rw [Tryz.ntmps191]
 simp [go_sem]
 refine CallVC.of (c0) ?_
 simp [go_sem]
 refine zac (5::6::List.range' 11 19) (fun i:Nat=>[(5,.own 25 (L i).length (omat (L i))),(6,.int i)]) (fun i=>1<=i/\i<=t.length) (fun i=>t.length-i) 1 (by omega) (by simp [go_sem,s0,omat]) (by simp [go_sem]) ?_
 rintro i ⟨h1,h2⟩
 have ll:=lL i
 by_cases hil:i<t.length
 .have hii:(i:Int)<t.length:=by omega
  have bl:=zeB (m:=m) (i:=i) (by omega) (by omega)
  have hw:IntKind.wrap .u64 (i:Int)=i:=zcp (by omega) (by omega)
  have s1:=ss i
  have cI:=cP i hil
  rcases Nat.mod_two_eq_zero_or_one (m / 2 ^ i) with h2 | h2
  .rw [h2] at bl s1
   rw [if_neg (by omega),List.append_nil] at s1
   simp [go_sem,hii,hw,bl]
   refine ⟨⟨by omega,by omega⟩,i+1,by omega,by omega,zaa _ _ _ (by simp),?_⟩
   rw [s1]
   exact ⟨⟨rfl,rfl⟩,by omega⟩
  .rw [h2] at bl s1
   rw [if_pos (by omega)] at s1
   simp [go_sem,hii,hw,bl]
   refine CallVC.of (cI) ?_
   simp [go_sem]
   refine ⟨⟨by omega,by omega⟩,⟨by omega,by omega⟩,i+1,by omega,by omega,zaa _ _ _ (by simp),?_⟩
   rw [s1]
   simp [omat]
 .have e:i=t.length:=by omega
  subst e
  have hii:¬ (t.length:Int)<t.length:=by omega
  simp [go_sem,hii]
  refine ⟨_,_,cS,?_⟩
  simp [go_sem]
def skN (t:List Int) (m:Nat):Nat->Int->Int->Int
 | 0,_,l=>l
 | n+1,k,l=>if 0<k then skN t m n (parK t (iat t k.toNat) k.toNat) (if m / 2 ^ k.toNat%2=1 then l+1 else l) else l
def skL (t:List Int) (m:Nat):Nat->List Int
 | 0=>[]
 | i+1=>skL t m i++if i=0 then [0] else if m / 2 ^ i%2=1 then [skN t m i (parK t (iat t i) i) 1] else []
theorem zlu (t:List Int) (m:Nat):∀ i,(skL t m i).length<=i
 | 0=>by simp [skL]
 | i+1=>by
  have:=zlu t m i
  unfold skL
  split
  .simp; omega
  .split <;> simp <;> omega
def skV (t:List Int) (m:Nat):List Int:=canF 6 (skL t m t.length)
theorem zfT (t:List Int) (m:Nat) (h0:0<t.length) (hl:t.length<=6) (hb:∀ x∈t,0<=x/\x<=1000) (hm:m<1000) (hv:Lv (skL t m t.length)) :
  Con Tryz.prog 190 [.sl t.length (avs t),.int m] (.own 2 (skV t m).length (avs (skV t m))):=by
 have lL:=zlu t m
 have cC:=zcj 6 (skL t m t.length) (by omega) hv (by have:=lL t.length; omega)
 have lV:(skV t m).length=(skL t m t.length).length:=zaN 6 _ hv (by have:=lL t.length; omega)
 rw [lV]
 rw [show canF 6 (skL t m t.length)=skV t m from rfl] at cC
 clear lV hv
 generalize skV t m=V at *
 have s0:skL t m 1=[0]:=rfl
 have ss:∀ i,1<=i->skL t m (i+1)=skL t m i++if m / 2 ^ i%2=1 then [skN t m i (parK t (iat t i) i) 1] else []:=fun i hi=>by
  show skL t m i++(if i=0 then [0] else _)=_
  rw [if_neg (by omega)]
 generalize hL:skL t m=L at *
 refine zab Tryz.mixed ⟨9,[],[],[]⟩ Tryz.func190 ?_
 rw [Tryz.ntmps190]
 simp [go_sem]
 refine zac (5::6::7::8::List.range' 10 32) (fun i:Nat=>[(5,.own 2 (L i).length (avs (L i))),(6,.int i)]) (fun i=>1<=i/\i<=t.length) (fun i=>t.length-i) 1 (by omega) (by simp [go_sem,s0,avs]) (by simp [go_sem]) ?_
 rintro i ⟨h1,h2⟩
 have ll:=lL i
 by_cases hil:i<t.length
 .have hii:(i:Int)<t.length:=by omega
  have bl:=zeB (m:=m) (i:=i) (by omega) (by omega)
  have hw:IntKind.wrap .u64 (i:Int)=i:=zcp (by omega) (by omega)
  have s1:=ss i h1
  have cI:=zcD t i hil (by omega) hb
  have bq:=zf4 t (iat t i) i
  rcases Nat.mod_two_eq_zero_or_one (m / 2 ^ i) with h2 | h2
  .rw [h2] at bl s1
   rw [if_neg (by omega),List.append_nil] at s1
   simp [go_sem,hii,hw,bl]
   refine ⟨⟨by omega,by omega⟩,i+1,by omega,by omega,zaa _ _ _ (by simp),?_⟩
   rw [s1]
   exact ⟨⟨rfl,rfl⟩,by omega⟩
  .rw [h2] at bl s1
   rw [if_pos (by omega)] at s1
   generalize hF:skN t m i (parK t (iat t i) i) 1=F at *
   generalize parK t (iat t i) i=q at *
   simp [go_sem,hii,hw,bl]
   refine CallVC.of (cI) ?_
   simp [go_sem]
   refine zac (7::8::List.range' 25 13) (fun x:Int × Int=>[(8,.int x.1),(7,.int x.2)]) (fun x=>(-1<=x.1/\x.1<i/\1<=x.2/\x.1+x.2<=i)/\∃ n:Nat,x.1<n/\skN t m n x.1 x.2=F) (fun x=>(x.1+1).toNat) (q,1) ⟨by omega,i,by omega,hF⟩ (by simp [go_sem]) (by simp [go_sem]) ?_
   rintro ⟨k,l⟩ ⟨⟨b1,b2,b3,b4⟩,n,n1,n2⟩
   simp only at b1 b2 b3 b4 n1 n2
   by_cases hk:0<k
   .obtain ⟨k,rfl⟩:∃ k':Nat,k=k':=⟨k.toNat,by omega⟩
    obtain ⟨n,rfl⟩:∃ n',n=n'+1:=⟨n-1,by omega⟩
    rw [skN,if_pos hk,Int.toNat_natCast] at n2
    have hkl:k<t.length:=by omega
    have hk2:0<k:=by omega
    have cK:=zcD t k hkl (by omega) hb
    have bk:=zf4 t (iat t k) k
    have bl2:=zeB (m:=m) (i:=k) (by omega) (by omega)
    have hw2:IntKind.wrap .u64 (k:Int)=k:=zcp (by omega) (by omega)
    generalize parK t (iat t k) k=q2 at *
    rcases Nat.mod_two_eq_zero_or_one (m / 2 ^ k) with h3 | h3
    .rw [h3] at bl2 n2
     rw [if_neg (by omega)] at n2
     simp [go_sem,hk2,hw2,bl2]
     refine CallVC.of (cK) ?_
     simp [go_sem]
     exact ⟨q2,l,⟨by omega,n,by omega,n2⟩,by omega,zaa _ _ _ (by simp),by simp⟩
    .rw [h3] at bl2 n2
     rw [if_pos rfl] at n2
     simp [go_sem,hk2,hw2,bl2]
     refine ⟨⟨by omega,by omega⟩,?_⟩
     refine CallVC.of (cK) ?_
     simp [go_sem]
     exact ⟨q2,l+1,⟨by omega,n,by omega,n2⟩,by omega,zaa _ _ _ (by simp),by simp⟩
   .have hF2:l=F:=by
     cases n with
     | zero=>exact n2
     | succ n=>rw [skN,if_neg hk] at n2; exact n2
    subst hF2
    simp [go_sem,hk]
    refine ⟨⟨by omega,by omega⟩,⟨by omega,by omega⟩,i+1,by omega,by omega,(Off.reset (by intro x hx; simp at hx |-; omega) (by simp) (by simp [go_sem,zaa])),?_⟩
    rw [s1]
    simp [avs]
 .have e:i=t.length:=by omega
  subst e
  have hii:¬ (t.length:Int)<t.length:=by omega
  simp [go_sem,hii]
  refine CallVC.of (cC) ?_
  simp [go_sem]
end Go.Proofs.YthhdollpkieknaaGreat


namespace Go.Proofs.YthhdollpkieknaaGreat
open Go.Abs
end Go.Proofs.YthhdollpkieknaaGreat


namespace Go.Proofs.YthhdollpkieknaaGreat
open Go.Abs
end Go.Proofs.YthhdollpkieknaaGreat


namespace Go.Proofs.YthhdollpkieknaaGreat
open Go.Abs
end Go.Proofs.YthhdollpkieknaaGreat


namespace Go.Proofs.YthhdollpkieknaaGreat
open Go.Abs
end Go.Proofs.YthhdollpkieknaaGreat


namespace Go.Proofs.YthhdollpkieknaaGreat
open Go.Abs
end Go.Proofs.YthhdollpkieknaaGreat


namespace Go.Proofs.YthhdollpkieknaaGreat
open Go.Abs
end Go.Proofs.YthhdollpkieknaaGreat


namespace Go.Proofs.YthhdollpkieknaaGreat
open Go.Abs
end Go.Proofs.YthhdollpkieknaaGreat


namespace Go.Proofs.YthhdollpkieknaaGreat
open Go.Abs
end Go.Proofs.YthhdollpkieknaaGreat


namespace Go.Proofs.YthhdollpkieknaaGreat
open Go.Abs
end Go.Proofs.YthhdollpkieknaaGreat


namespace Go.Proofs.YthhdollpkieknaaGreat
open Go.Abs
end Go.Proofs.YthhdollpkieknaaGreat


namespace Go.Proofs.YthhdollpkieknaaGreat
open Go.Abs CR
abbrev c7:Cg (Ser Int):=cgS cgI 7
section
variable {α:Type} [CR α]
end
end Go.Proofs.YthhdollpkieknaaGreat


namespace Go.Proofs.YthhdollpkieknaaGreat
open Go.Abs
end Go.Proofs.YthhdollpkieknaaGreat


namespace Go.Proofs.YthhdollpkieknaaGreat
open Go.Abs
theorem zmD {k:Nat} (h:0<k) (t:List Int):genT k t≠[]:=by
 cases k with
 | zero=>omega
 | succ k=>simp [genT]
theorem zjF (n:Nat) (h1:1<=n) (h6:n<=6):Con Tryz.prog 215 [.int n] (.own 25 (genT 200 (upTo n)).length (omat (genT 200 (upTo n)))):=by
 have c:=zgK n h6 (n-1) [0] [] ⟨by simp,by simp,fun j h1 h2=>by simp at h2; omega⟩ (by simp; omega) (by
  have:=Nat.pow_le_pow_right (n:=6) (by omega) (show n-1<=6 by omega)
  simp only [List.length_nil]; omega)
 rw [<- (ze3 n h1 h6).2.1] at c
 have hp:=zmD (k:=200) (by omega) (upTo n)
 generalize genT 200 (upTo n)=G at *
 cases G with
 | nil=>exact (hp rfl).elim
 | cons r G =>
  refine zab Tryz.mixed ⟨3,[],[272],[]⟩ Tryz.func215 ?_
  rw [Tryz.ntmps215]
  simp [go_sem]
  refine ⟨_,_,c,?_⟩
  simp [go_sem]
end Go.Proofs.YthhdollpkieknaaGreat


namespace Go.Proofs.YthhdollpkieknaaGreat
open Go.Abs
def bys (c:List Int):List AV:=c.map fun x=>.val (.int .u8 x)
@[simp] theorem zrW (c:List Int):(bys c).length=c.length:=by simp [bys]
theorem zdS {c:List Int} {k:Nat} (h:k<c.length):(bys c).drop k=.val (.int .u8 (c[k]?.getD 0))::bys (c.drop (k+1)):=by
 rw [bys,<- List.map_drop,List.drop_eq_getElem_cons h,List.map_cons]; simp [h,bys]
def Byt (c:List Int):Prop:=c.length<=4096/\∀ x∈c,0<=x/\x<=255
theorem Byt.get {c:List Int} (h:Byt c) (k:Nat):0<=c[k]?.getD 0/\c[k]?.getD 0<=255:=by
 rcases Nat.lt_or_ge k c.length with hk | hk
 .simp [hk]; exact h.2 _ (List.getElem_mem hk)
 .simp [hk]
abbrev Src:=Nat × Int
def srcA (c:List Int) (σ:Src):AV:=.box 162 [.sl c.length (bys c),.int σ.1,.val (.int .u64 σ.2)]
theorem zas (c:List Int) (σ:Src):srcA c σ=.box 162 [.sl c.length (bys c),.int σ.1,.val (.int .u64 σ.2)]:=rfl
def dicA (c:List Int) (σ:Src):AV:=.box 117 [.sl c.length (bys c),.int σ.1,.val (.int .u64 σ.2)]
def nxH (h:Int):Int:=IntKind.u64.wrap (IntKind.u64.wrap (h*6364136223846793005)+1442695040888963407)
def nxX (h:Int):Int:=andI IntKind.u64 (shrI IntKind.u64 (nxH h) 33) 16777215
def byV (c:List Int) (k:Nat):Int:=if k<c.length then c[k]?.getD 0 else 0
def nx1 (c:List Int) (σ:Src) (n:Int):Int:=if n<1 then 0 else (nxX σ.2+byV c σ.1).tmod n
def nx2 (c:List Int) (σ:Src) (n:Int):Src:=if n<1 then σ else (if σ.1<c.length then σ.1+1 else σ.1,nxH σ.2)
def SOk (σ:Src):Prop:=σ.1<=4096
theorem zaw {c:List Int} (hc:Byt c) {σ:Src} (h:SOk σ) (n:Int):SOk (nx2 c σ n):=by
 unfold SOk nx2 at *
 have:=hc.1
 split
 .exact h
 .simp only; split <;> omega
theorem zpw (h:Int):0<=nxX h/\nxX h<=16777215:=by
 unfold nxX andI
 generalize shrI IntKind.u64 (nxH h) 33=y
 have h1:(BitVec.ofInt IntKind.u64.bits y &&& BitVec.ofInt IntKind.u64.bits 16777215).toNat<=16777215:=by
  rw [BitVec.toNat_and]
  exact Nat.le_trans Nat.and_le_right (by decide)
 generalize (BitVec.ofInt IntKind.u64.bits y &&& BitVec.ofInt IntKind.u64.bits 16777215).toNat=m at *
 simp [IntKind.wrap,IntKind.signed,IntKind.bits]
 omega
theorem zpl {c:List Int} (hc:Byt c) (k:Nat):0<=byV c k/\byV c k<=255:=by
 unfold byV
 split
 .exact hc.get k
 .omega
theorem zgf {c:List Int} (hc:Byt c) (σ:Src) {n:Int} (hn:1<=n):0<=nx1 c σ n/\nx1 c σ n<n:=by
 have h1:=zpw σ.2
 have h2:=zpl hc σ.1
 unfold nx1
 rw [if_neg (by omega),Int.tmod_eq_emod_of_nonneg (by omega)]
 exact ⟨Int.emod_nonneg _ (by omega),Int.emod_lt_of_pos _ (by omega)⟩
theorem zak (c:List Int) (σ:Src) (n:Int) (hc:Byt c) (hs:SOk σ):GCon Tryz.prog 183 [srcA c σ,.int n] (.int (nx1 c σ n)) [srcA c (nx2 c σ n),.any]:=by
 have hx:=zpw σ.2
 have hy:=zpl hc σ.1
 have hcl:=hc.1
 unfold SOk at hs
 unfold nx1 nx2
 by_cases h0:n<1
 .rw [if_pos h0,if_pos h0]
  unfold srcA
  refine zai Tryz.mixed ⟨6,[],[],[]⟩ [0] Tryz.func183 ?_
  rw [Tryz.ntmps183]
  simp [go_sem]
  simp [go_sem,h0]
 .rw [if_neg h0,if_neg h0]
  unfold srcA
  have e1:nxH σ.2=IntKind.u64.wrap (IntKind.u64.wrap (σ.2*6364136223846793005)+1442695040888963407):=rfl
  have e2:nxX σ.2=andI IntKind.u64 (shrI IntKind.u64 (nxH σ.2) 33) 16777215:=rfl
  generalize nxX σ.2=x at *
  generalize nxH σ.2=h' at *
  have n0:¬ n=0:=by omega
  by_cases hk:σ.1<c.length
  .have hb:byV c σ.1=c[σ.1]?.getD 0:=by unfold byV; rw [if_pos hk]
   have hne:¬ c=[]:=by rintro rfl; simp at hk
   rw [if_pos hk]
   rw [hb] at hy |-
   refine zai Tryz.mixed ⟨6,[],[],[]⟩ [0] Tryz.func183 ?_
   rw [Tryz.ntmps183]
   simp [go_sem]
   simp [go_sem,h0,<- e1,<- e2]
   refine ⟨⟨by omega,by omega⟩,by kernel_rfl,?_⟩
   refine ⟨by kernel_rfl,?_⟩
   simp [go_sem]
   have hD:=zdS hk
   generalize c[σ.1]?.getD 0=b at *
   simp [go_sem,hk,hD]
   refine ⟨by kernel_rfl,by intro e; exact hne (by simpa [bys] using e),⟨by omega,by omega⟩,⟨by omega,by omega⟩,?_⟩
   refine ⟨by kernel_rfl,?_⟩
   simp [go_sem]
   exact ⟨⟨by omega,by omega⟩,n0⟩
  .have hb:byV c σ.1=0:=by unfold byV; rw [if_neg hk]
   rw [if_neg hk]
   rw [hb] at hy |-
   refine zai Tryz.mixed ⟨6,[],[],[]⟩ [0] Tryz.func183 ?_
   rw [Tryz.ntmps183]
   simp [go_sem]
   simp [go_sem,h0,<- e1,<- e2]
   refine ⟨⟨by omega,by omega⟩,by kernel_rfl,?_⟩
   refine ⟨by kernel_rfl,?_⟩
   simp [go_sem]
   simp [go_sem,hk]
   exact n0
theorem zg7 (c:List Int) (σ:Src) (n:Int) (hc:Byt c) (hs:SOk σ):GCon Tryz.prog 109 [dicA c σ,.int n] (.int (nx1 c σ n)) [dicA c (nx2 c σ n),.any]:=by
 have hx:=zpw σ.2
 have hy:=zpl hc σ.1
 have hcl:=hc.1
 unfold SOk at hs
 unfold nx1 nx2
 by_cases h0:n<1
 .rw [if_pos h0,if_pos h0]
  unfold dicA
  refine zai Tryz.mixed ⟨6,[],[],[]⟩ [0] Tryz.func109 ?_
  rw [Tryz.ntmps109]
  simp [go_sem]
  simp [go_sem,h0]
 .rw [if_neg h0,if_neg h0]
  unfold dicA
  have e1:nxH σ.2=IntKind.u64.wrap (IntKind.u64.wrap (σ.2*6364136223846793005)+1442695040888963407):=rfl
  have e2:nxX σ.2=andI IntKind.u64 (shrI IntKind.u64 (nxH σ.2) 33) 16777215:=rfl
  generalize nxX σ.2=x at *
  generalize nxH σ.2=h' at *
  have n0:¬ n=0:=by omega
  by_cases hk:σ.1<c.length
  .have hb:byV c σ.1=c[σ.1]?.getD 0:=by unfold byV; rw [if_pos hk]
   have hne:¬ c=[]:=by rintro rfl; simp at hk
   rw [if_pos hk]
   rw [hb] at hy |-
   refine zai Tryz.mixed ⟨6,[],[],[]⟩ [0] Tryz.func109 ?_
   rw [Tryz.ntmps109]
   simp [go_sem]
   simp [go_sem,h0,<- e1,<- e2]
   refine ⟨⟨by omega,by omega⟩,by kernel_rfl,?_⟩
   refine ⟨by kernel_rfl,?_⟩
   simp [go_sem]
   have hD:=zdS hk
   generalize c[σ.1]?.getD 0=b at *
   simp [go_sem,hk,hD]
   refine ⟨by kernel_rfl,by intro e; exact hne (by simpa [bys] using e),⟨by omega,by omega⟩,⟨by omega,by omega⟩,?_⟩
   refine ⟨by kernel_rfl,?_⟩
   simp [go_sem]
   exact ⟨⟨by omega,by omega⟩,n0⟩
  .have hb:byV c σ.1=0:=by unfold byV; rw [if_neg hk]
   rw [if_neg hk]
   rw [hb] at hy |-
   refine zai Tryz.mixed ⟨6,[],[],[]⟩ [0] Tryz.func109 ?_
   rw [Tryz.ntmps109]
   simp [go_sem]
   simp [go_sem,h0,<- e1,<- e2]
   refine ⟨⟨by omega,by omega⟩,by kernel_rfl,?_⟩
   refine ⟨by kernel_rfl,?_⟩
   simp [go_sem]
   simp [go_sem,hk]
   exact n0
theorem getI {xs:List Int} {v:Int} (h0:0<=v) (h1:v<xs.length):∃ k:Nat,v=k/\k<xs.length/\v.toNat=k:=⟨v.toNat,by omega,by omega,rfl⟩
def pk (c:List Int) (σ:Src) (xs:List Int):Int:=xs[(nx1 c σ xs.length).toNat]?.getD 0
theorem zqi (c:List Int) (hc:Byt c) (σ:Src) {xs:List Int} (hx:0<xs.length):pk c σ xs∈xs:=by
 have h:=zgf hc σ (n:=xs.length) (by omega)
 unfold pk
 have hk:(nx1 c σ xs.length).toNat<xs.length:=by omega
 simp [hk]
theorem zbG (c:List Int) (σ:Src) (xs:List Int) (hc:Byt c) (hs:SOk σ) (hx:0<xs.length) (hxl:xs.length<=1000) :
  GCon Tryz.prog 98 [srcA c σ,.own 2 xs.length (avs xs)] (.int (pk c σ xs)) [srcA c (nx2 c σ xs.length),.any]:=by
 have cN:=zak c σ xs.length hc hs
 have hb:=zgf hc σ (n:=xs.length) (by omega)
 unfold pk
 obtain ⟨k,hk,hkl,hkt⟩:=getI hb.1 hb.2
 rw [hkt]
 rw [hk] at cN
 unfold srcA at *
 refine zai Tryz.mixed ⟨5,[],[1000000+183],[]⟩ [0] Tryz.func98 ?_
 rw [Tryz.ntmps98]
 simp [go_sem]
 refine ⟨_,_,cN,?_⟩
 simp [go_sem]
 have hA:=zca hkl
 simp [go_sem,hA]
 exact hkl
theorem zl2 (p q:Int) (hp:fits p) (hq:fits q):Con Tryz.prog 209 [.int p,.int q] (.int (p%10007*pw (q%10007) 10005%10007)):=by
 have hf:fits (p%10007*pw (q%10007) 10005):=zaS (zaG _) (zaG _)
 refine zab Tryz.mixed ⟨5,[],[],[]⟩ Tryz.func209 ?_
 rw [Tryz.ntmps209]
 simp [go_sem]
 refine CallVC.of (zdI p hp.1 hp.2) ?_
 simp [go_sem]
 refine CallVC.of (zdI q hq.1 hq.2) ?_
 simp [go_sem]
 refine CallVC.of (znU _ (zaG q)) ?_
 simp [go_sem]
 refine CallVC.of (zcU _ _ hf) ?_
 simp [go_sem]
def nbV (c:List Int) (σ:Src):Int × Src :=
 if nx1 c σ 5=0 then (nx1 c (nx2 c σ 5) 10007,nx2 c (nx2 c σ 5) 10007)
 else if nx1 c σ 5=1 then (pk c (nx2 c σ 5) [0,1,0,1,10006,2],nx2 c (nx2 c σ 5) 6)
 else ((nx1 c (nx2 c σ 5) 15-7)%10007*pw ((1+nx1 c (nx2 c (nx2 c σ 5) 15) 12)%10007) 10005%10007,nx2 c (nx2 c (nx2 c σ 5) 15) 12)
theorem zlI {c:List Int} (hc:Byt c) {σ:Src} (hs:SOk σ):isN (nbV c σ).1/\SOk (nbV c σ).2:=by
 have s1:=zaw hc hs 5
 unfold nbV
 split
 .exact ⟨zgf hc (nx2 c σ 5) (n:=10007) (by omega),zaw hc s1 _⟩
 .split
  .refine ⟨?_,zaw hc s1 _⟩
   have:=zqi c hc (nx2 c σ 5) (xs:=[0,1,0,1,10006,2]) (by simp)
   simp at this
   simp only
   constructor <;> omega
  .exact ⟨zaG _,zaw hc (zaw hc s1 _) _⟩
theorem zd6 (c:List Int) (σ:Src) (hc:Byt c) (hs:SOk σ):GCon Tryz.prog 184 [srcA c σ] (.int (nbV c σ).1) [srcA c (nbV c σ).2]:=by
 have s1:=zaw hc hs 5
 have s2:=zaw hc s1 15
 have c1:=zak c σ 5 hc hs
 have c2:=zak c (nx2 c σ 5) 10007 hc s1
 have c3:=zbG c (nx2 c σ 5) [0,1,0,1,10006,2] hc s1 (by simp) (by simp)
 have c4:=zak c (nx2 c σ 5) 15 hc s1
 have c5:=zak c (nx2 c (nx2 c σ 5) 15) 12 hc s2
 have b4:=zgf hc (nx2 c σ 5) (n:=15) (by omega)
 have b5:=zgf hc (nx2 c (nx2 c σ 5) 15) (n:=12) (by omega)
 have c6:=zl2 (nx1 c (nx2 c σ 5) 15-7) (1+nx1 c (nx2 c (nx2 c σ 5) 15) 12) ⟨by omega,by omega⟩ ⟨by omega,by omega⟩
 unfold nbV
 have e3:(([0,1,0,1,10006,2]:List Int).length:Int)=6:=rfl
 rw [e3] at c3
 generalize pk c (nx2 c σ 5) [0,1,0,1,10006,2]=pv at *
 generalize nx1 c (nx2 c (nx2 c σ 5) 15) 12=v5 at *
 generalize nx2 c (nx2 c (nx2 c σ 5) 15) 12=t5 at *
 generalize nx1 c (nx2 c σ 5) 15=v4 at *
 generalize nx2 c (nx2 c σ 5) 15=t4 at *
 generalize nx2 c (nx2 c σ 5) 6=t3 at *
 generalize nx1 c (nx2 c σ 5) 10007=v2 at *
 generalize nx2 c (nx2 c σ 5) 10007=t2 at *
 generalize nx1 c σ 5=v1 at *
 generalize nx2 c σ 5=t1 at *
 unfold srcA at *
 by_cases h0:v1=0
 .rw [if_pos h0]
  refine zai Tryz.mixed ⟨3,[],[1000000+183,1000000+98],[]⟩ [0] Tryz.func184 ?_
  rw [Tryz.ntmps184]
  simp [go_sem]
  refine ⟨_,_,c1,?_⟩
  simp [go_sem]
  simp [go_sem,h0]
  refine ⟨_,_,c2,?_⟩
  simp [go_sem]
 .rw [if_neg h0]
  by_cases h1:v1=1
  .rw [if_pos h1]
   refine zai Tryz.mixed ⟨3,[],[1000000+183,1000000+98],[]⟩ [0] Tryz.func184 ?_
   rw [Tryz.ntmps184]
   simp [go_sem]
   refine ⟨_,_,c1,?_⟩
   simp [go_sem]
   simp [go_sem,h0,h1]
   refine ⟨_,_,c3,?_⟩
   simp [go_sem]
  .rw [if_neg h1]
   refine zai Tryz.mixed ⟨3,[],[1000000+183,1000000+98],[]⟩ [0] Tryz.func184 ?_
   rw [Tryz.ntmps184]
   simp [go_sem]
   refine ⟨_,_,c1,?_⟩
   simp [go_sem]
   simp [go_sem,h0,h1]
   refine ⟨_,_,c4,?_⟩
   simp [go_sem]
   refine ⟨⟨by omega,by omega⟩,?_⟩
   refine ⟨_,_,c5,?_⟩
   simp [go_sem]
   refine ⟨⟨by omega,by omega⟩,?_⟩
   refine CallVC.of (c6) ?_
   simp [go_sem]
theorem zqs (n:Int) (h0 : -9223372036854775808<=n) (h1:n<=9223372036854775807):Con Tryz.prog 37 [.int n] (.int (n%10007)):=by
 have e:=zhG n
 have b:=zhK n
 refine zab Tryz.mixed ⟨3,[],[],[]⟩ Tryz.func37 ?_
 rw [Tryz.ntmps37]
 simp [go_sem]
 simp [go_sem,e]
 omega
def n5V (c:List Int) (σ:Src):Int × Src :=
 if nx1 c σ 2=0 then (nx1 c (nx2 c σ 2) 10007,nx2 c (nx2 c σ 2) 10007)
 else ((nx1 c (nx2 c σ 2) 9-4)%10007,nx2 c (nx2 c σ 2) 9)
theorem zqP {c:List Int} (hc:Byt c) {σ:Src} (hs:SOk σ):isN (n5V c σ).1/\SOk (n5V c σ).2:=by
 have s1:=zaw hc hs 2
 unfold n5V
 split
 .exact ⟨zgf hc (nx2 c σ 2) (n:=10007) (by omega),zaw hc s1 _⟩
 .exact ⟨zaG _,zaw hc s1 _⟩
theorem zkT (c:List Int) (σ:Src) (hc:Byt c) (hs:SOk σ):GCon Tryz.prog 34 [dicA c σ] (.int (n5V c σ).1) [dicA c (n5V c σ).2]:=by
 have s1:=zaw hc hs 2
 have c1:=zg7 c σ 2 hc hs
 have c2:=zg7 c (nx2 c σ 2) 10007 hc s1
 have c4:=zg7 c (nx2 c σ 2) 9 hc s1
 have b4:=zgf hc (nx2 c σ 2) (n:=9) (by omega)
 have c6:=zqs (nx1 c (nx2 c σ 2) 9-4) (by omega) (by omega)
 unfold n5V
 generalize nx1 c (nx2 c σ 2) 9=v4 at *
 generalize nx2 c (nx2 c σ 2) 9=t4 at *
 generalize nx1 c (nx2 c σ 2) 10007=v2 at *
 generalize nx2 c (nx2 c σ 2) 10007=t2 at *
 generalize nx1 c σ 2=v1 at *
 generalize nx2 c σ 2=t1 at *
 unfold dicA at *
 by_cases h0:v1=0
 .rw [if_pos h0]
  refine zai Tryz.mixed ⟨3,[],[1000000+109],[]⟩ [0] Tryz.func34 ?_
  rw [Tryz.ntmps34]
  simp [go_sem]
  refine ⟨_,_,c1,?_⟩
  simp [go_sem]
  simp [go_sem,h0]
  refine ⟨_,_,c2,?_⟩
  simp [go_sem]
 .rw [if_neg h0]
  refine zai Tryz.mixed ⟨3,[],[1000000+109],[]⟩ [0] Tryz.func34 ?_
  rw [Tryz.ntmps34]
  simp [go_sem]
  refine ⟨_,_,c1,?_⟩
  simp [go_sem]
  simp [go_sem,h0]
  refine ⟨_,_,c4,?_⟩
  simp [go_sem]
  refine ⟨⟨by omega,by omega⟩,?_⟩
  refine CallVC.of (c6) ?_
  simp [go_sem]
def lsV (f:Src->Int × Src):Nat->Src->List Int × Src
 | 0,σ=>([],σ)
 | n+1,σ=>((f σ).1::(lsV f n (f σ).2).1,(lsV f n (f σ).2).2)
theorem znX {f:Src->Int × Src} (hf:∀ σ,SOk σ->isN (f σ).1/\SOk (f σ).2):∀ (n:Nat) (σ:Src),SOk σ->(lsV f n σ).1.length=n/\Ns (lsV f n σ).1/\SOk (lsV f n σ).2
 | 0,σ,h=>⟨rfl,by simp [lsV,Ns],h⟩
 | n+1,σ,h=>by
  have h1:=hf σ h
  have h2:=znX hf n _ h1.2
  refine ⟨by simp [lsV,h2.1],fun x hx=>?_,h2.2.2⟩
  rcases List.mem_cons.1 hx with rfl | hx
  .exact h1.1
  .exact h2.2.1 x hx
theorem zj1 (c:List Int) (σ:Src) (n:Nat) (hc:Byt c) (hs:SOk σ) (hn:n<=100000) :
  GCon Tryz.prog 221 [srcA c σ,.int n] (.own 2 n (avs (lsV (nbV c) n σ).1)) [srcA c (lsV (nbV c) n σ).2,.any]:=by
 unfold srcA
 refine zai Tryz.mixed ⟨6,[],[1000000+184],[]⟩ [0] Tryz.func221 ?_
 rw [Tryz.ntmps221]
 simp [go_sem]
 refine zac (0::1::5::List.range' 7 9) (fun x:List Int × Src × Nat=>[(0,.box 162 [.sl c.length (bys c),.int x.2.1.1,.val (.int .u64 x.2.1.2)]),(1,.int x.2.2),(5,.own 2 x.1.length (avs x.1))]) (fun x=>SOk x.2.1/\x.1.length+x.2.2=n/\x.1++(lsV (nbV c) x.2.2 x.2.1).1=(lsV (nbV c) n σ).1/\(lsV (nbV c) x.2.2 x.2.1).2=(lsV (nbV c) n σ).2) (fun x=>x.2.2) ([],σ,n) ⟨hs,by simp,rfl,rfl⟩ (by simp [go_sem,avs]) (by simp [go_sem]) ?_
 rintro ⟨acc,τ,k⟩ ⟨h1,h2,h3,h4⟩
 simp only at h1 h2 h3 h4
 simp [go_sem]
 refine ⟨fun h=>?_,fun h=>?_⟩ <;> simp at h
 .obtain ⟨j,rfl⟩:∃ j,k=j+1:=⟨k-1,by omega⟩
  have cN:=zd6 c τ hc h1
  have hok:=zlI hc h1
  unfold srcA at cN
  simp only [lsV] at h3 h4
  generalize nbV c τ=r at *
  simp [go_sem]
  refine ⟨_,_,cN,?_⟩
  simp [go_sem]
  refine ⟨⟨by omega,by omega⟩,by omega,acc++[r.1],r.2.1,r.2.2,j,⟨hok.2,by simp; omega,by simpa using h3,h4⟩,by omega,zaa _ _ _ (by simp),?_⟩
  simp [avs]
 .have e:k=0:=by omega
  subst e
  simp only [lsV,List.append_nil] at h3 h4
  simp [go_sem]
  rw [<- h3,<- h4]
  simp at h2
  simp [h2]
theorem zlG (c:List Int) (hc:Byt c):RCon Tryz.prog 96 [.sl c.length (bys c)] (fun r o=>o=[.any]/\∃ h,r=srcA c (0,h)):=by
 have hcl:=hc.1
 unfold srcA
 refine zbq Tryz.mixed ⟨5,[],[],[]⟩ [] Tryz.func96 ?_
 rw [Tryz.ntmps96]
 simp [go_sem]
 refine zac (3::4::List.range' 12 25) (fun x:Nat × Int=>[(3,.box 162 [.sl c.length (bys c),.int 0,.val (.int .u64 x.2)]),(4,.int x.1)]) (fun x=>x.1<=c.length) (fun x=>c.length-x.1) (0,IntKind.u64.wrap (5381+IntKind.u64.wrap c.length)) (by simp) (by simp [go_sem]) (by simp [go_sem]) ?_
 rintro ⟨i,h⟩ hi
 simp only at hi
 by_cases hic:i<c.length
 .have h4:(i:Int)<4096:=by omega
  have hne:¬ c=[]:=by rintro rfl; simp at hic
  have hD:=zdS hic
  have hb:=hc.get i
  generalize c[i]?.getD 0=b at *
  simp [go_sem,hic,h4,hD]
  refine ⟨by kernel_rfl,by intro e; exact hne (by simpa [bys] using e),?_⟩
  refine ⟨by kernel_rfl,?_⟩
  simp [go_sem]
  exact ⟨⟨by omega,by omega⟩,i+1,by omega,by omega,zaa _ _ _ (by simp),by omega⟩
 .simp [go_sem,hic]
theorem zcy (a b:List Int) (ha:a.length<=9223372036854775807):Con Tryz.prog 22 [.sl a.length (avs a),.sl b.length (avs b)] (.bool (decide (a=b))):=by
 by_cases hl:a.length=b.length
 .refine zab Tryz.mixed ⟨6,[],[],[]⟩ Tryz.func22 ?_
  rw [Tryz.ntmps22]
  simp [go_sem]
  simp [go_sem,hl]
  refine zac (4::5::List.range' 11 15) (fun i:Nat=>[(5,.int i)]) (fun i=>i<=a.length/\∀ j,j<i->a[j]?.getD 0=b[j]?.getD 0) (fun i=>a.length-i) 0 (by simp) (by simp [go_sem]) (by simp [go_sem]) ?_
  rintro i ⟨hi,hj⟩
  simp [go_sem]
  refine ⟨fun h=>?_,fun h=>?_⟩ <;> simp at h
  .have hia:i<a.length:=by omega
   have hib:i<b.length:=by omega
   have na:¬ a=[]:=by rintro rfl; simp at hia
   have nb:¬ b=[]:=by rintro rfl; simp at hib
   simp [go_sem,zaq hia,zaq hib]
   refine ⟨by kernel_rfl,⟨hib,na⟩,⟨hib,nb⟩,?_⟩
   refine ⟨by kernel_rfl,?_⟩
   simp [go_sem]
   refine ⟨fun h2=>?_,fun h2=>?_⟩ <;> simp at h2
   .have e:¬ a=b:=fun e=>h2 (by rw [e])
    simp [go_sem,e]
   .simp [go_sem]
    refine ⟨by omega,i+1,⟨by omega,fun j hj2=>?_⟩,by omega,zaa _ _ _ (by simp),by omega⟩
    rcases Nat.lt_or_ge j i with h3 | h3
    .exact hj j h3
    .have:j=i:=by omega
     subst this
     exact h2
  .have e:a=b:=by
    refine List.ext_getElem hl fun k h1 h2=>?_
    have:=hj k (by omega)
    simpa [h1,h2] using this
   simp [go_sem,e]
 .have e:¬ a=b:=fun e=>hl (by rw [e])
  have hl2:¬ (a.length:Int)=b.length:=by omega
  refine zab Tryz.mixed ⟨6,[],[],[]⟩ Tryz.func22 ?_
  rw [Tryz.ntmps22]
  simp [go_sem]
  simp [go_sem,hl2,e]
end Go.Proofs.YthhdollpkieknaaGreat


namespace Go.Proofs.YthhdollpkieknaaGreat
open Go.Abs
theorem zng (n:Nat) (hn:n<=6):Con Tryz.prog 130 [.int n] (.own 25 (trN n).length (omat (trN n))):=by
 refine zab Tryz.mixed ⟨5,[],[],[]⟩ Tryz.func130 ?_
 rw [Tryz.ntmps130]
 simp [go_sem]
 refine zac ([3,4]++List.range' 6 9) (fun i:Nat=>[(3,.own 25 (trN i).length (omat (trN i))),(4,.int (i+1))]) (fun i=>i<=n) (fun i=>n-i) 0 (by simp) (by simp [go_sem,trN,omat]) (by simp [go_sem]) ?_
 intro i hi
 have l0:=zfC i (by omega)
 by_cases hin:i<n
 .have hii:(i:Int)+1<=n:=by omega
  have cT:=zjF (i+1) (by omega) (by omega)
  have l1:=zfC (i+1) (by omega)
  have ts:=ziG i
  have tl:=congrArg List.length ts
  rw [List.length_append] at tl
  have ot:omat (trN (i+1))=omat (trN i)++omat (genT 200 (upTo (i+1))):=by rw [ts]; simp [omat]
  have ec:((i+1:Nat):Int)=(i:Int)+1:=by omega
  rw [ec] at cT
  generalize genT 200 (upTo (i+1))=G at *
  simp [go_sem,hii]
  refine CallVC.of (cT) ?_
  simp [go_sem]
  exact ⟨⟨by omega,by omega⟩,⟨by omega,by omega⟩,i+1,by omega,by omega,zaa _ _ _ (by simp),by rw [tl,ot]; exact ⟨rfl,rfl⟩,by omega⟩
 .have e:i=n:=by omega
  subst e
  have hii:¬ (i:Int)+1<=i:=by omega
  simp [go_sem,hii]
def fdL:List (List Int)->List Int->Nat->Int
 | [],_,_ => -1
 | x::L,t,i=>if x=t then (i:Int) else fdL L t (i+1)
theorem zlN (L:List (List Int)) (t:List Int) (hL:L.length<=1048576) (hr:∀ r∈L,r.length<=1048576):Con Tryz.prog 189 [.sl L.length (mat L),.sl t.length (avs t)] (.int (fdL L t 0)):=by
 refine zab Tryz.mixed ⟨6,[],[],[]⟩ Tryz.func189 ?_
 rw [Tryz.ntmps189]
 simp [go_sem]
 refine zac (4::5::List.range' 6 13) (fun i:Nat=>[(5,.int i)]) (fun i=>i<=L.length/\fdL L t 0=fdL (L.drop i) t i) (fun i=>L.length-i) 0 (by simp) (by simp [go_sem]) (by simp [go_sem]) ?_
 rintro i ⟨hi,he⟩
 by_cases h:i<L.length
 .have hii:(i:Int)<L.length:=by omega
  have ne:¬ L=[]:=by rintro rfl; simp at h
  have md:=zat h
  have cS:=zgU (L[i]?.getD []) t (by have:=hr _ (memD [] h); omega)
  have dl:L.drop i=L[i]?.getD []::L.drop (i+1):=by rw [List.drop_eq_getElem_cons h]; simp [h]
  rw [dl,fdL] at he
  generalize L[i]?.getD []=r at *
  by_cases hrt:r=t
  .rw [if_pos hrt] at he
   subst hrt
   simp only [decide_true] at cS
   simp [go_sem,hii,md]
   refine ⟨ne,?_⟩
   refine CallVC.of (cS) ?_
   simp [go_sem]
   exact he.symm
  .rw [if_neg hrt] at he
   simp only [hrt,decide_false] at cS
   simp [go_sem,hii,md]
   refine ⟨ne,?_⟩
   refine CallVC.of (cS) ?_
   simp [go_sem]
   exact ⟨⟨by omega,by omega⟩,i+1,⟨by omega,he⟩,by omega,zaa _ _ _ (by simp),by omega⟩
 .have e:i=L.length:=by omega
  subst e
  have hii:¬ (L.length:Int)<L.length:=by omega
  rw [List.drop_length,fdL] at he
  rw [he]
  simp [go_sem,hii]
end Go.Proofs.YthhdollpkieknaaGreat


namespace Go.Proofs.YthhdollpkieknaaGreat
open Go.Abs
theorem zi0 (a:List Int) (ha:a.length<=9223372036854775807):Con Tryz.prog 188 [.sl a.length (avs a)] (.bool (mapB a)):=by
 have cN:=zgo a ha
 unfold mapB
 by_cases h:a.length=38
 .have hi:(a.length:Int)=38:=by omega
  rw [decide_eq_true h]
  refine zab Tryz.mixed ⟨3,[],[],[]⟩ Tryz.func188 ?_
  rw [Tryz.ntmps188]
  simp [go_sem,hi]
  refine CallVC.of (cN) ?_
  simp [go_sem]
 .have hi:¬ (a.length:Int)=38:=by omega
  rw [decide_eq_false h]
  refine zab Tryz.mixed ⟨3,[],[],[]⟩ Tryz.func188 ?_
  rw [Tryz.ntmps188]
  simp [go_sem,hi]
end Go.Proofs.YthhdollpkieknaaGreat


namespace Go.Proofs.YthhdollpkieknaaGreat
open Go.Abs
def fiZ (x:List Int):Int:=fdL (trN 6) x 0+1
def mkC (t:List Int) (m:Nat):Ctp:=(1,(srtT (psL t m t.length)).map fun x=>(fiZ x).toNat,(fiZ (skV t m)).toNat)
def mkL (t:List Int) (n:Nat):List Ctp:=(List.range n).map fun k=>mkC t (2*k)
def vaP (i:Nat):Py:=[(1,[38+i])]
def mkOk (t:List Int) (m:Nat):Bool :=
 ((List.range t.length).all fun r=>lv0 (pcL t m r)) && (lv0 (skL t m t.length) && (decide (1<=fiZ (skV t m)) && (decide (fiZ (skV t m)<=37) && (srtT (psL t m t.length)).all fun x=>decide (1<=fiZ x) && decide (fiZ x<=37))))
theorem znP:((trN 6).all fun t=>decide (0<t.length) && (decide (t.length<=6) && ((t.all fun x=>decide (0<=x) && decide (x<=1000)) && (List.range (2 ^ (t.length-1))).all fun k=>mkOk t (2*k))))=true:=by decide +kernel
theorem zpr:((List.range 37).all fun i=>decide (rowP (vb 0) vaP (mkL ((trN 6)[i]?.getD []) (2 ^ (((trN 6)[i]?.getD []).length-1)))=rowP (vb 0) vaP (ptR (i+1))))=true:=by decide +kernel
theorem zo4 {t:List Int} (h:t∈trN 6):0<t.length/\t.length<=6/\(∀ x∈t,0<=x/\x<=1000)/\∀ k,k<2 ^ (t.length-1)->(∀ r,r<t.length->Lv (pcL t (2*k) r))/\Lv (skL t (2*k) t.length)/\(1<=fiZ (skV t (2*k))/\fiZ (skV t (2*k))<=37) /\
  ∀ x∈srtT (psL t (2*k) t.length),1<=fiZ x/\fiZ x<=37:=by
 have k:=List.all_eq_true.1 znP t h
 simp only [Bool.and_eq_true,decide_eq_true_eq,List.all_eq_true,List.mem_range] at k
 obtain ⟨k1,k2,k3,k4⟩:=k
 refine ⟨k1,k2,k3,fun n hn=>?_⟩
 have k:=k4 n hn
 unfold mkOk at k
 simp only [Bool.and_eq_true,decide_eq_true_eq,List.all_eq_true,List.mem_range] at k
 obtain ⟨q1,q2,q3,q4,q5⟩:=k
 exact ⟨fun r hr=>zkh (q1 r hr),zkh q2,⟨q3,q4⟩,q5⟩
def sbpF (b:List Int) (o:Int) (L:List Nat):Int:=L.foldl (fun o v=>o*iat b v%10007) o
theorem zgT (b:List Int) (o:Int) (L:List Nat) (v:Nat):sbpF b o (L++[v])=sbpF b o L*iat b v%10007:=by simp [sbpF]
theorem zgJ (b:List Int):∀ L,sbpF b 0 L=0
 | []=>rfl
 | v::L=>by
  show sbpF b (0*iat b v%10007) L=0
  rw [Int.zero_mul]
  exact zgJ b L
theorem znl (b:List Int) (o:Int) (L M:List Nat):sbpF b o (L++M)=sbpF b (sbpF b o L) M:=by simp [sbpF]
theorem ziO (b:List Int) (o:Int) (ho:isN o) (L:List Nat):isN (sbpF b o L)/\sbpF b o L%10007=o*prI (iat b) L%10007:=by
 generalize hn:L.length=n
 induction n generalizing L with
 | zero=>rw [List.length_eq_zero_iff.1 hn]; exact ⟨ho,by simp [sbpF,prI]⟩
 | succ n ih =>
  rcases List.eq_nil_or_concat L with rfl | ⟨h,x,rfl⟩
  .simp at hn
  .rw [List.concat_eq_append] at hn |-
   rw [zgT,zfo,Int.emod_emod_of_dvd _ (Int.dvd_refl _),<- Int.mul_assoc]
   exact ⟨zaG _,za5 (ih h (by simpa using hn)).2 rfl⟩
def sbtF (b a:List Int) (L:List Ctp):Int:=L.foldl (fun s c=>(s+sbpF b (iat a c.2.2) c.2.1)%10007) 0
theorem zgE (b a:List Int) (L:List Ctp) (c:Ctp):sbtF b a (L++[c])=(sbtF b a L+sbpF b (iat a c.2.2) c.2.1)%10007:=by simp [sbtF]
theorem ziH {b a:List Int} (ha:Ns a) (L:List Ctp) (h1:∀ c∈L,c.1=1):isN (sbtF b a L)/\sbtF b a L=rowI (iat b) (iat a) L%10007:=by
 generalize hn:L.length=n
 induction n generalizing L with
 | zero=>rw [List.length_eq_zero_iff.1 hn]; exact ⟨(show isN 0 from ⟨by decide,by decide⟩),rfl⟩
 | succ n ih =>
  rcases List.eq_nil_or_concat L with rfl | ⟨h,c,rfl⟩
  .simp at hn
  .rw [List.concat_eq_append] at hn h1 |-
   obtain ⟨i1,i2⟩:=ih h (fun c hc=>h1 c (by simp [hc])) (by simpa using hn)
   have e:=(ziO b (iat a c.2.2) (ha.get _) c.2.1).2
   have c1:=h1 c (by simp)
   rw [zgE,zd2,c1]
   refine ⟨zaG _,?_⟩
   rw [i2]
   rw [Int.mul_comm (prI _ _)]
   generalize iat a c.2.2*prI (iat b) c.2.1=z at *
   generalize sbpF b (iat a c.2.2) c.2.1=y at *
   generalize rowI (iat b) (iat a) h=r at *
   omega
theorem zln (t:List Int) (n:Nat):∀ c∈mkL t n,c.1=1:=fun c hc=>by
 obtain ⟨k,_,rfl⟩:=List.mem_map.1 hc
 rfl
theorem znk (t:List Int) (n:Nat):mkL t (n+1)=mkL t n++[mkC t (2*n)]:=by simp [mkL,List.range_succ]
theorem zlZ {b a:List Int} (hb:Inf b) (ha:N38 a) {i:Nat} (hi:i<37):sbtF b a (mkL ((trN 6)[i]?.getD []) (2 ^ (((trN 6)[i]?.getD []).length-1)))=suF b a (ptR (i+1))%10007:=by
 rw [(ziH ha.Ns _ (zln _ _)).2,(zfy b a _).2]
 have e:=of_decide_eq_true (List.all_eq_true.1 zpr i (List.mem_range.2 hi))
 let r:Nat->Int:=fun v=>if v<38 then iat b v else iat a (v-38)
 have h1:∀ v,v<38->evp r (vb 0 v)%10007=iat b v%10007:=fun v hv=>znZ (by rw [hb.2]; rfl) (fun j hj=>by show (if 0+j<38 then _ else _)=_; rw [Nat.zero_add,if_pos hj]) hv
 have h2:∀ v,v<38->evp r (vaP v)%10007=iat a v%10007:=fun v hv=>by
  have e:r (38+v)=iat a v:=by
   show (if 38+v<38 then _ else iat a (38+v-38))=_
   rw [if_neg (by omega),Nat.add_sub_cancel_left]
  simp [vaP,evp,evm,e]
 have hT:=(zo4 (t:=(trN 6)[i]?.getD []) (memD [] (by rw [zch]; exact hi))).2.2.2
 have e1:=zfx r (mkL ((trN 6)[i]?.getD []) (2 ^ (((trN 6)[i]?.getD []).length-1))) (fun c hc=>by
  obtain ⟨k,hk,rfl⟩:=List.mem_map.1 hc
  obtain ⟨_,_,q1,q2⟩:=hT k (List.mem_range.1 hk)
  refine ⟨fun v hv=>h1 v ?_,h2 _ (by show (fiZ _).toNat<38; omega)⟩
  obtain ⟨x,hx,rfl⟩:=List.mem_map.1 hv
  have:=q2 x hx
  show (fiZ x).toNat<38
  omega)
 have e2:=zfx r (ptR (i+1)) (fun c hc=>⟨fun v hv=>h1 v ((zif (by omega) c hc).1 v hv),h2 _ (zif (by omega) c hc).2⟩)
 rw [<- e1,e,e2]
theorem zeo (b a:List Int) (hb:Inf b) (ha:N38 a):Con Tryz.prog 102 [.sl b.length (avs b),.sl a.length (avs a)] (.own 2 38 (avs (sbS b a))):=by
 have la:=ha.1
 have na:=ha.ne
 have lb:=hb.1.1
 have nb:=hb.1.ne
 have da1:=zao (a:=a) (v:=0) (by omega)
 rw [List.drop_zero,Nat.zero_add,List.drop_one] at da1
 have cA:=zng 6 (by omega)
 have l6:=zch
 have x0:=zmc b a ha
 have xs:=fun i h=>zhU b a (i:=i) h
 have xl:(sbS b a).take 38=sbS b a:=List.take_of_length_le (by rw [(zec b a).1]; omega)
 have st:=fun i h=>zlZ hb ha (i:=i) h
 have mt:=fun t h=>zo4 (t:=t) h
 have cFi:=fun x=>zlN (trN 6) x (by rw [l6]; omega) (fun r hr=>by have:=(zo4 hr).2.1; omega)
 rw [l6] at cFi
 have sl:=(zec b a).1
 have nT:¬ trN 6=[]:=by intro e; rw [e] at l6; simp at l6
 have hfz:∀ x,fiZ x=fdL (trN 6) x 0+1:=fun _=>rfl
 generalize sbS b a=X at *
 refine zab Tryz.mixed ⟨14,[6],[1000000+191],[]⟩ Tryz.func102 ?_
 rw [Tryz.ntmps102]
 simp [go_sem]
 simp [go_sem,da1]
 rw [<- da1]
 refine ⟨⟨by omega,na⟩,?_⟩
 refine CallVC.of (cA) ?_
 simp [go_sem]
 refine zac (5::List.range' 7 7++List.range' 19 59) (fun i:Nat=>[(5,.own 2 (i+1) (avs (X.take (i+1)))),(7,.int i)]) (fun i=>i<=37) (fun i=>37-i) 0 (by simp) (by simp [go_sem,x0,avs]) (by simp [go_sem]) ?_
 intro i hi
 by_cases hil:i<37
 .have hii:(i:Int)<37:=by omega
  have hl:i<(trN 6).length:=by omega
  have om:=zat hl
  have hm:=memD [] hl
  obtain ⟨t1,t2,t3,t4⟩:=mt _ hm
  have st1:=st i hil
  have xs1:=xs i hil
  have lX:(X.take (i+1)).length=i+1:=by rw [List.length_take]; omega
  generalize X.take (i+1)=XI at *
  generalize hT:(trN 6)[i]?.getD []=t at *
  simp [go_sem,hii,l6,om]
  refine ⟨nT,?_⟩
  refine zac (9::10::11::12::13::List.range' 29 45) (fun k:Nat=>[(9,.int (sbtF b a (mkL t k))),(10,.int ((2*k:Nat):Int))]) (fun k=>k<=2 ^ (t.length-1)) (fun k=>2 ^ (t.length-1)-k) 0 (by simp) (by simp [go_sem,sbtF,mkL]) (by simp [go_sem]) ?_
  intro k hk
  have p6:2 ^ (t.length-1)<=2 ^ 5:=Nat.pow_le_pow_right (by omega) (by omega)
  have p7:2*2 ^ (t.length-1)=2 ^ t.length:=by rw [Nat.mul_comm,<- Nat.pow_succ]; congr 1; omega
  have hsh:=zko t.length t2
  have hw:IntKind.wrap .u64 (t.length:Int)=t.length:=zcp (by omega) (by omega)
  obtain ⟨sN,_⟩:=ziH ha.Ns (mkL t k) (zln t k) (b:=b)
  by_cases hkl:k<2 ^ (t.length-1)
  .obtain ⟨q1,q2,⟨q3,q4⟩,q5⟩:=t4 k hkl
   have hki:((2*k:Nat):Int)<((2 ^ t.length:Nat):Int):=by omega
   have cSk:=zfT t (2*k) t1 t2 t3 (by omega) q2
   have cPi:=zg3 t (2*k) t1 t2 t3 (by omega) q1
   have cF1:=cFi (skV t (2*k))
   have ms:=znk t k
   have ss:=zgE b a (mkL t k) (mkC t (2*k))
   rw [<- ms] at ss
   have eC:mkC t (2*k)=(1,(srtT (psL t (2*k) t.length)).map (fun x=>(fiZ x).toNat),(fiZ (skV t (2*k))).toNat):=rfl
   have lP:(psL t (2*k) t.length).length<=6:=Nat.le_trans (zhx _ _ _) t2
   have lS:=ziK (psL t (2*k) t.length)
   rw [<- lS] at lP cPi
   obtain ⟨z,hz⟩:∃ z:Nat,fiZ (skV t (2*k))=z:=⟨(fiZ (skV t (2*k))).toNat,by omega⟩
   have hz2:fdL (trN 6) (skV t (2*k)) 0=(z:Int)-1:=by have:=hfz (skV t (2*k)); omega
   rw [hz] at eC q3 q4
   rw [Int.toNat_natCast] at eC
   have dz:=zao (a:=a) (v:=z) (by omega)
   have oN:isN (iat a z):=ha.Ns.get z
   rw [hz2] at cF1
   clear hz hz2 ms t4 q1 q2 lS
   generalize srtT (psL t (2*k) t.length)=PS at *
   generalize skV t (2*k)=SK at *
   rw [eC] at ss
   simp only at ss
   generalize hc1:mkL t (k+1)=M1 at *
   generalize hs1:sbtF b a M1=s1 at *
   generalize sbtF b a (mkL t k)=s0 at *
   have oA:=fun L=>ziO b (iat a z) oN L
   have uk:∀ {s:Int},s=s1->s=sbtF b a (mkL t (k+1)):=fun h=>by rw [hc1,hs1]; exact h
   clear hs1 hc1
   generalize iat a z=o at *
   generalize hmk:2*k=m at *
   generalize 2 ^ t.length=E at *
   simp [go_sem,hw,hsh,hki]
   refine CallVC.of (cSk) ?_
   simp [go_sem]
   refine CallVC.of (cF1) ?_
   simp [go_sem]
   simp [go_sem,dz]
   refine ⟨by omega,⟨by omega,na⟩,?_⟩
   refine ⟨_,_,cPi,?_⟩
   simp [go_sem]
   have nP:PS.length=0->PS=[]:=fun h=>List.length_eq_zero_iff.1 h
   refine zac (11::13::List.range' 49 22) (fun j:Nat=>[(11,.int (sbpF b o ((PS.map fun x=>(fiZ x).toNat).take j))),(13,.int j)]) (fun j=>j<=PS.length) (fun j=>PS.length-j) 0 (by simp) (by simp [go_sem,sbpF]) (by simp [go_sem]) ?_
   intro j hj
   have pN:=(oA ((PS.map fun x=>(fiZ x).toNat).take j)).1
   have fin:∀ s2:Int,s2=sbpF b o (PS.map fun x=>(fiZ x).toNat)->s1=(s0+s2)%10007:=fun s2 h=>by rw [h]; exact ss
   by_cases hjl:j<PS.length
   .have hji:(j:Int)<PS.length:=by omega
    have md:=zat hjl
    have hx:=memD [] hjl
    obtain ⟨x1,x2⟩:=q5 _ hx
    have tk:(PS.map fun x=>(fiZ x).toNat).take (j+1)=(PS.map fun x=>(fiZ x).toNat).take j++[(fiZ (PS[j]?.getD [])).toNat]:=by
     rw [List.take_succ_eq_append_getElem (by simpa using hjl),List.getElem_map,List.getElem?_eq_getElem hjl]; rfl
    have nPS:¬ PS=[]:=by rintro rfl; simp at hjl
    have eP:sbpF b o (PS.map fun x=>(fiZ x).toNat)=sbpF b (sbpF b o ((PS.map fun x=>(fiZ x).toNat).take j)) ((PS.map fun x=>(fiZ x).toNat).drop j):=by rw [<- znl,List.take_append_drop]
    have nx:=zgT b o ((PS.map fun x=>(fiZ x).toNat).take j) (fiZ (PS[j]?.getD [])).toNat
    rw [<- tk] at nx
    have cF2:=cFi (PS[j]?.getD [])
    obtain ⟨v,hv⟩:∃ v:Nat,fiZ (PS[j]?.getD [])=v:=⟨(fiZ (PS[j]?.getD [])).toNat,by omega⟩
    have hv2:fdL (trN 6) (PS[j]?.getD []) 0=(v:Int)-1:=by have:=hfz (PS[j]?.getD []); omega
    rw [hv2] at cF2
    rw [hv,Int.toNat_natCast] at nx
    rw [hv] at x1 x2
    have db:=zao (a:=b) (v:=v) (by omega)
    have bN:isN (iat b v):=hb.1.Ns.get v
    have uj:∀ {s:Int},s=sbpF b o ((PS.map fun x=>(fiZ x).toNat).take j)*iat b v%10007->s=sbpF b o ((PS.map fun x=>(fiZ x).toNat).take (j+1)):=fun h=>by rw [nx]; exact h
    clear nx tk hv hv2
    generalize sbpF b o ((PS.map fun x=>(fiZ x).toNat).take j)=pa at *
    generalize PS[j]?.getD []=x at *
    by_cases hp:pa=0
    .have fi:=fin 0 (by rw [eP,hp,zgJ])
     subst hp
     have cAd:=ziF s0 0 (by unfold fits; have:=sN.1; have:=sN.2; omega)
     rw [<- fi] at cAd
     simp [go_sem,hji]
     refine CallVC.of (cAd) ?_
     simp [go_sem]
     refine ⟨⟨by omega,by omega⟩,k+1,by omega,by omega,(Off.reset (by intro x hx; simp at hx |-; omega) (by simp) (by simp [go_sem,zaa])),?_⟩
     exact ⟨uk rfl,by omega⟩
    .have fm:=zaS pN bN
     have cMu:=zcU pa (iat b v) fm
     generalize iat b v=y at *
     simp [go_sem,hji,hp,md]
     refine ⟨nPS,?_⟩
     refine CallVC.of (cF2) ?_
     simp [go_sem]
     simp [go_sem,db]
     refine ⟨by omega,⟨by omega,nb⟩,?_⟩
     refine CallVC.of (cMu) ?_
     simp [go_sem]
     refine ⟨⟨by omega,by omega⟩,j+1,by omega,by omega,zaa _ _ _ (by simp),?_⟩
     exact ⟨uj rfl,by omega⟩
   .have e:j=PS.length:=by omega
    subst e
    have hji:¬ (PS.length:Int)<PS.length:=by omega
    have tkl:(PS.map fun x=>(fiZ x).toNat).take PS.length=PS.map fun x=>(fiZ x).toNat:=List.take_of_length_le (by simp)
    rw [tkl] at pN |-
    have fi:=fin _ rfl
    generalize sbpF b o (PS.map fun x=>(fiZ x).toNat)=pa at *
    have cAd:=ziF s0 pa (by unfold fits; have:=sN.1; have:=sN.2; have:=pN.1; have:=pN.2; omega)
    rw [<- fi] at cAd
    simp [go_sem,hji]
    refine CallVC.of (cAd) ?_
    simp [go_sem]
    refine ⟨⟨by omega,by omega⟩,k+1,by omega,by omega,(Off.reset (by intro x hx; simp at hx |-; omega) (by simp) (by simp [go_sem,zaa])),?_⟩
    exact ⟨uk rfl,by omega⟩
  .have e:k=2 ^ (t.length-1):=by omega
   have hki:¬ ((2*k:Nat):Int)<((2 ^ t.length:Nat):Int):=by omega
   have e2:sbtF b a (mkL t k)=suF b a (ptR (i+1))%10007:=by rw [e]; exact st1
   rw [<- e2] at xs1
   generalize sbtF b a (mkL t k)=s0 at *
   clear e e2 st1 p7 p6 t4
   generalize 2*k=m at *
   generalize 2 ^ t.length=E at *
   simp [go_sem,hw,hsh,hki]
   refine ⟨⟨by omega,by omega,by omega⟩,⟨by omega,by omega⟩,i+1,by omega,by omega,(by repeat (first | exact zaa _ _ _ (by simp) | (refine Off.reset (by intro x hx; simp at hx |-; omega) (by simp) ?_; simp -failIfUnchanged [go_sem,zaa]))),?_⟩
   rw [xs1,zaE]
   exact ⟨⟨rfl,rfl⟩,by omega⟩
 .have e:i=37:=by omega
  subst e
  rw [xl]
  simp [go_sem,l6]
theorem zlk (b a:List Int) (hb:b.length<=1048576) (ha:a.length<=1048576):Con Tryz.prog 101 [.sl b.length (avs b),.sl a.length (avs a)] (.int (smE b a)):=by
 have cB:=zi0 b (by omega)
 have cA:=zi0 a (by omega)
 have hE:smE b a=if mapB b=true/\mapB a=true then if iat b 0=0 then 0 else 5 else 1:=rfl
 have b0:mapB b=true->(avs b)=.int (iat b 0)::avs b.tail/\¬ b=[]/\0<b.length:=fun h=>by
  have h:=ziv h
  have k:=zao (a:=b) (v:=0) (by rw [h.1]; omega)
  rw [List.drop_zero,Nat.zero_add,List.drop_one] at k
  exact ⟨k,h.ne,by rw [h.1]; omega⟩
 rw [hE]
 generalize mapB b=mb at *
 generalize mapB a=ma at *
 generalize iat b 0=z at *
 refine zab Tryz.mixed ⟨5,[],[],[]⟩ Tryz.func101 ?_
 rw [Tryz.ntmps101]
 simp [go_sem]
 refine CallVC.of (cB) ?_
 simp [go_sem]
 cases mb with
 | false =>
  simp -implicitDefEqProofs [go_sem]
 | true =>
  obtain ⟨b0,b1,b2⟩:=b0 rfl
  simp -implicitDefEqProofs [go_sem]
  refine CallVC.of (cA) ?_
  simp [go_sem]
  cases ma with
  | false =>
   simp -implicitDefEqProofs [go_sem]
  | true =>
   by_cases hz:z=0
   .simp -implicitDefEqProofs [go_sem,b0,hz]
    exact b2
   .simp -implicitDefEqProofs [go_sem,b0,hz]
    exact b2
theorem zdB (b a:List Int) (hb:b.length<=1048576) (ha:a.length<=1048576) :
  Con Tryz.prog 30 [.sl b.length (avs b),.sl a.length (avs a)] (.tup [.own 2 (smX b a).length (avs (smX b a)),.int (smE b a)]):=by
 have c1:=zlk b a hb ha
 by_cases he:smE b a=0
 .obtain ⟨k1,k2⟩:=zkr he
  have c2:=zeo b a k1 k2
  have eX:smX b a=sbS b a:=by unfold smX; rw [if_pos he]
  have l:=(zec b a).1
  rw [eX,he,l]
  rw [he] at c1
  clear eX he l
  generalize sbS b a=X at *
  refine zab Tryz.mixed ⟨7,[],[],[]⟩ Tryz.func30 ?_
  rw [Tryz.ntmps30]
  simp [go_sem]
  refine CallVC.of (c1) ?_
  simp [go_sem]
  refine CallVC.of (c2) ?_
  simp [go_sem]
 .have eX:smX b a=[]:=by unfold smX; rw [if_neg he]
  rw [eX]
  clear eX
  generalize smE b a=E at *
  show Con _ _ _ (.tup [.own 2 0 [],.int E])
  refine Con.n1 _ ?_
  refine zab Tryz.mixed ⟨7,[],[],[]⟩ Tryz.func30 ?_
  rw [Tryz.ntmps30]
  simp [go_sem]
  refine CallVC.of (c1) ?_
  simp [go_sem]
  simp [go_sem,he]
end Go.Proofs.YthhdollpkieknaaGreat


namespace Go.Proofs.YthhdollpkieknaaGreat
open Go.Abs
theorem zkQ (t:List Int) (hB:lvB t=true) (hl:t.length<=6):Con Tryz.prog 32 [.sl t.length (avs t)] (.tup [.int (ixT (trN t.length) (canF t.length t)),.int 0]):=by
 have hv:Lv t:=zkh (by unfold lvB at hB; rw [Bool.and_eq_true] at hB; exact hB.1)
 have cI:=zjL t (by omega)
 rw [hB] at cI
 have cT:=zgG t.length hl
 have cC:=zbb t.length t (by omega) hv (Nat.le_refl _)
 have lC:=zaN t.length t hv (Nat.le_refl _)
 have bT:(trN t.length).length<=1000/\∀ r∈trN t.length,r.length<=1000:=by
  have ok:(List.range 7).all (fun n=>decide ((trN n).length<=1000) && (trN n).all fun r=>decide (r.length<=1000))=true:=by decide +kernel
  have k:=List.all_eq_true.1 ok t.length (List.mem_range.2 (by omega))
  simp only [Bool.and_eq_true,decide_eq_true_eq,List.all_eq_true] at k
  exact k
 have cX:=zgO (trN t.length) (canF t.length t) bT.1 bT.2 (by omega)
 rw [lC] at cX
 generalize ixT (trN t.length) (canF t.length t)=x at *
 generalize canF t.length t=C at *
 generalize trN t.length=T at *
 refine zab Tryz.mixed ⟨4,[],[],[]⟩ Tryz.func32 ?_
 rw [Tryz.ntmps32]
 simp [go_sem]
 refine CallVC.of (cI) ?_
 simp [go_sem]
 refine CallVC.of (cT) ?_
 simp [go_sem]
 refine CallVC.of (cC) ?_
 simp [go_sem]
 refine CallVC.of (cX) ?_
 simp [go_sem]
def tlP (n:Nat):Nat:=[0,1,2,3,5,9,18][n]?.getD 0
theorem zq4:(List.range 7).all (fun n=>decide (n=0) || (lvB (upTo n) && decide (ixT (trN (upTo n).length) (canF (upTo n).length (upTo n))=(tlP n:Int)-1)))=true:=by decide +kernel
theorem zkG (n:Nat) (h0:0<n) (h:n<=6):Con Tryz.prog 32 [.sl n (avs (upTo n))] (.tup [.int ((tlP n:Int)-1),.int 0]):=by
 have k:=List.all_eq_true.1 zq4 n (List.mem_range.2 (by omega))
 rw [Bool.or_eq_true,Bool.and_eq_true,decide_eq_true_eq,decide_eq_true_eq] at k
 rcases k with k | ⟨k1,k2⟩
 .omega
 .have l:(upTo n).length=n:=by simp
  have:=zkQ (upTo n) k1 (by omega)
  rw [k2,l] at this
  exact this
end Go.Proofs.YthhdollpkieknaaGreat


namespace Go.Proofs.YthhdollpkieknaaGreat
open Go.Abs
def RlP (r:Nat->Int) (P:List Py) (L:List Int):Prop:=P.length=L.length/\∀ k:Nat,evp r (P[k]?.getD [])%10007=(L[k]?.getD 0)%10007
def cvQ (a b:List Py) (n:Nat):Nat->Py
 | 0=>[]
 | m+1=>addP (cvQ a b n m) (mulP (a[m]?.getD []) (b[n-m]?.getD []))
def hoTQ (b o:List Py) (x:Py):List Py:=(List.range o.length).map fun k=>if Nat.beq k 0 then addP (cvQ o b 0 1) x else cvQ o b k (k+1)
def hoFQ (b o:List Py) (xs:List Py):List Py:=xs.foldl (hoTQ b) o
theorem zoZ {r:Nat->Int} {P Q:List Py} {L M:List Int} (h:RlP r P L) (k:RlP r Q M) (n:Nat):∀ m,evp r (cvQ P Q n m)%10007=cv L M n m%10007
 | 0=>rfl
 | m+1=>by
  rw [cvQ,zfN,cv]
  refine zfI (zoZ h k n m) ?_
  rw [zex]
  exact za5 (h.2 m) (k.2 (n-m))
theorem rl_T {r:Nat->Int} {P Q:List Py} {L M:List Int} (h:RlP r P L) (k:RlP r Q M) {X:Py} {x:Int} (e:evp r X%10007=x%10007):RlP r (hoTQ P Q X) (hoT L M x):=by
 refine ⟨by simp [hoTQ,zhO,k.1],fun i=>?_⟩
 by_cases hi:i<M.length
 .have hi':i<Q.length:=by rw [k.1]; exact hi
  unfold hoTQ
  rw [List.getElem?_map,List.getElem?_range hi',Option.map_some,Option.getD_some]
  unfold hoT
  rw [List.getElem?_set]
  by_cases e0:i=0
  .subst e0
   have t0:(mulS M L)[0]?.getD 0=cv M L 0 1%10007:=zlr _ hi
   rw [if_pos rfl,if_pos (show 0<(mulS M L).length by rw [zi4]; exact hi),t0]
   show evp r (addP (cvQ Q P 0 1) X)%10007=(cv M L 0 1%10007+x)%10007%10007
   rw [zfN,Int.emod_emod_of_dvd _ (Int.dvd_refl _)]
   exact zfI ((zoZ k h 0 1).trans (Int.emod_emod_of_dvd _ (Int.dvd_refl _)).symm) e
  .rw [if_neg (Ne.symm e0),if_neg (by intro x; exact e0 (Nat.eq_of_beq_eq_true x))]
   have t0:(mulS M L)[i]?.getD 0=cv M L i (i+1)%10007:=zlr _ hi
   rw [t0,Int.emod_emod_of_dvd _ (Int.dvd_refl _)]
   exact zoZ k h i (i+1)
 .rw [List.getElem?_eq_none (by simp [hoTQ,k.1]; omega),List.getElem?_eq_none (by rw [zhO]; omega)]; rfl
theorem rl_F {r:Nat->Int} {P:List Py} {L:List Int} (h:RlP r P L) {A:Nat->Py} {A':Nat->Int}:∀ (V:List Nat) {Q:List Py} {M:List Int},RlP r Q M->(∀ v∈V,evp r (A v)%10007=A' v%10007)->RlP r (hoFQ P Q (V.map A)) ((V.map A').foldl (hoT L) M)
 | [],_,_,k,_=>k
 | v::V,_,_,k,e=>rl_F h V (rl_T h k (e v (by simp))) fun w hw=>e w (by simp [hw])
def tlV:List Nat:=[0,1,2,3,5,9,18]
theorem zjj:(List.range 7).all (fun k=>decide ((hoFQ (tlV.map (vb 0)) (List.replicate 7 []) (tlV.reverse.map vaP))[k]?.getD []=sbP (vb 0) vaP (tlV[k]?.getD 0)))=true:=by decide +kernel
def rBA (b a:List Int) (v:Nat):Int:=if v<38 then iat b v else iat a (v-38)
theorem zqo {b:List Int} (a:List Int) (hb:Inf b):∀ v,v<38->evp (rBA b a) (vb 0 v)%10007=iat b v%10007:=fun v hv=>znZ (by rw [hb.2]; rfl) (fun j hj=>by unfold rBA; rw [Nat.zero_add,if_pos hj]) hv
theorem zqC (b a:List Int):∀ v,v<38->evp (rBA b a) (vaP v)%10007=iat a v%10007:=fun v hv=>by
 have e:rBA b a (38+v)=iat a v:=by
  unfold rBA
  rw [if_neg (by omega),Nat.add_sub_cancel_left]
 simp [vaP,evp,evm,e]
theorem zqk {r:Nat->Int} {A:Nat->Py} {A':Nat->Int} {V:List Nat} (h:∀ v∈V,evp r (A v)%10007=A' v%10007):RlP r (V.map A) (V.map A'):=by
 refine ⟨by simp,fun k=>?_⟩
 by_cases hk:k<V.length
 .simp [hk,h _ (List.getElem_mem hk)]
 .rw [List.getElem?_eq_none (by simp; omega),List.getElem?_eq_none (by simp; omega)]; rfl
theorem zl6:∀ v∈tlV,v<38:=by decide
theorem zmh {b a:List Int} (hb:Inf b) (ha:N38 a):hoH (tlV.map (iat b)) 7 (tlV.map (iat a)).reverse=tlV.map (iat (sbS b a)):=by
 have e1:=zqo a hb
 have e2:=zqC b a
 have hP:RlP (rBA b a) (tlV.map (vb 0)) (tlV.map (iat b)):=zqk fun v hv=>e1 v (zl6 v hv)
 have h0:RlP (rBA b a) (List.replicate 7 []) (List.replicate 7 0):=⟨by simp,fun k=>by
  rw [List.getElem?_replicate,List.getElem?_replicate]
  split <;> rfl⟩
 have hF:=rl_F hP tlV.reverse h0 (A:=vaP) (A':=iat a) (fun v hv=>e2 v (zl6 v (by simpa using hv)))
 rw [List.map_reverse] at hF
 obtain ⟨l1,n1⟩:=zjV (tlV.map (iat b)) 7 (tlV.map (iat a)).reverse
 have l2:(tlV.map (iat (sbS b a))).length=7:=by simp [tlV]
 refine List.ext_getElem (by rw [l1,l2]) fun k h1 h2=>?_
 have hk:k<7:=by omega
 have hkv:k<tlV.length:=hk
 have t:=hF.2 k
 rw [<- List.map_reverse,of_decide_eq_true (List.all_eq_true.1 zjj k (List.mem_range.2 hk))] at t
 have v1:tlV[k]?.getD 0=tlV[k]:=by rw [List.getElem?_eq_getElem hkv]; rfl
 have lt:=zl6 _ (List.getElem_mem hkv)
 rw [v1,zn2 (rBA b a) e1 e2 lt,<- zos b a lt] at t
 have t2:iat (sbS b a) tlV[k]%10007=(hoH (tlV.map (iat b)) 7 (tlV.map (iat a)).reverse)[k]?.getD 0%10007:=by
  rw [List.map_reverse] at t; exact t
 rw [List.getElem?_eq_getElem h1,Option.getD_some] at t2
 have m1:=n1 _ (List.getElem_mem h1)
 have m2:=(zec b a).at tlV[k]
 have:=m1.1; have:=m1.2; have:=m2.1; have:=m2.2
 rw [List.getElem_map]
 omega
def mnyS (k:Int):List Int:=(List.replicate 38 0).set 1 k
def mnP (i:Nat):Py:=if Nat.beq i 1 then [(1,[0])] else []
def mnR2 (k:Int) (a:List Int) (v:Nat):Int:=if v=0 then k else iat a (v-38)
theorem zjI:(List.range 38).all (fun i=>decide (sbP mnP vaP i=[(1,List.replicate (nd i) 0++[38+i])]))=true:=by decide +kernel
theorem zsA {k:Int} (hk:isN k):N38 (mnyS k):=⟨by simp [mnyS],fun x hx=>by
 unfold mnyS at hx
 rcases List.mem_or_eq_of_mem_set hx with h | h
 .rw [(List.mem_replicate.1 h).2]; decide
 .rw [h]; exact ⟨hk.1,hk.2⟩⟩
theorem zn7 (k:Int) (i:Nat):iat (mnyS k) i=if i=1 then k else 0:=by
 unfold iat mnyS
 rw [List.getElem?_set]
 by_cases e:i=1
 .subst e; simp
 .rw [if_neg (Ne.symm e),if_neg e]
  rw [List.getElem?_replicate]
  split <;> rfl
theorem zid (r:Nat->Int) (v:Nat):∀ m,evm r (m++[v])=evm r m*r v
 | []=>by simp [evm]
 | w::m=>by rw [List.cons_append,evm,zid r v m,evm,Int.mul_assoc]
theorem zpi (k:Int) (a:List Int):sbS (mnyS k) a=scS k a:=by
 refine zoB fun i hi=>?_
 have h1:∀ v,v<38->evp (mnR2 k a) (mnP v)%10007=iat (mnyS k) v%10007:=fun v hv=>by
  rw [zn7]
  unfold mnP
  by_cases e:v=1
  .subst e; simp [evp,evm,mnR2]
  .rw [if_neg e,if_neg (by intro x; exact e (Nat.eq_of_beq_eq_true x))]; rfl
 have h2:∀ v,v<38->evp (mnR2 k a) (vaP v)%10007=iat a v%10007:=fun v hv=>by
  have e:mnR2 k a (38+v)=iat a v:=by
   unfold mnR2
   rw [if_neg (by omega),Nat.add_sub_cancel_left]
  simp [vaP,evp,evm,e]
 rw [<- zn2 (mnR2 k a) h1 h2 hi,of_decide_eq_true (List.all_eq_true.1 zjI i (List.mem_range.2 hi))]
 have e:mnR2 k a (38+i)=iat a i:=by
  unfold mnR2
  rw [if_neg (by omega),Nat.add_sub_cancel_left]
 have z:mnR2 k a 0=k:=rfl
 simp only [evp,zid,zlh,e,z]
 congr 1
 rw [Int.mul_comm (k ^ _)]
 simp
theorem zpA {k:Int} (hk:isN k):Inf (mnyS k):=⟨zsA hk,by rw [zn7]; rfl⟩
end Go.Proofs.YthhdollpkieknaaGreat


namespace Go.Proofs.YthhdollpkieknaaGreat
open Go.Abs
end Go.Proofs.YthhdollpkieknaaGreat


namespace Go.Proofs.YthhdollpkieknaaGreat
open Go.Abs
end Go.Proofs.YthhdollpkieknaaGreat


namespace Go.Proofs.YthhdollpkieknaaGreat
open Go.Abs
def DrP (n:Nat) (p:List Mon):Prop:=p.length<=3/\∀ m∈p,WOk n 3 m
def DrS (z:Int) (f:List (List Mon)):Prop := -1<=z/\z<=4/\f.length<=4/\∀ p∈f,p.length<=4/\∀ m∈p,m.2.length<=3
theorem DrS.of {n:Nat} {f:List (List Mon)} (hn:n<=3) (hl:f.length<=3) (h:∀ p∈f,DrP n p) {z:Int} (h1 : -1<=z) (h2:z<=4):DrS z f :=
 ⟨h1,h2,by omega,fun p hp=>⟨by have:=(h p hp).1; omega,fun m hm=>by have:=((h p hp).2 m hm).len; omega⟩⟩
end Go.Proofs.YthhdollpkieknaaGreat


namespace Go.Proofs.YthhdollpkieknaaGreat
open Go.Abs
theorem zdx (c:List Int) (σ:Src) (f:Int) (hc:Byt c) (hs:SOk σ) :
  RCon Tryz.prog 185 [srcA c σ,.int f] (fun r o=>∃ (τ:Src) (L:List Int),SOk τ/\o=[srcA c τ,.any]/\L.length=38/\(r=.own 2 38 (avs L)\/r=.ofs 1 2 37 (avs L))):=by
 have c1:=zj1 c σ 38 hc hs (by omega)
 obtain ⟨l1,_,s1⟩:=znX (fun s h=>zlI hc h) 38 σ hs
 rw [show (fun s=>nbV c s)=nbV c from rfl] at l1 s1
 generalize lsV (nbV c) 38 σ=q at *
 obtain ⟨L,τ⟩:=q
 simp only at c1 l1 s1
 have c2:=zak c τ 30 hc s1
 have s2:=zaw hc s1 30
 simp only [zas] at *
 refine zbq Tryz.mixed ⟨6,[],[1000000+183,1000000+221],[16]⟩ [0] Tryz.func185 ?_
 rw [Tryz.ntmps185]
 simp [go_sem]
 refine ⟨_,_,c1,?_⟩
 simp [go_sem]
 refine ⟨by omega,?_⟩
 refine ⟨_,_,c2,?_⟩
 simp [go_sem]
 generalize nx1 c τ 30=v at *
 generalize nx2 c τ 30=τ2 at *
 have es:(avs L).set 0 (.int f)=avs (L.set 0 f):=zaM _ _ _
 have ls:(L.set 0 f).length=38:=by rw [List.length_set]; exact l1
 rw [es]
 generalize L.set 0 f=M at *
 by_cases v0:v=0
 .simp [go_sem,v0]
  exact ⟨τ2.1,τ2.2,s2,⟨rfl,rfl⟩,ls⟩
 .by_cases v1:v=1
  .subst v1
   have c3:=zak c τ2 38 hc s2
   have s3:=zaw hc s2 38
   have b3:=zgf hc τ2 (n:=38) (by omega)
   obtain ⟨u,hu⟩:∃ u:Nat,nx1 c τ2 38=u:=⟨(nx1 c τ2 38).toNat,by omega⟩
   rw [hu] at c3 b3
   generalize nx2 c τ2 38=τ3 at *
   simp only [zas] at *
   simp [go_sem]
   refine ⟨_,_,c3,?_⟩
   simp [go_sem]
   exact ⟨by omega,by omega,τ3.1,τ3.2,s3,⟨rfl,rfl⟩,M.set u 10007,by rw [List.length_set]; exact ls,zaM _ _ _⟩
  .simp [go_sem,v0,v1]
   exact ⟨τ2.1,τ2.2,s2,⟨rfl,rfl⟩,ls⟩
theorem zgc (c:List Int) (σ:Src) (f:Int) (hc:Byt c) (hs:SOk σ) :
  RCon Tryz.prog 97 [srcA c σ,.int f] (fun r o=>∃ (τ:Src) (a:List Int),SOk τ/\o=[srcA c τ,.any]/\a.length<=38/\r=.sl a.length (avs a)):=by
 have c1:=zak c σ 12 hc hs
 have s1:=zaw hc hs 12
 simp only [zas] at *
 refine zbq Tryz.mixed ⟨7,[43],[1000000+183,1000000+184,1000000+98,2000000+185],[]⟩ [0] Tryz.func97 ?_
 rw [Tryz.ntmps97]
 simp [go_sem]
 refine ⟨_,_,c1,?_⟩
 simp [go_sem]
 generalize nx1 c σ 12=v at *
 generalize nx2 c σ 12=τ1 at *
 have c2:=zd6 c τ1 hc s1
 have s2:=(zlI hc s1).2
 simp only [zas] at *
 by_cases v0:v=0
 .simp [go_sem,v0]
  refine ⟨_,_,c2,?_⟩
  simp [go_sem]
  generalize nbV c τ1=q at *
  obtain ⟨g,τ2⟩:=q
  simp only at s2
  have c3:=zdx c τ2 g hc s2
  simp only [zas] at *
  refine ⟨_,c3,?_⟩
  rintro _ _ ⟨τ,L,s1,rfl,l1,rfl | rfl⟩
  .simp [go_sem]
   have c4:=zak c τ 3 hc s1
   have s4:=zaw hc s1 3
   simp only [zas] at *
   refine ⟨_,_,c4,?_⟩
   simp [go_sem]
   generalize nx1 c τ 3=v4 at *
   generalize nx2 c τ 3=τ4 at *
   have c5:=zbG c τ4 [1,0,2] hc s4 (by simp) (by simp)
   have s5:=zaw hc s4 ([1,0,2]:List Int).length
   simp only [zas] at *
   by_cases h4:v4=0
   .simp [go_sem,h4]
    refine ⟨_,_,c5,?_⟩
    simp [go_sem]
    refine ⟨by omega,?_⟩
    generalize pk c τ4 [1,0,2]=g5 at *
    have es:(avs L).set 1 (.int g5)=avs (L.set 1 g5):=zaM _ _ _
    have lM:(L.set 1 g5).length=38:=by rw [List.length_set]; exact l1
    rw [es]
    generalize L.set 1 g5=M at *
    have s6:SOk (nx2 c τ4 3):=s5
    generalize nx2 c τ4 3=τ6 at *
    have c6:=zak c τ6 3 hc s6
    have s8:=zaw hc s6 3
    simp only [zas] at *
    refine ⟨_,_,c6,?_⟩
    simp [go_sem]
    generalize nx1 c τ6 3=v6 at *
    generalize nx2 c τ6 3=τ8 at *
    by_cases h6:v6=0
    .simp [go_sem,h6]
     refine zac (0::5::6::List.range' 31 12) (fun x:List Int × Src × Nat=>[(0,.box 162 [.sl c.length (bys c),.int x.2.1.1,.val (.int .u64 x.2.1.2)]),(5,.own 2 38 (avs x.1)),(6,.int x.2.2)]) (fun x=>x.1.length=38/\SOk x.2.1/\x.2.2<=38) (fun x=>38-x.2.2) (M,τ8,2) ⟨lM,s8,by simp only; omega⟩ (by simp [go_sem]) (by simp [go_sem]) ?_
     rintro ⟨X,τ9,i⟩ ⟨x1,x2,x3⟩
     simp only at x1 x2 x3
     by_cases hi:i<38
     .have hii:(i:Int)<38:=by omega
      have c7:=zak c τ9 4 hc x2
      have s7:=zaw hc x2 4
      simp only [zas] at *
      simp [go_sem,hii]
      refine ⟨_,_,c7,?_⟩
      simp [go_sem]
      generalize nx1 c τ9 4=v7 at *
      generalize nx2 c τ9 4=τa at *
      by_cases h7:0<v7
      .simp [go_sem,h7]
       exact ⟨by omega,by omega,⟨by omega,by omega⟩,X.set (i) 0,τa.1,τa.2,i+1,⟨by rw [List.length_set]; exact x1,s7,by omega⟩,by omega,zaa _ _ _ (by simp),by simp [zaM]⟩
      .simp [go_sem,h7]
       exact ⟨⟨by omega,by omega⟩,X,τa.1,τa.2,i+1,⟨x1,s7,by omega⟩,by omega,zaa _ _ _ (by simp),by simp⟩
     .have hii:¬ (i:Int)<38:=by omega
      simp [go_sem,hii]
      exact ⟨τ9.1,τ9.2,x2,⟨rfl,rfl⟩,by omega,by omega⟩
    .simp [go_sem,h6]
     exact ⟨τ8.1,τ8.2,s8,⟨rfl,rfl⟩,by omega,by omega⟩
   .simp [go_sem,h4]
    have lM:=l1
    have s6:=s4
    generalize L=M at *
    generalize τ4=τ6 at *
    have c6:=zak c τ6 3 hc s6
    have s8:=zaw hc s6 3
    simp only [zas] at *
    refine ⟨_,_,c6,?_⟩
    simp [go_sem]
    generalize nx1 c τ6 3=v6 at *
    generalize nx2 c τ6 3=τ8 at *
    by_cases h6:v6=0
    .simp [go_sem,h6]
     refine zac (0::5::6::List.range' 31 12) (fun x:List Int × Src × Nat=>[(0,.box 162 [.sl c.length (bys c),.int x.2.1.1,.val (.int .u64 x.2.1.2)]),(5,.own 2 38 (avs x.1)),(6,.int x.2.2)]) (fun x=>x.1.length=38/\SOk x.2.1/\x.2.2<=38) (fun x=>38-x.2.2) (M,τ8,2) ⟨lM,s8,by simp only; omega⟩ (by simp [go_sem]) (by simp [go_sem]) ?_
     rintro ⟨X,τ9,i⟩ ⟨x1,x2,x3⟩
     simp only at x1 x2 x3
     by_cases hi:i<38
     .have hii:(i:Int)<38:=by omega
      have c7:=zak c τ9 4 hc x2
      have s7:=zaw hc x2 4
      simp only [zas] at *
      simp [go_sem,hii]
      refine ⟨_,_,c7,?_⟩
      simp [go_sem]
      generalize nx1 c τ9 4=v7 at *
      generalize nx2 c τ9 4=τa at *
      by_cases h7:0<v7
      .simp [go_sem,h7]
       exact ⟨by omega,by omega,⟨by omega,by omega⟩,X.set (i) 0,τa.1,τa.2,i+1,⟨by rw [List.length_set]; exact x1,s7,by omega⟩,by omega,zaa _ _ _ (by simp),by simp [zaM]⟩
      .simp [go_sem,h7]
       exact ⟨⟨by omega,by omega⟩,X,τa.1,τa.2,i+1,⟨x1,s7,by omega⟩,by omega,zaa _ _ _ (by simp),by simp⟩
     .have hii:¬ (i:Int)<38:=by omega
      simp [go_sem,hii]
      exact ⟨τ9.1,τ9.2,x2,⟨rfl,rfl⟩,by omega,by omega⟩
    .simp [go_sem,h6]
     exact ⟨τ8.1,τ8.2,s8,⟨rfl,rfl⟩,by omega,by omega⟩
  .simp [go_sem]
   have c4:=zak c τ 3 hc s1
   have s4:=zaw hc s1 3
   simp only [zas] at *
   refine ⟨_,_,c4,?_⟩
   simp [go_sem]
   generalize nx1 c τ 3=v4 at *
   generalize nx2 c τ 3=τ4 at *
   have c5:=zbG c τ4 [1,0,2] hc s4 (by simp) (by simp)
   have s5:=zaw hc s4 ([1,0,2]:List Int).length
   simp only [zas] at *
   by_cases h4:v4=0
   .simp [go_sem,h4]
    refine ⟨_,_,c5,?_⟩
    simp [go_sem]
    refine ⟨by omega,?_⟩
    generalize pk c τ4 [1,0,2]=g5 at *
    have es:(avs L).set 2 (.int g5)=avs (L.set 2 g5):=zaM _ _ _
    have lM:(L.set 2 g5).length=38:=by rw [List.length_set]; exact l1
    rw [es]
    generalize L.set 2 g5=M at *
    have s6:SOk (nx2 c τ4 3):=s5
    generalize nx2 c τ4 3=τ6 at *
    have c6:=zak c τ6 3 hc s6
    have s8:=zaw hc s6 3
    simp only [zas] at *
    refine ⟨_,_,c6,?_⟩
    simp [go_sem]
    generalize nx1 c τ6 3=v6 at *
    generalize nx2 c τ6 3=τ8 at *
    by_cases h6:v6=0
    .simp [go_sem,h6]
     refine zac (0::5::6::List.range' 31 12) (fun x:List Int × Src × Nat=>[(0,.box 162 [.sl c.length (bys c),.int x.2.1.1,.val (.int .u64 x.2.1.2)]),(5,.ofs 1 2 37 (avs x.1)),(6,.int x.2.2)]) (fun x=>x.1.length=38/\SOk x.2.1/\x.2.2<=37) (fun x=>37-x.2.2) (M,τ8,2) ⟨lM,s8,by simp only; omega⟩ (by simp [go_sem]) (by simp [go_sem]) ?_
     rintro ⟨X,τ9,i⟩ ⟨x1,x2,x3⟩
     simp only at x1 x2 x3
     by_cases hi:i<37
     .have hii:(i:Int)<37:=by omega
      have c7:=zak c τ9 4 hc x2
      have s7:=zaw hc x2 4
      simp only [zas] at *
      simp [go_sem,hii]
      refine ⟨_,_,c7,?_⟩
      simp [go_sem]
      generalize nx1 c τ9 4=v7 at *
      generalize nx2 c τ9 4=τa at *
      by_cases h7:0<v7
      .simp [go_sem,h7]
       exact ⟨by omega,by omega,⟨by omega,by omega⟩,X.set (1+i) 0,τa.1,τa.2,i+1,⟨by rw [List.length_set]; exact x1,s7,by omega⟩,by omega,zaa _ _ _ (by simp),by simp [zaM]⟩
      .simp [go_sem,h7]
       exact ⟨⟨by omega,by omega⟩,X,τa.1,τa.2,i+1,⟨x1,s7,by omega⟩,by omega,zaa _ _ _ (by simp),by simp⟩
     .have hii:¬ (i:Int)<37:=by omega
      simp [go_sem,hii]
      exact ⟨τ9.1,τ9.2,x2,⟨rfl,rfl⟩,X.tail,by rw [List.length_tail]; omega,by rw [List.length_tail]; omega,by unfold avs; rw [List.map_tail]⟩
    .simp [go_sem,h6]
     exact ⟨τ8.1,τ8.2,s8,⟨rfl,rfl⟩,M.tail,by rw [List.length_tail]; omega,by rw [List.length_tail]; omega,by unfold avs; rw [List.map_tail]⟩
   .simp [go_sem,h4]
    have lM:=l1
    have s6:=s4
    generalize L=M at *
    generalize τ4=τ6 at *
    have c6:=zak c τ6 3 hc s6
    have s8:=zaw hc s6 3
    simp only [zas] at *
    refine ⟨_,_,c6,?_⟩
    simp [go_sem]
    generalize nx1 c τ6 3=v6 at *
    generalize nx2 c τ6 3=τ8 at *
    by_cases h6:v6=0
    .simp [go_sem,h6]
     refine zac (0::5::6::List.range' 31 12) (fun x:List Int × Src × Nat=>[(0,.box 162 [.sl c.length (bys c),.int x.2.1.1,.val (.int .u64 x.2.1.2)]),(5,.ofs 1 2 37 (avs x.1)),(6,.int x.2.2)]) (fun x=>x.1.length=38/\SOk x.2.1/\x.2.2<=37) (fun x=>37-x.2.2) (M,τ8,2) ⟨lM,s8,by simp only; omega⟩ (by simp [go_sem]) (by simp [go_sem]) ?_
     rintro ⟨X,τ9,i⟩ ⟨x1,x2,x3⟩
     simp only at x1 x2 x3
     by_cases hi:i<37
     .have hii:(i:Int)<37:=by omega
      have c7:=zak c τ9 4 hc x2
      have s7:=zaw hc x2 4
      simp only [zas] at *
      simp [go_sem,hii]
      refine ⟨_,_,c7,?_⟩
      simp [go_sem]
      generalize nx1 c τ9 4=v7 at *
      generalize nx2 c τ9 4=τa at *
      by_cases h7:0<v7
      .simp [go_sem,h7]
       exact ⟨by omega,by omega,⟨by omega,by omega⟩,X.set (1+i) 0,τa.1,τa.2,i+1,⟨by rw [List.length_set]; exact x1,s7,by omega⟩,by omega,zaa _ _ _ (by simp),by simp [zaM]⟩
      .simp [go_sem,h7]
       exact ⟨⟨by omega,by omega⟩,X,τa.1,τa.2,i+1,⟨x1,s7,by omega⟩,by omega,zaa _ _ _ (by simp),by simp⟩
     .have hii:¬ (i:Int)<37:=by omega
      simp [go_sem,hii]
      exact ⟨τ9.1,τ9.2,x2,⟨rfl,rfl⟩,X.tail,by rw [List.length_tail]; omega,by rw [List.length_tail]; omega,by unfold avs; rw [List.map_tail]⟩
    .simp [go_sem,h6]
     exact ⟨τ8.1,τ8.2,s8,⟨rfl,rfl⟩,M.tail,by rw [List.length_tail]; omega,by rw [List.length_tail]; omega,by unfold avs; rw [List.map_tail]⟩
 .have c3:=zdx c τ1 f hc s1
  simp only [zas] at *
  simp [go_sem,v0]
  refine ⟨_,c3,?_⟩
  rintro _ _ ⟨τ,L,s1,rfl,l1,rfl | rfl⟩
  .simp [go_sem]
   have c4:=zak c τ 3 hc s1
   have s4:=zaw hc s1 3
   simp only [zas] at *
   refine ⟨_,_,c4,?_⟩
   simp [go_sem]
   generalize nx1 c τ 3=v4 at *
   generalize nx2 c τ 3=τ4 at *
   have c5:=zbG c τ4 [1,0,2] hc s4 (by simp) (by simp)
   have s5:=zaw hc s4 ([1,0,2]:List Int).length
   simp only [zas] at *
   by_cases h4:v4=0
   .simp [go_sem,h4]
    refine ⟨_,_,c5,?_⟩
    simp [go_sem]
    refine ⟨by omega,?_⟩
    generalize pk c τ4 [1,0,2]=g5 at *
    have es:(avs L).set 1 (.int g5)=avs (L.set 1 g5):=zaM _ _ _
    have lM:(L.set 1 g5).length=38:=by rw [List.length_set]; exact l1
    rw [es]
    generalize L.set 1 g5=M at *
    have s6:SOk (nx2 c τ4 3):=s5
    generalize nx2 c τ4 3=τ6 at *
    have c6:=zak c τ6 3 hc s6
    have s8:=zaw hc s6 3
    simp only [zas] at *
    refine ⟨_,_,c6,?_⟩
    simp [go_sem]
    generalize nx1 c τ6 3=v6 at *
    generalize nx2 c τ6 3=τ8 at *
    by_cases h6:v6=0
    .simp [go_sem,h6]
     refine zac (0::5::6::List.range' 31 12) (fun x:List Int × Src × Nat=>[(0,.box 162 [.sl c.length (bys c),.int x.2.1.1,.val (.int .u64 x.2.1.2)]),(5,.own 2 38 (avs x.1)),(6,.int x.2.2)]) (fun x=>x.1.length=38/\SOk x.2.1/\x.2.2<=38) (fun x=>38-x.2.2) (M,τ8,2) ⟨lM,s8,by simp only; omega⟩ (by simp [go_sem]) (by simp [go_sem]) ?_
     rintro ⟨X,τ9,i⟩ ⟨x1,x2,x3⟩
     simp only at x1 x2 x3
     by_cases hi:i<38
     .have hii:(i:Int)<38:=by omega
      have c7:=zak c τ9 4 hc x2
      have s7:=zaw hc x2 4
      simp only [zas] at *
      simp [go_sem,hii]
      refine ⟨_,_,c7,?_⟩
      simp [go_sem]
      generalize nx1 c τ9 4=v7 at *
      generalize nx2 c τ9 4=τa at *
      by_cases h7:0<v7
      .simp [go_sem,h7]
       exact ⟨by omega,by omega,⟨by omega,by omega⟩,X.set (i) 0,τa.1,τa.2,i+1,⟨by rw [List.length_set]; exact x1,s7,by omega⟩,by omega,zaa _ _ _ (by simp),by simp [zaM]⟩
      .simp [go_sem,h7]
       exact ⟨⟨by omega,by omega⟩,X,τa.1,τa.2,i+1,⟨x1,s7,by omega⟩,by omega,zaa _ _ _ (by simp),by simp⟩
     .have hii:¬ (i:Int)<38:=by omega
      simp [go_sem,hii]
      exact ⟨τ9.1,τ9.2,x2,⟨rfl,rfl⟩,by omega,by omega⟩
    .simp [go_sem,h6]
     exact ⟨τ8.1,τ8.2,s8,⟨rfl,rfl⟩,by omega,by omega⟩
   .simp [go_sem,h4]
    have lM:=l1
    have s6:=s4
    generalize L=M at *
    generalize τ4=τ6 at *
    have c6:=zak c τ6 3 hc s6
    have s8:=zaw hc s6 3
    simp only [zas] at *
    refine ⟨_,_,c6,?_⟩
    simp [go_sem]
    generalize nx1 c τ6 3=v6 at *
    generalize nx2 c τ6 3=τ8 at *
    by_cases h6:v6=0
    .simp [go_sem,h6]
     refine zac (0::5::6::List.range' 31 12) (fun x:List Int × Src × Nat=>[(0,.box 162 [.sl c.length (bys c),.int x.2.1.1,.val (.int .u64 x.2.1.2)]),(5,.own 2 38 (avs x.1)),(6,.int x.2.2)]) (fun x=>x.1.length=38/\SOk x.2.1/\x.2.2<=38) (fun x=>38-x.2.2) (M,τ8,2) ⟨lM,s8,by simp only; omega⟩ (by simp [go_sem]) (by simp [go_sem]) ?_
     rintro ⟨X,τ9,i⟩ ⟨x1,x2,x3⟩
     simp only at x1 x2 x3
     by_cases hi:i<38
     .have hii:(i:Int)<38:=by omega
      have c7:=zak c τ9 4 hc x2
      have s7:=zaw hc x2 4
      simp only [zas] at *
      simp [go_sem,hii]
      refine ⟨_,_,c7,?_⟩
      simp [go_sem]
      generalize nx1 c τ9 4=v7 at *
      generalize nx2 c τ9 4=τa at *
      by_cases h7:0<v7
      .simp [go_sem,h7]
       exact ⟨by omega,by omega,⟨by omega,by omega⟩,X.set (i) 0,τa.1,τa.2,i+1,⟨by rw [List.length_set]; exact x1,s7,by omega⟩,by omega,zaa _ _ _ (by simp),by simp [zaM]⟩
      .simp [go_sem,h7]
       exact ⟨⟨by omega,by omega⟩,X,τa.1,τa.2,i+1,⟨x1,s7,by omega⟩,by omega,zaa _ _ _ (by simp),by simp⟩
     .have hii:¬ (i:Int)<38:=by omega
      simp [go_sem,hii]
      exact ⟨τ9.1,τ9.2,x2,⟨rfl,rfl⟩,by omega,by omega⟩
    .simp [go_sem,h6]
     exact ⟨τ8.1,τ8.2,s8,⟨rfl,rfl⟩,by omega,by omega⟩
  .simp [go_sem]
   have c4:=zak c τ 3 hc s1
   have s4:=zaw hc s1 3
   simp only [zas] at *
   refine ⟨_,_,c4,?_⟩
   simp [go_sem]
   generalize nx1 c τ 3=v4 at *
   generalize nx2 c τ 3=τ4 at *
   have c5:=zbG c τ4 [1,0,2] hc s4 (by simp) (by simp)
   have s5:=zaw hc s4 ([1,0,2]:List Int).length
   simp only [zas] at *
   by_cases h4:v4=0
   .simp [go_sem,h4]
    refine ⟨_,_,c5,?_⟩
    simp [go_sem]
    refine ⟨by omega,?_⟩
    generalize pk c τ4 [1,0,2]=g5 at *
    have es:(avs L).set 2 (.int g5)=avs (L.set 2 g5):=zaM _ _ _
    have lM:(L.set 2 g5).length=38:=by rw [List.length_set]; exact l1
    rw [es]
    generalize L.set 2 g5=M at *
    have s6:SOk (nx2 c τ4 3):=s5
    generalize nx2 c τ4 3=τ6 at *
    have c6:=zak c τ6 3 hc s6
    have s8:=zaw hc s6 3
    simp only [zas] at *
    refine ⟨_,_,c6,?_⟩
    simp [go_sem]
    generalize nx1 c τ6 3=v6 at *
    generalize nx2 c τ6 3=τ8 at *
    by_cases h6:v6=0
    .simp [go_sem,h6]
     refine zac (0::5::6::List.range' 31 12) (fun x:List Int × Src × Nat=>[(0,.box 162 [.sl c.length (bys c),.int x.2.1.1,.val (.int .u64 x.2.1.2)]),(5,.ofs 1 2 37 (avs x.1)),(6,.int x.2.2)]) (fun x=>x.1.length=38/\SOk x.2.1/\x.2.2<=37) (fun x=>37-x.2.2) (M,τ8,2) ⟨lM,s8,by simp only; omega⟩ (by simp [go_sem]) (by simp [go_sem]) ?_
     rintro ⟨X,τ9,i⟩ ⟨x1,x2,x3⟩
     simp only at x1 x2 x3
     by_cases hi:i<37
     .have hii:(i:Int)<37:=by omega
      have c7:=zak c τ9 4 hc x2
      have s7:=zaw hc x2 4
      simp only [zas] at *
      simp [go_sem,hii]
      refine ⟨_,_,c7,?_⟩
      simp [go_sem]
      generalize nx1 c τ9 4=v7 at *
      generalize nx2 c τ9 4=τa at *
      by_cases h7:0<v7
      .simp [go_sem,h7]
       exact ⟨by omega,by omega,⟨by omega,by omega⟩,X.set (1+i) 0,τa.1,τa.2,i+1,⟨by rw [List.length_set]; exact x1,s7,by omega⟩,by omega,zaa _ _ _ (by simp),by simp [zaM]⟩
      .simp [go_sem,h7]
       exact ⟨⟨by omega,by omega⟩,X,τa.1,τa.2,i+1,⟨x1,s7,by omega⟩,by omega,zaa _ _ _ (by simp),by simp⟩
     .have hii:¬ (i:Int)<37:=by omega
      simp [go_sem,hii]
      exact ⟨τ9.1,τ9.2,x2,⟨rfl,rfl⟩,X.tail,by rw [List.length_tail]; omega,by rw [List.length_tail]; omega,by unfold avs; rw [List.map_tail]⟩
    .simp [go_sem,h6]
     exact ⟨τ8.1,τ8.2,s8,⟨rfl,rfl⟩,M.tail,by rw [List.length_tail]; omega,by rw [List.length_tail]; omega,by unfold avs; rw [List.map_tail]⟩
   .simp [go_sem,h4]
    have lM:=l1
    have s6:=s4
    generalize L=M at *
    generalize τ4=τ6 at *
    have c6:=zak c τ6 3 hc s6
    have s8:=zaw hc s6 3
    simp only [zas] at *
    refine ⟨_,_,c6,?_⟩
    simp [go_sem]
    generalize nx1 c τ6 3=v6 at *
    generalize nx2 c τ6 3=τ8 at *
    by_cases h6:v6=0
    .simp [go_sem,h6]
     refine zac (0::5::6::List.range' 31 12) (fun x:List Int × Src × Nat=>[(0,.box 162 [.sl c.length (bys c),.int x.2.1.1,.val (.int .u64 x.2.1.2)]),(5,.ofs 1 2 37 (avs x.1)),(6,.int x.2.2)]) (fun x=>x.1.length=38/\SOk x.2.1/\x.2.2<=37) (fun x=>37-x.2.2) (M,τ8,2) ⟨lM,s8,by simp only; omega⟩ (by simp [go_sem]) (by simp [go_sem]) ?_
     rintro ⟨X,τ9,i⟩ ⟨x1,x2,x3⟩
     simp only at x1 x2 x3
     by_cases hi:i<37
     .have hii:(i:Int)<37:=by omega
      have c7:=zak c τ9 4 hc x2
      have s7:=zaw hc x2 4
      simp only [zas] at *
      simp [go_sem,hii]
      refine ⟨_,_,c7,?_⟩
      simp [go_sem]
      generalize nx1 c τ9 4=v7 at *
      generalize nx2 c τ9 4=τa at *
      by_cases h7:0<v7
      .simp [go_sem,h7]
       exact ⟨by omega,by omega,⟨by omega,by omega⟩,X.set (1+i) 0,τa.1,τa.2,i+1,⟨by rw [List.length_set]; exact x1,s7,by omega⟩,by omega,zaa _ _ _ (by simp),by simp [zaM]⟩
      .simp [go_sem,h7]
       exact ⟨⟨by omega,by omega⟩,X,τa.1,τa.2,i+1,⟨x1,s7,by omega⟩,by omega,zaa _ _ _ (by simp),by simp⟩
     .have hii:¬ (i:Int)<37:=by omega
      simp [go_sem,hii]
      exact ⟨τ9.1,τ9.2,x2,⟨rfl,rfl⟩,X.tail,by rw [List.length_tail]; omega,by rw [List.length_tail]; omega,by unfold avs; rw [List.map_tail]⟩
    .simp [go_sem,h6]
     exact ⟨τ8.1,τ8.2,s8,⟨rfl,rfl⟩,M.tail,by rw [List.length_tail]; omega,by rw [List.length_tail]; omega,by unfold avs; rw [List.map_tail]⟩
theorem zcK (c:List Int) (hc:Byt c) :
  RCon Tryz.prog 28 [.sl c.length (bys c)] (fun r o=>o=[.any]/\∃ b a:List Int,(b.length<=38/\a.length<=38)/\r=.tup [.sl b.length (avs b),.sl a.length (avs a)]):=by
 have c0:=zlG c hc
 simp only [zas] at *
 refine zbq Tryz.mixed ⟨6,[],[1000000+98,2000000+96,2000000+97],[]⟩ [] Tryz.func28 ?_
 rw [Tryz.ntmps28]
 simp [go_sem]
 refine ⟨_,c0,?_⟩
 rintro _ _ ⟨rfl,h,rfl⟩
 have s0:SOk ((0,h):Src):=by unfold SOk; simp
 have c1:=zgc c (0,h) 0 hc s0
 simp only [zas] at *
 simp [go_sem]
 refine ⟨_,c1,?_⟩
 rintro _ _ ⟨τ,b,s1,rfl,lb,rfl⟩
 have c2:=zbG c τ [0,1] hc s1 (by simp) (by simp)
 have s2:=zaw hc s1 ([0,1]:List Int).length
 simp only [zas] at *
 simp [go_sem]
 refine ⟨_,_,c2,?_⟩
 simp [go_sem]
 generalize pk c τ [0,1]=g at *
 have s3:SOk (nx2 c τ 2):=s2
 generalize nx2 c τ 2=τ2 at *
 have c3:=zgc c τ2 g hc s3
 simp only [zas] at *
 refine ⟨_,c3,?_⟩
 rintro _ _ ⟨τ3,a,s4,rfl,la,rfl⟩
 simp [go_sem]
 exact ⟨b,a,⟨lb,la⟩,⟨rfl,rfl⟩,⟨rfl,rfl⟩⟩
end Go.Proofs.YthhdollpkieknaaGreat


namespace Go.Proofs.YthhdollpkieknaaGreat
open Go.Abs
def rlH (c:List Int) (sd:Int):Nat->Int
 | 0=>IntKind.u64.wrap (IntKind.u64.wrap (sd*8111)+IntKind.u64.wrap c.length)
 | i+1=>IntKind.u64.wrap (IntKind.u64.wrap (IntKind.u64.wrap (rlH c sd i*1099511628211)+IntKind.u64.wrap (c[i]?.getD 0))+5)
theorem zqY (c:List Int) (sd:Int) (hc:Byt c):GCon Tryz.prog 35 [.sl c.length (bys c),.val (.int .u64 sd)] (dicA c (0,rlH c sd c.length)) [.any,.any]:=by
 have hcl:=hc.1
 unfold dicA
 refine zai Tryz.mixed ⟨7,[],[],[]⟩ [] Tryz.func35 ?_
 rw [Tryz.ntmps35]
 simp [go_sem]
 refine zac (5::6::List.range' 16 21) (fun i:Nat=>[(5,.box 117 [.sl c.length (bys c),.int 0,.val (.int .u64 (rlH c sd i))]),(6,.int i)]) (fun i=>i<=c.length) (fun i=>c.length-i) 0 (by simp) (by simp [go_sem,rlH]) (by simp [go_sem]) ?_
 intro i hi
 by_cases hic:i<c.length
 .have h4:(i:Int)<4096:=by omega
  have hne:¬ c=[]:=by rintro rfl; simp at hic
  have hD:=zdS hic
  have hb:=hc.get i
  simp [go_sem,hic,hD]
  refine ⟨by kernel_rfl,by intro e; exact hne (by simpa [bys] using e),?_⟩
  refine ⟨by kernel_rfl,?_⟩
  simp [go_sem]
  exact ⟨⟨by omega,by omega⟩,i+1,by omega,by omega,zaa _ _ _ (by simp),by simp [rlH,hic],by omega⟩
 .have e:i=c.length:=by omega
  subst e
  simp [go_sem]
end Go.Proofs.YthhdollpkieknaaGreat


namespace Go.Proofs.YthhdollpkieknaaGreat
open Go.ChangeShapes Go.WideShapes Go.ChangeAt Go.RowKit Go.Abs Go.Deep
section
variable {H:Type} {enc:TypeId × Value->H} {w:World} {sp:Nat->Bool} {held:Bool} {base:Nat}
theorem kids:Kids Tryz.prog (·<Tryz.prog.types.size):=kids_rows (by kernel_rfl) (by kernel_rfl)
theorem full:∀ t e,t<Tryz.prog.types.size->Tryz.prog.underlying t=some (.slice e)->0<Tryz.prog.cellsOf e:=slices_full_of Tryz.prog (by kernel_rfl)
theorem zqK {α β:Type} (g:α->β):∀ qs:List α,qs.flatMap (fun a=>[g a])=qs.map g
 | []=>rfl
 | a::qs=>by rw [List.flatMap_cons,zqK g qs]; rfl
theorem zpy {F:Nat->Prop} {tm:Nat->Value} {oss:Nat->List Nat} {c:AV} {v:Value} (h:RepL Tryz.prog w F [c] [v] []):RepT Tryz.prog w F tm oss c v []:=.cell _ _ _ (RepL.one h)
theorem repV {F:Nat->Prop} {tm:Nat->Value} {oss:Nat->List Nat} {t e:TypeId} {v:Value} {c:AV} {r:Reach} {b0:Nat} (ht:Tryz.prog.underlying t=some (.slice e)) (hv:Value.okWide Tryz.prog w r b0 t v) (h:RepL Tryz.prog w F [c] v.cells.toList []) :
  RepT Tryz.prog w F tm oss c v []:=by
 have hc:v.cells.toList=[v]:=by
  simp only [Value.okWide,ht] at hv
  cases v <;> simp_all [Value.cells,Cell.okWide,Cell.ok]
 rw [hc] at h
 exact zpy h
end
end Go.Proofs.YthhdollpkieknaaGreat


namespace Go.Proofs.YthhdollpkieknaaGreat
open Go.Abs
open Go.ChangeShapes Go.WideShapes Go.ChangeAt Go.RowKit Go.Deep
theorem zsp (c:List Int) (hl:c.length<=9223372036854775807):Con Tryz.prog 8 [.sl c.length (bys c)] (.bool (decide (4096<c.length))):=by
 refine zab Tryz.mixed ⟨3,[],[],[]⟩ Tryz.func8 ?_
 rw [Tryz.ntmps8]
 simp [go_sem]
 omega
section
variable {H:Type} {enc:TypeId × Value->H} {w:World} {sp:Nat->Bool} {held:Bool} {base:Nat}
theorem zmY {n:Nat} {cs:List Value} {x:DataW H × List MemPlace} (h:DataW.trod enc Tryz.prog w base sp held n 22 cs=some x) :
  ∃ xs:List Int,(∀ z∈xs,0<=z/\z<=255)/\xs.length<=9223372036854775807/\RepL Tryz.prog w (fun b=>b<w.heap.size) [.sl xs.length (bys xs)] cs []/\cs.length=1:=by
 obtain ⟨qs,h1,h2,h3,h4⟩:=zoA (f:=fun z:Int=>[AV.val (.int .u8 z)]) (Good:=fun z=>(Lit.int .u8 z).wf=true) Tryz.underlying22 (s:=1) (by kernel_rfl) (by decide) (fun _=>rfl)
  (fun n cs y hy=>by obtain ⟨z,k1,k2,_⟩:=zq8 Tryz.underlying5 hy; exact ⟨z,k1,k2⟩) h
 refine ⟨qs,fun z hz=>?_,h2,by rw [zqK] at h3; exact h3,h4⟩
 have:=h1 z hz
 simp [Lit.wf,IntKind.min,IntKind.max,IntKind.signed,IntKind.bits] at this
 omega
end
end Go.Proofs.YthhdollpkieknaaGreat


namespace Go.Proofs.YthhdollpkieknaaGreat
open Go.Abs
theorem zi5 {b a:List Int} (hb:Inf b) (ha:N38 a):smE b a=0:=by unfold smE; rw [if_pos ⟨hb.1.mapB,ha.mapB⟩,if_pos hb.2]
theorem ziz {b a:List Int} (hb:Inf b) (ha:N38 a):smX b a=sbS b a:=by unfold smX; rw [if_pos (zi5 hb ha)]
theorem zhe (f:Nat->Int) {i:Nat} (h:i<6):(tlV.map f).take (i+2)=(tlV.map f).take (i+1)++[f (tlP (i+1))]:=by
 match i,h with
 | 0,_=>rfl
 | 1,_=>rfl
 | 2,_=>rfl
 | 3,_=>rfl
 | 4,_=>rfl
 | 5,_=>rfl
theorem zk4 (f:Nat->Int):(tlV.map f).take 1=[f 0]:=rfl
theorem zhl (f:Nat->Int):(tlV.map f).take 7=tlV.map f:=rfl
theorem zqS {i:Nat} (h:i<6):1<=tlP (i+1)/\tlP (i+1)<=18:=by
 match i,h with
 | 0,_=>decide
 | 1,_=>decide
 | 2,_=>decide
 | 3,_=>decide
 | 4,_=>decide
 | 5,_=>decide
theorem zqa {i:Nat} (h:i<6):Con Tryz.prog 31 [.int ((i:Int)+1)] (.tup [.own 2 (i+1) (avs (upTo (i+1))),.int 0]):=by
 have c:=zjD ((i:Int)+1)
 unfold tall at c
 rw [if_pos (by omega),show ((i:Int)+1).toNat=i+1 by omega] at c
 exact c
theorem zcd (c:List Int) (hl:c.length<=9223372036854775807) (hb:∀ x∈c,0<=x/\x<=255):Con Tryz.prog 4 [.sl c.length (bys c)] (.bool true):=by
 have cB:=zsp c hl
 by_cases hc4:4096<c.length
 .refine zab Tryz.mixed ⟨25,[],[1000000+35,1000000+34,2000000+28],[]⟩ Tryz.func4 ?_
  rw [Tryz.ntmps4]
  simp [go_sem]
  refine CallVC.of (cB) ?_
  simp [go_sem]
  simp [go_sem,hc4]
 .have hc:Byt c:=⟨by omega,hb⟩
  have cD:=zcK c hc
  have cR:=zqY c 618 hc
  have s0:SOk ((0,rlH c 618 c.length):Src):=by unfold SOk; simp
  generalize (rlH c 618 c.length)=R0 at *
  have cK:=zkT c (0,R0) hc s0
  have kN:=(zqP hc s0).1
  generalize (n5V c (0,R0)).1=k at *
  generalize (n5V c (0,R0)).2=T at *
  unfold dicA at *
  refine zab Tryz.mixed ⟨25,[],[1000000+35,1000000+34,2000000+28],[]⟩ Tryz.func4 ?_
  rw [Tryz.ntmps4]
  simp [go_sem]
  refine CallVC.of (cB) ?_
  simp [go_sem]
  simp [go_sem,hc4]
  refine ⟨_,cD,?_⟩
  rintro _ _ ⟨rfl,b,a,⟨lb,la⟩,rfl⟩
  have c1:=zb3 b a (by omega) (by omega)
  have c2:=zdB b a (by omega) (by omega)
  by_cases hE:smE b a=0
  .obtain ⟨hB,hA⟩:=zkr hE
   have lb:=hB.1.1
   have la:=hA.1
   have hM:=zpA kN
   have c3:=zb3 (mnyS k) a (by rw [hM.1.1]; omega) (by omega)
   have c4:=zjz a k hA kN
   rw [zi5 hM hA,ziz hM hA,zpi,hM.1.1,(zmL k a).1] at c3
   rw [hE,ziz hB hA,(zec b a).1] at c1 c2
   have hX:=zec b a
   have lX:=hX.1
   have lS:=(zmL k a).1
   have cC:=zd1 (tlV.map (iat a)) (tlV.map (iat b)) (by simp [tlV]) (by simp [tlV]) (fun x hx=>by obtain ⟨v,_,rfl⟩:=List.mem_map.1 hx; exact hA.Ns.get v) (fun x hx=>by obtain ⟨v,_,rfl⟩:=List.mem_map.1 hx; exact hB.1.Ns.get v) rfl hB.2
   have cL:=zmh hB hA
   rw [show (tlV.map (iat a)).length=7 from rfl,show (tlV.map (iat b)).length=7 from rfl,cL] at cC
   have tb:=fun i h=>zhe (iat b) (i:=i) h
   have ta:=fun i h=>zhe (iat a) (i:=i) h
   have tx:=fun i h=>zhe (iat (sbS b a)) (i:=i) h
   have ob:=zk4 (iat b)
   have oa:=zk4 (iat a)
   have ox:=zk4 (iat (sbS b a))
   have eb:=zhl (iat b)
   have ea:=zhl (iat a)
   have ex:=zhl (iat (sbS b a))
   have l1:=zcy (sbS b a) (sbS b a) (by omega)
   have l2:=zcy (tlV.map (iat (sbS b a))) (tlV.map (iat (sbS b a))) (by simp [tlV])
   have l3:=zcy (scS k a) (scS k a) (by omega)
   simp only [decide_true] at l1 l2 l3
   rw [show (tlV.map (iat (sbS b a))).length=7 from rfl] at l2
   have lTb:(tlV.map (iat b)).length=7:=rfl
   have lTa:(tlV.map (iat a)).length=7:=rfl
   have lTx:(tlV.map (iat (sbS b a))).length=7:=rfl
   have db:=fun v h=>zao (a:=b) (v:=v) h
   have da:=fun v h=>zao (a:=a) (v:=v) h
   have dx:=fun v h=>zao (a:=sbS b a) (v:=v) h
   have d0b:=db 0 (by omega)
   have d0a:=da 0 (by omega)
   have d0x:=dx 0 (by omega)
   rw [List.drop_zero,Nat.zero_add,List.drop_one] at d0b d0a d0x
   have nb:=hB.1.ne
   have na:=hA.ne
   have nx:=hX.ne
   have em:avs (mnyS k)=[.int 0,.int k,.int 0,.int 0,.int 0,.int 0,.int 0,.int 0,.int 0,.int 0,.int 0,.int 0,.int 0,.int 0,.int 0,.int 0,.int 0,.int 0,.int 0,.int 0,.int 0,.int 0,.int 0,.int 0,.int 0,.int 0,.int 0,.int 0,.int 0,.int 0,.int 0,.int 0,.int 0,.int 0,.int 0,.int 0,.int 0,.int 0]:=rfl
   rw [lX] at l1
   rw [lS] at l3
   rw [em] at c3
   rw [la] at c1 c2 c3 c4
   rw [lb] at c1 c2
   clear hM hE hX cL cD
   generalize sbS b a=X at *
   generalize scS k a=S at *
   generalize tlV.map (iat b)=P at *
   generalize tlV.map (iat a)=Q at *
   generalize tlV.map (iat X)=R at *
   rw [la,lb]
   simp [go_sem]
   refine CallVC.of (c1) ?_
   simp [go_sem]
   refine CallVC.of (c2) ?_
   simp [go_sem]
   refine CallVC.of (l1) ?_
   simp [go_sem]
   simp [go_sem,d0b,d0a,d0x]
   refine ⟨by kernel_rfl,nb,?_⟩
   refine ⟨by kernel_rfl,?_⟩
   simp [go_sem]
   rw [<- d0b,<- d0a,<- d0x]
   refine zac (9::10::11::12::13::14::15::16::List.range' 67 53) (fun i:Nat=>[(9,.own 2 (i+1) (avs (P.take (i+1)))),(10,.own 2 (i+1) (avs (Q.take (i+1)))),(11,.own 2 (i+1) (avs (R.take (i+1)))),(12,.int ((i:Int)+1))]) (fun i=>i<=6) (fun i=>6-i) 0 (by simp) (by simp [go_sem,ob,oa,ox,avs]) (by simp [go_sem]) ?_
   intro i hi
   by_cases hil:i<6
   .have hii:(i:Int)+1<=6:=by omega
    have cT:=zqa hil
    have cI:=zkG (i+1) (by omega) (by omega)
    obtain ⟨x1,x2⟩:=zqS hil
    have tb:=tb i hil
    have ta:=ta i hil
    have tx:=tx i hil
    generalize hv:tlP (i+1)=v at *
    have e1:(v:Int)-1+1=v:=by omega
    have db:=db v (by omega)
    have da:=da v (by omega)
    have gx:(avs X)[v]?=some (.int (iat X v)):=zca (by omega)
    have lP2:(P.take (i+1)).length=i+1:=by rw [List.length_take]; omega
    have lQ2:(Q.take (i+1)).length=i+1:=by rw [List.length_take]; omega
    have lR2:(R.take (i+1)).length=i+1:=by rw [List.length_take]; omega
    generalize P.take (i+1)=P1 at *
    generalize Q.take (i+1)=Q1 at *
    generalize R.take (i+1)=R1 at *
    have n1:¬ (v:Int)-1<0:=by omega
    have n2:¬ (38:Int)<=v:=by omega
    simp [go_sem,hii]
    refine CallVC.of (cT) ?_
    simp [go_sem]
    refine CallVC.of (cI) ?_
    simp [go_sem]
    simp [go_sem,e1,n1,n2,db,da,gx]
    refine ⟨by omega,⟨by omega,nb⟩,⟨lP2,by omega,by omega⟩,by omega,⟨by omega,na⟩,⟨lQ2,by omega,by omega⟩,by omega,by omega,⟨lR2,by omega,by omega⟩,⟨by omega,by omega⟩,i+1,by omega,by omega,(by repeat (first | exact zaa _ _ _ (by simp) | (refine Off.reset (by intro x hx; simp at hx |-; omega) (by simp) ?_; simp -failIfUnchanged [go_sem,zaa]))),?_⟩
    rw [tb,ta,tx]
    simp only [zaE]
    exact ⟨⟨trivial,trivial⟩,⟨trivial,trivial⟩,⟨trivial,trivial⟩,by omega⟩
   .have e:i=6:=by omega
    subst e
    rw [eb,ea,ex]
    simp [go_sem]
    refine CallVC.of (cC) ?_
    simp [go_sem]
    refine ⟨_,_,cR,?_⟩
    simp [go_sem]
    refine ⟨_,_,cK,?_⟩
    simp [go_sem]
    refine CallVC.of (c3) ?_
    simp [go_sem]
    refine CallVC.of (c4) ?_
    simp [go_sem]
    refine CallVC.of (l2) ?_
    simp [go_sem]
    refine CallVC.of (l3) ?_
    simp [go_sem]
    done
  .have eX:smX b a=[]:=by unfold smX; rw [if_neg hE]
   rw [eX] at c1 c2
   generalize smE b a=e at *
   have l0:=zcy [] [] (by simp)
   simp only [decide_true] at l0
   simp [go_sem]
   refine CallVC.of (c1) ?_
   simp [go_sem]
   refine CallVC.of (c2) ?_
   simp [go_sem]
   refine CallVC.of (l0) ?_
   simp [go_sem]
   simp [go_sem,hE]
end Go.Proofs.YthhdollpkieknaaGreat

