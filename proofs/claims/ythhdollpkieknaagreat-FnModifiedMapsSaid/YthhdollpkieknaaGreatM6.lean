/- Texts of the own layer and contracts, part 6: E43 E44 E45 E46 E47 V15 W51 W50 E48 E49 E53 W65 W66 W52 W53 E51 W87 W33 W54 W55 Q15 Q16 Q17 Q18 Q19 Q20 Q21 Q22 Q23 Q24 Q25 Q26 Q30 Q31 Q32 Q33 Q44 W0 W56 W57. -/
import Derived.Test.YthhdollpkieknaaGreatM5
set_option linter.unusedSectionVars false
set_option linter.unusedVariables false
set_option linter.unusedSimpArgs false
set_option maxHeartbeats 40000000
set_option maxRecDepth 100000
namespace Go.Proofs.YthhdollpkieknaaGreat
abbrev Mo:=Nat × List Nat
abbrev Py:=List Mo
def evm (r:Nat->Int):List Nat->Int
 | []=>1
 | v::m=>r v*evm r m
def evp (r:Nat->Int):Py->Int
 | []=>0
 | t::P=>(t.1:Int)*evm r t.2+evp r P
def insM (v:Nat):List Nat->List Nat
 | []=>[v]
 | w::m=>if Nat.ble v w then v::w::m else w::insM v m
def zme:List Nat->List Nat->List Nat
 | [],n=>n
 | v::m,n=>insM v (zme m n)
def cmM:List Nat->List Nat->Nat
 | [],[]=>1
 | [],_::_=>0
 | _::_,[]=>2
 | v::m,w::n=>if Nat.beq v w then cmM m n else if Nat.ble v w then 0 else 2
def addT (t:Mo):Py->Py
 | []=>[t]
 | u::P=>match cmM t.2 u.2 with
  | 0=>t::u::P
  | 1=>let c:=(t.1+u.1)%10007; if Nat.beq c 0 then P else (c,u.2)::P
  | _=>u::addT t P
def addP:Py->Py->Py
 | [],Q=>Q
 | t::P,Q=>addT t (addP P Q)
def mulT (t:Mo):Py->Py->Py
 | [],R=>R
 | u::P,R=>addT ((t.1*u.1)%10007,zme t.2 u.2) (mulT t P R)
def mulP:Py->Py->Py
 | [],_=>[]
 | t::P,Q=>mulT t Q (mulP P Q)
theorem zoJ (r:Nat->Int) (v:Nat):∀ m,evm r (insM v m)=r v*evm r m
 | []=>rfl
 | w::m=>by
  unfold insM
  split
  .rfl
  .rw [evm,zoJ r v m,evm,Int.mul_left_comm]
theorem zn9 (r:Nat->Int):∀ m n,evm r (zme m n)=evm r m*evm r n
 | [],n=>by simp [zme,evm]
 | v::m,n=>by rw [zme,zoJ,zn9 r m n,evm,Int.mul_assoc]
theorem zsE:∀ {m n:List Nat},cmM m n=1->m=n
 | [],[],_=>rfl
 | [],_::_,h=>by simp [cmM] at h
 | _::_,[],h=>by simp [cmM] at h
 | v::m,w::n,h=>by
  unfold cmM at h
  by_cases e:Nat.beq v w=true
  .rw [if_pos e] at h
   rw [Nat.eq_of_beq_eq_true e,zsE h]
  .rw [if_neg e] at h
   split at h <;> simp at h
theorem za5 {a b c d:Int} (h:a%10007=b%10007) (k:c%10007=d%10007):(a+c)%10007=(b+d)%10007:=by omega
theorem zas {a b c d:Int} (h:a%10007=b%10007) (k:c%10007=d%10007):(a*c)%10007=(b*d)%10007:=by
 rw [Int.mul_emod,h,k,<- Int.mul_emod]
theorem zfe (r:Nat->Int) (t:Mo):∀ P,evp r (addT t P)%10007=((t.1:Int)*evm r t.2+evp r P)%10007
 | []=>rfl
 | u::P=>by
  unfold addT
  split
  .rfl
  .rename_i h
   have e:=zsE h
   have h1:(((t.1+u.1)%10007:Nat):Int)*evm r u.2%10007=((t.1:Int)+u.1)*evm r u.2%10007:=by
    refine zas ?_ rfl
    omega
   rw [Int.add_mul] at h1
   show evp r (if Nat.beq ((t.1+u.1)%10007) 0=true then P else ((t.1+u.1)%10007,u.2)::P)%10007=_
   rw [e,evp]
   split
   .rename_i h0
    have h0:=Nat.eq_of_beq_eq_true h0
    rw [h0] at h1
    simp only [Int.natCast_zero,Int.zero_mul] at h1
    omega
   .rw [evp]
    simp only
    omega
  .rw [evp,evp]
   have:=zfe r t P
   omega
theorem zbS (r:Nat->Int):∀ P Q,evp r (addP P Q)%10007=(evp r P+evp r Q)%10007
 | [],Q=>by simp [addP,evp]
 | t::P,Q=>by
  rw [addP,zfe,evp]
  have:=zbS r P Q
  omega
theorem zlc (r:Nat->Int) (t:Mo):∀ P R,evp r (mulT t P R)%10007=((t.1:Int)*evm r t.2*evp r P+evp r R)%10007
 | [],R=>by simp [mulT,evp]
 | u::P,R=>by
  rw [mulT,zfe,evp]
  have h:=zlc r t P R
  have h1:(((t.1*u.1)%10007:Nat):Int)*evm r (zme t.2 u.2)%10007=(t.1:Int)*evm r t.2*((u.1:Int)*evm r u.2)%10007:=by
   rw [zn9,show (t.1:Int)*evm r t.2*((u.1:Int)*evm r u.2)=((t.1:Int)*u.1)*(evm r t.2*evm r u.2) by ac_rfl]
   refine zas ?_ rfl
   omega
  rw [Int.mul_add]
  generalize (t.1:Int)*evm r t.2*((u.1:Int)*evm r u.2)=A at *
  generalize (t.1:Int)*evm r t.2*evp r P=B at *
  simp only
  omega
theorem zed (r:Nat->Int):∀ P Q,evp r (mulP P Q)%10007=(evp r P*evp r Q)%10007
 | [],Q=>by simp [mulP,evp]
 | t::P,Q=>by
  rw [mulP,zlc,evp,Int.add_mul]
  have:=zed r P Q
  omega
end Go.Proofs.YthhdollpkieknaaGreat


namespace Go.Proofs.YthhdollpkieknaaGreat
def cutT:List (List (Nat × List Nat × Nat)):=[[(1,[],1),(1,[1],0)],
 [(1,[],2),(1,[1],1),(1,[2],0)],
 [(1,[],3),(1,[1],2),(1,[2],1),(1,[3],0)],
 [(1,[],4),(2,[1],2),(1,[1,1],1),(1,[4],0)],
 [(1,[],5),(1,[1],3),(1,[2],2),(1,[3],1),(1,[5],0)],
 [(1,[],6),(2,[1],3),(1,[1,1],2),(1,[4],1),(1,[6],0)],
 [(1,[],7),(1,[1],3),(1,[1],4),(1,[2],2),(1,[1,1],2),(1,[1,2],1),(1,[7],0)],
 [(1,[],8),(3,[1],4),(3,[1,1],2),(1,[1,1,1],1),(1,[8],0)],
 [(1,[],9),(1,[1],5),(1,[2],3),(1,[3],2),(1,[5],1),(1,[9],0)],
 [(1,[],10),(2,[1],5),(1,[1,1],3),(1,[4],2),(1,[6],1),(1,[10],0)],
 [(1,[],11),(1,[1],5),(1,[1],6),(1,[2],3),(1,[1,1],3),(1,[1,2],2),(1,[7],1),(1,[11],0)],
 [(1,[],12),(1,[1],5),(1,[1],7),(1,[2],4),(1,[1,1],3),(1,[3],2),(1,[1,2],2),(1,[1,3],1),(1,[12],0)],
 [(1,[],13),(3,[1],6),(3,[1,1],3),(1,[1,1,1],2),(1,[8],1),(1,[13],0)],
 [(1,[],14),(1,[1],6),(2,[1],7),(2,[1,1],3),(1,[1,1],4),(1,[4],2),(1,[1,1,1],2),(1,[1,4],1),(1,[14],0)],
 [(1,[],15),(2,[1],7),(2,[2],3),(1,[1,1],4),(2,[1,2],2),(1,[2,2],1),(1,[15],0)],
 [(1,[],16),(2,[1],7),(1,[1],8),(1,[2],4),(1,[1,1],3),(2,[1,1],4),(2,[1,2],2),(1,[1,1,1],2),(1,[1,1,2],1),(1,[16],0)],
 [(1,[],17),(4,[1],8),(6,[1,1],4),(4,[1,1,1],2),(1,[1,1,1,1],1),(1,[17],0)],
 [(1,[],18),(1,[1],9),(1,[2],5),(1,[3],3),(1,[5],2),(1,[9],1),(1,[18],0)],
 [(1,[],19),(2,[1],9),(1,[1,1],5),(1,[4],3),(1,[6],2),(1,[10],1),(1,[19],0)],
 [(1,[],20),(1,[1],9),(1,[1],10),(1,[2],5),(1,[1,1],5),(1,[1,2],3),(1,[7],2),(1,[11],1),(1,[20],0)],
 [(1,[],21),(1,[1],9),(1,[1],11),(1,[2],6),(1,[1,1],5),(1,[3],3),(1,[1,2],3),(1,[1,3],2),(1,[12],1),(1,[21],0)],
 [(1,[],22),(1,[1],9),(1,[1],12),(1,[2],7),(1,[1,1],5),(1,[3],4),(1,[1,2],3),(1,[5],2),(1,[1,3],2),(1,[1,5],1),(1,[22],0)],
 [(1,[],23),(3,[1],10),(3,[1,1],5),(1,[1,1,1],3),(1,[8],2),(1,[13],1),(1,[23],0)],
 [(1,[],24),(1,[1],10),(2,[1],11),(2,[1,1],5),(1,[1,1],6),(1,[4],3),(1,[1,1,1],3),(1,[1,4],2),(1,[14],1),(1,[24],0)],
 [(1,[],25),(1,[1],10),(2,[1],12),(2,[1,1],5),(1,[1,1],7),(1,[4],4),(1,[1,1,1],3),(1,[6],2),(1,[1,4],2),(1,[1,6],1),(1,[25],0)],
 [(1,[],26),(2,[1],11),(2,[2],5),(1,[1,1],6),(2,[1,2],3),(1,[2,2],2),(1,[15],1),(1,[26],0)],
 [(1,[],27),(2,[1],11),(1,[1],13),(1,[2],6),(1,[1,1],5),(2,[1,1],6),(2,[1,2],3),(1,[1,1,1],3),(1,[1,1,2],2),(1,[16],1),(1,[27],0)],
 [(1,[],28),(1,[1],11),(1,[1],12),(1,[1],14),(1,[2],7),(1,[1,1],5),(1,[1,1],6),(1,[1,1],7),(1,[1,2],3),(1,[1,2],4),(1,[1,1,1],3),(1,[7],2),(1,[1,1,2],2),(1,[1,7],1),(1,[28],0)],
 [(1,[],29),(1,[1],12),(1,[1],15),(1,[2],5),(1,[2],7),(1,[1,1],7),(1,[3],3),(1,[1,2],3),(1,[1,2],4),(1,[1,3],2),(1,[2,2],2),(1,[2,3],1),(1,[29],0)],
 [(1,[],30),(2,[1],12),(1,[1],16),(1,[2],8),(1,[1,1],5),(2,[1,1],7),(1,[3],4),(2,[1,2],4),(1,[1,1,1],3),(2,[1,3],2),(1,[1,1,2],2),(1,[1,1,3],1),(1,[30],0)],
 [(1,[],31),(4,[1],13),(6,[1,1],6),(4,[1,1,1],3),(1,[1,1,1,1],2),(1,[17],1),(1,[31],0)],
 [(1,[],32),(1,[1],13),(3,[1],14),(3,[1,1],6),(3,[1,1],7),(3,[1,1,1],3),(1,[1,1,1],4),(1,[8],2),(1,[1,1,1,1],2),(1,[1,8],1),(1,[32],0)],
 [(1,[],33),(1,[1],14),(2,[1],15),(1,[2],6),(3,[1,1],7),(1,[4],3),(2,[1,2],3),(1,[1,1,1],4),(1,[1,4],2),(1,[1,1,2],2),(1,[2,4],1),(1,[33],0)],
 [(1,[],34),(2,[1],14),(2,[1],16),(1,[1,1],6),(4,[1,1],7),(1,[1,1],8),(1,[4],4),(2,[1,1,1],3),(2,[1,1,1],4),(2,[1,4],2),(1,[1,1,1,1],2),(1,[1,1,4],1),(1,[34],0)],
 [(1,[],35),(1,[1],15),(2,[1],16),(2,[2],7),(2,[1,1],7),(1,[1,1],8),(2,[1,2],3),(2,[1,2],4),(1,[1,1,1],4),(1,[2,2],2),(2,[1,1,2],2),(1,[1,2,2],1),(1,[35],0)],
 [(1,[],36),(3,[1],16),(1,[1],17),(1,[2],8),(3,[1,1],7),(3,[1,1],8),(3,[1,2],4),(1,[1,1,1],3),(3,[1,1,1],4),(3,[1,1,2],2),(1,[1,1,1,1],2),(1,[1,1,1,2],1),(1,[36],0)],
 [(1,[],37),(5,[1],17),(10,[1,1],8),(10,[1,1,1],4),(5,[1,1,1,1],2),(1,[1,1,1,1,1],1),(1,[37],0)]]
abbrev Ctp:=Nat × List Nat × Nat
def prI (A:Nat->Int):List Nat->Int
 | []=>1
 | v::m=>A v*prI A m
def rowI (A B:Nat->Int):List Ctp->Int
 | []=>0
 | c::L=>(c.1:Int)*(prI A c.2.1*B c.2.2)+rowI A B L
def ctR (i:Nat):List Ctp:=cutT[i-1]?.getD []
def cvI (A B:Nat->Int) (i:Nat):Int:=if i=0 then B 0 else rowI A B (ctR i)
def zno (A:Nat->Py):List Nat->Py
 | []=>[(1,[])]
 | v::m=>mulP (A v) (zno A m)
def rowP (A B:Nat->Py):List Ctp->Py
 | []=>[]
 | c::L=>addP (mulP [(c.1,[])] (mulP (zno A c.2.1) (B c.2.2))) (rowP A B L)
def cvP (A B:Nat->Py) (i:Nat):Py:=if Nat.beq i 0 then B 0 else rowP A B (ctR i)
theorem zhZ (r:Nat->Int):evp r [(1,[])]=1:=by simp [evp,evm]
theorem zs6 (r:Nat->Int) (c:Nat):evp r [(c,[])]=c:=by simp [evp,evm]
theorem zmg (r:Nat->Int) (v:Nat):evp r [(1,[v])]=r v:=by simp [evp,evm]
theorem zmL {A A':Nat->Int}:∀ {m:List Nat},(∀ v∈m,A v%10007=A' v%10007)->prI A m%10007=prI A' m%10007
 | [],_=>rfl
 | v::m,h=>zas (h v (by simp)) (zmL fun w hw=>h w (by simp [hw]))
theorem zde {A A' B B':Nat->Int}:∀ {L:List Ctp},(∀ c∈L,(∀ v∈c.2.1,A v%10007=A' v%10007)/\B c.2.2%10007=B' c.2.2%10007)->rowI A B L%10007=rowI A' B' L%10007
 | [],_=>rfl
 | c::L,h=>za5 (zas rfl (zas (zmL (h c (by simp)).1) (h c (by simp)).2)) (zde fun d hd=>h d (by simp [hd]))
theorem zly (r:Nat->Int) {A:Nat->Py} {A':Nat->Int}:∀ m,(∀ v∈m,evp r (A v)%10007=A' v%10007)->evp r (zno A m)%10007=prI A' m%10007
 | [],_=>by rw [zno,zhZ]; rfl
 | v::m,h=>by rw [zno,zed,prI]; exact zas (h v (by simp)) (zly r m fun w hw=>h w (by simp [hw]))
theorem zer (r:Nat->Int) {A B:Nat->Py} {A' B':Nat->Int}:∀ L:List Ctp,(∀ c∈L,(∀ v∈c.2.1,evp r (A v)%10007=A' v%10007)/\evp r (B c.2.2)%10007=B' c.2.2%10007)->evp r (rowP A B L)%10007=rowI A' B' L%10007
 | [],_=>rfl
 | c::L,h=>by
  rw [rowP,zbS,rowI]
  refine za5 ?_ (zer r L fun d hd=>h d (by simp [hd]))
  rw [zed,zs6]
  refine zas rfl ?_
  rw [zed]
  exact zas (zly r _ (h c (by simp)).1) (h c (by simp)).2
theorem zcK {i:Nat} (hi:i<38):∀ c∈ctR i,(∀ v∈c.2.1,v<38)/\c.2.2<38:=by
 have ok:(List.range 38).all (fun i=>(ctR i).all fun c=>c.2.1.all (fun v=>decide (v<38)) && decide (c.2.2<38))=true:=by decide +kernel
 intro c hc
 have h:=List.all_eq_true.1 (List.all_eq_true.1 ok i (List.mem_range.2 hi)) c hc
 simp only [Bool.and_eq_true,List.all_eq_true,decide_eq_true_eq] at h
 exact h
theorem zfo (r:Nat->Int) {A B:Nat->Py} {A' B':Nat->Int} (h:∀ v,v<38->evp r (A v)%10007=A' v%10007) (k:∀ v,v<38->evp r (B v)%10007=B' v%10007) {i:Nat} (hi:i<38):evp r (cvP A B i)%10007=cvI A' B' i%10007:=by
 unfold cvP cvI
 by_cases e:i=0
 .subst e; exact k 0 (by omega)
 .rw [if_neg e,if_neg (by intro x; exact e (Nat.eq_of_beq_eq_true x))]
  exact zer r _ fun c hc=>⟨fun v hv=>h v ((zcK hi c hc).1 v hv),k _ (zcK hi c hc).2⟩
def vr (k i:Nat):Py:=if Nat.beq i 0 then [(1,[])] else [(1,[k+i])]
def v0 (k i:Nat):Py:=[(1,[k+i])]
def en3 (A B C:Nat->Int) (v:Nat):Int:=if v<40 then A v else if v<80 then B (v-40) else C (v-80)
theorem zmU {r:Nat->Int} {k:Nat} {A:Nat->Int} (h0:A 0%10007=1) (h:∀ i,i<38->r (k+i)=A i) {i:Nat} (hi:i<38):evp r (vr k i)%10007=A i%10007:=by
 unfold vr
 split
 .rename_i e
  have e:=Nat.eq_of_beq_eq_true e
  subst e
  rw [zhZ,h0]
  rfl
 .rw [zmg,h i hi]
theorem zsw {r:Nat->Int} {k:Nat} {A:Nat->Int} (h:∀ i,i<38->r (k+i)=A i) {i:Nat} (hi:i<38):evp r (v0 k i)%10007=A i%10007:=by
 unfold v0
 rw [zmg,h i hi]
theorem znJ {A A' B B':Nat->Int} (ha:∀ i,i<38->A i%10007=A' i%10007) (hb:∀ i,i<38->B i%10007=B' i%10007) {i:Nat} (hi:i<38):cvI A B i%10007=cvI A' B' i%10007:=by
 unfold cvI
 split
 .exact hb 0 (by omega)
 .exact zde fun c hc=>⟨fun v hv=>ha v ((zcK hi c hc).1 v hv),hb _ (zcK hi c hc).2⟩
theorem zpa:(List.range 38).all (fun i=>decide (cvP (cvP (vr 0) (vr 40)) (v0 80) i=cvP (vr 0) (cvP (vr 40) (v0 80)) i))=true:=by decide +kernel
theorem zvl {A B C:Nat->Int} (ha:A 0%10007=1) (hb:B 0%10007=1) {i:Nat} (hi:i<38):cvI (cvI A B) C i%10007=cvI A (cvI B C) i%10007:=by
 have e:=of_decide_eq_true (List.all_eq_true.1 zpa i (List.mem_range.2 hi))
 have hA:∀ v,v<38->evp (en3 A B C) (vr 0 v)%10007=A v%10007:=fun v hv=>zmU ha (fun i hi=>by unfold en3; rw [if_pos (by omega),Nat.zero_add]) hv
 have hB:∀ v,v<38->evp (en3 A B C) (vr 40 v)%10007=B v%10007:=fun v hv=>zmU hb (fun i hi=>by unfold en3; rw [if_neg (by omega),if_pos (by omega)]; congr 1; omega) hv
 have hC:∀ v,v<38->evp (en3 A B C) (v0 80 v)%10007=C v%10007:=fun v hv=>zsw (fun i hi=>by unfold en3; rw [if_neg (by omega),if_neg (by omega)]; congr 1; omega) hv
 rw [<- zfo (en3 A B C) (fun v hv=>zfo (en3 A B C) hA hB hv) hC hi,e,zfo (en3 A B C) hA (fun v hv=>zfo (en3 A B C) hB hC hv) hi]
def iat (a:List Int) (i:Nat):Int:=a[i]?.getD 0
def N38 (a:List Int):Prop:=a.length=38/\∀ x∈a,0<=x/\x<10007
def Ch (a:List Int):Prop:=N38 a/\iat a 0=1
theorem N38.at {a:List Int} (h:N38 a) (i:Nat):0<=iat a i/\iat a i<10007:=by
 unfold iat
 by_cases e:i<a.length
 .rw [List.getElem?_eq_getElem e]; exact h.2 _ (List.getElem_mem e)
 .rw [List.getElem?_eq_none (by omega)]; simp
theorem N38.ext {a b:List Int} (ha:N38 a) (hb:N38 b) (h:∀ i,i<38->iat a i%10007=iat b i%10007):a=b:=by
 refine List.ext_getElem (by rw [ha.1,hb.1]) fun i h1 h2=>?_
 have k:=h i (by rw [ha.1] at h1; exact h1)
 have a1:=ha.at i
 have b1:=hb.at i
 rw [Int.emod_eq_of_lt a1.1 a1.2,Int.emod_eq_of_lt b1.1 b1.2] at k
 unfold iat at k
 rw [List.getElem?_eq_getElem h1,List.getElem?_eq_getElem h2] at k
 exact k
def mk38 (f:Nat->Int):List Int:=(List.range 38).map fun i=>f i%10007
theorem za8 (f:Nat->Int):N38 (mk38 f):=by
 refine ⟨by simp [mk38],fun x hx=>?_⟩
 obtain ⟨i,_,rfl⟩:=List.mem_map.1 hx
 exact ⟨Int.emod_nonneg _ (by decide),Int.emod_lt_of_pos _ (by decide)⟩
theorem zaN (f:Nat->Int) {i:Nat} (h:i<38):iat (mk38 f) i=f i%10007:=by
 unfold iat mk38
 rw [List.getElem?_map,List.getElem?_range h]; rfl
theorem zbo (f:Nat->Int) {i:Nat} (h:i<38):iat (mk38 f) i%10007=f i%10007:=by
 rw [zaN f h,Int.emod_emod_of_dvd _ (Int.dvd_refl _)]
theorem zdr {f g:Nat->Int} (h:∀ i,i<38->f i%10007=g i%10007):mk38 f=mk38 g:=List.map_congr_left fun i hi=>h i (List.mem_range.1 hi)
theorem zdv {a:List Int} {f:Nat->Int} (ha:N38 a) (h:∀ i,i<38->f i%10007=iat a i%10007):mk38 f=a :=
 (za8 f).ext ha fun i hi=>by rw [zbo f hi,h i hi]
def cvS (a b:List Int):List Int:=mk38 (cvI (iat a) (iat b))
def zbq:List Int:=mk38 fun i=>if i=0 then 1 else 0
theorem zdF:Ch zbq:=⟨za8 _,zaN _ (by decide)⟩
theorem zkd (a b:List Int) {i:Nat} (hi:i<38):iat (cvS a b) i%10007=cvI (iat a) (iat b) i%10007:=zbo _ hi
theorem zju {a b c:List Int} (ha:Ch a) (hb:Ch b):cvS (cvS a b) c=cvS a (cvS b c):=by
 refine zdr fun i hi=>?_
 rw [znJ (fun j hj=>zkd a b hj) (fun _ _=>rfl) hi,zvl (by rw [ha.2]; rfl) (by rw [hb.2]; rfl) hi]
 exact (znJ (fun _ _=>rfl) (fun j hj=>zkd b c hj) hi).symm
def u0 (i:Nat):Py:=if Nat.beq i 0 then [(1,[])] else []
theorem zny (r:Nat->Int) {i:Nat} (hi:i<38):evp r (u0 i)%10007=iat zbq i%10007:=by
 unfold zbq
 rw [zbo _ hi]
 unfold u0
 by_cases e:i=0
 .subst e; show evp r [(1,[])]%10007=1%10007; rw [zhZ]
 .rw [if_neg e,if_neg (by intro x; exact e (Nat.eq_of_beq_eq_true x))]; rfl
theorem zkM:(List.range 38).all (fun i=>decide (cvP u0 (v0 0) i=v0 0 i) && decide (cvP (vr 0) u0 i=vr 0 i))=true:=by decide +kernel
theorem zjj {a:List Int} (ha:N38 a):cvS zbq a=a:=by
 refine zdv ha fun i hi=>?_
 have e:=List.all_eq_true.1 zkM i (List.mem_range.2 hi)
 simp only [Bool.and_eq_true,decide_eq_true_eq] at e
 have hv:∀ v,v<38->evp (iat a) (v0 0 v)%10007=iat a v%10007:=fun v hv=>zsw (fun i _=>by rw [Nat.zero_add]) hv
 rw [<- zfo (iat a) (fun v hv=>zny (iat a) hv) hv hi,e.1,hv i hi]
theorem ztw {a:List Int} (ha:Ch a):cvS a zbq=a:=by
 refine zdv ha.1 fun i hi=>?_
 have e:=List.all_eq_true.1 zkM i (List.mem_range.2 hi)
 simp only [Bool.and_eq_true,decide_eq_true_eq] at e
 have hv:∀ v,v<38->evp (iat a) (vr 0 v)%10007=iat a v%10007:=fun v hv=>zmU (by rw [ha.2]; rfl) (fun i _=>by rw [Nat.zero_add]) hv
 rw [<- zfo (iat a) hv (fun v hv=>zny (iat a) hv) hi,e.2,hv i hi]
def nwR (i:Nat):List Ctp:=(ctR i).filter fun c=>decide (0<c.2.2)
def invN (a:List Int):Nat->List Int
 | 0=>[1]
 | k+1=>invN a k++[(-(rowI (iat (invN a k)) (iat a) (nwR (k+1))))%10007]
theorem zdc (a:List Int):∀ k,(invN a k).length=k+1
 | 0=>rfl
 | k+1=>by rw [invN,List.length_append,zdc a k]; rfl
theorem zpm (a:List Int):∀ k,∀ x∈invN a k,0<=x/\x<10007
 | 0,x,hx=>by simp only [invN,List.mem_singleton] at hx; subst hx; exact ⟨by decide,by decide⟩
 | k+1,x,hx=>by
  rw [invN] at hx
  rcases List.mem_append.1 hx with hx | hx
  .exact zpm a k x hx
  .rw [List.mem_singleton.1 hx]
   exact ⟨Int.emod_nonneg _ (by decide),Int.emod_lt_of_pos _ (by decide)⟩
theorem zdS (a:List Int) {i k:Nat} (h:i<=k):∀ d,iat (invN a (k+d)) i=iat (invN a k) i
 | 0=>rfl
 | d+1=>by
  rw [<- zdS a h d]
  show iat (invN a (k+d)++_) i=_
  unfold iat
  rw [List.getElem?_append_left (by rw [zdc]; omega)]
def invS (a:List Int):List Int:=invN a 37
theorem zef (a:List Int):Ch (invS a):=by
 refine ⟨⟨zdc a 37,zpm a 37⟩,?_⟩
 have:=zdS a (i:=0) (k:=0) (Nat.le_refl 0) 37
 exact this
theorem zoD {i:Nat} (hi:i<38) (h0:0<i):(∀ c∈nwR i,∀ v∈c.2.1,v<i)/\(ctR i).filter (fun c=>!decide (0<c.2.2))=[(1,[i],0)]:=by
 have ok:(List.range 37).all (fun j=>((nwR (j+1)).all fun c=>c.2.1.all fun v=>decide (v<j+1)) && decide ((ctR (j+1)).filter (fun c=>!decide (0<c.2.2))=[(1,[j+1],0)]))=true:=by decide +kernel
 obtain ⟨j,rfl⟩:∃ j,i=j+1:=⟨i-1,by omega⟩
 have h:=List.all_eq_true.1 ok j (List.mem_range.2 (by omega))
 simp only [Bool.and_eq_true,List.all_eq_true,decide_eq_true_eq] at h
 exact h
theorem zei (A B:Nat->Int) (p:Ctp->Bool):∀ L,rowI A B L=rowI A B (L.filter p)+rowI A B (L.filter fun c=>!p c)
 | []=>rfl
 | c::L=>by
  rw [rowI,zei A B p L,List.filter_cons,List.filter_cons]
  by_cases h:p c=true
  .simp only [h,if_true,Bool.not_true,rowI]; rw [if_neg (by decide)]; omega
  .have h2:p c=false:=by simpa using h
   simp only [h2,Bool.not_false,if_true,rowI]; rw [if_neg (by decide)]; omega
theorem zp2 (A B:Nat->Int) {i:Nat} (hi:i<38) (h0:0<i):cvI A B i=rowI A B (nwR i)+A i*B 0:=by
 unfold cvI
 rw [if_neg (by omega),zei A B (fun c=>decide (0<c.2.2)),(zoD hi h0).2]
 simp [rowI,prI,nwR]
theorem zuL {a:List Int} (ha:Ch a):cvS (invS a) a=zbq:=by
 refine zdv zdF.1 fun i hi=>?_
 unfold zbq
 rw [zbo _ hi]
 by_cases h0:i=0
 .subst h0; rw [cvI,if_pos rfl,if_pos rfl,ha.2]
 .rw [if_neg h0,zp2 _ _ hi (by omega),ha.2,Int.mul_one]
  obtain ⟨j,rfl⟩:∃ j,i=j+1:=⟨i-1,by omega⟩
  have e:iat (invS a) (j+1)=(-(rowI (iat (invN a j)) (iat a) (nwR (j+1))))%10007:=by
   have:=zdS a (i:=j+1) (k:=j+1) (Nat.le_refl _) (36-j)
   rw [show j+1+(36-j)=37 by omega] at this
   refine this.trans ?_
   unfold iat
   rw [invN,List.getElem?_append_right (by rw [zdc]; omega),zdc,Nat.sub_self]
   rfl
  have e2:rowI (iat (invS a)) (iat a) (nwR (j+1))%10007=rowI (iat (invN a j)) (iat a) (nwR (j+1))%10007:=by
   refine zde fun c hc=>⟨fun v hv=>?_,rfl⟩
   have hv:=(zoD hi (by omega)).1 c hc v hv
   have:=zdS a (i:=v) (k:=j) (by omega) (37-j)
   rw [show j+(37-j)=37 by omega] at this
   unfold invS
   rw [this]
  rw [e]
  omega
end Go.Proofs.YthhdollpkieknaaGreat


namespace Go.Proofs.YthhdollpkieknaaGreat
def ndT:List Nat:=[0,1,2,3,3,4,4,4,4,5,5,5,5,5,5,5,5,5,6,6,6,6,6,6,6,6,6,6,6,6,6,6,6,6,6,6,6,6]
def exT:List Nat:=[1,1,5004,1668,3336,417,834,1251,2502,8089,6171,4253,2335,8506,4670,8506,7005,4003,3016,6032,9048,2057,5073,8089,4114,139,8089,6171,5212,139,278,2335,417,278,556,417,834,1668]
def nd (i:Nat):Nat:=ndT[i]?.getD 0
def exI (i:Nat):Int:=((exT[i]?.getD 0:Nat):Int)
def scS (k:Int) (a:List Int):List Int:=mk38 fun i=>iat a i*k ^ nd i
theorem zhU (k:Int) (a:List Int):N38 (scS k a):=za8 _
theorem zit (k:Int) (a:List Int) {i:Nat} (h:i<38):iat (scS k a) i%10007=iat a i*k ^ nd i%10007:=zbo _ h
theorem zvj (k:Int) {a:List Int} (h:Ch a):Ch (scS k a):=⟨zhU k a,by
 unfold scS
 rw [zaN _ (by decide)]
 show iat a 0*k ^ 0%10007=1
 rw [h.2]; simp⟩
def zj8:List Nat->Nat
 | []=>0
 | v::m=>nd v+zj8 m
theorem zvF {i:Nat} (hi:i<38) (h0:0<i):∀ c∈ctR i,zj8 c.2.1+nd c.2.2=nd i:=by
 have ok:(List.range 37).all (fun j=>(ctR (j+1)).all fun c=>decide (zj8 c.2.1+nd c.2.2=nd (j+1)))=true:=by decide +kernel
 obtain ⟨j,rfl⟩:∃ j,i=j+1:=⟨i-1,by omega⟩
 have h:=List.all_eq_true.1 ok j (List.mem_range.2 (by omega))
 simp only [List.all_eq_true,decide_eq_true_eq] at h
 exact h
theorem zr7 (A:Nat->Int) (k:Int):∀ m,prI (fun v=>A v*k ^ nd v) m=prI A m*k ^ zj8 m
 | []=>by simp [prI,zj8]
 | v::m=>by rw [prI,zr7 A k m,prI,zj8,Int.pow_add]; ac_rfl
theorem zjQ (A B:Nat->Int) (k:Int) (n:Nat):∀ L:List Ctp,(∀ c∈L,zj8 c.2.1+nd c.2.2=n)->rowI (fun v=>A v*k ^ nd v) (fun v=>B v*k ^ nd v) L=rowI A B L*k ^ n
 | [],_=>by simp [rowI]
 | c::L,h=>by
  rw [rowI,zjQ A B k n L fun d hd=>h d (by simp [hd]),rowI,zr7,<- h c (by simp),Int.pow_add,Int.add_mul]
  congr 1
  ac_rfl
theorem zx1 (A B:Nat->Int) (k:Int) {i:Nat} (hi:i<38):cvI (fun v=>A v*k ^ nd v) (fun v=>B v*k ^ nd v) i=cvI A B i*k ^ nd i:=by
 unfold cvI
 by_cases h:i=0
 .subst h; rw [if_pos rfl,if_pos rfl]
 .rw [if_neg h,if_neg h,zjQ A B k (nd i) _ (zvF hi (by omega))]
theorem zwo (k:Int) (a b:List Int):cvS (scS k a) (scS k b)=scS k (cvS a b):=by
 refine zdr fun i hi=>?_
 rw [znJ (fun j hj=>zit k a hj) (fun j hj=>zit k b hj) hi,zx1 _ _ k hi]
 exact (zas (zkd a b hi) rfl).symm
theorem zv3 (k l:Int) (a:List Int):scS k (scS l a)=scS (l*k) a:=by
 refine zdr fun i hi=>?_
 rw [Int.mul_pow,<- Int.mul_assoc]
 exact zas (zit l a hi) rfl
theorem zk5 {a b:Int} (h:a%10007=b%10007):∀ n:Nat,a ^ n%10007=b ^ n%10007
 | 0=>by simp
 | n+1=>by rw [Int.pow_succ,Int.pow_succ]; exact zas (zk5 h n) h
theorem zsK {k l:Int} (h:k%10007=l%10007) (a:List Int):scS k a=scS l a:=zdr fun i _=>zas rfl (zk5 h _)
theorem zta {a:List Int} (h:N38 a):scS 1 a=a:=zdv h fun i _=>by rw [Int.one_pow,Int.mul_one]
theorem zv0 {i:Nat} (hi:i<38):iat zbq i=if i=0 then 1 else 0:=by
 unfold zbq
 rw [zaN _ hi]
 by_cases h:i=0
 .rw [if_pos h]; rfl
 .rw [if_neg h]; rfl
theorem zvT (k:Int):scS k zbq=zbq:=zdv zdF.1 fun i hi=>by
 rw [zv0 hi]
 by_cases h:i=0
 .subst h; show 1*k ^ 0%10007=_; simp
 .rw [if_neg h,Int.zero_mul]
theorem zik {i:Nat} (hi:i<38) (h0:0<i):0<nd i:=by
 have ok:(List.range 37).all (fun j=>decide (0<nd (j+1)))=true:=by decide +kernel
 obtain ⟨j,rfl⟩:∃ j,i=j+1:=⟨i-1,by omega⟩
 exact of_decide_eq_true (List.all_eq_true.1 ok j (List.mem_range.2 (by omega)))
def exaS:List Int:=mk38 exI
theorem zuO {i:Nat} (h:i<38):iat exaS i%10007=exI i%10007:=zbo _ h
theorem zaL:Ch exaS:=⟨za8 _,by unfold exaS; rw [zaN _ (by decide)]; decide⟩
end Go.Proofs.YthhdollpkieknaaGreat


namespace Go.Proofs.YthhdollpkieknaaGreat
theorem zn1:iat exaS 1=1:=by unfold exaS; rw [zaN _ (by decide)]; decide
def Agr (a b:List Int) (n:Nat):Prop:=∀ i,i<38->nd i<=n->iat a i=iat b i
def Sym (a:List Int):Prop:=cvS a (scS (-1) a)=zbq
theorem zdD {i:Nat} (hi:i<38):nd i<=6:=by
 have ok:(List.range 38).all (fun j=>decide (nd j<=6))=true:=by decide +kernel
 exact of_decide_eq_true (List.all_eq_true.1 ok i (List.mem_range.2 hi))
theorem zeF {n:Nat} (h:n%2=0):(-1:Int) ^ n=1:=by
 obtain ⟨m,rfl⟩:∃ m,n=2*m:=⟨n / 2,by omega⟩
 rw [Int.pow_mul]
 show (1:Int) ^ m=1
 exact Int.one_pow
theorem zjt {n:Nat} (h:n%2=1):(-1:Int) ^ n = -1:=by
 obtain ⟨m,rfl⟩:∃ m,n=2*m+1:=⟨n / 2,by omega⟩
 rw [Int.pow_succ,zeF (by omega)]
 rfl
theorem zoq {u x y:Int} (v:Int) (hu:v*u%10007=1) (h:u*x%10007=u*y%10007):x%10007=y%10007:=by
 have e:∀ z:Int,z%10007=v*(u*z)%10007:=fun z=>by
  rw [<- Int.mul_assoc,Int.mul_emod,hu,Int.one_mul,Int.emod_emod_of_dvd _ (Int.dvd_refl _)]
 rw [e x,e y,Int.mul_emod v (u*x),h,<- Int.mul_emod]
theorem zu7 {X Y x y:Int} (k1:(X+x+x)%10007=0) (k2:(Y+y+y)%10007=0) (m:X%10007=Y%10007) (r1:0<=x/\x<10007) (r2:0<=y/\y<10007):x=y:=by
 rw [Int.add_assoc,<- Int.two_mul] at k1 k2
 have e:2*x%10007=2*y%10007:=by
  clear r1 r2
  generalize 2*x=z at *
  generalize 2*y=w at *
  omega
 have:=zoq 5004 (by decide) e
 rw [Int.emod_eq_of_lt r1.1 r1.2,Int.emod_eq_of_lt r2.1 r2.2] at this
 exact this
theorem zna {a:List Int} (ha:Ch a):invS (scS (-1) a)=a ↔ Sym a:=by
 have hs:=zvj (-1) ha
 constructor
 .intro h
  unfold Sym
  have:=zuL hs
  rw [h] at this
  exact this
 .intro h
  have e:cvS (scS (-1) a) a=zbq:=by
   have h2:scS (-1) (cvS a (scS (-1) a))=zbq:=by rw [show cvS a (scS (-1) a)=zbq from h,zvT]
   rw [<- zwo,zv3] at h2
   rw [show scS (-1 * -1) a=a from zta ha.1] at h2
   exact h2
  have f:cvS (cvS (invS (scS (-1) a)) (scS (-1) a)) a=cvS (invS (scS (-1) a)) (cvS (scS (-1) a) a):=zju (zef _) hs
  rw [zuL hs,zjj ha.1,e,ztw (zef _)] at f
  exact f.symm
end Go.Proofs.YthhdollpkieknaaGreat


namespace Go.Proofs.YthhdollpkieknaaGreat
def T1 (n:Nat) (g:List Int):Int:=g.foldl (fun (p:Int × Int) x=>(p.1+x*p.2,p.2+x ^ n)) (0,0) |>.1
def T2 (n:Nat) (g:List Int):Int:=g.foldl (fun (p:Int × Int) x=>(p.1+p.2*x ^ n,p.2+x)) (0,0) |>.1
end Go.Proofs.YthhdollpkieknaaGreat


namespace Go.Proofs.YthhdollpkieknaaGreat
open Go.Abs
def mapB (a:List Int):Bool:=decide (a.length=38) && zgd a
theorem zds (a:List Int) (ha:a.length<=9223372036854775807):Con Tryz.prog 77 [.sl a.length (avs a)] (.bool (mapB a)):=by
 have cN:=ziV a ha
 unfold mapB
 by_cases h:a.length=38
 .have hi:(a.length:Int)=38:=by omega
  rw [decide_eq_true h]
  refine zab Tryz.mixed ⟨3,[],[],[]⟩ Tryz.func77 ?_
  rw [Tryz.ntmps77]
  simp [go_sem,hi]
  refine CallVC.of (cN) ?_
  simp [go_sem]
 .have hi:¬ (a.length:Int)=38:=by omega
  rw [decide_eq_false h]
  refine zab Tryz.mixed ⟨3,[],[],[]⟩ Tryz.func77 ?_
  rw [Tryz.ntmps77]
  simp [go_sem,hi]
theorem zug (a:List Int) (ha:a.length<=9223372036854775807):Con Tryz.prog 118 [.sl a.length (avs a)] (.bool (mapB a)):=by
 have cN:=ziD a ha
 unfold mapB
 by_cases h:a.length=38
 .have hi:(a.length:Int)=38:=by omega
  rw [decide_eq_true h]
  refine zab Tryz.mixed ⟨3,[],[],[]⟩ Tryz.func118 ?_
  rw [Tryz.ntmps118]
  simp [go_sem,hi]
  refine CallVC.of (cN) ?_
  simp [go_sem]
 .have hi:¬ (a.length:Int)=38:=by omega
  rw [decide_eq_false h]
  refine zab Tryz.mixed ⟨3,[],[],[]⟩ Tryz.func118 ?_
  rw [Tryz.ntmps118]
  simp [go_sem,hi]
end Go.Proofs.YthhdollpkieknaaGreat


namespace Go.Proofs.YthhdollpkieknaaGreat
open Go.Abs
def nvs (l:List Nat):List Int:=l.map fun (v:Nat)=>(v:Int)
theorem zfI (l:List Nat):(nvs l).length=l.length:=by simp [nvs]
theorem zwL {l:List Nat} {i:Nat} (h:i<l.length):(nvs l).getD i 0=((l[i]?.getD 0:Nat):Int):=by rw [List.getD_eq_getElem?_getD]; simp [nvs,h]
theorem N38.Ns {a:List Int} (h:N38 a):Ns a:=fun x hx=>by have:=h.2 x hx; exact ⟨this.1,by have:=this.2; omega⟩
theorem zgv {a:List Int} (h:mapB a=true):N38 a:=by
 unfold mapB at h
 simp only [Bool.and_eq_true,decide_eq_true_eq] at h
 have hn:=zm7.1 h.2
 exact ⟨by omega,fun x hx=>by have:=hn x hx; exact ⟨this.1,by have:=this.2; omega⟩⟩
theorem N38.mapB {a:List Int} (h:N38 a):mapB a=true:=by
 unfold Go.Proofs.YthhdollpkieknaaGreat.mapB
 rw [h.1,zm7.2 h.Ns]; rfl
theorem zae {a:List Int} {v:Nat} (h:v<a.length):(avs a).drop v=.int (iat a v)::avs (a.drop (v+1)):=by
 rw [zap h,List.getD_eq_getElem?_getD]; rfl
def vlN (a:List Int) (l:List Nat):Int:=l.foldl (fun o v=>o*iat a v%10007) 1
theorem zhk (a:List Int) (l:List Nat) (v:Nat):vlN a (l++[v])=vlN a l*iat a v%10007:=by simp [vlN]
theorem zpP (a:List Int) (l:List Nat):isN (vlN a l):=by
 rcases List.eq_nil_or_concat l with rfl | ⟨h,x,rfl⟩
 .show isN 1; exact ⟨by decide,by decide⟩
 .rw [List.concat_eq_append,zhk]; exact zai _
theorem zhz (A:Nat->Int) (v:Nat):∀ l,prI A (l++[v])=prI A l*A v
 | []=>by simp [prI]
 | w::l=>by rw [List.cons_append,prI,zhz A v l,prI,Int.mul_assoc]
theorem zjW (a:List Int) (l:List Nat):vlN a l%10007=prI (iat a) l%10007:=by
 generalize hn:l.length=n
 induction n generalizing l with
 | zero=>rw [List.length_eq_zero_iff.1 hn]; rfl
 | succ n ih =>
  rcases List.eq_nil_or_concat l with rfl | ⟨h,x,rfl⟩
  .simp at hn
  .rw [List.concat_eq_append] at hn |-
   rw [zhk,zhz,Int.emod_emod_of_dvd _ (Int.dvd_refl _)]
   exact zas (ih h (by simpa using hn)) rfl
theorem zfC (a:List Int) (l:List Nat) (ha:Ns a) (hal:a.length<=1048576) (hl:l.length<=100) (h:∀ v∈l,v<a.length) :
  Con Tryz.prog 186 [.sl a.length (avs a),.sl l.length (avs (nvs l))] (.int (vlN a l)):=by
 refine zab Tryz.mixed ⟨8,[],[],[]⟩ Tryz.func186 ?_
 rw [Tryz.ntmps186]
 simp [go_sem]
 refine zac (5::7::List.range' 10 12) (fun i:Nat=>[(5,.int (vlN a (l.take i))),(10,.int i)]) (fun i=>i<=l.length) (fun i=>l.length-i) 0 (by simp) (by simp [go_sem,vlN]) (by simp [go_sem]) ?_
 intro i hi
 by_cases hil:i<l.length
 .have hii:(i:Int)<l.length:=by omega
  have hm:=h _ (memD 0 hil)
  have tk:l.take (i+1)=l.take i++[l[i]?.getD 0]:=by
   rw [List.take_succ_eq_append_getElem hil,List.getElem?_eq_getElem hil]; rfl
  have hN:=zpP a (l.take i)
  have hv:isN (iat a (l[i]?.getD 0)):=ha.get _
  have cN:=zbE (vlN a (l.take i)*iat a (l[i]?.getD 0)) (zaw hN hv).1 (zaw hN hv).2
  have dr:=zap (show i<(nvs l).length by rw [zfI]; exact hil)
  rw [zwL hil] at dr
  have nl:¬ nvs l=[]:=by intro e; have:=zfI l; rw [e] at this; simp at this; omega
  have ar:=zae hm
  have na:¬ a=[]:=by intro e; rw [e] at hm; simp at hm
  have e:=zhk a (l.take i) (l[i]?.getD 0)
  rw [<- tk] at e
  have fm:=zaw hN hv
  generalize l[i]?.getD 0=v at *
  generalize iat a v=x at *
  simp [go_sem,hii,dr,ar]
  refine ⟨nl,⟨hm,na⟩,⟨fm.1,fm.2⟩,?_⟩
  refine CallVC.of (cN) ?_
  simp [go_sem]
  refine ⟨⟨by omega,by omega⟩,i+1,by omega,by omega,zaa _ _ _ (by simp),?_⟩
  rw [e]
  exact ⟨rfl,by omega⟩
 .have e:i=l.length:=by omega
  subst e
  have hii:¬ (l.length:Int)<l.length:=by omega
  rw [List.take_length]
  simp [go_sem,hii]
def ctF (c:Ctp):List AV:=[.int c.1,.sl c.2.1.length (avs (nvs c.2.1)),.int c.2.2]
def fcF:List AV:=cutT.map fun r=>.sl r.length (r.flatMap ctF)
theorem zbI (X:List Ctp):(X.flatMap ctF).length=X.length*3:=by
 induction X with
 | nil=>rfl
 | cons s X ih=>rw [List.flatMap_cons,List.length_append,ih]; simp [ctF]; omega
theorem zdV {L:List Ctp} {i:Nat} (h:i<L.length):(L.flatMap ctF).drop (i*3)=ctF (L[i]?.getD (0,[],0))++(L.drop (i+1)).flatMap ctF:=by
 have e1:((L.take i).flatMap ctF).length=i*3:=by rw [zbI,List.length_take,Nat.min_eq_left (by omega)]
 have e2:L.drop i=L[i]?.getD (0,[],0)::L.drop (i+1):=by rw [List.drop_eq_getElem_cons h]; simp [h]
 have e3:L.flatMap ctF=(L.take i).flatMap ctF++(L.drop i).flatMap ctF:=by rw [<- List.flatMap_append,List.take_append_drop]
 rw [e3,List.drop_append_of_le_length (by omega),e2,List.flatMap_cons,List.drop_eq_nil_of_le (by omega),List.nil_append]
theorem zhe:cutT.length=37:=by decide +kernel
theorem zhn {i:Nat} (h:i<37):fcF.drop i=.sl (ctR (i+1)).length ((ctR (i+1)).flatMap ctF)::fcF.drop (i+1):=by
 have hl:i<cutT.length:=by rw [zhe]; exact h
 unfold fcF ctR
 rw [<- List.map_drop,List.drop_eq_getElem_cons hl,List.map_cons,<- List.map_drop]
 simp [hl]
theorem zr3:¬ fcF=[]:=by
 have:=congrArg List.length (show fcF=cutT.map fun r=>.sl r.length (r.flatMap ctF) from rfl)
 rw [List.length_map,zhe] at this
 intro e
 rw [e] at this
 simp at this
theorem zne {i:Nat} (hi:i<38):(ctR i).length<=100/\∀ c∈ctR i,c.2.1.length<=100/\c.1<=100:=by
 have ok:(List.range 38).all (fun i=>decide ((ctR i).length<=100) && (ctR i).all fun c=>decide (c.2.1.length<=100) && decide (c.1<=100))=true:=by decide +kernel
 have h:=List.all_eq_true.1 ok i (List.mem_range.2 hi)
 simp only [Bool.and_eq_true,List.all_eq_true,decide_eq_true_eq] at h
 exact h
def rsF (a b:List Int) (L:List Ctp):Int:=L.foldl (fun s c=>s+(c.1:Int)*(vlN a c.2.1*iat b c.2.2%10007)%10007) 0
theorem zg8 (a b:List Int) (L:List Ctp) (c:Ctp):rsF a b (L++[c])=rsF a b L+(c.1:Int)*(vlN a c.2.1*iat b c.2.2%10007)%10007:=by simp [rsF]
theorem zck (A B:Nat->Int) (c:Ctp):∀ L,rowI A B (L++[c])=rowI A B L+(c.1:Int)*(prI A c.2.1*B c.2.2)
 | []=>by simp [rowI]
 | d::L=>by rw [List.cons_append,rowI,zck A B c L,rowI,Int.add_assoc]
theorem zsC (a b:List Int) (L:List Ctp):0<=rsF a b L/\rsF a b L<=10006*L.length:=by
 generalize hn:L.length=n
 induction n generalizing L with
 | zero=>rw [List.length_eq_zero_iff.1 hn]; exact ⟨Int.le_refl 0,by show (0:Int)<=_; omega⟩
 | succ n ih =>
  rcases List.eq_nil_or_concat L with rfl | ⟨h,x,rfl⟩
  .simp at hn
  .rw [List.concat_eq_append] at hn |-
   rw [zg8]
   have:=ih h (by simpa using hn)
   have m:=zai ((x.1:Int)*(vlN a x.2.1*iat b x.2.2%10007))
   have:=m.1; have:=m.2
   omega
theorem zul (a b:List Int) (L:List Ctp):rsF a b L%10007=rowI (iat a) (iat b) L%10007:=by
 generalize hn:L.length=n
 induction n generalizing L with
 | zero=>rw [List.length_eq_zero_iff.1 hn]; rfl
 | succ n ih =>
  rcases List.eq_nil_or_concat L with rfl | ⟨h,x,rfl⟩
  .simp at hn
  .rw [List.concat_eq_append] at hn |-
   rw [zg8,zck]
   refine za5 (ih h (by simpa using hn)) ?_
   rw [Int.emod_emod_of_dvd _ (Int.dvd_refl _)]
   refine zas rfl ?_
   rw [Int.emod_emod_of_dvd _ (Int.dvd_refl _)]
   exact zas (zjW a _) rfl
theorem zch (f:Nat->Int) {i:Nat} (h:i<38):(mk38 f).take (i+1)=(mk38 f).take i++[f i%10007]:=by
 have hl:i<(mk38 f).length:=by rw [(za8 f).1]; exact h
 rw [List.take_succ_eq_append_getElem hl]
 have:=zaN f h
 unfold iat at this
 rw [List.getElem?_eq_getElem hl] at this
 rw [<- this]; rfl
theorem zkY (f:Nat->Int):(mk38 f).take 38=mk38 f:=List.take_of_length_le (by rw [(za8 f).1]; exact Nat.le_refl _)
end Go.Proofs.YthhdollpkieknaaGreat


namespace Go.Proofs.YthhdollpkieknaaGreat
open Go.Abs
def cp (s:Spl):List Int:=s.1.map fun c=>ixT (trN 6) c+1
def tp (s:Spl):Int:=if tkL s=[] then 0 else ixT (trN 6) (tkL s)+1
theorem zu3:(trN 6).map (fun t=>(cutL t).map fun s=>(s.2.2,cp s,tp s))=cutT.map fun r=>r.map fun c=>((c.1:Int),nvs c.2.1,(c.2.2:Int)):=by kernel_rfl
def crX (s:Spl) (j:Nat):AV:=if j=0 then .val (.slice none 0 0) else .own 3 j (avs ((cp s).take j))
def mcX (s:Spl):List AV:=[.int s.2.2,if s.1=[] then .val (.slice none 0 0) else .own 3 s.1.length (avs (cp s)),.int (tp s)]
def rwX (t:List Int):AV:=.own 151 (cutL t).length ((cutL t).flatMap mcX)
def fcX (i:Nat):AV:=if i=0 then .val (.slice none 0 0) else .own 144 i (((trN 6).take i).map rwX)
theorem zau {α:Type} (F:α->List AV) (hF:∀ s,(F s).length=3) (X:List α):(X.flatMap F).length=X.length*3:=by
 induction X with
 | nil=>rfl
 | cons s X ih=>rw [List.flatMap_cons,List.length_append,ih,hF,List.length_cons]; omega
theorem za4 {α:Type} (F:α->List AV) (hF:∀ s,(F s).length=3) (d:α) {L:List α} {i:Nat} (h:i<L.length):(L.flatMap F).drop (i*3)=F (L[i]?.getD d)++(L.drop (i+1)).flatMap F:=by
 have e1:((L.take i).flatMap F).length=i*3:=by rw [zau F hF,List.length_take,Nat.min_eq_left (by omega)]
 have e2:L.drop i=L[i]?.getD d::L.drop (i+1):=by rw [List.drop_eq_getElem_cons h]; simp [h]
 have e3:L.flatMap F=(L.take i).flatMap F++(L.drop i).flatMap F:=by rw [<- List.flatMap_append,List.take_append_drop]
 rw [e3,List.drop_append_of_le_length (by omega),e2,List.flatMap_cons,List.drop_eq_nil_of_le (by omega),List.nil_append]
theorem zmd:GCon Tryz.prog 71 [] (.agg [.sl 37 (mat (trN 6)),.own 144 37 ((trN 6).map rwX)]) []:=by
 have cT:=zn8 6 (by omega)
 have l6:=zaJ
 have at6:=fun t h=>zeK (t:=t) h
 have e6:((6:Nat):Int)=6:=rfl
 rw [e6] at cT
 rw [l6] at cT
 refine RCon.toG ?_
 refine zaD Tryz.mixed ⟨10,[10,56],[1000000+161],[]⟩ [] Tryz.func71 ?_
 rw [Tryz.ntmps71]
 simp [go_sem]
 refine CallVC.of (cT) ?_
 simp [go_sem]
 refine zac (1::3::4::6::7::9::List.range' 15 52) (fun i:Nat=>[(1,.box 88 [.sl 37 (mat (trN 6)),fcX i]),(15,.int i)]) (fun i=>i<=37) (fun i=>37-i) 0 (by simp) (by simp [go_sem,fcX]) (by simp [go_sem,fcX]) ?_
 intro i hi
 by_cases hil:i<37
 .have hii:(i:Int)<37:=by omega
  have hl:i<(trN 6).length:=by omega
  have dm:=zak hl
  have hm:=memD [] hl
  have cC:=zqV hm
  obtain ⟨b1,b2⟩:=zoS hm
  have nm:¬ trN 6=[]:=by intro e; rw [e] at l6; simp at l6
  have tki:(trN 6).take (i+1)=(trN 6).take i++[(trN 6)[i]?.getD []]:=by
   rw [List.take_succ_eq_append_getElem hl,List.getElem?_eq_getElem hl]; rfl
  have x1:fcX (i+1)=.own 144 (i+1) (((trN 6).take i).map rwX++[rwX ((trN 6)[i]?.getD [])]):=by
   unfold fcX
   rw [if_neg (by omega),tki,List.map_append]; rfl
  have hrw:rwX ((trN 6)[i]?.getD [])=.own 151 (cutL ((trN 6)[i]?.getD [])).length ((cutL ((trN 6)[i]?.getD [])).flatMap mcX):=rfl
  have lti:(((trN 6).take i).map rwX).length=i:=by rw [List.length_map,List.length_take]; omega
  by_cases i0:i=0
  .have x0:fcX i=.val (.slice none 0 0):=by unfold fcX; rw [if_pos i0]
   rw [x0]
   generalize (trN 6)[i]?.getD []=t at *
   generalize cutL t=L at *
   have xf:AV.own 144 1 [AV.own 151 L.length (L.flatMap mcX)]=fcX (i+1):=by rw [x1,<- hrw,i0]; simp
   simp [go_sem,hii,dm]
   refine ⟨nm,?_⟩
   refine ⟨_,_,cC,?_⟩
   simp [go_sem]
   refine zac (4::6::7::9::List.range' 23 37) (fun j:Nat=>[(4,.own 151 j ((L.take j).flatMap mcX)),(23,.int j)]) (fun j=>j<=L.length) (fun j=>L.length-j) 0 (by simp) (by simp [go_sem]) (by simp [go_sem]) ?_
   intro j hj
   by_cases hjl:j<L.length
   .have hji:(j:Int)<L.length:=by omega
    have dr:=za4 cuF (fun _=>rfl) ([],[],0) hjl
    have nL:¬ L.flatMap cuF=[]:=by intro e; have:=zau cuF (fun _=>rfl) L; rw [e] at this; simp at this; omega
    have lL:=zau cuF (fun _=>rfl) L
    have hms:=memD ([],[],0) hjl
    obtain ⟨c1,c2,c3,c4,c5,c6⟩:=b2 _ hms
    have tkj:L.take (j+1)=L.take j++[L[j]?.getD ([],[],0)]:=by
     rw [List.take_succ_eq_append_getElem hjl,List.getElem?_eq_getElem hjl]; rfl
    have clj:=zau mcX (fun _=>rfl) (L.take j)
    rw [List.length_take,Nat.min_eq_left (by omega)] at clj
    generalize L[j]?.getD ([],[],0)=s at *
    obtain ⟨sa,sb,sc⟩:=s
    simp only [cuF] at dr
    simp only at c1 c2 c3 c4 c5 c6
    have tk1:(tkL (sa,sb,sc)).length<=6:=by
     unfold tkL
     cases sb with
     | nil=>simp
     | cons r b=>exact (c4 r (by simp)).2
    have hMX:mcX (sa,sb,sc)=[.int sc,if sa=[] then .val (.slice none 0 0) else .own 3 sa.length (avs (cp (sa,sb,sc))),.int (tp (sa,sb,sc))]:=rfl
    have htp:tp (sa,sb,sc)=if tkL (sa,sb,sc)=[] then 0 else ixT (trN 6) (tkL (sa,sb,sc))+1:=rfl
    have hcp:cp (sa,sb,sc)=sa.map fun c=>ixT (trN 6) c+1:=rfl
    have hcr:∀ k,crX (sa,sb,sc) k=if k=0 then .val (.slice none 0 0) else .own 3 k (avs ((cp (sa,sb,sc)).take k)):=fun k=>rfl
    have hcl:(cp (sa,sb,sc)).length=sa.length:=by rw [hcp,List.length_map]
    have cPt:=zeA (trN 6) 0 [] (tkL (sa,sb,sc)) (by omega) (fun r hr=>by have:=(at6 r hr).2.1; omega) (by omega)
    have btp:=zfn (trN 6) (tkL (sa,sb,sc))
    rw [l6] at cPt btp
    generalize tkL (sa,sb,sc)=tk at *
    generalize tp (sa,sb,sc)=tpv at *
    generalize hCP:cp (sa,sb,sc)=cps at *
    generalize hMC:L.flatMap cuF=MC at *
    generalize hC:(L.take j).flatMap mcX=C at *
    simp [go_sem,hji,dr]
    refine ⟨⟨nL,by omega⟩,?_⟩
    refine zac (7::9::List.range' 33 13) (fun k:Nat=>[(7,.box 151 [.int sc,crX (sa,sb,sc) k,.int 0]),(33,.int k)]) (fun k=>k<=sa.length) (fun k=>sa.length-k) 0 (by simp) (by simp [go_sem,crX]) (by simp [go_sem,crX]) ?_
    intro k hk
    by_cases hkl:k<sa.length
    .have hki:(k:Int)<sa.length:=by omega
     have dk:=zak hkl
     have hmk:=memD [] hkl
     have hk6:=c2 _ hmk
     have na:¬ sa=[]:=by rintro rfl; simp at hkl
     have cP:=zeA (trN 6) 0 [] (sa[k]?.getD []) (by omega) (fun r hr=>by have:=(at6 r hr).2.1; omega) (by omega)
     rw [l6] at cP
     have bp:=zfn (trN 6) (sa[k]?.getD [])
     rw [l6] at bp
     have tkk:cps.take (k+1)=cps.take k++[ixT (trN 6) (sa[k]?.getD [])+1]:=by
      rw [List.take_succ_eq_append_getElem (by omega)]
      congr 2
      subst hcp
      rw [List.getElem_map,List.getElem?_eq_getElem hkl]; rfl
     have lk:(cps.take k).length=k:=by rw [List.length_take]; omega
     have x1:crX (sa,sb,sc) (k+1)=.own 3 (k+1) (avs (cps.take k++[ixT (trN 6) (sa[k]?.getD [])+1])):=by rw [hcr,if_neg (by omega),tkk]
     generalize sa[k]?.getD []=r at *
     generalize ixT (trN 6) r+1=v at *
     by_cases k0:k=0
     .have x0:crX (sa,sb,sc) k=.val (.slice none 0 0):=by rw [hcr,if_pos k0]
      rw [x0]
      simp [go_sem,hki,dk]
      refine ⟨na,by kernel_rfl,?_⟩
      refine CallD.of (cP) ?_
      simp [go_sem]
      refine ⟨by kernel_rfl,?_⟩
      simp [go_sem]
      refine ⟨⟨by omega,by omega⟩,k+1,by omega,by omega,zaa _ _ _ (by simp),?_⟩
      rw [x1]
      subst k0
      exact ⟨by simp [avs],by omega⟩
     .have x0:crX (sa,sb,sc) k=.own 3 k (avs (cps.take k)):=by rw [hcr,if_neg k0]
      rw [x0]
      simp [go_sem,hki,dk]
      refine ⟨na,by kernel_rfl,?_⟩
      refine CallD.of (cP) ?_
      simp [go_sem]
      refine ⟨⟨by omega,by omega,by omega⟩,?_⟩
      refine ⟨by kernel_rfl,?_⟩
      simp [go_sem]
      refine ⟨⟨by omega,by omega⟩,k+1,by omega,by omega,zaa _ _ _ (by simp),?_⟩
      rw [x1,zal]
      exact ⟨rfl,by omega⟩
    .have e:k=sa.length:=by omega
     subst e
     have hki:¬ (sa.length:Int)<sa.length:=by omega
     by_cases s0:sa=[]
     .have x0:crX (sa,sb,sc) sa.length=.val (.slice none 0 0):=by rw [hcr,if_pos (by rw [s0]; rfl)]
      rw [x0]
      rw [if_pos s0] at hMX
      by_cases ht:0<tk.length
      .have t0:¬ tk=[]:=by rintro rfl; simp at ht
       rw [if_neg t0] at htp
       simp [go_sem,hki,ht]
       refine CallVC.of (cPt) ?_
       simp [go_sem]
       refine ⟨⟨by rw [clj],by omega,by omega⟩,⟨by omega,by omega⟩,j+1,by omega,by omega,(Off.reset (by intro x hx; simp at hx |-; omega) (by simp) (by simp [go_sem,zaa])),?_⟩
       rw [tkj,List.flatMap_append,hC]
       refine ⟨⟨by omega,?_⟩,by omega⟩
       simp [hMX,htp]
      .have t0:tk=[]:=List.length_eq_zero_iff.1 (by omega)
       rw [if_pos t0] at htp
       simp [go_sem,hki,ht]
       refine ⟨⟨by rw [clj],by omega,by omega⟩,⟨by omega,by omega⟩,j+1,by omega,by omega,(Off.reset (by intro x hx; simp at hx |-; omega) (by simp) (by simp [go_sem,zaa])),?_⟩
       rw [tkj,List.flatMap_append,hC]
       refine ⟨⟨by omega,?_⟩,by omega⟩
       simp [hMX,htp]
     .have x0:crX (sa,sb,sc) sa.length=.own 3 sa.length (avs cps):=by
       rw [hcr,if_neg (by intro e; exact s0 (List.length_eq_zero_iff.1 e)),List.take_of_length_le (by omega)]
      rw [x0]
      rw [if_neg s0] at hMX
      by_cases ht:0<tk.length
      .have t0:¬ tk=[]:=by rintro rfl; simp at ht
       rw [if_neg t0] at htp
       simp [go_sem,hki,ht]
       refine CallVC.of (cPt) ?_
       simp [go_sem]
       refine ⟨⟨by rw [clj],by omega,by omega⟩,⟨by omega,by omega⟩,j+1,by omega,by omega,(Off.reset (by intro x hx; simp at hx |-; omega) (by simp) (by simp [go_sem,zaa])),?_⟩
       rw [tkj,List.flatMap_append,hC]
       refine ⟨⟨by omega,?_⟩,by omega⟩
       simp [hMX,htp]
      .have t0:tk=[]:=List.length_eq_zero_iff.1 (by omega)
       rw [if_pos t0] at htp
       simp [go_sem,hki,ht]
       refine ⟨⟨by rw [clj],by omega,by omega⟩,⟨by omega,by omega⟩,j+1,by omega,by omega,(Off.reset (by intro x hx; simp at hx |-; omega) (by simp) (by simp [go_sem,zaa])),?_⟩
       rw [tkj,List.flatMap_append,hC]
       refine ⟨⟨by omega,?_⟩,by omega⟩
       simp [hMX,htp]
   .have e:j=L.length:=by omega
    subst e
    have hji:¬ (L.length:Int)<L.length:=by omega
    rw [List.take_length]
    simp [go_sem,hji]
    exact ⟨⟨by omega,by omega⟩,i+1,by omega,by omega,(by repeat (first | exact zaa _ _ _ (by simp) | (refine Off.reset (by intro x hx; simp at hx |-; omega) (by simp) ?_; simp -failIfUnchanged [go_sem,zaa]))),xf,by omega⟩
  .have x0:fcX i=.own 144 i (((trN 6).take i).map rwX):=by unfold fcX; rw [if_neg i0]
   rw [x0]
   generalize (trN 6)[i]?.getD []=t at *
   generalize cutL t=L at *
   generalize ((trN 6).take i).map rwX=FR at *
   have xf:AV.own 144 (i+1) (FR++[AV.own 151 L.length (L.flatMap mcX)])=fcX (i+1):=by rw [x1,<- hrw]
   simp [go_sem,hii,dm]
   refine ⟨nm,?_⟩
   refine ⟨_,_,cC,?_⟩
   simp [go_sem]
   refine zac (4::6::7::9::List.range' 23 37) (fun j:Nat=>[(4,.own 151 j ((L.take j).flatMap mcX)),(23,.int j)]) (fun j=>j<=L.length) (fun j=>L.length-j) 0 (by simp) (by simp [go_sem]) (by simp [go_sem]) ?_
   intro j hj
   by_cases hjl:j<L.length
   .have hji:(j:Int)<L.length:=by omega
    have dr:=za4 cuF (fun _=>rfl) ([],[],0) hjl
    have nL:¬ L.flatMap cuF=[]:=by intro e; have:=zau cuF (fun _=>rfl) L; rw [e] at this; simp at this; omega
    have lL:=zau cuF (fun _=>rfl) L
    have hms:=memD ([],[],0) hjl
    obtain ⟨c1,c2,c3,c4,c5,c6⟩:=b2 _ hms
    have tkj:L.take (j+1)=L.take j++[L[j]?.getD ([],[],0)]:=by
     rw [List.take_succ_eq_append_getElem hjl,List.getElem?_eq_getElem hjl]; rfl
    have clj:=zau mcX (fun _=>rfl) (L.take j)
    rw [List.length_take,Nat.min_eq_left (by omega)] at clj
    generalize L[j]?.getD ([],[],0)=s at *
    obtain ⟨sa,sb,sc⟩:=s
    simp only [cuF] at dr
    simp only at c1 c2 c3 c4 c5 c6
    have tk1:(tkL (sa,sb,sc)).length<=6:=by
     unfold tkL
     cases sb with
     | nil=>simp
     | cons r b=>exact (c4 r (by simp)).2
    have hMX:mcX (sa,sb,sc)=[.int sc,if sa=[] then .val (.slice none 0 0) else .own 3 sa.length (avs (cp (sa,sb,sc))),.int (tp (sa,sb,sc))]:=rfl
    have htp:tp (sa,sb,sc)=if tkL (sa,sb,sc)=[] then 0 else ixT (trN 6) (tkL (sa,sb,sc))+1:=rfl
    have hcp:cp (sa,sb,sc)=sa.map fun c=>ixT (trN 6) c+1:=rfl
    have hcr:∀ k,crX (sa,sb,sc) k=if k=0 then .val (.slice none 0 0) else .own 3 k (avs ((cp (sa,sb,sc)).take k)):=fun k=>rfl
    have hcl:(cp (sa,sb,sc)).length=sa.length:=by rw [hcp,List.length_map]
    have cPt:=zeA (trN 6) i (frzL FR) (tkL (sa,sb,sc)) (by omega) (fun r hr=>by have:=(at6 r hr).2.1; omega) (by omega)
    have btp:=zfn (trN 6) (tkL (sa,sb,sc))
    rw [l6] at cPt btp
    generalize tkL (sa,sb,sc)=tk at *
    generalize tp (sa,sb,sc)=tpv at *
    generalize hCP:cp (sa,sb,sc)=cps at *
    generalize hMC:L.flatMap cuF=MC at *
    generalize hC:(L.take j).flatMap mcX=C at *
    simp [go_sem,hji,dr]
    refine ⟨⟨nL,by omega⟩,?_⟩
    refine zac (7::9::List.range' 33 13) (fun k:Nat=>[(7,.box 151 [.int sc,crX (sa,sb,sc) k,.int 0]),(33,.int k)]) (fun k=>k<=sa.length) (fun k=>sa.length-k) 0 (by simp) (by simp [go_sem,crX]) (by simp [go_sem,crX]) ?_
    intro k hk
    by_cases hkl:k<sa.length
    .have hki:(k:Int)<sa.length:=by omega
     have dk:=zak hkl
     have hmk:=memD [] hkl
     have hk6:=c2 _ hmk
     have na:¬ sa=[]:=by rintro rfl; simp at hkl
     have cP:=zeA (trN 6) i (frzL FR) (sa[k]?.getD []) (by omega) (fun r hr=>by have:=(at6 r hr).2.1; omega) (by omega)
     rw [l6] at cP
     have bp:=zfn (trN 6) (sa[k]?.getD [])
     rw [l6] at bp
     have tkk:cps.take (k+1)=cps.take k++[ixT (trN 6) (sa[k]?.getD [])+1]:=by
      rw [List.take_succ_eq_append_getElem (by omega)]
      congr 2
      subst hcp
      rw [List.getElem_map,List.getElem?_eq_getElem hkl]; rfl
     have lk:(cps.take k).length=k:=by rw [List.length_take]; omega
     have x1:crX (sa,sb,sc) (k+1)=.own 3 (k+1) (avs (cps.take k++[ixT (trN 6) (sa[k]?.getD [])+1])):=by rw [hcr,if_neg (by omega),tkk]
     generalize sa[k]?.getD []=r at *
     generalize ixT (trN 6) r+1=v at *
     by_cases k0:k=0
     .have x0:crX (sa,sb,sc) k=.val (.slice none 0 0):=by rw [hcr,if_pos k0]
      rw [x0]
      simp [go_sem,hki,dk]
      refine ⟨na,by kernel_rfl,?_⟩
      refine CallD.of (cP) ?_
      simp [go_sem]
      refine ⟨by kernel_rfl,?_⟩
      simp [go_sem]
      refine ⟨⟨by omega,by omega⟩,k+1,by omega,by omega,zaa _ _ _ (by simp),?_⟩
      rw [x1]
      subst k0
      exact ⟨by simp [avs],by omega⟩
     .have x0:crX (sa,sb,sc) k=.own 3 k (avs (cps.take k)):=by rw [hcr,if_neg k0]
      rw [x0]
      simp [go_sem,hki,dk]
      refine ⟨na,by kernel_rfl,?_⟩
      refine CallD.of (cP) ?_
      simp [go_sem]
      refine ⟨⟨by omega,by omega,by omega⟩,?_⟩
      refine ⟨by kernel_rfl,?_⟩
      simp [go_sem]
      refine ⟨⟨by omega,by omega⟩,k+1,by omega,by omega,zaa _ _ _ (by simp),?_⟩
      rw [x1,zal]
      exact ⟨rfl,by omega⟩
    .have e:k=sa.length:=by omega
     subst e
     have hki:¬ (sa.length:Int)<sa.length:=by omega
     by_cases s0:sa=[]
     .have x0:crX (sa,sb,sc) sa.length=.val (.slice none 0 0):=by rw [hcr,if_pos (by rw [s0]; rfl)]
      rw [x0]
      rw [if_pos s0] at hMX
      by_cases ht:0<tk.length
      .have t0:¬ tk=[]:=by rintro rfl; simp at ht
       rw [if_neg t0] at htp
       simp [go_sem,hki,ht]
       refine CallVC.of (cPt) ?_
       simp [go_sem]
       refine ⟨⟨by rw [clj],by omega,by omega⟩,⟨by omega,by omega⟩,j+1,by omega,by omega,(Off.reset (by intro x hx; simp at hx |-; omega) (by simp) (by simp [go_sem,zaa])),?_⟩
       rw [tkj,List.flatMap_append,hC]
       refine ⟨⟨by omega,?_⟩,by omega⟩
       simp [hMX,htp]
      .have t0:tk=[]:=List.length_eq_zero_iff.1 (by omega)
       rw [if_pos t0] at htp
       simp [go_sem,hki,ht]
       refine ⟨⟨by rw [clj],by omega,by omega⟩,⟨by omega,by omega⟩,j+1,by omega,by omega,(Off.reset (by intro x hx; simp at hx |-; omega) (by simp) (by simp [go_sem,zaa])),?_⟩
       rw [tkj,List.flatMap_append,hC]
       refine ⟨⟨by omega,?_⟩,by omega⟩
       simp [hMX,htp]
     .have x0:crX (sa,sb,sc) sa.length=.own 3 sa.length (avs cps):=by
       rw [hcr,if_neg (by intro e; exact s0 (List.length_eq_zero_iff.1 e)),List.take_of_length_le (by omega)]
      rw [x0]
      rw [if_neg s0] at hMX
      by_cases ht:0<tk.length
      .have t0:¬ tk=[]:=by rintro rfl; simp at ht
       rw [if_neg t0] at htp
       simp [go_sem,hki,ht]
       refine CallVC.of (cPt) ?_
       simp [go_sem]
       refine ⟨⟨by rw [clj],by omega,by omega⟩,⟨by omega,by omega⟩,j+1,by omega,by omega,(Off.reset (by intro x hx; simp at hx |-; omega) (by simp) (by simp [go_sem,zaa])),?_⟩
       rw [tkj,List.flatMap_append,hC]
       refine ⟨⟨by omega,?_⟩,by omega⟩
       simp [hMX,htp]
      .have t0:tk=[]:=List.length_eq_zero_iff.1 (by omega)
       rw [if_pos t0] at htp
       simp [go_sem,hki,ht]
       refine ⟨⟨by rw [clj],by omega,by omega⟩,⟨by omega,by omega⟩,j+1,by omega,by omega,(Off.reset (by intro x hx; simp at hx |-; omega) (by simp) (by simp [go_sem,zaa])),?_⟩
       rw [tkj,List.flatMap_append,hC]
       refine ⟨⟨by omega,?_⟩,by omega⟩
       simp [hMX,htp]
   .have e:j=L.length:=by omega
    subst e
    have hji:¬ (L.length:Int)<L.length:=by omega
    rw [List.take_length]
    simp [go_sem,hji]
    exact ⟨⟨by omega,by omega,by omega⟩,⟨by omega,by omega⟩,i+1,by omega,by omega,(by repeat (first | exact zaa _ _ _ (by simp) | (refine Off.reset (by intro x hx; simp at hx |-; omega) (by simp) ?_; simp -failIfUnchanged [go_sem,zaa]))),xf,by omega⟩
 .have e:i=37:=by omega
  subst e
  have x:fcX 37=.own 144 37 ((trN 6).map rwX):=by
   unfold fcX
   rw [if_neg (by omega),List.take_of_length_le (by omega)]
  rw [x]
  simp [go_sem]
def trG (row:List (Int × List Int × Int)):AV:=.sl row.length (row.flatMap fun x=>[.int x.1,.sl x.2.1.length (avs x.2.1),.int x.2.2])
theorem zen:∀ a b:List AV,frzL (a++b)=frzL a++frzL b
 | [],b=>rfl
 | c::a,b=>by rw [List.cons_append,frzL,zen a b,frzL]; rfl
theorem zsB:∀ L:List Spl,NXL (frzL (L.flatMap mcX)) ((L.map fun s=>(s.2.2,cp s,tp s)).flatMap fun x=>[.int x.1,.sl x.2.1.length (avs x.2.1),.int x.2.2])
 | []=>.nil
 | s::L=>by
  rw [List.map_cons,List.flatMap_cons,List.flatMap_cons,zen]
  refine NXL.app (zsB L) ?_
  by_cases h:s.1=[]
  .have e:mcX s=[.int s.2.2,.val (.slice none 0 0),.int (tp s)]:=by unfold mcX; rw [if_pos h]
   have e2:cp s=[]:=by unfold cp; rw [h]; rfl
   rw [e,e2]
   exact .cons (.same _) (.cons .nil (.cons (.same _) .nil))
  .have e:mcX s=[.int s.2.2,.own 3 s.1.length (avs (cp s)),.int (tp s)]:=by unfold mcX; rw [if_neg h]
   have e2:(cp s).length=s.1.length:=by simp [cp]
   rw [e]
   show NXL [.int s.2.2,.sl s.1.length (frzL (avs (cp s))),.int (tp s)] [.int s.2.2,.sl (cp s).length (avs (cp s)),.int (tp s)]
   rw [zcB,e2]
   exact NXL.same _
theorem zr4:∀ T:List (List Int),NXL (frzL (T.map rwX)) (T.map fun t=>trG ((cutL t).map fun s=>(s.2.2,cp s,tp s)))
 | []=>.nil
 | t::T=>by
  rw [List.map_cons,List.map_cons]
  refine .cons ?_ (zr4 T)
  show NX (.sl (cutL t).length (frzL ((cutL t).flatMap mcX))) (trG _)
  unfold trG
  rw [List.length_map]
  exact .sl _ (zsB _)
theorem zum:((trN 6).map fun t=>trG ((cutL t).map fun s=>(s.2.2,cp s,tp s)))=fcF:=by
 have e:=congrArg (List.map trG) zu3
 rw [List.map_map,List.map_map] at e
 refine (Eq.trans ?_ e).trans ?_
 .rfl
 .unfold fcF
  refine List.map_congr_left fun r _=>?_
  show trG (r.map _)=_
  unfold trG
  rw [List.length_map,List.flatMap_map]
  show AV.sl r.length (r.flatMap fun c=>[.int c.1,.sl (nvs c.2.1).length (avs (nvs c.2.1)),.int c.2.2])=_
  simp only [zfI]
  rfl
theorem za6:GCon Tryz.prog 71 [] (.agg [.sl 37 (mat (trN 6)),.sl 37 fcF]) []:=by
 refine GCon.nxA (.cons (.same _) (.cons (.sl 37 ?_) .nil)) (GCon.frzR zmd rfl)
 rw [<- zum]
 exact zr4 _
end Go.Proofs.YthhdollpkieknaaGreat


namespace Go.Proofs.YthhdollpkieknaaGreat
def c1R (i:Nat):List Ctp:=(ctR i).filter fun c=>decide (c.2.1.length=1)
def acI (B X:Nat->Int) (i:Nat):Int:=if i=0 then 0 else rowI B X (c1R i)
def acP (B X:Nat->Py) (i:Nat):Py:=if Nat.beq i 0 then [] else rowP B X (c1R i)
theorem zfU {i:Nat}:∀ c∈c1R i,c∈ctR i:=fun c hc=>(List.mem_filter.1 hc).1
theorem zrV {A A' B B':Nat->Int} {i:Nat} (hi:i<38) (ha:∀ i,i<38->A i%10007=A' i%10007) (hb:∀ i,i<38->B i%10007=B' i%10007):acI A B i%10007=acI A' B' i%10007:=by
 unfold acI
 split
 .rfl
 .exact zde fun c hc=>⟨fun v hv=>ha v ((zcK hi c (zfU c hc)).1 v hv),hb _ (zcK hi c (zfU c hc)).2⟩
theorem zwe (r:Nat->Int) {A B:Nat->Py} {A' B':Nat->Int} (h:∀ v,v<38->evp r (A v)%10007=A' v%10007) (k:∀ v,v<38->evp r (B v)%10007=B' v%10007) {i:Nat} (hi:i<38):evp r (acP A B i)%10007=acI A' B' i%10007:=by
 unfold acP acI
 by_cases e:i=0
 .subst e; rfl
 .rw [if_neg e,if_neg (by intro x; exact e (Nat.eq_of_beq_eq_true x))]
  exact zer r _ fun c hc=>⟨fun v hv=>h v ((zcK hi c (zfU c hc)).1 v hv),k _ (zcK hi c (zfU c hc)).2⟩
def unJ (i:Nat):Int:=if i=0 then 1 else 0
def xpI (B:Nat->Int):Nat->Nat->Int
 | 0=>unJ
 | k+1=>acI B (xpI B k)
def xpP (B:Nat->Py):Nat->Nat->Py
 | 0=>u0
 | k+1=>acP B (xpP B k)
def ifT:List Nat:=[1,1,5004,1668,417,8089,3016]
def ifI (k:Nat):Int:=((ifT[k]?.getD 0:Nat):Int)
def expI (B:Nat->Int) (i:Nat):Int:=xpI B 0 i+xpI B 1 i*ifI 1+xpI B 2 i*ifI 2+xpI B 3 i*ifI 3+xpI B 4 i*ifI 4+xpI B 5 i*ifI 5+xpI B 6 i*ifI 6
def tmP (B:Nat->Py) (k i:Nat):Py:=mulP [(ifT[k]?.getD 0,[])] (xpP B k i)
def expP (B:Nat->Py) (i:Nat):Py:=addP (tmP B 6 i) (addP (tmP B 5 i) (addP (tmP B 4 i) (addP (tmP B 3 i) (addP (tmP B 2 i) (addP (tmP B 1 i) (xpP B 0 i))))))
theorem zxM (r:Nat->Int) {i:Nat}:evp r (u0 i)%10007=unJ i%10007:=by
 unfold u0 unJ
 by_cases e:i=0
 .subst e; show evp r [(1,[])]%10007=1%10007; rw [zhZ]
 .rw [if_neg e,if_neg (by intro x; exact e (Nat.eq_of_beq_eq_true x))]; rfl
theorem zoT (r:Nat->Int) {B:Nat->Py} {B':Nat->Int} (h:∀ v,v<38->evp r (B v)%10007=B' v%10007):∀ k i,i<38->evp r (xpP B k i)%10007=xpI B' k i%10007
 | 0,i,_=>zxM r
 | k+1,i,hi=>zwe r h (fun v hv=>zoT r h k v hv) hi
theorem zfH (r:Nat->Int) {B:Nat->Py} {B':Nat->Int} (h:∀ v,v<38->evp r (B v)%10007=B' v%10007) {i:Nat} (hi:i<38):evp r (expP B i)%10007=expI B' i%10007:=by
 have t:∀ k,evp r (tmP B k i)%10007=xpI B' k i*ifI k%10007:=fun k=>by
  unfold tmP
  rw [zed,zs6,Int.mul_comm]
  exact zas (zoT r h k i hi) rfl
 have t1:=t 1
 have t2:=t 2
 have t3:=t 3
 have t4:=t 4
 have t5:=t 5
 have t6:=t 6
 have t0:=zoT r h 0 i hi
 unfold expP expI
 rw [zbS]
 have s5:=zbS r (tmP B 5 i) (addP (tmP B 4 i) (addP (tmP B 3 i) (addP (tmP B 2 i) (addP (tmP B 1 i) (xpP B 0 i)))))
 have s4:=zbS r (tmP B 4 i) (addP (tmP B 3 i) (addP (tmP B 2 i) (addP (tmP B 1 i) (xpP B 0 i))))
 have s3:=zbS r (tmP B 3 i) (addP (tmP B 2 i) (addP (tmP B 1 i) (xpP B 0 i)))
 have s2:=zbS r (tmP B 2 i) (addP (tmP B 1 i) (xpP B 0 i))
 have s1:=zbS r (tmP B 1 i) (xpP B 0 i)
 generalize xpI B' 1 i*ifI 1=x1 at *
 generalize xpI B' 2 i*ifI 2=x2 at *
 generalize xpI B' 3 i*ifI 3=x3 at *
 generalize xpI B' 4 i*ifI 4=x4 at *
 generalize xpI B' 5 i*ifI 5=x5 at *
 generalize xpI B' 6 i*ifI 6=x6 at *
 omega
def vb (k i:Nat):Py:=if Nat.beq i 0 then [] else [(1,[k+i])]
def vn (k i:Nat):Py:=if Nat.beq i 0 then [] else [(10006,[k+i])]
theorem zie {r:Nat->Int} {k:Nat} {A:Nat->Int} (h0:A 0%10007=0) (h:∀ i,i<38->r (k+i)=A i) {i:Nat} (hi:i<38):evp r (vb k i)%10007=A i%10007:=by
 unfold vb
 split
 .rename_i e
  rw [Nat.eq_of_beq_eq_true e,h0]; rfl
 .rw [zmg,h i hi]
theorem zu9 {r:Nat->Int} {k:Nat} {A:Nat->Int} (h0:A 0%10007=0) (h:∀ i,i<38->r (k+i)=A i) {i:Nat} (hi:i<38):evp r (vn k i)%10007=(-A i)%10007:=by
 unfold vn
 split
 .rename_i e
  rw [Nat.eq_of_beq_eq_true e]
  show 0%10007=_
  omega
 .have:evp r [(10006,[k+i])]=10006*r (k+i):=by simp [evp,evm]
  rw [this,h i hi]
  omega
def qP (i:Nat):Py:=addT (10006,[i]) (expP (vb 0) i)
theorem zo1:(List.range 37).all (fun j=>(qP (j+1)).all fun t=>t.2.all fun v=>decide (v<38) && decide (nd v<nd (j+1)))=true:=by decide +kernel
theorem zku {r s:Nat->Int}:∀ {m:List Nat},(∀ v∈m,r v%10007=s v%10007)->evm r m%10007=evm s m%10007
 | [],_=>rfl
 | v::m,h=>zas (h v (by simp)) (zku fun w hw=>h w (by simp [hw]))
theorem zlv {r s:Nat->Int}:∀ {P:Py},(∀ t∈P,∀ v∈t.2,r v%10007=s v%10007)->evp r P%10007=evp s P%10007
 | [],_=>rfl
 | t::P,h=>za5 (zas rfl (zku (h t (by simp)))) (zlv fun u hu=>h u (by simp [hu]))
theorem zho {B:Nat->Int} (h0:B 0%10007=0) {i:Nat} (hi:i<38) (hp:0<i):expI B i%10007=(B i+evp B (qP i))%10007:=by
 have e:=zfH B (B:=vb 0) (B':=B) (fun v hv=>zie h0 (fun j _=>by rw [Nat.zero_add]) hv) hi
 have k:=zfe B (10006,[i]) (expP (vb 0) i)
 have s:evm B [i]=B i:=by simp [evm]
 unfold qP
 rw [s] at k
 simp only at k
 have c:((10006:Nat):Int)=10006:=rfl
 rw [c] at k
 generalize B i=x at *
 omega
theorem zso {B B':Nat->Int} {i:Nat} (hi:i<38) (hp:0<i) (h:∀ j,j<38->nd j<nd i->B j%10007=B' j%10007):evp B (qP i)%10007=evp B' (qP i)%10007:=by
 obtain ⟨j,rfl⟩:∃ j,i=j+1:=⟨i-1,by omega⟩
 refine zlv fun t ht v hv=>?_
 have k:=List.all_eq_true.1 (List.all_eq_true.1 (List.all_eq_true.1 zo1 j (List.mem_range.2 (by omega))) t ht) v hv
 simp only [Bool.and_eq_true,decide_eq_true_eq] at k
 exact h v k.1 k.2
def expS (b:List Int):List Int:=mk38 (expI (iat b))
def Inf (b:List Int):Prop:=N38 b/\iat b 0=0
theorem zoF (B:Nat->Int):expI B 0=1:=by
 have:∀ k,xpI B (k+1) 0=0:=fun k=>by rw [xpI,acI,if_pos rfl]
 unfold expI
 rw [this 0,this 1,this 2,this 3,this 4,this 5]
 simp [xpI,unJ]
theorem zbi (b:List Int):Ch (expS b):=⟨za8 _,by unfold expS; rw [zaN _ (by decide),zoF]; rfl⟩
theorem zbH (b:List Int) {i:Nat} (hi:i<38):iat (expS b) i%10007=expI (iat b) i%10007:=zbo _ hi
theorem znD {b c:List Int} (hb:Inf b) (hc:Inf c) (h:expS b=expS c):b=c:=by
 have key:∀ n,∀ i,i<38->nd i<=n->iat b i%10007=iat c i%10007:=fun n=>by
  induction n with
  | zero =>
   intro i hi hl
   rcases Nat.eq_zero_or_pos i with rfl | h0
   .rw [hb.2,hc.2]
   .have:=zik hi h0; omega
  | succ n ih =>
   intro i hi hl
   rcases Nat.eq_zero_or_pos i with rfl | h0
   .rw [hb.2,hc.2]
   .have e1:=zbH b hi
    have e2:=zbH c hi
    rw [zho (by rw [hb.2]; rfl) hi h0] at e1
    rw [zho (by rw [hc.2]; rfl) hi h0] at e2
    have q:=zso (B:=iat b) (B':=iat c) hi h0 fun j hj hl2=>ih j hj (by omega)
    rw [h] at e1
    omega
 exact hb.1.ext hc.1 fun i hi=>key 6 i hi (zdD hi)
def lgS (a:List Int):Nat->List Int
 | 0=>mk38 fun _=>0
 | n+1=>mk38 fun i=>iat (lgS a n) i+if nd i=n+1 then iat a i-iat (expS (lgS a n)) i else 0
theorem zoz (a:List Int):∀ n,N38 (lgS a n)
 | 0=>za8 _
 | n+1=>za8 _
theorem zhs (a:List Int):∀ n,Inf (lgS a n)
 | 0=>⟨zoz a 0,by rw [lgS,zaN _ (by decide)]; rfl⟩
 | n+1=>⟨zoz a (n+1),by
  rw [lgS,zaN _ (by decide),(zhs a n).2,if_neg (by show ¬ 0=n+1; omega)]; rfl⟩
theorem zrR {a:List Int} (ha:Ch a):∀ n,Agr (expS (lgS a n)) a n
 | 0=>fun i hi hl=>by
  rcases Nat.eq_zero_or_pos i with rfl | h0
  .rw [(zbi _).2,ha.2]
  .have:=zik hi h0; omega
 | n+1=>fun i hi hl=>by
  rcases Nat.eq_zero_or_pos i with rfl | h0
  .rw [(zbi _).2,ha.2]
  .have ih:=zrR ha n
   have e1:=zbH (lgS a (n+1)) hi
   have e2:=zbH (lgS a n) hi
   rw [zho (by rw [(zhs a (n+1)).2]; rfl) hi h0] at e1
   rw [zho (by rw [(zhs a n).2]; rfl) hi h0] at e2
   have step:∀ j,j<38->iat (lgS a (n+1)) j%10007=(iat (lgS a n) j+if nd j=n+1 then iat a j-iat (expS (lgS a n)) j else 0)%10007:=fun j hj=>zbo _ hj
   have q:=zso (B:=iat (lgS a (n+1))) (B':=iat (lgS a n)) hi h0 fun j hj hl2=>by rw [step j hj,if_neg (by omega),Int.add_zero]
   have r1:=(zbi (lgS a (n+1))).1.at i
   have r2:=ha.1.at i
   have s:=step i hi
   by_cases hn:nd i=n+1
   .rw [if_pos hn] at s
    omega
   .rw [if_neg hn,Int.add_zero] at s
    have:=ih i hi (by omega)
    omega
def logS (a:List Int):List Int:=lgS a 6
theorem zhy {a:List Int} (ha:Ch a):expS (logS a)=a :=
 (zbi _).1.ext ha.1 fun i hi=>congrArg (·%10007) (zrR ha 6 i hi (zdD hi))
theorem ze7 (a:List Int):Inf (logS a):=zhs a 6
theorem zlW:(List.range 38).all (fun i=>decide (cvP (expP (vb 0)) (expP (vn 0)) i=u0 i))=true:=by decide +kernel
def ngS (b:List Int):List Int:=mk38 fun i => -iat b i
theorem ztS {b:List Int} (h:Inf b):Inf (ngS b):=⟨za8 _,by unfold ngS; rw [zaN _ (by decide),h.2]; rfl⟩
theorem zvq {b:List Int} (h:Inf b):cvS (expS b) (expS (ngS b))=zbq:=by
 refine zdv zdF.1 fun i hi=>?_
 have e:=of_decide_eq_true (List.all_eq_true.1 zlW i (List.mem_range.2 hi))
 have h1:∀ v,v<38->evp (iat b) (vb 0 v)%10007=iat b v%10007:=fun v hv=>zie (by rw [h.2]; rfl) (fun j _=>by rw [Nat.zero_add]) hv
 have h2:∀ v,v<38->evp (iat b) (vn 0 v)%10007=iat (ngS b) v%10007:=fun v hv=>by
  unfold ngS
  rw [zbo _ hv]
  exact zu9 (by rw [h.2]; rfl) (fun j _=>by rw [Nat.zero_add]) hv
 have f1:∀ v,v<38->evp (iat b) (expP (vb 0) v)%10007=iat (expS b) v%10007:=fun v hv=>by rw [zfH _ h1 hv,zbH b hv]
 have f2:∀ v,v<38->evp (iat b) (expP (vn 0) v)%10007=iat (expS (ngS b)) v%10007:=fun v hv=>by rw [zfH _ h2 hv,zbH (ngS b) hv]
 rw [<- zfo (iat b) f1 f2 hi,e]
 exact zny _ hi
theorem zxv (A B:Nat->Int) (k:Int) {i:Nat} (hi:i<38):acI (fun v=>A v*k ^ nd v) (fun v=>B v*k ^ nd v) i=acI A B i*k ^ nd i:=by
 unfold acI
 by_cases h:i=0
 .subst h; rw [if_pos rfl,if_pos rfl,Int.zero_mul]
 .rw [if_neg h,if_neg h,zjQ A B k (nd i) _ fun c hc=>zvF hi (by omega) c (zfU c hc)]
theorem zvr {B B':Nat->Int} (k:Int) (h:∀ v,v<38->B' v%10007=B v*k ^ nd v%10007):∀ n i,i<38->xpI B' n i%10007=xpI B n i*k ^ nd i%10007
 | 0,i,hi=>by
  rw [xpI,xpI,unJ]
  by_cases h:i=0
  .subst h; rw [if_pos rfl]; show 1%10007=1*k ^ 0%10007; simp
  .rw [if_neg h,Int.zero_mul]
 | n+1,i,hi=>by
  rw [xpI,xpI,zrV (A':=fun v=>B v*k ^ nd v) (B':=fun v=>xpI B n v*k ^ nd v) hi h (fun v hv=>zvr k h n v hv),zxv _ _ k hi]
theorem zv9 (k:Int) (b:List Int):expS (scS k b)=scS k (expS b):=by
 refine zdr fun i hi=>?_
 have x:=fun n=>zvr (B:=iat b) k (fun v hv=>zit k b hv) n i hi
 have e:iat (expS b) i*k ^ nd i%10007=expI (iat b) i*k ^ nd i%10007:=zas (zbH b hi) rfl
 rw [e]
 unfold expI
 simp only [Int.add_mul]
 have m:∀ n,xpI (iat (scS k b)) n i*ifI n%10007=xpI (iat b) n i*ifI n*k ^ nd i%10007:=fun n=>by
  rw [show xpI (iat b) n i*ifI n*k ^ nd i=xpI (iat b) n i*k ^ nd i*ifI n by ac_rfl]
  exact zas (x n) rfl
 exact za5 (za5 (za5 (za5 (za5 (za5 (x 0) (m 1)) (m 2)) (m 3)) (m 4)) (m 5)) (m 6)
theorem ztX (k:Int) {b:List Int} (h:Inf b):Inf (scS k b):=⟨zhU k b,by unfold scS; rw [zaN _ (by decide),h.2,Int.zero_mul]; rfl⟩
theorem ztD {b:List Int} (hb:Inf b):Sym (expS b) ↔ ∀ i,i<38->nd i%2=0->iat b i=0:=by
 have n1:=zvq hb
 have key:Sym (expS b) ↔ scS (-1) b=ngS b:=by
  unfold Sym
  rw [<- zv9]
  constructor
  .intro h
   refine znD (ztX _ hb) (ztS hb) ?_
   have h2:cvS (invS (expS b)) (cvS (expS b) (expS (scS (-1) b)))=cvS (invS (expS b)) (cvS (expS b) (expS (ngS b))):=by rw [h,n1]
   rw [<- zju (zef _) (zbi b),<- zju (zef _) (zbi b),zuL (zbi b),zjj (zbi _).1,zjj (zbi _).1] at h2
   exact h2
  .intro h
   rw [h]; exact n1
 rw [key]
 constructor
 .intro h i hi he
  have e1:=zit (-1) b hi
  rw [h,zeF he,Int.mul_one] at e1
  have e2:iat (ngS b) i%10007=(-iat b i)%10007:=zbo _ hi
  have r:=hb.1.at i
  have z:(0+iat b i+iat b i)%10007=0:=by
   have y:=Int.emod_eq_emod_iff_emod_sub_eq_zero.1 (e1.symm.trans e2)
   rw [Int.sub_neg] at y
   rw [Int.zero_add]
   exact y
  exact zu7 z (show (0+0+0:Int)%10007=0 by decide) rfl r (by decide)
 .intro h
  refine zdr fun i hi=>?_
  rcases Nat.mod_two_eq_zero_or_one (nd i) with e | e
  .rw [h i hi e,Int.zero_mul]; rfl
  .rw [zjt e]; congr 1; omega
end Go.Proofs.YthhdollpkieknaaGreat


namespace Go.Proofs.YthhdollpkieknaaGreat
def parT:List (List (Nat × List Nat × Nat)):=[[(1,[1],1)],
 [(1,[2],1),(1,[1,1],2)],
 [(1,[3],1),(2,[1,2],2),(1,[1,1,1],3)],
 [(1,[4],1),(2,[1,2],2),(1,[1,1,1],4)],
 [(1,[5],1),(2,[1,3],2),(1,[2,2],2),(3,[1,1,2],3),(1,[1,1,1,1],5)],
 [(1,[6],1),(2,[1,3],2),(1,[1,4],2),(2,[1,1,2],3),(1,[1,1,2],4),(1,[1,1,1,1],6)],
 [(1,[7],1),(1,[1,3],2),(1,[1,4],2),(1,[2,2],2),(1,[1,1,2],3),(2,[1,1,2],4),(1,[1,1,1,1],7)],
 [(1,[8],1),(3,[1,4],2),(3,[1,1,2],4),(1,[1,1,1,1],8)],
 [(1,[9],1),(2,[1,5],2),(2,[2,3],2),(3,[1,1,3],3),(3,[1,2,2],3),(4,[1,1,1,2],5),(1,[1,1,1,1,1],9)],
 [(1,[10],1),(2,[1,5],2),(1,[1,6],2),(1,[2,4],2),(2,[1,1,3],3),(1,[1,1,4],3),(2,[1,2,2],3),(1,[1,1,3],4),(2,[1,1,1,2],5),(2,[1,1,1,2],6),(1,[1,1,1,1,1],10)],
 [(1,[11],1),(1,[1,5],2),(1,[1,6],2),(1,[1,7],2),(1,[2,3],2),(2,[1,1,3],3),(1,[1,1,4],3),(1,[1,2,2],3),(1,[1,1,3],4),(1,[1,2,2],4),(1,[1,1,1,2],5),(2,[1,1,1,2],6),(1,[1,1,1,2],7),(1,[1,1,1,1,1],11)],
 [(1,[12],1),(1,[1,5],2),(1,[1,7],2),(1,[2,3],2),(1,[2,4],2),(1,[1,1,4],3),(2,[1,2,2],3),(2,[1,1,3],4),(1,[1,2,2],4),(1,[1,1,1,2],5),(3,[1,1,1,2],7),(1,[1,1,1,1,1],12)],
 [(1,[13],1),(3,[1,6],2),(1,[1,8],2),(3,[1,1,4],3),(3,[1,1,3],4),(3,[1,1,1,2],6),(1,[1,1,1,2],8),(1,[1,1,1,1,1],13)],
 [(1,[14],1),(1,[1,6],2),(2,[1,7],2),(1,[2,4],2),(2,[1,2,2],3),(2,[1,1,3],4),(2,[1,1,4],4),(1,[1,1,1,2],6),(2,[1,1,1,2],7),(1,[1,1,1,2],8),(1,[1,1,1,1,1],14)],
 [(1,[15],1),(2,[1,7],2),(2,[2,3],2),(2,[1,1,3],3),(1,[1,1,4],4),(3,[1,2,2],4),(4,[1,1,1,2],7),(1,[1,1,1,1,1],15)],
 [(1,[16],1),(2,[1,7],2),(1,[1,8],2),(1,[2,4],2),(1,[1,1,4],3),(1,[1,1,3],4),(2,[1,1,4],4),(2,[1,2,2],4),(2,[1,1,1,2],7),(2,[1,1,1,2],8),(1,[1,1,1,1,1],16)],
 [(1,[17],1),(4,[1,8],2),(6,[1,1,4],4),(4,[1,1,1,2],8),(1,[1,1,1,1,1],17)],
 [(1,[18],1),(2,[1,9],2),(2,[2,5],2),(1,[3,3],2),(3,[1,1,5],3),(6,[1,2,3],3),(1,[2,2,2],3),(4,[1,1,1,3],5),(6,[1,1,2,2],5),(5,[1,1,1,1,2],9),(1,[1,1,1,1,1,1],18)],
 [(1,[19],1),(2,[1,9],2),(1,[1,10],2),(1,[2,6],2),(1,[3,4],2),(2,[1,1,5],3),(1,[1,1,6],3),(4,[1,2,3],3),(2,[1,2,4],3),(1,[1,1,5],4),(2,[1,1,1,3],5),(1,[1,1,1,4],5),(4,[1,1,2,2],5),(2,[1,1,1,3],6),(1,[1,1,2,2],6),(2,[1,1,1,1,2],9),(3,[1,1,1,1,2],10),(1,[1,1,1,1,1,1],19)],
 [(1,[20],1),(1,[1,9],2),(1,[1,10],2),(1,[1,11],2),(1,[2,5],2),(1,[2,7],2),(2,[1,1,5],3),(1,[1,1,6],3),(1,[1,1,7],3),(2,[1,2,3],3),(1,[1,2,4],3),(1,[2,2,2],3),(1,[1,1,5],4),(1,[1,2,3],4),(2,[1,1,1,3],5),(1,[1,1,1,4],5),(2,[1,1,2,2],5),(1,[1,1,1,3],6),(3,[1,1,2,2],6),(1,[1,1,1,3],7),(1,[1,1,1,1,2],9),(2,[1,1,1,1,2],10),(2,[1,1,1,1,2],11),(1,[1,1,1,1,1,1],20)],
 [(1,[21],1),(1,[1,9],2),(1,[1,11],2),(1,[1,12],2),(1,[2,6],2),(1,[3,3],2),(1,[1,1,5],3),(1,[1,1,6],3),(1,[1,1,7],3),(3,[1,2,3],3),(1,[1,2,4],3),(1,[1,1,5],4),(2,[1,2,3],4),(1,[1,1,1,3],5),(1,[1,1,1,4],5),(2,[1,1,2,2],5),(2,[1,1,1,3],6),(1,[1,1,2,2],6),(1,[1,1,1,3],7),(2,[1,1,2,2],7),(1,[1,1,1,1,2],9),(3,[1,1,1,1,2],11),(1,[1,1,1,1,2],12),(1,[1,1,1,1,1,1],21)],
 [(1,[22],1),(1,[1,9],2),(1,[1,12],2),(1,[2,5],2),(1,[2,7],2),(1,[3,4],2),(1,[1,1,7],3),(2,[1,2,3],3),(2,[1,2,4],3),(1,[2,2,2],3),(2,[1,1,5],4),(2,[1,2,3],4),(1,[1,1,1,4],5),(3,[1,1,2,2],5),(3,[1,1,1,3],7),(3,[1,1,2,2],7),(1,[1,1,1,1,2],9),(4,[1,1,1,1,2],12),(1,[1,1,1,1,1,1],22)],
 [(1,[23],1),(3,[1,10],2),(1,[1,13],2),(1,[2,8],2),(3,[1,1,6],3),(1,[1,1,8],3),(3,[1,2,4],3),(3,[1,1,5],4),(3,[1,1,1,4],5),(3,[1,1,1,3],6),(3,[1,1,2,2],6),(1,[1,1,1,3],8),(3,[1,1,1,1,2],10),(2,[1,1,1,1,2],13),(1,[1,1,1,1,1,1],23)],
 [(1,[24],1),(1,[1,10],2),(2,[1,11],2),(1,[1,14],2),(1,[3,4],2),(1,[1,1,6],3),(2,[1,1,7],3),(2,[1,2,3],3),(1,[1,2,4],3),(2,[1,1,5],4),(1,[1,1,6],4),(1,[1,2,4],4),(2,[1,1,2,2],5),(3,[1,1,1,3],6),(2,[1,1,1,4],6),(2,[1,1,2,2],7),(1,[1,1,1,3],8),(1,[1,1,1,1,2],10),(2,[1,1,1,1,2],11),(1,[1,1,1,1,2],13),(1,[1,1,1,1,2],14),(1,[1,1,1,1,1,1],24)],
 [(1,[25],1),(1,[1,10],2),(2,[1,12],2),(1,[2,6],2),(1,[4,4],2),(2,[1,2,3],3),(3,[1,2,4],3),(2,[1,1,5],4),(1,[1,1,6],4),(1,[1,1,7],4),(1,[1,2,4],4),(2,[1,1,2,2],5),(1,[1,1,1,4],6),(1,[1,1,2,2],6),(2,[1,1,1,3],7),(1,[1,1,1,4],7),(2,[1,1,2,2],7),(1,[1,1,1,3],8),(1,[1,1,1,1,2],10),(2,[1,1,1,1,2],12),(2,[1,1,1,1,2],14),(1,[1,1,1,1,1,1],25)],
 [(1,[26],1),(2,[1,11],2),(1,[1,15],2),(2,[2,5],2),(2,[1,1,5],3),(2,[1,1,7],3),(2,[1,2,3],3),(1,[1,1,6],4),(2,[1,2,3],4),(1,[2,2,2],4),(2,[1,1,1,3],5),(1,[1,1,1,4],6),(3,[1,1,2,2],6),(2,[1,1,1,3],7),(2,[1,1,2,2],7),(4,[1,1,1,1,2],11),(1,[1,1,1,1,2],15),(1,[1,1,1,1,1,1],26)],
 [(1,[27],1),(2,[1,11],2),(1,[1,13],2),(1,[1,16],2),(1,[2,6],2),(1,[1,1,6],3),(2,[1,1,7],3),(1,[1,1,8],3),(1,[1,2,4],3),(1,[1,1,5],4),(2,[1,1,6],4),(2,[1,2,3],4),(1,[1,1,1,4],5),(1,[1,1,1,3],6),(2,[1,1,1,4],6),(2,[1,1,2,2],6),(2,[1,1,1,3],7),(1,[1,1,1,3],8),(1,[1,1,2,2],8),(2,[1,1,1,1,2],11),(2,[1,1,1,1,2],13),(1,[1,1,1,1,2],16),(1,[1,1,1,1,1,1],27)],
 [(1,[28],1),(1,[1,11],2),(1,[1,12],2),(1,[1,14],2),(2,[2,7],2),(1,[1,1,7],3),(1,[1,2,3],3),(1,[1,2,4],3),(1,[2,2,2],3),(1,[1,1,5],4),(1,[1,1,6],4),(2,[1,1,7],4),(1,[1,2,3],4),(1,[1,2,4],4),(1,[1,1,2,2],5),(2,[1,1,2,2],6),(2,[1,1,1,3],7),(2,[1,1,1,4],7),(1,[1,1,2,2],7),(1,[1,1,1,3],8),(1,[1,1,2,2],8),(1,[1,1,1,1,2],11),(1,[1,1,1,1,2],12),(2,[1,1,1,1,2],14),(1,[1,1,1,1,2],16),(1,[1,1,1,1,1,1],28)],
 [(1,[29],1),(1,[1,12],2),(1,[1,15],2),(1,[2,5],2),(1,[2,7],2),(1,[3,3],2),(1,[1,1,5],3),(1,[1,1,7],3),(2,[1,2,3],3),(1,[1,1,7],4),(3,[1,2,3],4),(1,[1,2,4],4),(1,[2,2,2],4),(1,[1,1,1,3],5),(2,[1,1,1,3],7),(1,[1,1,1,4],7),(6,[1,1,2,2],7),(2,[1,1,1,1,2],12),(3,[1,1,1,1,2],15),(1,[1,1,1,1,1,1],29)],
 [(1,[30],1),(2,[1,12],2),(1,[1,16],2),(1,[2,8],2),(1,[3,4],2),(1,[1,1,8],3),(2,[1,2,4],3),(1,[1,1,5],4),(2,[1,1,7],4),(2,[1,2,3],4),(2,[1,2,4],4),(1,[1,1,1,4],5),(2,[1,1,1,4],7),(4,[1,1,2,2],7),(2,[1,1,1,3],8),(1,[1,1,2,2],8),(2,[1,1,1,1,2],12),(3,[1,1,1,1,2],16),(1,[1,1,1,1,1,1],30)],
 [(1,[31],1),(4,[1,13],2),(1,[1,17],2),(4,[1,1,8],3),(6,[1,1,6],4),(6,[1,1,1,4],6),(4,[1,1,1,3],8),(4,[1,1,1,1,2],13),(1,[1,1,1,1,2],17),(1,[1,1,1,1,1,1],31)],
 [(1,[32],1),(1,[1,13],2),(3,[1,14],2),(1,[2,8],2),(3,[1,2,4],3),(3,[1,1,6],4),(3,[1,1,7],4),(1,[1,1,8],4),(3,[1,1,2,2],6),(3,[1,1,1,4],7),(3,[1,1,1,3],8),(1,[1,1,1,4],8),(1,[1,1,1,1,2],13),(3,[1,1,1,1,2],14),(1,[1,1,1,1,2],17),(1,[1,1,1,1,1,1],32)],
 [(1,[33],1),(1,[1,14],2),(2,[1,15],2),(1,[2,6],2),(1,[3,4],2),(1,[1,1,6],3),(2,[1,2,3],3),(3,[1,1,7],4),(2,[1,2,3],4),(2,[1,2,4],4),(1,[1,1,1,3],6),(2,[1,1,1,3],7),(1,[1,1,1,4],7),(4,[1,1,2,2],7),(1,[1,1,1,4],8),(1,[1,1,2,2],8),(2,[1,1,1,1,2],14),(2,[1,1,1,1,2],15),(1,[1,1,1,1,2],16),(1,[1,1,1,1,1,1],33)],
 [(1,[34],1),(2,[1,14],2),(2,[1,16],2),(1,[4,4],2),(2,[1,2,4],3),(1,[1,1,6],4),(4,[1,1,7],4),(1,[1,1,8],4),(2,[1,2,4],4),(1,[1,1,1,4],6),(4,[1,1,2,2],7),(2,[1,1,1,3],8),(3,[1,1,1,4],8),(2,[1,1,1,1,2],14),(2,[1,1,1,1,2],16),(1,[1,1,1,1,2],17),(1,[1,1,1,1,1,1],34)],
 [(1,[35],1),(1,[1,15],2),(2,[1,16],2),(2,[2,7],2),(2,[1,1,7],3),(2,[1,1,7],4),(1,[1,1,8],4),(2,[1,2,3],4),(2,[1,2,4],4),(1,[2,2,2],4),(2,[1,1,1,3],7),(2,[1,1,1,4],7),(2,[1,1,2,2],7),(1,[1,1,1,4],8),(3,[1,1,2,2],8),(1,[1,1,1,1,2],15),(4,[1,1,1,1,2],16),(1,[1,1,1,1,1,1],35)],
 [(1,[36],1),(3,[1,16],2),(1,[1,17],2),(1,[2,8],2),(1,[1,1,8],3),(3,[1,1,7],4),(3,[1,1,8],4),(3,[1,2,4],4),(3,[1,1,1,4],7),(1,[1,1,1,3],8),(3,[1,1,1,4],8),(3,[1,1,2,2],8),(3,[1,1,1,1,2],16),(2,[1,1,1,1,2],17),(1,[1,1,1,1,1,1],36)],
 [(1,[37],1),(5,[1,17],2),(10,[1,1,8],4),(10,[1,1,1,4],8),(5,[1,1,1,1,2],17),(1,[1,1,1,1,1,1],37)]]
def ptR (i:Nat):List Ctp:=parT[i-1]?.getD []
def sbI (B A:Nat->Int) (i:Nat):Int:=if i=0 then A 0 else rowI B A (ptR i)
def sbP (B A:Nat->Py) (i:Nat):Py:=if Nat.beq i 0 then A 0 else rowP B A (ptR i)
theorem zkD {i:Nat} (hi:i<38):∀ c∈ptR i,(∀ v∈c.2.1,v<38)/\c.2.2<38:=by
 have ok:(List.range 38).all (fun i=>(ptR i).all fun c=>c.2.1.all (fun v=>decide (v<38)) && decide (c.2.2<38))=true:=by decide +kernel
 intro c hc
 have h:=List.all_eq_true.1 (List.all_eq_true.1 ok i (List.mem_range.2 hi)) c hc
 simp only [Bool.and_eq_true,List.all_eq_true,decide_eq_true_eq] at h
 exact h
theorem zwk (r:Nat->Int) {A B:Nat->Py} {A' B':Nat->Int} (h:∀ v,v<38->evp r (A v)%10007=A' v%10007) (k:∀ v,v<38->evp r (B v)%10007=B' v%10007) {i:Nat} (hi:i<38):evp r (sbP A B i)%10007=sbI A' B' i%10007:=by
 unfold sbP sbI
 by_cases e:i=0
 .subst e; exact k 0 (by omega)
 .rw [if_neg e,if_neg (by intro x; exact e (Nat.eq_of_beq_eq_true x))]
  exact zer r _ fun c hc=>⟨fun v hv=>h v ((zkD hi c hc).1 v hv),k _ (zkD hi c hc).2⟩
def sbS (b a:List Int):List Int:=mk38 (sbI (iat b) (iat a))
theorem ziz (b a:List Int):N38 (sbS b a):=za8 _
def exc (i:Nat):Py:=[(exT[i]?.getD 0,[])]
theorem zm3:(List.range 38).all (fun i=>decide (sbP (vb 0) exc i=expP (vb 0) i))=true:=by decide +kernel
theorem zsu {b:List Int} (h:Inf b):sbS b exaS=expS b:=by
 refine zdr fun i hi=>?_
 have e:=of_decide_eq_true (List.all_eq_true.1 zm3 i (List.mem_range.2 hi))
 have h1:∀ v,v<38->evp (iat b) (vb 0 v)%10007=iat b v%10007:=fun v hv=>zie (by rw [h.2]; rfl) (fun j _=>by rw [Nat.zero_add]) hv
 have h2:∀ v,v<38->evp (iat b) (exc v)%10007=iat exaS v%10007:=fun v hv=>by
  rw [zuO hv]
  unfold exc
  rw [zs6]; rfl
 rw [<- zwk (iat b) h1 h2 hi,e,zfH _ h1 hi]
def psR (i:Nat):List Ctp:=(ptR i).filter fun c=>!decide (c.2.2=1)
theorem zmK {i:Nat} (hi:i<38) (h0:0<i):(∀ c∈psR i,∀ v∈c.2.1,v<i)/\(ptR i).filter (fun c=>decide (c.2.2=1))=[(1,[i],1)]:=by
 have ok:(List.range 37).all (fun j=>((psR (j+1)).all fun c=>c.2.1.all fun v=>decide (v<j+1)) && decide ((ptR (j+1)).filter (fun c=>decide (c.2.2=1))=[(1,[j+1],1)]))=true:=by decide +kernel
 obtain ⟨j,rfl⟩:∃ j,i=j+1:=⟨i-1,by omega⟩
 have h:=List.all_eq_true.1 ok j (List.mem_range.2 (by omega))
 simp only [Bool.and_eq_true,List.all_eq_true,decide_eq_true_eq] at h
 exact h
theorem zqK (B A:Nat->Int) {i:Nat} (hi:i<38) (h0:0<i):sbI B A i=B i*A 1+rowI B A (psR i):=by
 unfold sbI
 rw [if_neg (by omega),zei B A (fun c=>decide (c.2.2=1)),(zmK hi h0).2]
 simp [rowI,prI,psR]
def fitN (q:Int) (a w:List Int):Nat->List Int
 | 0=>[0]
 | k+1=>fitN q a w k++[((iat w (k+1)-rowI (iat (fitN q a w k)) (iat a) (psR (k+1)))*q)%10007]
theorem zca (q:Int) (a w:List Int):∀ k,(fitN q a w k).length=k+1
 | 0=>rfl
 | k+1=>by rw [fitN,List.length_append,zca q a w k]; rfl
theorem zpc (q:Int) (a w:List Int):∀ k,∀ x∈fitN q a w k,0<=x/\x<10007
 | 0,x,hx=>by simp only [fitN,List.mem_singleton] at hx; subst hx; exact ⟨by decide,by decide⟩
 | k+1,x,hx=>by
  rw [fitN] at hx
  rcases List.mem_append.1 hx with hx | hx
  .exact zpc q a w k x hx
  .rw [List.mem_singleton.1 hx]
   exact ⟨Int.emod_nonneg _ (by decide),Int.emod_lt_of_pos _ (by decide)⟩
theorem zd6 (q:Int) (a w:List Int) {i k:Nat} (h:i<=k):∀ d,iat (fitN q a w (k+d)) i=iat (fitN q a w k) i
 | 0=>rfl
 | d+1=>by
  rw [<- zd6 q a w h d]
  show iat (fitN q a w (k+d)++_) i=_
  unfold iat
  rw [List.getElem?_append_left (by rw [zca]; omega)]
def fitS (q:Int) (a w:List Int):List Int:=fitN q a w 37
theorem zg9 (q:Int) (a w:List Int):Inf (fitS q a w):=by
 refine ⟨⟨zca q a w 37,zpc q a w 37⟩,?_⟩
 exact zd6 q a w (i:=0) (k:=0) (Nat.le_refl 0) 37
theorem zwf (q:Int) (a w:List Int) {j:Nat} (hj:j<37):iat (fitS q a w) (j+1)=((iat w (j+1)-rowI (iat (fitN q a w j)) (iat a) (psR (j+1)))*q)%10007:=by
 have:=zd6 q a w (i:=j+1) (k:=j+1) (Nat.le_refl _) (36-j)
 rw [show j+1+(36-j)=37 by omega] at this
 refine this.trans ?_
 unfold iat
 rw [fitN,List.getElem?_append_right (by rw [zca]; omega),zca,Nat.sub_self]
 rfl
theorem zrY {q:Int} {a w:List Int} (hw:N38 w) (h0:iat w 0=iat a 0) (hq:q*iat a 1%10007=1):sbS (fitS q a w) a=w:=by
 refine zdv hw fun i hi=>?_
 by_cases e0:i=0
 .subst e0; rw [sbI,if_pos rfl,h0]
 .obtain ⟨j,rfl⟩:∃ j,i=j+1:=⟨i-1,by omega⟩
  rw [zqK _ _ hi (by omega),zwf q a w (by omega)]
  have e2:rowI (iat (fitS q a w)) (iat a) (psR (j+1))%10007=rowI (iat (fitN q a w j)) (iat a) (psR (j+1))%10007:=by
   refine zde fun c hc=>⟨fun v hv=>?_,rfl⟩
   have hv:=(zmK hi (by omega)).1 c hc v hv
   have:=zd6 q a w (i:=v) (k:=j) (by omega) (37-j)
   rw [show j+(37-j)=37 by omega] at this
   unfold fitS
   rw [this]
  generalize rowI (iat (fitN q a w j)) (iat a) (psR (j+1))=R at *
  have e3:(iat w (j+1)-R)*q%10007*iat a 1%10007=(iat w (j+1)-R)%10007:=by
   rw [Int.mul_emod,Int.emod_emod_of_dvd _ (Int.dvd_refl _),<- Int.mul_emod,Int.mul_assoc,Int.mul_emod,hq,Int.mul_one,Int.emod_emod_of_dvd _ (Int.dvd_refl _)]
  generalize (iat w (j+1)-R)*q%10007*iat a 1=z at *
  generalize rowI (iat (fitS q a w)) (iat a) (psR (j+1))=R2 at *
  omega
theorem ztK {a:List Int} (ha:Ch a):fitS 1 exaS a=logS a:=by
 refine znD (zg9 1 exaS a) (ze7 a) ?_
 rw [zhy ha,<- zsu (zg9 1 exaS a)]
 exact zrY ha.1 (by rw [ha.2,zaL.2]) (by rw [zn1]; decide)
end Go.Proofs.YthhdollpkieknaaGreat


namespace Go.Proofs.YthhdollpkieknaaGreat
open Go.Abs Go.Shelf Go.Sort
def bitB (m i:Nat):Bool:=Nat.beq (m / 2 ^ i%2) 1
def parK (t:List Int) (l:Int):Nat->Int
 | 0 => -1
 | k+1=>if t[k]?.getD 0=l-1 then (k:Int) else parK t l k
def parL (t:List Int):List Int:=(List.range t.length).map fun i=>parK t (t[i]?.getD 0) i
structure CuS where
 near:List (List Int)
 top:List Int
 tops:List Int
 btw:List (Int × Int)
def zhY (J:List (List Int)) (p i:Nat):List (List Int):=(J.set p (J[p]?.getD []++[(i:Int)])).set i (J[i]?.getD []++[(p:Int)])
def zk7 (P:List Int) (m:Nat) (S:CuS) (i:Nat):CuS :=
 if P[i]?.getD 0<0\/bitB m i=true then
  ⟨S.near,S.top.set i S.tops.length,S.tops++[(i:Int)],if 0<=P[i]?.getD 0 then S.btw++[((S.top.set i S.tops.length)[(P[i]?.getD 0).toNat]?.getD 0,(S.tops.length:Int))] else S.btw⟩
 else ⟨zhY S.near (P[i]?.getD 0).toNat i,S.top.set i (S.top[(P[i]?.getD 0).toNat]?.getD 0),S.tops,S.btw⟩
def cuN (t:List Int) (m i:Nat):CuS:=(List.range i).foldl (zk7 (parL t) m) ⟨List.replicate t.length [],List.replicate t.length 0,[],[]⟩
theorem zkf (t:List Int) (m i:Nat):cuN t m (i+1)=zk7 (parL t) m (cuN t m i) i:=by simp [cuN,List.range_succ]
def jnN (B:List (Int × Int)) (n j:Nat):List (List Int):=(B.take j).foldl (fun J e=>zhY J e.1.toNat e.2.toNat) (List.replicate n [])
def tfF:Nat->List (List Int)->Int->Int->List Int
 | 0,_,_,_=>[]
 | n+1,J,r,f=>canF 7 (zay (((J[r.toNat]?.getD []).filter fun x=>decide (x≠f)).map fun x=>tfF n J x r))
def cuR (t:List Int) (m:Nat):List (List Int) × List Int × Int :=
 let S:=cuN t m t.length
 (srtT (S.tops.map fun i=>tfF 7 S.near i (-1)),tfF 7 (jnN S.btw S.tops.length S.btw.length) 0 (-1),1)
def prtL (t:List Int):List (List (List Int) × List Int × Int):=(List.range (2 ^ (t.length-1))).map fun k=>cuR t (2*k)
abbrev Prt:=List (List Int) × List Int × Int
def zbY (s r:Prt):Int:=if cmpT s.2.1 r.2.1=0 then zaV s.1 r.1 else cmpT s.2.1 r.2.1
theorem linPa:LinC (fun p q:List Int × List (List Int)=>if cmpT p.1 q.1=0 then zaV p.2 q.2 else cmpT p.1 q.1):=linT.pair linFs
def zcU (s:Prt):List Int × List (List Int):=(s.2.1,s.1)
theorem zwy:SWO (Go.Proofs.ltOf zbY):=linPa.swo zcU
theorem paT2 {a b d:Prt} (h1:zbY a b<0) (h2:zbY b d<0):zbY a d<0:=linPa.trans (zcU a) (zcU b) (zcU d) h1 h2
theorem paI2 (a:Prt):¬ zbY a a<0:=by
 have:zbY a a=0:=linPa.self (zcU a)
 omega
theorem paZ2 {a b:Prt}:zbY a b=0 ↔ zcU a=zcU b:=linPa.zero (zcU a) (zcU b)
theorem zxE {a b:Prt}:zbY a b<0 ↔ 0<zbY b a:=linPa.anti (zcU a) (zcU b)
def zjn (p:Prt):List Prt->List Prt
 | []=>[p]
 | s::S=>if zbY p s<0 then p::s::S else s::zjn p S
def zeU:List Prt->List Prt
 | []=>[]
 | s::S=>zjn s (zeU S)
theorem zel (p:Prt):∀ S,(zjn p S).Perm (p::S)
 | []=>.refl _
 | s::S=>by
  rw [zjn]; split
  .exact .refl _
  .exact ((zel p S).cons s).trans (.swap _ _ _)
theorem zcp:∀ S,(zeU S).Perm S
 | []=>.refl _
 | s::S=>(zel s _).trans ((zcp S).cons s)
theorem zn6 (S:List Prt):(zeU S).length=S.length:=(zcp S).length_eq
theorem zin (p:Prt):∀ S:List Prt,S.Pairwise (fun x y=>¬ zbY y x<0)->(zjn p S).Pairwise (fun x y=>¬ zbY y x<0)
 | [],_=>by simp [zjn]
 | s::S,h=>by
  obtain ⟨h1,h2⟩:=List.pairwise_cons.1 h
  rw [zjn]; split
  .rename_i hl
   refine .cons (fun y hy=>?_) h
   rcases List.mem_cons.1 hy with e | hy
   .rw [e]; intro hc; exact paI2 p (paT2 hl hc)
   .intro hc; exact h1 y hy (paT2 hc hl)
  .rename_i hl
   refine .cons (fun y hy=>?_) (zin p S h2)
   rcases List.mem_cons.1 ((zel p S).mem_iff.1 hy) with e | hy
   .rw [e]; exact hl
   .exact h1 y hy
theorem zjf:∀ S:List Prt,(zeU S).Pairwise (fun x y=>¬ zbY y x<0)
 | []=>.nil
 | s::S=>zin s _ (zjf S)
theorem ziq {ys X:List Prt} (hp:ys.Perm X) (h1:∀ s∈X,s.2.2=1) (hy:ys.Pairwise (fun x y=>¬ zbY y x<0)):ys=zeU X :=
 (hp.trans (zcp X).symm).eq_of_pairwise (fun a b ha hb k1 k2=>by
  have e1:=h1 a (hp.mem_iff.1 ha)
  have e2:=h1 b ((zcp X).mem_iff.1 hb)
  have z:zbY a b=0:=by
   have k3:¬ 0<zbY a b:=fun x=>k1 (zxE.2 x)
   omega
  have k:=paZ2.1 z
  obtain ⟨a1,a2,a3⟩:=a
  obtain ⟨b1,b2,b3⟩:=b
  simp only [zcU,Prod.mk.injEq] at k e1 e2
  rw [k.1,k.2,e1,e2]) hy (zjf X)
def zdk (out:List Prt) (s:Prt):List Prt:=match out.getLast? with
 | some l=>if zbY l s=0 then out.set (out.length-1) (l.1,l.2.1,l.2.2+1) else out++[s]
 | none=>[s]
def zce (L:List Prt):List Prt:=L.foldl zdk []
theorem zgH (L:List Prt) (s:Prt):zce (L++[s])=zdk (zce L) s:=by simp [zce]
theorem zmm (out:List Prt) (s:Prt):(zdk out s).length<=out.length+1:=by
 unfold zdk
 split
 .split <;> simp
 .simp
theorem zmV (L:List Prt):(zce L).length<=L.length/\(∀ l∈zce L,∃ s∈L,zcU l=zcU s)/\((∀ s∈L,s.2.2=1)->∀ l∈zce L,0<=l.2.2/\l.2.2<=L.length):=by
 refine zcw (P:=fun L=>(zce L).length<=L.length/\(∀ l∈zce L,∃ s∈L,zcU l=zcU s)/\((∀ s∈L,s.2.2=1)->∀ l∈zce L,0<=l.2.2/\l.2.2<=L.length)) ⟨by simp [zce],by simp [zce],by simp [zce]⟩ (fun L s ih=>?_) L
 obtain ⟨i1,i2,i3⟩:=ih
 rw [zgH]
 have hl:=zmm (zce L) s
 refine ⟨by rw [List.length_append,List.length_singleton]; omega,fun l hm=>?_,fun h1 l hm=>?_⟩
 .unfold zdk at hm
  split at hm
  .rename_i l0 hl0
   split at hm
   .rcases List.mem_or_eq_of_mem_set hm with hm | e
    .obtain ⟨t,t1,t2⟩:=i2 l hm
     exact ⟨t,by simp [t1],t2⟩
    .obtain ⟨t,t1,t2⟩:=i2 l0 (List.mem_of_getLast? hl0)
     exact ⟨t,by simp [t1],by rw [e,<- t2]; rfl⟩
   .rcases List.mem_append.1 hm with hm | hm
    .obtain ⟨t,t1,t2⟩:=i2 l hm
     exact ⟨t,by simp [t1],t2⟩
    .rw [List.mem_singleton] at hm
     exact ⟨s,by simp,by rw [hm]⟩
  .rw [List.mem_singleton] at hm
   exact ⟨s,by simp,by rw [hm]⟩
 .have j3:=i3 (fun t ht=>h1 t (by simp [ht]))
  have hs:=h1 s (by simp)
  rw [List.length_append,List.length_singleton]
  unfold zdk at hm
  split at hm
  .rename_i l0 hl0
   split at hm
   .rcases List.mem_or_eq_of_mem_set hm with hm | e
    .have:=j3 l hm; omega
    .have:=j3 l0 (List.mem_of_getLast? hl0)
     rw [e]; simp only; omega
   .rcases List.mem_append.1 hm with hm | hm
    .have:=j3 l hm; omega
    .rw [List.mem_singleton] at hm; rw [hm]; omega
  .rw [List.mem_singleton] at hm; rw [hm]; omega
def parP (t:List Int):List Prt:=zce (zeU (prtL t))
def pcP (s:Prt):List Int:=s.1.map fun c=>ixT (trN 6) c+1
def skP (s:Prt):Int:=ixT (trN 6) s.2.1+1
theorem zwD:(trN 6).map (fun t=>(parP t).map fun s=>(s.2.2,pcP s,skP s))=parT.map fun r=>r.map fun c=>((c.1:Int),nvs c.2.1,(c.2.2:Int)):=by decide +kernel
def tfS (n:Nat) (J:List (List Int)) (r f:Int):List (List Int):=((J[r.toNat]?.getD []).filter fun x=>decide (x≠f)).map fun x=>tfF n J x r
theorem zkT (n:Nat) (J:List (List Int)) (r f:Int):tfF (n+1) J r f=canF 7 (zay (tfS n J r f)):=rfl
def tfOk:Nat->List (List Int)->Int->Int->Bool
 | 0,_,_,_=>false
 | n+1,J,r,f=>(decide (0<=r) && decide (r<J.length)) && ((decide ((J[r.toNat]?.getD []).length<=10) && (J[r.toNat]?.getD []).all fun x=>decide (x=f) || tfOk n J x r) &&
   (((tfS n J r f).all fun b=>decide (b.length<=100) && b.all fun x=>decide (0<=x) && decide (x<=100)) && (lvC (zay (tfS n J r f)) && decide ((zay (tfS n J r f)).length<=7))))
def rwB (J:List (List Int)) (n:Nat):Bool:=decide (J.length=n) && J.all fun r=>decide (r.length<=10)
def cuB (t:List Int) (m:Nat):Bool :=
 ((List.range t.length).all fun i=>decide (-1<=(parL t)[i]?.getD 0) && decide ((parL t)[i]?.getD 0<i)) &&
 (((List.range (t.length+1)).all fun i=>rwB (cuN t m i).near t.length && (decide ((cuN t m i).top.length=t.length) && (decide ((cuN t m i).tops.length<=i) && decide ((cuN t m i).btw.length<=i)))) &&
 (((cuN t m t.length).tops.all fun i=>tfOk 7 (cuN t m t.length).near i (-1) && decide ((tfF 7 (cuN t m t.length).near i (-1)).length<=100)) &&
 (((cuN t m t.length).btw.all fun e=>(decide (0<=e.1) && decide (e.1<(cuN t m t.length).tops.length)) && ((decide (0<=e.2) && decide (e.2<(cuN t m t.length).tops.length)) && decide (e.1≠e.2))) &&
 (((List.range ((cuN t m t.length).btw.length+1)).all fun j=>rwB (jnN (cuN t m t.length).btw (cuN t m t.length).tops.length j) (cuN t m t.length).tops.length) &&
 (tfOk 7 (jnN (cuN t m t.length).btw (cuN t m t.length).tops.length (cuN t m t.length).btw.length) 0 (-1))))))
theorem zuC:(trN 6).all (fun t=>(List.range (2 ^ (t.length-1))).all fun k=>cuB t (2*k))=true:=by decide +kernel
theorem zuP:(trN 6).all (fun t=>((prtL t).all fun s=>(decide (s.1.length<=6) && s.1.all fun r=>decide (r.length<=6)) && decide (s.2.1.length<=6)) && decide ((parP t).length<=100))=true:=by decide +kernel
end Go.Proofs.YthhdollpkieknaaGreat


namespace Go.Proofs.YthhdollpkieknaaGreat
open Go.Abs
theorem zeb (t:List Int) (l:Int):∀ k,-1<=parK t l k/\parK t l k<k
 | 0=>by simp [parK]
 | k+1=>by
  have:=zeb t l k
  unfold parK
  split <;> omega
theorem zdQ (t:List Int):(parL t).length=t.length:=by simp [parL]
theorem zmJ {t:List Int} {i:Nat} (h:i<t.length):(parL t).take (i+1)=(parL t).take i++[parK t (t[i]?.getD 0) i]:=by
 rw [List.take_succ_eq_append_getElem (by rw [zdQ]; exact h)]
 simp [parL]
theorem zf2 (t:List Int) (hl:t.length<=1000) (hb:∀ x∈t,0<=x/\x<=1000):Con Tryz.prog 290 [.sl t.length (avs t)] (.own 3 t.length (avs (parL t))):=by
 have tk:=fun i h=>zmJ (t:=t) (i:=i) h
 have ta:(parL t).take t.length=parL t:=List.take_of_length_le (by rw [zdQ]; exact Nat.le_refl _)
 have lL:=zdQ t
 generalize parL t=L at *
 refine zab Tryz.mixed ⟨7,[],[],[]⟩ Tryz.func290 ?_
 rw [Tryz.ntmps290]
 simp [go_sem]
 refine zac (List.range' 3 4++List.range' 10 25) (fun i:Nat=>[(3,.own 3 i (avs (L.take i))),(10,.int i)]) (fun i=>i<=t.length) (fun i=>t.length-i) 0 (by simp) (by simp [go_sem]) (by simp [go_sem]) ?_
 intro i hi
 by_cases hil:i<t.length
 .have hii:(i:Int)<t.length:=by omega
  have dr:=zae hil
  have t1:=tk i hil
  have bx:=hb _ (memD 0 hil)
  have eI:iat t i=t[i]?.getD 0:=rfl
  have ng:¬ t=[]:=by rintro rfl; simp at hil
  rw [eI] at dr
  generalize hl0:t[i]?.getD 0=l at *
  simp [go_sem,hii,dr]
  refine ⟨ng,⟨by omega,by omega⟩,?_⟩
  refine zac (6::List.range' 17 13) (fun k:Nat=>[(6,.int ((k:Int)-1))]) (fun k=>k<=i/\parK t l i=parK t l k) (fun k=>k) i ⟨Nat.le_refl _,rfl⟩ (by simp [go_sem]) (by simp [go_sem]) ?_
  rintro k ⟨h1,h2⟩
  cases k with
  | zero =>
   have e:parK t l 0 = -1:=rfl
   rw [h2,e] at t1
   simp [go_sem]
   refine ⟨⟨by omega,by omega,by omega⟩,⟨by omega,by omega⟩,i+1,by omega,by omega,(Off.reset (by intro x hx; simp at hx |-; omega) (by simp) (by simp [go_sem,zaa])),?_⟩
   rw [t1,zal]
   exact ⟨⟨rfl,rfl⟩,by omega⟩
  | succ k =>
   have dk:=zae (a:=t) (v:=k) (by omega)
   have eK:iat t k=t[k]?.getD 0:=rfl
   rw [eK] at dk
   have bk:=hb _ (memD 0 (show k<t.length by omega))
   have e1:((k+1:Nat):Int)-1=k:=by omega
   rw [e1]
   rw [show parK t l (k+1)=if t[k]?.getD 0=l-1 then (k:Int) else parK t l k from rfl] at h2
   generalize t[k]?.getD 0=x at *
   by_cases hx:x=l-1
   .rw [if_pos hx] at h2
    rw [h2] at t1
    simp [go_sem,dk,hx]
    refine ⟨⟨by omega,ng⟩,⟨by omega,by omega⟩,⟨by omega,by omega,by omega⟩,⟨by omega,by omega⟩,i+1,by omega,by omega,(Off.reset (by intro x hx; simp at hx |-; omega) (by simp) (by simp [go_sem,zaa])),?_⟩
    rw [t1,zal]
    exact ⟨⟨rfl,rfl⟩,by omega⟩
   .rw [if_neg hx] at h2
    simp [go_sem,dk,hx]
    refine ⟨⟨by omega,ng⟩,⟨by omega,by omega⟩,⟨by omega,by omega⟩,k,⟨by omega,h2⟩,by omega,zaa _ _ _ (by simp),?_⟩
    rfl
 .have e:i=t.length:=by omega
  subst e
  have hii:¬ (t.length:Int)<t.length:=by omega
  rw [ta]
  simp [go_sem,hii]
theorem zoE {n:Nat} {J:List (List Int)} {r f:Int} (h:tfOk (n+1) J r f=true):(0<=r/\r<J.length)/\((J[r.toNat]?.getD []).length<=10/\∀ x∈J[r.toNat]?.getD [],x=f\/tfOk n J x r=true)/\(∀ b∈tfS n J r f,b.length<=100/\∀ x∈b,0<=x/\x<=100)/\Lv (zay (tfS n J r f))/\(zay (tfS n J r f)).length<=7:=by
 rw [tfOk] at h
 simp only [Bool.and_eq_true,Bool.or_eq_true,decide_eq_true_eq,List.all_eq_true] at h
 exact ⟨h.1,h.2.1,h.2.2.1,zgB h.2.2.2.1,h.2.2.2.2⟩
def tfL (n:Nat) (J:List (List Int)) (r f:Int) (l:List Int):List (List Int):=(l.filter fun x=>decide (x≠f)).map fun x=>tfF n J x r
theorem zrF (n:Nat) (J:List (List Int)) (r f x:Int) (l:List Int):tfL n J r f (l++[x])=tfL n J r f l++if x=f then [] else [tfF n J x r]:=by
 unfold tfL
 rw [List.filter_append,List.map_append]
 by_cases h:x=f <;> simp [h]
theorem zoj (n:Nat) (J:List (List Int)) (r f:Int) (l:List Int):(tfL n J r f l).length<=l.length:=by
 unfold tfL
 rw [List.length_map]
 exact List.length_filter_le _ _
theorem zgL:∀ (n:Nat) (J:List (List Int)) (r f:Int),tfOk n J r f=true->Con Tryz.prog 291 [.sl J.length (mat J),.int r,.int f] (.own 2 (tfF n J r f).length (avs (tfF n J r f)))
 | 0,J,r,f,h=>by simp [tfOk] at h
 | n+1,J,r,f,h=>by
  obtain ⟨h1,⟨h2,h3⟩,h4,h5,h6⟩:=zoE h
  obtain ⟨k,rfl⟩:∃ k:Nat,r=k:=⟨r.toNat,by omega⟩
  rw [Int.toNat_natCast] at h2 h3
  have ih:=fun x hx=>zgL n J x k hx
  have hk:k<J.length:=by omega
  have dm:=zak hk
  have hT:tfS n J k f=tfL n J k f (J[k]?.getD []):=by unfold tfS tfL; rw [Int.toNat_natCast]
  have cR:=zeX (tfS n J k f) (by rw [hT]; have:=zoj n J k f (J[k]?.getD []); omega) (fun b hb=>⟨by have:=(h4 b hb).1; omega,fun x hx=>by have:=(h4 b hb).2 x hx; omega⟩)
  have cC:=zbQ 7 (zay (tfS n J k f)) (by omega) h5 h6
  have eL:(tfF (n+1) J k f).length=(zay (tfS n J k f)).length:=by rw [zkT,zaF 7 _ h5 h6]
  rw [eL,zkT]
  generalize zay (tfS n J k f)=RT at *
  generalize canF 7 RT=CT at *
  rw [hT] at h4 cR
  generalize hrow:J[k]?.getD []=R at *
  have sn:=zrF n J k f
  have lb:=zoj n J k f
  have b0:tfL n J k f []=[]:=rfl
  clear hT h4
  generalize tfL n J k f=TL at *
  have o0:omat ([]:List (List Int))=[]:=rfl
  refine zab Tryz.mixed ⟨10,[],[],[]⟩ Tryz.func291 ?_
  rw [Tryz.ntmps291]
  simp [go_sem]
  have nJ:¬ J=[]:=by rintro rfl; simp at hk
  simp [go_sem,dm]
  refine ⟨⟨hk,nJ⟩,?_⟩
  refine zac (7::9::List.range' 16 15) (fun i:Nat=>[(7,.own 25 (TL (R.take i)).length (omat (TL (R.take i)))),(16,.int i)]) (fun i=>i<=R.length) (fun i=>R.length-i) 0 (by simp) (by simp [go_sem,b0,o0]) (by simp [go_sem]) ?_
  intro i hi
  by_cases hil:i<R.length
  .have hii:(i:Int)<R.length:=by omega
   have dr:=zae hil
   have hx:=h3 (iat R i) (memD 0 hil)
   have nR:¬ R=[]:=by rintro rfl; simp at hil
   have tk:R.take (i+1)=R.take i++[iat R i]:=by
    rw [List.take_succ_eq_append_getElem hil]
    unfold iat
    rw [List.getElem?_eq_getElem hil]; rfl
   have s1:=sn (iat R i) (R.take i)
   have b1:=lb (R.take i)
   have bt:(R.take i).length<=10:=by rw [List.length_take]; omega
   rw [<- tk] at s1
   have lB:(TL (R.take i)).length<=10:=by omega
   generalize TL (R.take i)=B at *
   generalize iat R i=x at *
   by_cases e:x=f
   .rw [if_pos e,List.append_nil] at s1
    simp [go_sem,hii,dr,e]
    refine ⟨nR,⟨by omega,by omega⟩,i+1,by omega,by omega,zaa _ _ _ (by simp),?_⟩
    rw [s1]
    exact ⟨⟨rfl,rfl⟩,by omega⟩
   .rw [if_neg e] at s1
    have c1:=ih x (hx.resolve_left e)
    generalize tfF n J x k=v at *
    simp [go_sem,hii,dr,e]
    refine ⟨nR,?_⟩
    refine CallVC.of (c1) ?_
    simp [go_sem]
    refine ⟨⟨by omega,by omega⟩,⟨by omega,by omega⟩,i+1,by omega,by omega,zaa _ _ _ (by simp),?_⟩
    rw [s1,zbf]
    exact ⟨⟨by simp,rfl⟩,by omega⟩
  .have e:i=R.length:=by omega
   subst e
   have hii:¬ (R.length:Int)<R.length:=by omega
   rw [List.take_length]
   generalize TL R=B at *
   simp [go_sem,hii]
   refine CallVC.of (cR) ?_
   simp [go_sem]
   refine CallVC.of (cC) ?_
   simp [go_sem]
theorem zfM {m i:Nat} (hm:m<1000000) (hi:i<60):andI .i64 (shrI .i64 (m:Int) (i:Int)) 1=((m / 2 ^ i%2:Nat):Int):=by
 have e1:shrI .i64 (m:Int) (i:Int)=((m / 2 ^ i:Nat):Int):=by
  show (m:Int).fdiv (2 ^ min (i:Int).toNat 64)=_
  rw [Int.toNat_natCast,Nat.min_eq_left (by omega),Int.fdiv_eq_ediv_of_nonneg _ (Int.pow_nonneg (by decide))]
  simp
 have hl:m / 2 ^ i<1000000:=Nat.lt_of_le_of_lt (Nat.div_le_self _ _) hm
 rw [e1]
 generalize m / 2 ^ i=n at *
 have e2:(BitVec.ofInt 64 (n:Int)).toNat=n:=by
  rw [BitVec.toNat_ofInt]; simp; omega
 have e3:(BitVec.ofInt 64 (1:Int)).toNat=1:=by decide
 show IntKind.wrap .i64 ((BitVec.ofInt 64 (n:Int) &&& BitVec.ofInt 64 1).toNat:Int)=_
 rw [BitVec.toNat_and,e2,e3,Nat.and_one_is_mod]
 exact zd9 (by unfold inK; have a:IntKind.min .i64 = -9223372036854775808:=by decide
               have b:IntKind.max .i64=9223372036854775807:=by decide
               rw [a,b]; omega)
end Go.Proofs.YthhdollpkieknaaGreat


namespace Go.Proofs.YthhdollpkieknaaGreat
open Go.Abs
def nrC (r:List Int):AV:=if r=[] then .val (.slice none 0 0) else .own 3 r.length (avs r)
def nrA (J:List (List Int)):List AV:=J.map nrC
def btA (B:List (Int × Int)):List AV:=B.flatMap fun e=>[.int e.1,.int e.2]
theorem zbv (J:List (List Int)):(nrA J).length=J.length:=by simp [nrA]
theorem zdm {J:List (List Int)} {k:Nat} (h:k<J.length):(nrA J)[k]?=some (nrC (J[k]?.getD [])):=by
 simp [nrA,h]
theorem zdp (J:List (List Int)) (k:Nat) (r:List Int):(nrA J).set k (nrC r)=nrA (J.set k r):=by simp [nrA,List.map_set]
theorem zej {r:List Int} (x:Int):nrC (r++[x])=.own 3 (r.length+1) (avs r++[.int x]):=by
 unfold nrC
 rw [if_neg (by simp),List.length_append,List.length_singleton,zal]
theorem zn2 (X:List (Int × Int)):(X.flatMap fun e=>[AV.int e.1,AV.int e.2]).length=X.length*2:=by
 induction X with
 | nil=>rfl
 | cons s X ih=>rw [List.flatMap_cons,List.length_append,ih,List.length_cons]; simp; omega
theorem zmq (d:Int × Int) {L:List (Int × Int)} {i:Nat} (h:i<L.length):(L.flatMap fun e=>[AV.int e.1,AV.int e.2]).drop (i*2)=[.int (L[i]?.getD d).1,.int (L[i]?.getD d).2]++(L.drop (i+1)).flatMap fun e=>[AV.int e.1,AV.int e.2]:=by
 have e1:((L.take i).flatMap fun e=>[AV.int e.1,AV.int e.2]).length=i*2:=by rw [zn2,List.length_take,Nat.min_eq_left (by omega)]
 have e2:L.drop i=L[i]?.getD d::L.drop (i+1):=by rw [List.drop_eq_getElem_cons h]; simp [h]
 have e3:(L.flatMap fun e=>[AV.int e.1,AV.int e.2])=(L.take i).flatMap (fun e=>[AV.int e.1,AV.int e.2])++(L.drop i).flatMap fun e=>[AV.int e.1,AV.int e.2]:=by rw [<- List.flatMap_append,List.take_append_drop]
 rw [e3,List.drop_append_of_le_length (by omega),e2,List.flatMap_cons,List.drop_eq_nil_of_le (by omega),List.nil_append]
theorem znQ (B:List (Int × Int)):(btA B).length=B.length*2:=by
 induction B with
 | nil=>rfl
 | cons e B ih=>simp only [btA,List.flatMap_cons,List.length_append,List.length_cons,List.length_nil] at *; omega
theorem zqz {t:List Int} {m:Nat} (h:cuB t m=true) :
  (∀ i,i<t.length -> -1<=(parL t)[i]?.getD 0/\(parL t)[i]?.getD 0<i) /\
  (∀ i,i<t.length+1->((cuN t m i).near.length=t.length/\∀ r∈(cuN t m i).near,r.length<=10)/\(cuN t m i).top.length=t.length/\(cuN t m i).tops.length<=i/\(cuN t m i).btw.length<=i) /\
  (∀ i∈(cuN t m t.length).tops,tfOk 7 (cuN t m t.length).near i (-1)=true/\(tfF 7 (cuN t m t.length).near i (-1)).length<=100) /\
  (∀ e∈(cuN t m t.length).btw,(0<=e.1/\e.1<(cuN t m t.length).tops.length)/\(0<=e.2/\e.2<(cuN t m t.length).tops.length)/\e.1≠e.2) /\
  (∀ j,j<(cuN t m t.length).btw.length+1->(jnN (cuN t m t.length).btw (cuN t m t.length).tops.length j).length=(cuN t m t.length).tops.length/\∀ r∈jnN (cuN t m t.length).btw (cuN t m t.length).tops.length j,r.length<=10) /\
  tfOk 7 (jnN (cuN t m t.length).btw (cuN t m t.length).tops.length (cuN t m t.length).btw.length) 0 (-1)=true:=by
 unfold cuB rwB at h
 simp only [Bool.and_eq_true,List.all_eq_true,decide_eq_true_eq,List.mem_range] at h
 exact ⟨h.1,h.2.1,h.2.2.1,h.2.2.2.1,h.2.2.2.2.1,h.2.2.2.2.2⟩
theorem Off.tr {W:List Nat} {S0 S1 S2:St} (h:Off W S0 S1) (h2:Off W S1 S2):Off W S0 S2:=fun i hi=>(h2 i hi).trans (h i hi)
theorem Con.nxL {P:Program} {f:FuncId} {args args':List AV} {r:AV} (hw:NXL args args') (h:Con P f args' r):Con P f args r :=
 ⟨h.1,fun w vs hl ha=>h.2 w vs (by rw [hw.len]; exact hl) fun tm oss=>hw.repT (ha tm oss)⟩
theorem zwM:∀ J:List (List Int),NXL (frzL (nrA J)) (mat J)
 | []=>.nil
 | r::J=>by
  have ih:=zwM J
  refine .cons ?_ ih
  unfold nrC
  by_cases h:r=[]
  .rw [if_pos h,h]; exact .nil
  .rw [if_neg h]
   show NX (.sl r.length (frzL (avs r))) _
   rw [zcB]; exact .same _
theorem zeq (n:Nat) (J:List (List Int)) (r f:Int) (h:tfOk n J r f=true):Con Tryz.prog 291 [.sl J.length (frzL (nrA J)),.int r,.int f] (.own 2 (tfF n J r f).length (avs (tfF n J r f))) :=
 Con.nxL (.cons (.sl _ (zwM J)) (.cons (.same _) (.cons (.same _) .nil))) (zgL n J r f h)
theorem ztT {B:List (Int × Int)} {k:Nat} (h:k<B.length):(btA B).drop (k*2)=[.int (B[k]?.getD (0,0)).1,.int (B[k]?.getD (0,0)).2]++btA (B.drop (k+1)):=zmq (0,0) h
theorem DrawVC6.facts {P:Program} {cf:Cfg} {N:Nat × List Nat} {ops:Array Oper} {K:St->Prop} {S:St} (W:List Nat) (Fs:List (Nat × AV)) (F:St->Prop) (hS:∀ x∈Fs,S x.1=x.2)
  (h:∀ S0:St,(∀ x∈Fs,S0 x.1=x.2)->DrawVC6 P cf N ops (fun S'=>Off W S0 S'/\F S') S0) (hK:∀ S',Off W S S'->F S'->K S'):DrawVC6 P cf N ops K S :=
 DrawVC6.mono (h S hS) fun S' h=>hK S' h.1 h.2
theorem zgU (t:List Int) (m:Nat):∀ i,i<=t.length->(∀ k,k<i -> -1<=(parL t)[k]?.getD 0/\(parL t)[k]?.getD 0<k)->∀ j,i<=j->(cuN t m i).near[j]?.getD []=[]
 | 0,_,_,j,_=>by
  show (List.replicate t.length ([]:List Int))[j]?.getD []=[]
  by_cases h:j<t.length
  .rw [List.getElem?_replicate_of_lt h]; rfl
  .rw [List.getElem?_eq_none (by simp; omega)]; rfl
 | i+1,hi,hp,j,hj=>by
  have ih:=zgU t m i (by omega) (fun k hk=>hp k (by omega)) j (by omega)
  have hpi:=hp i (by omega)
  rw [zkf]
  unfold zk7
  split
  .exact ih
  .rename_i hn
   have h0:¬ (parL t)[i]?.getD 0<0:=fun x=>hn (.inl x)
   show (zhY _ _ _)[j]?.getD []=[]
   unfold zhY
   rw [List.getElem?_set_ne (by omega),List.getElem?_set_ne (by omega)]
   exact ih
theorem zuk (t:List Int) (m:Nat) (hm:m<1000) (h:cuB t m=true) (hl:t.length<=7) (hb:∀ x∈t,0<=x/\x<=1000) (ht:0<t.length) :
  Con Tryz.prog 244 [.sl t.length (avs t),.int m] (.tup [.own 25 (cuR t m).1.length (omat (cuR t m).1),.own 2 (cuR t m).2.1.length (avs (cuR t m).2.1)]):=by
 obtain ⟨s1,s2,s3,s4,s5,s6⟩:=zqz h
 have s0:∀ i,i<t.length->(cuN t m i).near[i]?.getD []=[]:=fun i hi=>zgU t m i (by omega) (fun k hk=>s1 k (by omega)) i (Nat.le_refl _)
 have cP:=zf2 t (by omega) hb
 have pl:=zdQ t
 have z0:(cuN t m 0)=⟨List.replicate t.length [],List.replicate t.length 0,[],[]⟩:=rfl
 have zs:=zkf t m
 have r1:nrA (cuN t m 0).near=List.replicate t.length (.val (.slice none 0 0)):=by rw [z0]; simp [nrA,nrC]
 have r2:avs (cuN t m 0).top=List.replicate t.length (.int 0):=by rw [z0]; simp [avs]
 have r3:(cuN t m 0).tops=[]:=rfl
 have r4:(cuN t m 0).btw=[]:=rfl
 generalize parL t=P at *
 generalize hS:cuN t m=S at *
 refine zab Tryz.mixed ⟨19,[],[],[3000800000000,3002400000000,3002500000000]⟩ Tryz.func244 ?_
 rw [Tryz.ntmps244]
 simp [go_sem]
 refine CallVC.of (cP) ?_
 simp [go_sem]
 refine ⟨by kernel_rfl,⟨by omega,by omega⟩,⟨by omega,by omega⟩,?_⟩
 refine ⟨by kernel_rfl,?_⟩
 simp [go_sem]
 refine zac (List.range' 7 6++List.range' 31 66) (fun i:Nat=>[(7,.own 149 t.length (nrA (S i).near)),(8,.own 3 t.length (avs (S i).top)),(9,.own 3 (S i).tops.length (avs (S i).tops)),(10,.own 238 (S i).btw.length (btA (S i).btw)),(31,.int i)]) (fun i=>i<=t.length) (fun i=>t.length-i) 0 (by simp) (by simp [go_sem,r1,r2,r3,r4,btA]) (by simp [go_sem]) ?_
 intro i hi
 by_cases hil:i<t.length
 .have hii:(i:Int)<t.length:=by omega
  obtain ⟨⟨n1,n2⟩,n3,n4,n5⟩:=s2 i (by omega)
  have s0:=s0 i hil
  obtain ⟨p1,p2⟩:=s1 i hil
  have z1:=zs i
  have dp:=zae (a:=P) (v:=i) (by omega)
  have eI:iat P i=P[i]?.getD 0:=rfl
  rw [eI] at dp
  unfold zk7 at z1
  have gp:(avs P)[i]?=some (.int (P[i]?.getD 0)):=by
   have:=List.getElem?_drop (xs:=avs P) (i:=i) (j:=0)
   rw [dp] at this
   simpa using this.symm
  have bl:=zfM (m:=m) (i:=i) (by omega) (by omega)
  have eB:bitB m i=true ↔ m / 2 ^ i%2=1:=by
   unfold bitB
   exact ⟨fun h=>Nat.eq_of_beq_eq_true h,fun h=>by rw [h]; rfl⟩
  generalize P[i]?.getD 0=p at *
  generalize S i=Z at *
  obtain ⟨N,T,O,B⟩:=Z
  simp only at n1 n2 n3 n4 n5 z1 s0
  by_cases hp:p<0
  .rw [if_pos (.inl hp),if_neg (by omega)] at z1
   have hp0:¬ 0<=p:=by omega
   simp [go_sem,hii,gp,hp,hp0]
   refine ⟨by omega,⟨by omega,by omega⟩,⟨by omega,by omega⟩,i+1,by omega,by omega,zaa _ _ _ (by simp),?_⟩
   rw [z1]
   exact ⟨rfl,zaK _ _ _,⟨by simp,by rw [zal]⟩,⟨rfl,rfl⟩,by omega⟩
  .obtain ⟨q,rfl⟩:∃ q:Nat,p=q:=⟨p.toNat,by omega⟩
   have hp0:(0:Int)<=q:=by omega
   rw [Int.toNat_natCast] at z1
   by_cases hb:bitB m i=true
   .rw [if_pos (.inr hb),if_pos hp0] at z1
    rw [eB.1 hb] at bl
    have h8:(avs T).set i (.val (.int .i64 O.length))=avs (T.set i O.length):=zaK _ _ _
    have lT:(T.set i (O.length:Int)).length=T.length:=by rw [List.length_set]
    have dq:=zae (a:=T.set i (O.length:Int)) (v:=q) (by omega)
    have gq:(avs (T.set i (O.length:Int)))[q]?=some (.int (iat (T.set i (O.length:Int)) q)):=by
     have:=List.getElem?_drop (xs:=avs (T.set i (O.length:Int))) (i:=q) (j:=0)
     rw [dq] at this
     simpa using this.symm
    have di:=zae (a:=T.set i (O.length:Int)) (v:=i) (by omega)
    have gi:(avs (T.set i (O.length:Int)))[i]?=some (.int O.length):=by
     have:=List.getElem?_drop (xs:=avs (T.set i (O.length:Int))) (i:=i) (j:=0)
     rw [di] at this
     have e:iat (T.set i (O.length:Int)) i=O.length:=by
      unfold iat
      rw [List.getElem?_set_self (by omega)]; rfl
     rw [e] at this
     simpa using this.symm
    have eq:iat (T.set i (O.length:Int)) q=(T.set i (O.length:Int))[q]?.getD 0:=rfl
    rw [<- eq] at z1
    generalize iat (T.set i (O.length:Int)) q=v at *
    generalize T.set i (O.length:Int)=T' at *
    simp [go_sem,hii,gp,hp,hp0,bl,h8]
    refine ⟨by omega,⟨by omega,by omega⟩,by kernel_rfl,?_⟩
    have lb:=znQ B
    simp [go_sem,gq,gi]
    refine ⟨by omega,hil,⟨lb,by omega,by omega⟩,?_⟩
    refine ⟨by kernel_rfl,?_⟩
    simp [go_sem]
    refine ⟨⟨by omega,by omega⟩,i+1,by omega,by omega,zaa _ _ _ (by simp),?_⟩
    rw [z1]
    exact ⟨rfl,rfl,⟨by simp,by rw [zal]⟩,⟨by simp,by simp [btA]⟩,by omega⟩
   .rw [if_neg (by intro x; exact x.elim hp hb)] at z1
    have hq:¬ ((m:Int) / 2 ^ i%2=1):=by
     intro x
     apply hb
     apply eB.2
     have:((m / 2 ^ i%2:Nat):Int)=1:=by rw [<- x]; simp
     omega
    have dq:=zae (a:=T) (v:=q) (by omega)
    have gq:(avs T)[q]?=some (.int (iat T q)):=by
     have:=List.getElem?_drop (xs:=avs T) (i:=q) (j:=0)
     rw [dq] at this
     simpa using this.symm
    have eq:iat T q=T[q]?.getD 0:=rfl
    rw [<- eq] at z1
    have g1:=zdm (J:=N) (k:=q) (by omega)
    have g2:=zdm (J:=N) (k:=i) (by omega)
    have ln:=zbv N
    generalize iat T q=v at *
    have gi0:N[i]?.getD []=[]:=s0
    rw [gi0,show nrC []=.val (.slice none 0 0) from rfl] at g2
    simp [go_sem,hii,gp,hp,hp0,bl,hq,gq]
    have jE:nrA (zhY N q i)=((nrA N).set q (.own 3 ((N[q]?.getD []).length+1) (avs (N[q]?.getD [])++[.int i]))).set i (.own 3 1 [.int q]):=by
     have e1:=zej (r:=N[q]?.getD []) (i:Int)
     have e2:=zej (r:=[]) (q:Int)
     rw [<- e1,show (AV.own 3 1 [.int (q:Int)])=nrC ([]++[(q:Int)]) from e2.symm,zdp,zdp]
     unfold zhY
     rw [gi0]
    refine ⟨by omega,by omega,DrawVC6.facts (List.range' 7 6++List.range' 31 66) [(7,.own 149 t.length (nrA N)),(11,.int i),(12,.int q),(8,.own 3 t.length (avs (T.set i v))),(9,.own 3 O.length (avs O)),(10,.own 238 B.length (btA B)),(31,.int i)]
     (fun S'=>S' 7=.own 149 t.length (nrA (zhY N q i))/\S' 8=.own 3 t.length (avs (T.set i v))/\S' 9=.own 3 O.length (avs O)/\S' 10=.own 238 B.length (btA B)/\S' 31=.int i) (by simp [go_sem,zaK]) ?_ ?_⟩
    .intro S0 hS0
     have f7:=hS0 (7,.own 149 t.length (nrA N)) (by simp)
     have f11:=hS0 (11,.int i) (by simp)
     have f12:=hS0 (12,.int q) (by simp)
     have f8:=hS0 (8,.own 3 t.length (avs (T.set i v))) (by simp)
     have f9:=hS0 (9,.own 3 O.length (avs O)) (by simp)
     have f10:=hS0 (10,.own 238 B.length (btA B)) (by simp)
     have f31:=hS0 (31,.int i) (by simp)
     simp only at f7 f11 f12 f8 f9 f10 f31
     rw [jE]
     clear hS0 jE z1 s1 s2 s3 s4 s5 s6 zs r1 r2 r3 r4 cP
     by_cases hr:N[q]?.getD []=[]
     .rw [hr]
      rw [hr,show nrC []=.val (.slice none 0 0) from rfl] at g1
      refine ⟨[(0,10),(2,10),(11,10),(13,10),(14,10),(0,17),(2,17),(2,19)],[[0,1,2,3,4,5,6,7,8,9,11,12,13,14,10,15,16,17,18,19,20,21],[0,1,2,3,4,5,6,7,8,9,11,12,13,10,14,15,16,17,18,19,20,21],[0,1,2,3,4,5,6,7,8,9,11,10,12,13,14,15,16,17,18,19,20,21],[0,1,2,3,4,5,6,7,8,9,10,11,12,13,14,15,16,17,18,19,20,21],[0,1,3,4,5,6,7,8,9,11,12,13,14,10,2,15,16,17,18,19,20,21],[0,1,3,4,5,6,7,8,9,11,12,13,14,10,15,16,17,2,18,19,20,21],[0,1,3,4,5,6,7,8,9,11,12,13,14,10,15,16,17,18,19,2,20,21],[0,1,3,4,5,6,7,8,9,11,12,13,10,2,14,15,16,17,18,19,20,21],[0,1,3,4,5,6,7,8,9,11,12,13,10,14,15,16,17,2,18,19,20,21],[0,1,3,4,5,6,7,8,9,11,12,13,10,14,15,16,17,18,19,2,20,21],[0,1,3,4,5,6,7,8,9,11,10,2,12,13,14,15,16,17,18,19,20,21],[0,1,3,4,5,6,7,8,9,11,10,12,13,14,15,16,17,2,18,19,20,21],[0,1,3,4,5,6,7,8,9,11,10,12,13,14,15,16,17,18,19,2,20,21],[0,1,3,4,5,6,7,8,9,10,2,11,12,13,14,15,16,17,18,19,20,21],[0,1,3,4,5,6,7,8,9,10,11,12,13,14,15,16,17,2,18,19,20,21],[0,1,3,4,5,6,7,8,9,10,11,12,13,14,15,16,17,18,19,2,20,21],[1,2,3,4,5,6,7,8,9,11,12,13,14,10,0,15,16,17,18,19,20,21],[1,2,3,4,5,6,7,8,9,11,12,13,14,10,15,16,17,0,18,19,20,21],[1,2,3,4,5,6,7,8,9,11,12,13,10,0,14,15,16,17,18,19,20,21],[1,2,3,4,5,6,7,8,9,11,12,13,10,14,15,16,17,0,18,19,20,21],[1,2,3,4,5,6,7,8,9,11,10,0,12,13,14,15,16,17,18,19,20,21],[1,2,3,4,5,6,7,8,9,11,10,12,13,14,15,16,17,0,18,19,20,21],[1,2,3,4,5,6,7,8,9,10,0,11,12,13,14,15,16,17,18,19,20,21],[1,2,3,4,5,6,7,8,9,10,11,12,13,14,15,16,17,0,18,19,20,21],[1,3,4,5,6,7,8,9,11,12,13,14,10,0,2,15,16,17,18,19,20,21],[1,3,4,5,6,7,8,9,11,12,13,14,10,0,15,16,17,2,18,19,20,21],[1,3,4,5,6,7,8,9,11,12,13,14,10,0,15,16,17,18,19,2,20,21],[1,3,4,5,6,7,8,9,11,12,13,14,10,2,15,16,17,0,18,19,20,21],[1,3,4,5,6,7,8,9,11,12,13,14,10,15,16,17,0,2,18,19,20,21],[1,3,4,5,6,7,8,9,11,12,13,14,10,15,16,17,0,18,19,2,20,21],[1,3,4,5,6,7,8,9,11,12,13,10,0,2,14,15,16,17,18,19,20,21],[1,3,4,5,6,7,8,9,11,12,13,10,0,14,15,16,17,2,18,19,20,21],[1,3,4,5,6,7,8,9,11,12,13,10,0,14,15,16,17,18,19,2,20,21],[1,3,4,5,6,7,8,9,11,12,13,10,2,14,15,16,17,0,18,19,20,21],[1,3,4,5,6,7,8,9,11,12,13,10,14,15,16,17,0,2,18,19,20,21],[1,3,4,5,6,7,8,9,11,12,13,10,14,15,16,17,0,18,19,2,20,21],[1,3,4,5,6,7,8,9,11,10,0,2,12,13,14,15,16,17,18,19,20,21],[1,3,4,5,6,7,8,9,11,10,0,12,13,14,15,16,17,2,18,19,20,21],[1,3,4,5,6,7,8,9,11,10,0,12,13,14,15,16,17,18,19,2,20,21],[1,3,4,5,6,7,8,9,11,10,2,12,13,14,15,16,17,0,18,19,20,21],[1,3,4,5,6,7,8,9,11,10,12,13,14,15,16,17,0,2,18,19,20,21],[1,3,4,5,6,7,8,9,11,10,12,13,14,15,16,17,0,18,19,2,20,21],[1,3,4,5,6,7,8,9,10,0,2,11,12,13,14,15,16,17,18,19,20,21],[1,3,4,5,6,7,8,9,10,0,11,12,13,14,15,16,17,2,18,19,20,21],[1,3,4,5,6,7,8,9,10,0,11,12,13,14,15,16,17,18,19,2,20,21],[1,3,4,5,6,7,8,9,10,2,11,12,13,14,15,16,17,0,18,19,20,21],[1,3,4,5,6,7,8,9,10,11,12,13,14,15,16,17,0,2,18,19,20,21],[1,3,4,5,6,7,8,9,10,11,12,13,14,15,16,17,0,18,19,2,20,21]],fun _=>[],by kernel_rfl,?_⟩
      simp only [AllY,and_true]
      refine ⟨?_,?_,?_,?_,?_,?_,?_,?_,?_,?_,?_,?_,?_,?_,?_,?_,?_,?_,?_,?_,?_,?_,?_,?_,?_,?_,?_,?_,?_,?_,?_,?_,?_,?_,?_,?_,?_,?_,?_,?_,?_,?_,?_,?_,?_,?_,?_,?_⟩
      all_goals
       simp [go_sem,f7,f11,f12,f8,f9,f10,f31,g1,g2]
       exact ⟨by omega,by omega,by omega,by omega,by omega,by omega,by kernel_rfl,fun _ _=>rfl⟩
     .rw [nrC,if_neg hr] at g1
      have rl:=n2 _ (memD [] (show q<N.length by omega))
      generalize N[q]?.getD []=r at *
      have hne:¬ q=i:=by omega
      have c1:q<t.length:=by omega
      have c2:i<t.length:=by omega
      have c3:(r.length+1)*8<=140737488355328:=by omega
      have c4:r.length<=9223372036854775806:=by omega
      have c5:q<(nrA N).length/\i<(nrA N).length:=⟨by omega,by omega⟩
      have gs:((nrA N).set q AV.any)[i]?=some (.val (.slice none 0 0)):=by rw [List.getElem?_set_ne hne]; exact g2
      refine ⟨[(0,10),(2,10),(11,10),(13,10),(14,10),(0,17),(2,17),(2,19)],[[0,1,2,3,4,5,6,7,8,9,11,12,13,14,10,15,16,17,18,19,20,21],[0,1,2,3,4,5,6,7,8,9,11,12,13,10,14,15,16,17,18,19,20,21],[0,1,2,3,4,5,6,7,8,9,11,10,12,13,14,15,16,17,18,19,20,21],[0,1,2,3,4,5,6,7,8,9,10,11,12,13,14,15,16,17,18,19,20,21],[0,1,3,4,5,6,7,8,9,11,12,13,14,10,2,15,16,17,18,19,20,21],[0,1,3,4,5,6,7,8,9,11,12,13,14,10,15,16,17,2,18,19,20,21],[0,1,3,4,5,6,7,8,9,11,12,13,14,10,15,16,17,18,19,2,20,21],[0,1,3,4,5,6,7,8,9,11,12,13,10,2,14,15,16,17,18,19,20,21],[0,1,3,4,5,6,7,8,9,11,12,13,10,14,15,16,17,2,18,19,20,21],[0,1,3,4,5,6,7,8,9,11,12,13,10,14,15,16,17,18,19,2,20,21],[0,1,3,4,5,6,7,8,9,11,10,2,12,13,14,15,16,17,18,19,20,21],[0,1,3,4,5,6,7,8,9,11,10,12,13,14,15,16,17,2,18,19,20,21],[0,1,3,4,5,6,7,8,9,11,10,12,13,14,15,16,17,18,19,2,20,21],[0,1,3,4,5,6,7,8,9,10,2,11,12,13,14,15,16,17,18,19,20,21],[0,1,3,4,5,6,7,8,9,10,11,12,13,14,15,16,17,2,18,19,20,21],[0,1,3,4,5,6,7,8,9,10,11,12,13,14,15,16,17,18,19,2,20,21],[1,2,3,4,5,6,7,8,9,11,12,13,14,10,0,15,16,17,18,19,20,21],[1,2,3,4,5,6,7,8,9,11,12,13,14,10,15,16,17,0,18,19,20,21],[1,2,3,4,5,6,7,8,9,11,12,13,10,0,14,15,16,17,18,19,20,21],[1,2,3,4,5,6,7,8,9,11,12,13,10,14,15,16,17,0,18,19,20,21],[1,2,3,4,5,6,7,8,9,11,10,0,12,13,14,15,16,17,18,19,20,21],[1,2,3,4,5,6,7,8,9,11,10,12,13,14,15,16,17,0,18,19,20,21],[1,2,3,4,5,6,7,8,9,10,0,11,12,13,14,15,16,17,18,19,20,21],[1,2,3,4,5,6,7,8,9,10,11,12,13,14,15,16,17,0,18,19,20,21],[1,3,4,5,6,7,8,9,11,12,13,14,10,0,2,15,16,17,18,19,20,21],[1,3,4,5,6,7,8,9,11,12,13,14,10,0,15,16,17,2,18,19,20,21],[1,3,4,5,6,7,8,9,11,12,13,14,10,0,15,16,17,18,19,2,20,21],[1,3,4,5,6,7,8,9,11,12,13,14,10,2,15,16,17,0,18,19,20,21],[1,3,4,5,6,7,8,9,11,12,13,14,10,15,16,17,0,2,18,19,20,21],[1,3,4,5,6,7,8,9,11,12,13,14,10,15,16,17,0,18,19,2,20,21],[1,3,4,5,6,7,8,9,11,12,13,10,0,2,14,15,16,17,18,19,20,21],[1,3,4,5,6,7,8,9,11,12,13,10,0,14,15,16,17,2,18,19,20,21],[1,3,4,5,6,7,8,9,11,12,13,10,0,14,15,16,17,18,19,2,20,21],[1,3,4,5,6,7,8,9,11,12,13,10,2,14,15,16,17,0,18,19,20,21],[1,3,4,5,6,7,8,9,11,12,13,10,14,15,16,17,0,2,18,19,20,21],[1,3,4,5,6,7,8,9,11,12,13,10,14,15,16,17,0,18,19,2,20,21],[1,3,4,5,6,7,8,9,11,10,0,2,12,13,14,15,16,17,18,19,20,21],[1,3,4,5,6,7,8,9,11,10,0,12,13,14,15,16,17,2,18,19,20,21],[1,3,4,5,6,7,8,9,11,10,0,12,13,14,15,16,17,18,19,2,20,21],[1,3,4,5,6,7,8,9,11,10,2,12,13,14,15,16,17,0,18,19,20,21],[1,3,4,5,6,7,8,9,11,10,12,13,14,15,16,17,0,2,18,19,20,21],[1,3,4,5,6,7,8,9,11,10,12,13,14,15,16,17,0,18,19,2,20,21],[1,3,4,5,6,7,8,9,10,0,2,11,12,13,14,15,16,17,18,19,20,21],[1,3,4,5,6,7,8,9,10,0,11,12,13,14,15,16,17,2,18,19,20,21],[1,3,4,5,6,7,8,9,10,0,11,12,13,14,15,16,17,18,19,2,20,21],[1,3,4,5,6,7,8,9,10,2,11,12,13,14,15,16,17,0,18,19,20,21],[1,3,4,5,6,7,8,9,10,11,12,13,14,15,16,17,0,2,18,19,20,21],[1,3,4,5,6,7,8,9,10,11,12,13,14,15,16,17,0,18,19,2,20,21]],fun _=>[],by kernel_rfl,?_⟩
      simp only [AllY,and_true]
      refine ⟨?_,?_,?_,?_,?_,?_,?_,?_,?_,?_,?_,?_,?_,?_,?_,?_,?_,?_,?_,?_,?_,?_,?_,?_,?_,?_,?_,?_,?_,?_,?_,?_,?_,?_,?_,?_,?_,?_,?_,?_,?_,?_,?_,?_,?_,?_,?_,?_⟩
      all_goals
       simp [go_sem,f7,f11,f12,f8,f9,f10,f31,g1,g2,gs,c1,c2,c3,c4]
       exact ⟨by omega,by omega,by kernel_rfl,fun _ _=>rfl⟩
    .rintro S' hO ⟨h7,h8,h9,h10,h31⟩
     simp [go_sem,h31,h7,h8,h9,h10]
     refine ⟨⟨by omega,by omega⟩,i+1,by omega,by omega,Off.tr (by simp [go_sem]; exact zaa _ _ _ (by simp)) hO,?_⟩
     rw [z1]
     exact ⟨rfl,rfl,⟨rfl,rfl⟩,⟨rfl,rfl⟩,by omega⟩
 .have e:i=t.length:=by omega
  subst e
  have hii:¬ (t.length:Int)<t.length:=by omega
  have s3:=s3
  have s4:=s4
  generalize hZ:S t.length=Z at *
  obtain ⟨N,T,O,B⟩:=Z
  obtain ⟨⟨n1,n2⟩,n3,n4,n5⟩:=s2 t.length (by omega)
  rw [hZ] at n1 n2 n3 n4 n5
  simp only at s3 s4 s5 s6 n1 n2 n3 n4 n5
  have cT:=fun x hx=>zeq 7 N x (-1) (s3 x hx).1
  have tL:=fun x hx=>(s3 x hx).2
  rw [n1] at cT
  have eC:cuR t m=(srtT (O.map fun x=>tfF 7 N x (-1)),tfF 7 (jnN B O.length B.length) 0 (-1),1):=by
   unfold cuR
   rw [show cuN t m t.length=⟨N,T,O,B⟩ by rw [hS,hZ]]
  rw [eC]
  obtain ⟨TF,hTF⟩:∃ F:Int->List Int,F=fun x=>tfF 7 N x (-1):=⟨_,rfl⟩
  have eT:∀ x,tfF 7 N x (-1)=TF x:=fun x=>by rw [hTF]
  rw [<- hTF]
  simp only [eT] at cT tL
  clear hTF eT
  simp [go_sem,hii]
  refine ⟨by kernel_rfl,⟨by omega,by omega⟩,?_⟩
  refine ⟨by kernel_rfl,?_⟩
  simp [go_sem]
  refine zac (13::16::List.range' 103 11) (fun k:Nat=>[(13,.own 25 k (omat ((O.map TF).take k))),(103,.int k)]) (fun k=>k<=O.length) (fun k=>O.length-k) 0 (by simp) (by simp [go_sem,omat]) (by simp [go_sem]) ?_
  intro k hk
  by_cases hkl:k<O.length
  .have hki:(k:Int)<O.length:=by omega
   have dk:=zae (a:=O) (v:=k) hkl
   have gk:(avs O)[k]?=some (.int (iat O k)):=by
    have:=List.getElem?_drop (xs:=avs O) (i:=k) (j:=0)
    rw [dk] at this
    simpa using this.symm
   have cx:=cT (iat O k) (memD 0 hkl)
   have t1:(O.map TF).take (k+1)=(O.map TF).take k++[TF (iat O k)]:=by
    rw [List.take_succ_eq_append_getElem (by rw [List.length_map]; exact hkl),List.getElem_map]
    unfold iat
    rw [List.getElem?_eq_getElem hkl]; rfl
   have l1:=tL (iat O k) (memD 0 hkl)
   generalize iat O k=x at *
   simp [go_sem,hki,gk]
   refine CallVC.of (cx) ?_
   simp [go_sem]
   generalize TF x=y at *
   refine ⟨⟨by omega,by omega,by omega⟩,⟨by omega,by omega⟩,k+1,by omega,by omega,zaa _ _ _ (by simp),?_⟩
   rw [t1,zbf]
   exact ⟨⟨rfl,rfl⟩,by omega⟩
  .have e:k=O.length:=by omega
   subst e
   have hki:¬ (O.length:Int)<O.length:=by omega
   rw [List.take_of_length_le (by rw [List.length_map]; exact Nat.le_refl _)]
   have cF:=zes (O.map TF) (fun m hm=>by
    obtain ⟨x,hx,rfl⟩:=List.mem_map.1 hm
    have:=tL x hx; omega) (by rw [List.length_map]; omega)
   have cJ:=zeq 7 (jnN B O.length B.length) 0 (-1) s6
   have j0:nrA (jnN B O.length 0)=List.replicate O.length (.val (.slice none 0 0)):=by simp [jnN,nrA,nrC]
   have js:∀ j,(h:j<B.length)->jnN B O.length (j+1)=zhY (jnN B O.length j) (B[j]?.getD (0,0)).1.toNat (B[j]?.getD (0,0)).2.toNat:=fun j h=>by
    unfold jnN
    rw [List.take_succ_eq_append_getElem h,List.foldl_append,List.getElem?_eq_getElem h]; rfl
   rw [List.length_map] at cF
   rw [(s5 B.length (by omega)).1] at cJ
   have lo:=(za1 (O.map TF)).length_eq
   rw [List.length_map] at lo
   try rw [lo]
   generalize O.map TF=OF at *
   generalize jnN B O.length=JN at *
   clear cT tL s6 eC zs s2 hS hZ
   simp [go_sem,hki]
   refine zac (14::18::List.range' 116 31) (fun j:Nat=>[(14,.own 149 O.length (nrA (JN j))),(116,.int j)]) (fun j=>j<=B.length) (fun j=>B.length-j) 0 (by simp) (by simp [go_sem,j0]) (by simp [go_sem]) ?_
   intro j hj
   by_cases hjl:j<B.length
   .have hji:(j:Int)<B.length:=by omega
    have dB:=ztT hjl
    obtain ⟨q1,q2⟩:=s5 j (by omega)
    obtain ⟨u1,u2,u3⟩:=s4 _ (memD (0,0) hjl)
    have sj:=js j hjl
    generalize B[j]?.getD (0,0)=e at *
    obtain ⟨e1,e2⟩:=e
    simp only at u1 u2 u3 sj dB
    obtain ⟨x,rfl⟩:∃ x:Nat,e1=x:=⟨e1.toNat,by omega⟩
    obtain ⟨y,rfl⟩:∃ y:Nat,e2=y:=⟨e2.toNat,by omega⟩
    rw [Int.toNat_natCast,Int.toNat_natCast] at sj
    generalize JN j=J at *
    have g1:=zdm (J:=J) (k:=x) (by omega)
    have g2:=zdm (J:=J) (k:=y) (by omega)
    have lB:=znQ B
    have lJ:=zbv J
    have nB:¬ btA B=[]:=by intro e; rw [e] at lB; simp at lB; omega
    simp [go_sem,hji,dB]
    refine ⟨⟨nB,by omega⟩,?_⟩
    refine DrawVC6.facts (14::18::List.range' 116 31) [(14,.own 149 O.length (nrA J)),(18,.box 238 [.int x,.int y]),(116,.int j)] (fun S'=>S' 14=.own 149 O.length (nrA (J.set x (J[x]?.getD []++[(y:Int)])))/\S' 18=.box 238 [.int x,.int y]/\S' 116=.int j) (by simp [go_sem]) ?_ ?_
    .intro S0 hS0
     have f14:=hS0 (14,.own 149 O.length (nrA J)) (by simp)
     have f18:=hS0 (18,.box 238 [.int x,.int y]) (by simp)
     have f116:=hS0 (116,.int j) (by simp)
     simp only at f14 f18 f116
     have jE:nrA (J.set x (J[x]?.getD []++[(y:Int)]))=(nrA J).set x (.own 3 ((J[x]?.getD []).length+1) (avs (J[x]?.getD [])++[.int y])):=by
      rw [<- zej,zdp]
     have g1:=zdm (J:=J) (k:=x) (by omega)
     have lJ:=zbv J
     have d1:x<O.length:=by omega
     have d2:x<(nrA J).length:=by omega
     have rl:=q2 _ (memD [] (show x<J.length by omega))
     rw [jE]
     clear hS0 jE
     by_cases hr:J[x]?.getD []=[]
     .rw [hr,show nrC []=.val (.slice none 0 0) from rfl] at g1
      rw [hr]
      refine ⟨[(0,11)],[[0,1,2,3,4,5,6,7,8,9,10,11,12,13],[1,2,3,4,5,6,7,8,9,10,11,0,12,13]],fun _=>[],by kernel_rfl,?_⟩
      simp only [AllY,and_true]
      refine ⟨?_,?_⟩
      all_goals
       simp [go_sem,f14,f18,f116,g1,d1]
       exact ⟨by omega,by kernel_rfl,fun _ _=>rfl⟩
     .rw [nrC,if_neg hr] at g1
      generalize J[x]?.getD []=r at *
      have d3:(r.length+1)*8<=140737488355328:=by omega
      have d4:r.length<=9223372036854775806:=by omega
      refine ⟨[(0,11)],[[0,1,2,3,4,5,6,7,8,9,10,11,12,13],[1,2,3,4,5,6,7,8,9,10,11,0,12,13]],fun _=>[],by kernel_rfl,?_⟩
      simp only [AllY,and_true]
      refine ⟨?_,?_⟩
      all_goals
       simp [go_sem,f14,f18,f116,g1,d1,d3,d4]
       exact ⟨by omega,by kernel_rfl,fun _ _=>rfl⟩
    rintro S1 hO1 ⟨h14,h18,h116⟩
    have ly:((J.set x (J[x]?.getD []++[(y:Int)]))[y]?.getD [])=J[y]?.getD []:=by rw [List.getElem?_set_ne (by omega)]
    have lset:(J.set x (J[x]?.getD []++[(y:Int)])).length=J.length:=List.length_set
    have sj2:zhY J x y=(J.set x (J[x]?.getD []++[(y:Int)])).set y ((J.set x (J[x]?.getD []++[(y:Int)]))[y]?.getD []++[(x:Int)]):=by rw [ly]; rfl
    rw [sj2] at sj
    have rly:=q2 _ (memD [] (show y<J.length by omega))
    rw [<- ly] at rly
    generalize J.set x (J[x]?.getD []++[(y:Int)])=J1 at *
    simp [go_sem]
    refine DrawVC6.facts (14::18::List.range' 116 31) [(14,.own 149 O.length (nrA J1)),(18,.box 238 [.int x,.int y]),(116,.int j)] (fun S'=>S' 14=.own 149 O.length (nrA (J1.set y (J1[y]?.getD []++[(x:Int)])))/\S' 18=.box 238 [.int x,.int y]/\S' 116=.int j) (by simp [go_sem,h14,h18,h116]) ?_ ?_
    .intro S0 hS0
     have f14:=hS0 (14,.own 149 O.length (nrA J1)) (by simp)
     have f18:=hS0 (18,.box 238 [.int x,.int y]) (by simp)
     have f116:=hS0 (116,.int j) (by simp)
     simp only at f14 f18 f116
     have jE:nrA (J1.set y (J1[y]?.getD []++[(x:Int)]))=(nrA J1).set y (.own 3 ((J1[y]?.getD []).length+1) (avs (J1[y]?.getD [])++[.int x])):=by
      rw [<- zej,zdp]
     have g1:=zdm (J:=J1) (k:=y) (by omega)
     have lJ:=zbv J1
     have d1:y<O.length:=by omega
     have d2:y<(nrA J1).length:=by omega
     have rl:=rly
     rw [jE]
     clear hS0 jE
     by_cases hr:J1[y]?.getD []=[]
     .rw [hr,show nrC []=.val (.slice none 0 0) from rfl] at g1
      rw [hr]
      refine ⟨[(0,11)],[[0,1,2,3,4,5,6,7,8,9,10,11,12,13],[1,2,3,4,5,6,7,8,9,10,11,0,12,13]],fun _=>[],by kernel_rfl,?_⟩
      simp only [AllY,and_true]
      refine ⟨?_,?_⟩
      all_goals
       simp [go_sem,f14,f18,f116,g1,d1]
       exact ⟨by omega,by kernel_rfl,fun _ _=>rfl⟩
     .rw [nrC,if_neg hr] at g1
      generalize J1[y]?.getD []=r at *
      have d3:(r.length+1)*8<=140737488355328:=by omega
      have d4:r.length<=9223372036854775806:=by omega
      refine ⟨[(0,11)],[[0,1,2,3,4,5,6,7,8,9,10,11,12,13],[1,2,3,4,5,6,7,8,9,10,11,0,12,13]],fun _=>[],by kernel_rfl,?_⟩
      simp only [AllY,and_true]
      refine ⟨?_,?_⟩
      all_goals
       simp [go_sem,f14,f18,f116,g1,d1,d3,d4]
       exact ⟨by omega,by kernel_rfl,fun _ _=>rfl⟩
    rintro S2 hO2 ⟨k14,k18,k116⟩
    simp [go_sem,k116,k14]
    refine ⟨⟨by omega,by omega⟩,j+1,by omega,by omega,Off.tr (Off.tr (by simp [go_sem]; exact zaa _ _ _ (by simp)) hO1) hO2,?_⟩
    rw [sj]
    exact ⟨rfl,by omega⟩
   .have e:j=B.length:=by omega
    subst e
    have hji:¬ (B.length:Int)<B.length:=by omega
    simp [go_sem,hji]
    refine CallVC.of (cF) ?_
    simp [go_sem]
    refine CallVC.of (cJ) ?_
    simp [go_sem]
end Go.Proofs.YthhdollpkieknaaGreat


namespace Go.Proofs.YthhdollpkieknaaGreat
open Go.Abs
theorem zm1:¬ trN 6=[]:=by intro e; have:=zaJ; rw [e] at this; simp at this
theorem zgP {p:Nat} (h:p<37):((trN 6)[p]?.getD []).length=nd (p+1):=by
 have ok:(List.range 37).all (fun p=>decide (((trN 6)[p]?.getD []).length=nd (p+1)))=true:=by decide +kernel
 exact of_decide_eq_true (List.all_eq_true.1 ok p (List.mem_range.2 h))
theorem zpw (p:Nat) (hp:p<38):Con Tryz.prog 163 [.agg [.sl 37 (mat (trN 6)),.sl 37 fcF],.int p] (.int (nd p)):=by
 have nt:=zm1
 have l6:=zaJ
 generalize fcF=FC at *
 by_cases h0:p=0
 .subst h0
  refine zab Tryz.mixed ⟨5,[],[],[]⟩ Tryz.func163 ?_
  rw [Tryz.ntmps163]
  simp [go_sem]
  rfl
 .obtain ⟨q,rfl⟩:∃ q,p=q+1:=⟨p-1,by omega⟩
  have e:=zgP (p:=q) (by omega)
  have dm:=zak (xss:=trN 6) (k:=q) (by omega)
  rw [e] at dm
  have cL:=ze0 (nd (q+1)) (avs ((trN 6)[q]?.getD [])) (by have:=zdD hp; omega)
  have e1:((q+1:Nat):Int)=(q:Int)+1:=by omega
  rw [e1]
  have e2:¬ (q:Int)+1=0:=by omega
  generalize (trN 6)[q]?.getD []=t at *
  generalize nd (q+1)=m at *
  refine zab Tryz.mixed ⟨5,[],[],[]⟩ Tryz.func163 ?_
  rw [Tryz.ntmps163]
  simp [go_sem]
  simp [go_sem,e2]
  have e3:((q:Int)+1-1)=q:=by omega
  simp [go_sem,e3,dm]
  refine ⟨by omega,⟨by omega,nt⟩,?_⟩
  refine CallVC.of (cL) ?_
  simp [go_sem]
theorem zkA (k:Int) (a:List Int) {i:Nat} (h:i<38):(scS k a).take (i+1)=(scS k a).take i++[iat a i*k ^ nd i%10007]:=zch _ h
theorem N38.take {a:List Int} (ha:N38 a):a.take 38=a:=List.take_of_length_le (by rw [ha.1]; exact Nat.le_refl _)
theorem zl8 (a:List Int) (k:Int) (ha:N38 a) (hk:isN k) :
  Con Tryz.prog 94 [.agg [.sl 37 (mat (trN 6)),.sl 37 fcF],.sl a.length (avs a),.int k] (.own 2 38 (avs (scS k a))):=by
 have tk:=fun i (h:i<38)=>zkA k a h
 have ta:=(zhU k a).take
 have lo:=(zhU k a).1
 have la:=ha.1
 have cN:=fun p h=>zpw p h
 generalize scS k a=O at *
 generalize fcF=FC at *
 refine zab Tryz.mixed ⟨10,[],[],[]⟩ Tryz.func94 ?_
 rw [Tryz.ntmps94]
 simp [go_sem]
 refine zac (7::8::9::List.range' 13 17) (fun i:Nat=>[(7,.own 2 i (avs (O.take i))),(13,.int i)]) (fun i=>i<=38) (fun i=>38-i) 0 (by simp) (by simp [go_sem]) (by simp [go_sem]) ?_
 intro i hi
 by_cases hil:i<a.length
 .have hii:(i:Int)<a.length:=by omega
  have na:¬ a=[]:=by rintro rfl; simp at hil
  have dr:=zae hil
  have c1:=cN i (by omega)
  have n6:=zdD (i:=i) (by omega)
  have c2:=zvd k (nd i) hk (by omega) (by omega)
  have pN:=pw_N k (nd i)
  have xN:isN (iat a i):=ha.Ns.get i
  have f1:=zaw xN pN
  have c3:=zbE (iat a i*pw k (nd i)) f1.1 f1.2
  have e:iat a i*k ^ nd i%10007=iat a i*pw k (nd i)%10007:=by
   refine zas rfl ?_
   unfold pw
   rw [Int.emod_emod_of_dvd _ (Int.dvd_refl _)]; rfl
  have t1:=tk i (by omega)
  rw [e] at t1
  generalize iat a i=x at *
  generalize pw k (nd i)=y at *
  generalize nd i=m at *
  simp [go_sem,hii,dr]
  refine ⟨na,?_⟩
  refine CallVC.of (c1) ?_
  simp [go_sem]
  refine CallVC.of (c2) ?_
  simp [go_sem]
  refine ⟨⟨f1.1,f1.2⟩,?_⟩
  refine CallVC.of (c3) ?_
  simp [go_sem]
  refine ⟨⟨by omega,by omega,by omega⟩,⟨by omega,by omega⟩,i+1,by omega,by omega,zaa _ _ _ (by simp),?_⟩
  rw [t1,zal]
  exact ⟨⟨rfl,rfl⟩,by omega⟩
 .have e:i=a.length:=by omega
  subst e
  have hii:¬ (a.length:Int)<a.length:=by omega
  rw [la,ta]
  simp [go_sem,hii]
theorem ziA:Con Tryz.prog 27 [] (.own 2 38 (avs zbq)):=by
 have e:avs zbq=.int 1::List.replicate 37 (.int 0):=by kernel_rfl
 rw [e]
 refine zab Tryz.mixed ⟨2,[],[],[]⟩ Tryz.func27 ?_
 rw [Tryz.ntmps27]
 simp [go_sem]
theorem zsh {t:List Int} (h:t∈trN 6):0<=denF 8 t/\denF 8 t<=1000000:=by
 have ok:(trN 6).all (fun t=>decide (0<=denF 8 t) && decide (denF 8 t<=1000000))=true:=by decide +kernel
 have k:=List.all_eq_true.1 ok t h
 simpa using k
theorem zvb:(trN 6).map (fun t=>((fp 15 (denF 8 t%10007).toNat 10005:Nat):Int))=exT.tail.map fun (v:Nat)=>(v:Int):=by kernel_rfl
theorem ztn:exaS=exT.map fun (v:Nat)=>(v:Int):=by kernel_rfl
theorem zss {p:Nat} (h:p<37):pw (denF 8 ((trN 6)[p]?.getD [])%10007) 10005=iat exaS (p+1):=by
 have hl:p<(trN 6).length:=by rw [zaJ]; exact h
 have e:=congrArg (fun l=>l[p]?) zvb
 simp only [List.getElem?_map] at e
 rw [List.getElem?_eq_getElem hl] at e
 have k:=zrm (denF 8 (trN 6)[p]%10007).toNat
 rw [Int.toNat_of_nonneg (Int.emod_nonneg _ (by decide))] at k
 rw [List.getElem?_eq_getElem hl,Option.getD_some,<- k]
 unfold iat
 rw [ztn,List.getElem?_map]
 have e2:exT[p+1]?=exT.tail[p]?:=by rw [List.getElem?_tail]
 rw [e2,<- e]; rfl
def xaX (i:Nat):List Int:=exaS.take (i+1)++List.replicate (37-i) 0
theorem zhS (v:Int):∀ (P:List Int) (n:Nat),(P++List.replicate (n+1) 0).set P.length v=P++[v]++List.replicate n 0
 | [],n=>by simp [List.replicate_succ]
 | x::P,n=>by
  have:=zhS v P n
  simp only [List.cons_append,List.length_cons,List.set_cons_succ]
  rw [this]
theorem zuF {i:Nat} (h:i<37):(xaX i).set (i+1) (iat exaS (i+1))=xaX (i+1):=by
 have l:=zaL.1.1
 have tl:(exaS.take (i+1)).length=i+1:=by rw [List.length_take]; omega
 have t:exaS.take (i+2)=exaS.take (i+1)++[iat exaS (i+1)]:=by
  rw [List.take_succ_eq_append_getElem (by omega)]
  unfold iat
  rw [List.getElem?_eq_getElem (by omega)]; rfl
 unfold xaX
 have k:=zhS (iat exaS (i+1)) (exaS.take (i+1)) (36-i)
 rw [tl,show 36-i+1=37-i by omega] at k
 rw [k,t,show 37-(i+1)=36-i by omega]
theorem zeh:Con Tryz.prog 73 [.agg [.sl 37 (mat (trN 6)),.sl 37 fcF]] (.own 2 38 (avs exaS)):=by
 have cU:=ziA
 have l6:=zaJ
 have nt:=zm1
 have x0:zbq=xaX 0:=by kernel_rfl
 have x37:xaX 37=exaS:=by kernel_rfl
 have at6:=fun t h=>zeK (t:=t) h
 rw [x0] at cU
 rw [<- x37]
 generalize fcF=FC at *
 refine zab Tryz.mixed ⟨6,[],[],[]⟩ Tryz.func73 ?_
 rw [Tryz.ntmps73]
 simp [go_sem]
 refine CallVC.of (cU) ?_
 simp [go_sem]
 refine zac (3::4::5::List.range' 10 14) (fun i:Nat=>[(3,.own 2 38 (avs (xaX i))),(10,.int i)]) (fun i=>i<=37) (fun i=>37-i) 0 (by simp) (by simp [go_sem]) (by simp [go_sem]) ?_
 intro i hi
 by_cases hil:i<37
 .have hii:(i:Int)<37:=by omega
  have hl:i<(trN 6).length:=by omega
  have dm:=zak hl
  have hm:=memD [] hl
  obtain ⟨t1,t2,t3⟩:=at6 _ hm
  have cD:=ziw 8 _ t1 (by omega) t3
  have xs:=zuF hil
  rw [<- zss hil] at xs
  have lx:(xaX i).length=38:=by
   have l:=zaL.1.1
   unfold xaX
   rw [List.length_append,List.length_take,List.length_replicate]; omega
  obtain ⟨d1,d2⟩:=zsh hm
  generalize (trN 6)[i]?.getD []=t at *
  have c1:=zbE (denF 8 t) (by omega) (by omega)
  have c2:=ztx (denF 8 t%10007) (zai _)
  generalize hv:pw (denF 8 t%10007) 10005=v at *
  generalize denF 8 t=d at *
  have ls:((xaX i).set (i+1) v).length=38:=by rw [List.length_set]; exact lx
  simp [go_sem,hii,dm]
  refine ⟨nt,⟨by omega,by omega⟩,?_⟩
  refine CallVC.of (cD) ?_
  simp [go_sem]
  refine CallVC.of (c1) ?_
  simp [go_sem]
  refine CallVC.of (c2) ?_
  simp [go_sem]
  refine ⟨⟨by omega,by omega⟩,by omega,⟨by omega,by omega⟩,i+1,by omega,by omega,zaa _ _ _ (by simp),?_⟩
  rw [<- xs]
  exact ⟨by simp [avs,List.map_set],by omega⟩
 .have e:i=37:=by omega
  subst e
  simp [go_sem]
theorem zmn:Con Tryz.prog 18 [] (.own 2 38 (avs exaS)):=by
 have cF:=za6
 have cE:=zeh
 generalize fcF=FC at *
 refine zab Tryz.mixed ⟨1,[],[1000000+71],[]⟩ Tryz.func18 ?_
 rw [Tryz.ntmps18]
 simp [go_sem]
 refine ⟨_,_,cF,?_⟩
 simp [go_sem]
 refine CallVC.of (cE) ?_
 simp [go_sem]
def ckC (a:List Int):Int:=if mapB a=true then (if iat a 0=1 then 0 else 5) else 1
theorem zse {a:List Int} (h:ckC a=0):Ch a:=by
 unfold ckC at h
 split at h
 .rename_i hm
  split at h
  .rename_i h1; exact ⟨zgv hm,h1⟩
  .omega
 .omega
theorem Ch.ck {a:List Int} (h:Ch a):ckC a=0:=by
 unfold ckC
 rw [if_pos h.1.mapB,if_pos h.2]
theorem zaz (a:List Int) (ha:a.length<=9223372036854775807):Con Tryz.prog 70 [.sl a.length (avs a)] (.int (ckC a)):=by
 have cM:=zds a ha
 unfold ckC
 by_cases hm:mapB a=true
 .rw [if_pos hm]
  rw [hm] at cM
  have hl:=(zgv hm).1
  have na:¬ a=[]:=by rintro rfl; simp at hl
  have a0:=zae (a:=a) (v:=0) (by omega)
  rw [List.drop_zero] at a0
  by_cases h1:iat a 0=1
  .rw [if_pos h1]
   rw [h1] at a0
   refine zab Tryz.mixed ⟨3,[],[],[]⟩ Tryz.func70 ?_
   rw [Tryz.ntmps70]
   simp [go_sem]
   refine CallVC.of (cM) ?_
   simp [go_sem]
   simp [go_sem,a0]
   exact ⟨by omega,na⟩
  .rw [if_neg h1]
   generalize iat a 0=x at *
   refine zab Tryz.mixed ⟨3,[],[],[]⟩ Tryz.func70 ?_
   rw [Tryz.ntmps70]
   simp [go_sem]
   refine CallVC.of (cM) ?_
   simp [go_sem]
   simp [go_sem,a0,h1]
   exact ⟨by omega,na⟩
 .rw [if_neg hm]
  have hf:mapB a=false:=by simpa using hm
  rw [hf] at cM
  refine zab Tryz.mixed ⟨3,[],[],[]⟩ Tryz.func70 ?_
  rw [Tryz.ntmps70]
  simp [go_sem]
  refine CallVC.of (cM) ?_
  simp [go_sem]
theorem zii (a:List Int) (ha:N38 a) :
  Con Tryz.prog 176 [.agg [.sl 37 (mat (trN 6)),.sl 37 fcF],.sl a.length (avs a)] (.own 2 38 (avs (invS a))):=by
 have la:=ha.1
 have nf:=zr3
 have fd:=fun i h=>zhn (i:=i) h
 have il:=zdc a
 have iN:=zpm a
 have e0:avs (invN a 0)=[.int 1]:=rfl
 have es:∀ k,invN a (k+1)=invN a k++[(-(rowI (iat (invN a k)) (iat a) (nwR (k+1))))%10007]:=fun k=>rfl
 show Con Tryz.prog _ _ (.own _ 38 (avs (invN a 37)))
 generalize hO:invN a=O at *
 generalize fcF=FC at *
 refine zab Tryz.mixed ⟨11,[],[],[]⟩ Tryz.func176 ?_
 rw [Tryz.ntmps176]
 simp [go_sem]
 refine zac (5::7::8::10::List.range' 15 38) (fun i:Nat=>[(5,.own 2 (i+1) (avs (O i))),(15,.int i)]) (fun i=>i<=37) (fun i=>37-i) 0 (by simp) (by simp [go_sem,e0]) (by simp [go_sem]) ?_
 intro i hi
 by_cases hil:i<37
 .have hii:(i:Int)<37:=by omega
  have dr:=fd i hil
  obtain ⟨r1,r2⟩:=zne (i:=i+1) (by omega)
  have rk:=zcK (i:=i+1) (by omega)
  have nk:=(zoD (i:=i+1) (by omega) (by omega)).1
  have ei:=es i
  have hnw:nwR (i+1)=(ctR (i+1)).filter fun c=>decide (0<c.2.2):=rfl
  have li:=il i
  have Ni:Ns (O i):=fun x hx=>iN i x hx
  rw [hnw] at ei nk
  generalize ctR (i+1)=R at *
  have oi:O i=O i:=rfl
  generalize O i=o at *
  simp [go_sem,hii,dr]
  refine ⟨nf,?_⟩
  refine zac (8::10::List.range' 21 25) (fun j:Nat=>[(8,.int (rsF o a ((R.take j).filter fun c=>decide (0<c.2.2)))),(21,.int j)]) (fun j=>j<=R.length) (fun j=>R.length-j) 0 (by simp) (by simp [go_sem,rsF]) (by simp [go_sem]) ?_
  intro j hj
  by_cases hjl:j<R.length
  .have hji:(j:Int)<R.length:=by omega
   have cd:=zdV hjl
   have hm:=memD (0,[],0) hjl
   obtain ⟨q1,q2⟩:=r2 _ hm
   obtain ⟨k1,k2⟩:=rk _ hm
   have k3:=fun h=>nk _ (List.mem_filter.2 ⟨hm,h⟩)
   have tj:(R.take (j+1)).filter (fun c=>decide (0<c.2.2))=(R.take j).filter (fun c=>decide (0<c.2.2))++[R[j]?.getD (0,[],0)].filter (fun c=>decide (0<c.2.2)):=by
    rw [<- List.filter_append,List.take_succ_eq_append_getElem hjl,List.getElem?_eq_getElem hjl]; rfl
   have rs:=zg8 o a ((R.take j).filter fun c=>decide (0<c.2.2)) (R[j]?.getD (0,[],0))
   have bd:=zsC o a ((R.take j).filter fun c=>decide (0<c.2.2))
   have bl:((R.take j).filter fun c=>decide (0<c.2.2)).length<=100:=by
    have:=List.length_filter_le (fun c:Ctp=>decide (0<c.2.2)) (R.take j)
    rw [List.length_take] at this; omega
   have nR:¬ R.flatMap ctF=[]:=by intro e; have:=zbI R; rw [e] at this; simp at this; omega
   have lR:=zbI R
   generalize (R.take j).filter (fun c=>decide (0<c.2.2))=X at *
   generalize R[j]?.getD (0,[],0)=c at *
   obtain ⟨n,l,t⟩:=c
   simp only [ctF] at cd q1 q2 k1 k2 k3 rs
   generalize hMC:R.flatMap ctF=MC at *
   by_cases ht:0<t
   .rw [List.filter_cons,if_pos (by simpa using ht),List.filter_nil] at tj
    rw [<- tj] at rs
    have k4:=k3 (by simpa using ht)
    have cV:=zfC o l Ni (by omega) q1 (fun v hv=>by have:=k4 v hv; omega)
    have vN:=zpP o l
    have bN:isN (iat a t):=ha.Ns.get t
    have br:=zae (a:=a) (v:=t) (by omega)
    have f1:=zaw vN bN
    have c1:=zbE (vlN o l*iat a t) f1.1 f1.2
    have m1:=zai (vlN o l*iat a t)
    have f2:fits ((n:Int)*(vlN o l*iat a t%10007)):=zaw (show isN (n:Int) from ⟨by omega,by omega⟩) m1
    have c2:=zbE ((n:Int)*(vlN o l*iat a t%10007)) f2.1 f2.2
    have m2:=zai ((n:Int)*(vlN o l*iat a t%10007))
    have na:¬ a=[]:=by rintro rfl; simp at la
    rw [li] at cV
    generalize rsF o a X=s at *
    generalize vlN o l=v at *
    generalize iat a t=y at *
    simp [go_sem,hji,cd,br,ht]
    refine ⟨nR,by kernel_rfl,?_⟩
    refine CallD.of (cV) ?_
    simp [go_sem]
    simp [go_sem,br]
    refine ⟨⟨by omega,na⟩,⟨f1.1,f1.2⟩,?_⟩
    refine CallD.of (c1) ?_
    simp [go_sem]
    refine ⟨⟨f2.1,f2.2⟩,?_⟩
    refine CallD.of (c2) ?_
    simp [go_sem]
    refine ⟨⟨by omega,by omega⟩,?_⟩
    refine ⟨by kernel_rfl,?_⟩
    simp [go_sem]
    refine ⟨⟨by omega,by omega⟩,j+1,by omega,by omega,zaa _ _ _ (by simp),?_⟩
    rw [rs]
    exact ⟨rfl,by omega⟩
   .rw [List.filter_cons,if_neg (by simpa using ht),List.filter_nil,List.append_nil] at tj
    simp [go_sem,hji,cd,ht]
    refine ⟨nR,⟨by omega,by omega⟩,j+1,by omega,by omega,zaa _ _ _ (by simp),?_⟩
    rw [tj]
    exact ⟨rfl,by omega⟩
  .have e:j=R.length:=by omega
   subst e
   have hji:¬ (R.length:Int)<R.length:=by omega
   rw [List.take_length]
   have bd:=zsC o a (R.filter fun c=>decide (0<c.2.2))
   have bl:(R.filter fun c=>decide (0<c.2.2)).length<=100:=by
    have:=List.length_filter_le (fun c:Ctp=>decide (0<c.2.2)) R
    omega
   have rm:=zul o a (R.filter fun c=>decide (0<c.2.2))
   have c1:=zbE (-rsF o a (R.filter fun c=>decide (0<c.2.2))) (by omega) (by omega)
   have ng : -rowI (iat o) (iat a) (R.filter fun c=>decide (0<c.2.2))%10007 = -rsF o a (R.filter fun c=>decide (0<c.2.2))%10007:=by omega
   rw [ng] at ei
   generalize rsF o a (R.filter fun c=>decide (0<c.2.2))=s at *
   simp [go_sem,hji]
   refine ⟨⟨by omega,by omega⟩,?_⟩
   refine CallVC.of (c1) ?_
   simp [go_sem]
   refine ⟨⟨by omega,by omega,by omega⟩,⟨by omega,by omega⟩,i+1,by omega,by omega,(Off.reset (by intro x hx; simp at hx |-; omega) (by simp) (by simp [go_sem,zaa])),?_⟩
   rw [ei,zal]
   exact ⟨⟨rfl,rfl⟩,by omega⟩
 .have e:i=37:=by omega
  subst e
  simp [go_sem]
theorem zsG (a:List Int):scS 10006 a=scS (-1) a:=zsK (by decide) a
theorem ziB (a:List Int) (ha:N38 a) :
  Con Tryz.prog 91 [.agg [.sl 37 (mat (trN 6)),.sl 37 fcF],.sl a.length (avs a)] (.own 2 38 (avs (invS (scS (-1) a)))):=by
 have c1:=zl8 a 10006 ha ⟨by decide,by decide⟩
 have c2:=zii (scS 10006 a) (zhU _ _)
 rw [zsG] at c1 c2
 rw [(zhU (-1) a).1] at c2
 generalize fcF=FC at *
 refine zab Tryz.mixed ⟨5,[],[],[]⟩ Tryz.func91 ?_
 rw [Tryz.ntmps91]
 simp [go_sem]
 refine ⟨by kernel_rfl,?_⟩
 refine CallD.of (c1) ?_
 simp [go_sem]
 refine CallD.of (c2) ?_
 simp [go_sem]
 refine ⟨by kernel_rfl,?_⟩
 simp [go_sem]
end Go.Proofs.YthhdollpkieknaaGreat


namespace Go.Proofs.YthhdollpkieknaaGreat
open Go.Abs
theorem Ch.cons {a:List Int} (h:Ch a):avs a=.int 1::avs a.tail:=by
 have a0:=zae (a:=a) (v:=0) (by rw [h.1.1]; omega)
 rw [List.drop_zero,h.2,List.drop_one] at a0
 exact a0
theorem N38.ne {a:List Int} (h:N38 a):¬ a=[]:=by rintro rfl; have:=h.1; simp at this
theorem zeR (a:List Int) (ha:Ch a) :
  Con Tryz.prog 44 [.sl a.length (avs a)] (.tup [.bool (decide (invS (scS (-1) a)=a)),.int 0]):=by
 have c1:=zaz a (by rw [ha.1.1]; omega)
 rw [ha.ck] at c1
 have cF:=za6
 have c2:=ziB a ha.1
 have c3:=zo9 (invS (scS (-1) a)) a (by rw [(zef _).1.1]; omega)
 rw [(zef (scS (-1) a)).1.1] at c3
 generalize invS (scS (-1) a)=E at *
 generalize fcF=FC at *
 refine zab Tryz.mixed ⟨5,[],[1000000+71],[]⟩ Tryz.func44 ?_
 rw [Tryz.ntmps44]
 simp [go_sem]
 refine CallVC.of (c1) ?_
 simp [go_sem]
 refine ⟨_,_,cF,?_⟩
 simp [go_sem]
 refine CallVC.of (c2) ?_
 simp [go_sem]
 refine CallVC.of (c3) ?_
 simp [go_sem]
end Go.Proofs.YthhdollpkieknaaGreat


namespace Go.Proofs.YthhdollpkieknaaGreat
def gfT:List (Nat × Nat × Nat × Nat):=[(1,1,2,2),(2,1,4,3),(2,2,7,7),(3,1,7,5),(3,2,15,12),(3,3,29,29),(4,1,8,6),(4,2,16,14),(4,3,30,33),(4,4,34,34),(5,1,12,9),(5,2,29,22),(6,1,14,10),(6,2,33,25),(7,1,16,11),(7,2,35,28),(8,1,17,13),(8,2,36,32),(9,1,22,18),(10,1,25,19),(11,1,28,20),(12,1,30,21),(13,1,32,23),(14,1,34,24),(15,1,35,26),(16,1,36,27),(17,1,37,31)]
def chT:List (Nat × Nat × Nat):=[(1,1,0),(2,2,2),(3,3,0),(4,3,1),(7,7,2),(5,7,1),(6,6,0),(8,6,1),(9,9,0),(12,9,1),(15,12,1),(10,10,0),(14,10,1),(16,14,1),(11,16,1),(13,13,0),(17,13,1)]
def sgT:List Py:=[[],[(1,[1])],[],[(1,[3])],[(10006,[3])],[],[(1,[6])],[],[(10006,[6])],[(1,[9])],[(1,[10])],[(10006,[10])],[(10006,[9])],[(1,[13])],[(10006,[10])],[(1,[9])],[(1,[10])],[(10006,[13])]]
abbrev Pr4:=Nat × Nat × Nat × Nat
def nd2 (p:Pr4):Nat:=nd p.1+nd p.2.1
def ham (b:List Int) (p:Pr4):Prop:=(iat b p.2.2.1+iat b p.2.2.2)%10007=0
def syc (a:List Int) (p:Pr4):Prop:=(iat a p.2.2.1+iat a p.2.2.2)%10007=iat a p.1*iat a p.2.1%10007
def sgP (j:Nat):Py:=sgT[j]?.getD []
def lnk (j m:Nat):Bool:=gfT.any fun p=>Nat.beq (nd2 p) (nd j) && (Nat.beq p.2.2.1 j && Nat.beq p.2.2.2 m || Nat.beq p.2.2.1 m && Nat.beq p.2.2.2 j)
def ngP:Py->Py
 | []=>[]
 | t::P=>(10007-t.1,t.2)::ngP P
theorem zsj (r:Nat->Int):∀ P:Py,(P.all fun t=>decide (t.1<=10007))=true->evp r (ngP P)%10007=(-evp r P)%10007
 | [],_=>rfl
 | t::P,h=>by
  simp only [List.all_cons,Bool.and_eq_true,decide_eq_true_eq] at h
  have ih:=zsj r P h.2
  rw [ngP,evp,evp]
  simp only
  have e:((10007-t.1:Nat):Int)*evm r t.2=10007*evm r t.2-(t.1:Int)*evm r t.2:=by
   rw [Int.ofNat_sub h.1,Int.sub_mul]; rfl
  rw [e]
  generalize (t.1:Int)*evm r t.2=x at *
  omega
def zvn (known:List Nat) (s:Nat × Nat × Nat):Bool :=
 if Nat.beq s.2.2 0 then decide (sgP s.1=[(1,[s.1])])
 else if Nat.beq s.2.2 2 then lnk s.1 s.1 && decide (sgP s.1=[])
 else lnk s.1 s.2.1 && (known.contains s.2.1 && (decide (sgP s.1=ngP (sgP s.2.1)) && (decide (nd s.2.1=nd s.1) && (sgP s.2.1).all fun t=>decide (t.1<=10007))))
def chC:List Nat->List (Nat × Nat × Nat)->Bool
 | _,[]=>true
 | known,s::L=>zvn known s && chC (s.1::known) L
theorem zk0 {b:List Int} {n:Nat} (h:∀ p∈gfT,nd2 p<=n->ham b p) {j m:Nat} (hj:nd j<=n) (hl:lnk j m=true):(iat b j+iat b m)%10007=0:=by
 unfold lnk at hl
 obtain ⟨p,hp,k⟩:=List.any_eq_true.1 hl
 simp only [Bool.and_eq_true,Bool.or_eq_true] at k
 have hn:=Nat.eq_of_beq_eq_true k.1
 have hh:=h p hp (by omega)
 unfold ham at hh
 rcases k.2 with ⟨k1,k2⟩ | ⟨k1,k2⟩
 .rw [Nat.eq_of_beq_eq_true k1,Nat.eq_of_beq_eq_true k2] at hh; exact hh
 .rw [Nat.eq_of_beq_eq_true k1,Nat.eq_of_beq_eq_true k2,Int.add_comm] at hh; exact hh
theorem zvh {b:List Int} {n:Nat} (h:∀ p∈gfT,nd2 p<=n->ham b p):∀ (L:List (Nat × Nat × Nat)) (known:List Nat),chC known L=true->(∀ j∈known,nd j<=n->evp (iat b) (sgP j)%10007=iat b j%10007) ->
  ∀ j,(j∈known\/∃ s∈L,s.1=j)->nd j<=n->evp (iat b) (sgP j)%10007=iat b j%10007
 | [],known,_,hk,j,hj,hn=>by
  rcases hj with hj | ⟨s,hs,_⟩
  .exact hk j hj hn
  .simp at hs
 | s::L,known,hc,hk,j,hj,hn=>by
  simp only [chC,Bool.and_eq_true] at hc
  refine zvh h L (s.1::known) hc.2 (fun m hm hmn=>?_) j ?_ hn
  .rcases List.mem_cons.1 hm with rfl | hm
   .have hs:=hc.1
    unfold zvn at hs
    split at hs
    .rw [of_decide_eq_true hs,zmg]
    .split at hs
     .simp only [Bool.and_eq_true,decide_eq_true_eq] at hs
      have z:=zk0 h hmn hs.1
      rw [hs.2]
      have z2:2*iat b s.1%10007=2*0%10007:=by rw [Int.two_mul]; exact z
      exact (zoq 5004 (by decide) z2).symm
     .simp only [Bool.and_eq_true,decide_eq_true_eq] at hs
      obtain ⟨a1,a2,a3,a4,a5⟩:=hs
      have z:=zk0 h hmn a1
      have kn:=hk s.2.1 (by simpa using a2) (by omega)
      rw [a3,zsj _ _ a5]
      omega
   .exact hk m hm hmn
  .rcases hj with hj | ⟨s',hs,e⟩
   .exact .inl (List.mem_cons_of_mem _ hj)
   .rcases List.mem_cons.1 hs with rfl | hs
    .exact .inl (by rw [<- e]; simp)
    .exact .inr ⟨s',hs,e⟩
theorem zqs:chC [] chT=true:=by decide +kernel
theorem zww {j:Nat} (h:j<38) (h0:0<j) (h5:nd j<=5):∃ s∈chT,s.1=j:=by
 have ok:(List.range 38).all (fun j=>decide (j=0) || (decide (5<nd j) || chT.any fun s=>decide (s.1=j)))=true:=by decide +kernel
 have k:=List.all_eq_true.1 ok j (List.mem_range.2 h)
 simp only [Bool.or_eq_true,decide_eq_true_eq,List.any_eq_true] at k
 rcases k with k | k | ⟨s,h1,h2⟩
 .omega
 .omega
 .exact ⟨s,h1,h2⟩
def rdP (n j:Nat):Py:=if Nat.blt (nd j) n then (if Nat.beq j 0 then [] else sgP j) else vb 0 j
theorem zrI:gfT.all (fun p=>decide (p.1<38) && (decide (p.2.1<38) && (decide (p.2.2.1<38) && (decide (p.2.2.2<38) && (decide (nd2 p<=6) && decide (addP (expP (rdP (nd2 p)) p.2.2.1) (expP (rdP (nd2 p)) p.2.2.2)=addP (mulP (expP (rdP (nd2 p)) p.1) (expP (rdP (nd2 p)) p.2.1)) (addP [(1,[p.2.2.1])] [(1,[p.2.2.2])])))))))=true:=by decide +kernel
theorem zod {b:List Int} (hb:Inf b) {n:Nat} (h:∀ p∈gfT,nd2 p<=n->ham b p) {p:Pr4} (hp:p∈gfT) (hn:nd2 p=n+1):syc (expS b) p ↔ ham b p:=by
 have k:=List.all_eq_true.1 zrI p hp
 simp only [Bool.and_eq_true,decide_eq_true_eq] at k
 obtain ⟨k1,k2,k3,k4,k6,k5⟩:=k
 rw [hn] at k5 k6
 have hr:∀ v,v<38->evp (iat b) (rdP (n+1) v)%10007=iat b v%10007:=fun v hv=>by
  unfold rdP
  split
  .rename_i hl
   have hl:nd v<n+1:=by simp [Nat.blt] at hl; omega
   split
   .rename_i e
    rw [Nat.eq_of_beq_eq_true e,hb.2]; rfl
   .rename_i e
    have hv0:0<v:=by
     rcases Nat.eq_zero_or_pos v with rfl | h0
     .exact (e rfl).elim
     .exact h0
    exact zvh h chT [] zqs (by simp) v (.inr (zww hv hv0 (by omega))) (by omega)
  .exact zie (by rw [hb.2]; rfl) (fun j _=>by rw [Nat.zero_add]) hv
 have e:=fun i hi=>zfH (iat b) hr (i:=i) hi
 have m:=fun i hi=>zbH b (i:=i) hi
 have l:=congrArg (fun P=>evp (iat b) P%10007) k5
 rw [zbS,zbS] at l
 have l2:evp (iat b) (mulP (expP (rdP (n+1)) p.1) (expP (rdP (n+1)) p.2.1))%10007=iat (expS b) p.1*iat (expS b) p.2.1%10007:=by
  rw [zed]
  exact zas ((e _ k1).trans (m _ k1).symm) ((e _ k2).trans (m _ k2).symm)
 have l3:evp (iat b) (addP [(1,[p.2.2.1])] [(1,[p.2.2.2])])%10007=(iat b p.2.2.1+iat b p.2.2.2)%10007:=by
  rw [zbS,zmg,zmg]
 have l4:=(e _ k3).trans (m _ k3).symm
 have l5:=(e _ k4).trans (m _ k4).symm
 unfold syc ham
 generalize iat (expS b) p.1*iat (expS b) p.2.1=x1 at *
 generalize iat b p.2.2.1+iat b p.2.2.2=x2 at *
 generalize iat (expS b) p.2.2.1=x3 at *
 generalize iat (expS b) p.2.2.2=x4 at *
 omega
theorem zjD {p:Pr4} (hp:p∈gfT):0<nd2 p/\nd2 p<=6:=by
 have ok:gfT.all (fun p=>decide (0<nd2 p) && decide (nd2 p<=6))=true:=by decide +kernel
 have k:=List.all_eq_true.1 ok p hp
 simp only [Bool.and_eq_true,decide_eq_true_eq] at k
 exact k
theorem zsA {b:List Int} (hb:Inf b):∀ n,(∀ p∈gfT,nd2 p<=n->syc (expS b) p) ↔ ∀ p∈gfT,nd2 p<=n->ham b p
 | 0=>⟨fun _ p hp h=>by have:=(zjD hp).1; omega,fun _ p hp h=>by have:=(zjD hp).1; omega⟩
 | n+1=>by
  have ih:=zsA hb n
  constructor
  .intro h p hp hn
   have hh:=ih.1 fun q hq hqn=>h q hq (by omega)
   rcases Nat.lt_or_ge n (nd2 p) with hl | hl
   .exact (zod hb hh hp (by omega)).1 (h p hp hn)
   .exact hh p hp hl
  .intro h p hp hn
   have hh:∀ q∈gfT,nd2 q<=n->ham b q:=fun q hq hqn=>h q hq (by omega)
   rcases Nat.lt_or_ge n (nd2 p) with hl | hl
   .exact (zod hb hh hp (by omega)).2 (h p hp hn)
   .exact ih.2 hh p hp hl
def bpF (f:Pr4->Bool) (most:Nat) (p:Pr4):Nat:=if most<nd2 p then most else if f p then most else nd2 p-1
def bpS (f:Pr4->Bool) (L:List Pr4):Nat:=L.foldl (bpF f) 6
theorem zkV (f:Pr4->Bool) (L:List Pr4) (hL:∀ p∈L,0<nd2 p/\nd2 p<=6):bpS f L<=6/\(∀ p∈L,nd2 p<=bpS f L->f p=true)/\(bpS f L=6\/∃ p∈L,nd2 p=bpS f L+1/\f p=false):=by
 have key:∀ (L:List Pr4) (M:List Pr4) (most:Nat),(∀ p∈L,0<nd2 p/\nd2 p<=6)->most<=6/\(∀ p∈M,nd2 p<=most->f p=true)/\(most=6\/∃ p∈M,nd2 p=most+1/\f p=false) ->
   L.foldl (bpF f) most<=6/\(∀ p∈M++L,nd2 p<=L.foldl (bpF f) most->f p=true)/\(L.foldl (bpF f) most=6\/∃ p∈M++L,nd2 p=L.foldl (bpF f) most+1/\f p=false):=by
  intro L
  induction L with
  | nil=>intro M most _ h; rw [List.append_nil]; exact h
  | cons p L ih =>
   intro M most hL h
   obtain ⟨p1,p6⟩:=hL p (by simp)
   obtain ⟨h1,h2,h3⟩:=h
   rw [List.foldl_cons,show M++p::L=(M++[p])++L by simp]
   refine ih (M++[p]) (bpF f most p) (fun q hq=>hL q (by simp [hq])) ?_
   unfold bpF
   split
   .rename_i hl
    refine ⟨h1,fun q hq hqn=>?_,?_⟩
    .rcases List.mem_append.1 hq with hq | hq
     .exact h2 q hq hqn
     .rw [List.mem_singleton.1 hq] at hqn; omega
    .rcases h3 with h3 | ⟨q,q1,q2⟩
     .exact .inl h3
     .exact .inr ⟨q,by simp [q1],q2⟩
   .rename_i hl
    split
    .rename_i hf
     refine ⟨h1,fun q hq hqn=>?_,?_⟩
     .rcases List.mem_append.1 hq with hq | hq
      .exact h2 q hq hqn
      .rw [List.mem_singleton.1 hq]; exact hf
     .rcases h3 with h3 | ⟨q,q1,q2⟩
      .exact .inl h3
      .exact .inr ⟨q,by simp [q1],q2⟩
    .rename_i hf
     refine ⟨by omega,fun q hq hqn=>?_,.inr ⟨p,by simp,by omega,by simpa using hf⟩⟩
     rcases List.mem_append.1 hq with hq | hq
     .exact h2 q hq (by omega)
     .rw [List.mem_singleton.1 hq] at hqn; omega
 have:=key L [] 6 hL ⟨by omega,by simp,.inl rfl⟩
 simpa [bpS] using this
theorem zwl {f g:Pr4->Bool} {L:List Pr4} (hL:∀ p∈L,0<nd2 p/\nd2 p<=6) (h:∀ n,(∀ p∈L,nd2 p<=n->f p=true) ↔ ∀ p∈L,nd2 p<=n->g p=true):bpS f L=bpS g L:=by
 obtain ⟨f1,f2,f3⟩:=zkV f L hL
 obtain ⟨g1,g2,g3⟩:=zkV g L hL
 have a:=(h (bpS f L)).1 f2
 have b:=(h (bpS g L)).2 g2
 rcases Nat.lt_trichotomy (bpS f L) (bpS g L) with hl | hl | hl
 .rcases f3 with f3 | ⟨p,p1,p2,p3⟩
  .omega
  .rw [b p p1 (by omega)] at p3; exact absurd p3 (by decide)
 .exact hl
 .rcases g3 with g3 | ⟨p,p1,p2,p3⟩
  .omega
  .rw [a p p1 (by omega)] at p3; exact absurd p3 (by decide)
def sycB (a:List Int) (p:Pr4):Bool:=decide ((iat a p.2.2.1+iat a p.2.2.2)%10007=iat a p.1*iat a p.2.1%10007)
def hamB (b:List Int) (p:Pr4):Bool:=decide ((iat b p.2.2.1+iat b p.2.2.2)%10007=0)
theorem zxA {b:List Int} (hb:Inf b):bpS (sycB (expS b)) gfT=bpS (hamB b) gfT :=
 zwl (fun p hp=>zjD hp) fun n=>by
  have:=zsA hb n
  unfold sycB hamB
  simp only [decide_eq_true_eq]
  exact this
end Go.Proofs.YthhdollpkieknaaGreat


namespace Go.Proofs.YthhdollpkieknaaGreat
open Go.Abs
def noN (t:List Int):Nat->List (List Int)
 | 0=>List.replicate t.length []
 | i+1 =>
  let k:=(parL t)[i]?.getD 0
  if 0<=k then
   let J:=(noN t i).set i ((noN t i)[i]?.getD []++[k])
   J.set k.toNat (J[k.toNat]?.getD []++[(i:Int)])
  else noN t i
def noOk (t:List Int):Bool:=decide (t.length<=6) && ((t.all fun x=>decide (0<=x) && decide (x<=1000)) && ((List.range t.length).all fun i=>decide (-1<=(parL t)[i]?.getD 0) && (decide ((parL t)[i]?.getD 0<i) && decide ((noN t i)[i]?.getD []=[]))) && ((List.range (t.length+1)).all fun i=>decide ((noN t i).length=t.length) && (noN t i).all fun r=>decide (r.length<=10) && r.all fun x=>decide (0<=x) && decide (x<=100)))
theorem znO (J:List (List Int)) (e:TypeId) (n:Nat):zax (.own e n (nrA J))=true:=by
 show zav (nrA J)=true
 induction J with
 | nil=>rfl
 | cons r J ih =>
  show (zax (nrC r) && zav (nrA J))=true
  rw [ih,Bool.and_true]
  unfold nrC
  by_cases h:r=[]
  .rw [if_pos h]; rfl
  .rw [if_neg h]
   show zav (avs r)=true
   exact zos r
theorem zsH (n:Nat):nrA (List.replicate n [])=List.replicate n (.val (.slice none 0 0)):=by
 simp [nrA,nrC]
theorem zlm (t:List Int) (h:noOk t=true):Con Tryz.prog 317 [.sl t.length (avs t)] (.own 149 t.length (nrA (noN t t.length))):=by
 unfold noOk at h
 simp only [Bool.and_eq_true,decide_eq_true_eq,List.all_eq_true,List.mem_range] at h
 obtain ⟨t6,⟨bt,hp⟩,hl⟩:=h
 have cP:=zf2 t (by omega) bt
 have lP:=zdQ t
 have n0:noN t 0=List.replicate t.length []:=rfl
 have st:∀ i,noN t (i+1)=if 0<=(parL t)[i]?.getD 0 then ((noN t i).set i ((noN t i)[i]?.getD []++[(parL t)[i]?.getD 0])).set ((parL t)[i]?.getD 0).toNat ((((noN t i).set i ((noN t i)[i]?.getD []++[(parL t)[i]?.getD 0]))[((parL t)[i]?.getD 0).toNat]?.getD [])++[(i:Int)]) else noN t i:=fun i=>rfl
 generalize parL t=P at *
 generalize noN t=N at *
 have z0:nrA (N 0)=List.replicate t.length (.val (.slice none 0 0)):=by rw [n0,zsH]
 have hf:=znO (N t.length) 149 t.length
 refine zab Tryz.mixed ⟨6,[],[],[]⟩ Tryz.func317 (hf:=hf) ?_
 rw [Tryz.ntmps317]
 simp [go_sem]
 refine ⟨⟨by omega,by omega⟩,?_⟩
 refine CallVC.of (cP) ?_
 simp [go_sem]
 refine zac (3::4::5::List.range' 12 28) (fun i:Nat=>[(3,.own 149 t.length (nrA (N i))),(12,.int i)]) (fun i=>i<=t.length) (fun i=>t.length-i) 0 (by simp) (by simp [go_sem,z0]) (by simp [go_sem]) ?_
 intro i hi
 by_cases hil:i<t.length
 .have hii:(i:Int)<t.length:=by omega
  obtain ⟨p1,p2,f1⟩:=hp i hil
  have gP:(avs P)[i]?=some (.int (P[i]?.getD 0)):=zbd (by omega)
  have st:=st i
  obtain ⟨l1,l2⟩:=hl i (by omega)
  generalize P[i]?.getD 0=k at *
  by_cases hk:0<=k
  .rw [if_pos hk] at st
   obtain ⟨q,rfl⟩:∃ q:Nat,k=q:=⟨k.toNat,by omega⟩
   rw [Int.toNat_natCast,f1,List.nil_append,List.getElem?_set_ne (by omega)] at st
   have g1:(nrA (N i))[i]?=some (.val (.slice none 0 0)):=by rw [zdm (by omega),f1]; rfl
   have e1:(nrA (N i)).set i (.own 3 1 [.int q])=nrA ((N i).set i [(q:Int)]):=zdp (N i) i [(q:Int)]
   have g2:=zdm (J:=(N i).set i [(q:Int)]) (k:=q) (by rw [List.length_set]; omega)
   have lJ:((N i).set i [(q:Int)]).length=t.length:=by rw [List.length_set]; exact l1
   have nl:=zbv (N i)
   rw [List.getElem?_set_ne (by omega)] at g2
   have hm:(N i)[q]?.getD []∈N i:=memD [] (by omega)
   have r10:=(l2 _ hm).1
   generalize (N i)[q]?.getD []=r at *
   simp [go_sem,hii,gP,g1]
   refine ⟨by omega,by omega,?_⟩
   simp only [e1]
   generalize hJ:(N i).set i [(q:Int)]=J at *
   have e2:=zdp J q (r++[(i:Int)])
   rw [zej] at e2
   have lj:=zbv J
   by_cases hr:r=[]
   .subst hr
    have g2:(nrA J)[q]?=some (.val (.slice none 0 0)):=g2
    simp [go_sem,g2]
    exact ⟨by omega,by omega,⟨by omega,by omega⟩,i+1,by omega,by omega,zaa _ _ _ (by simp),by rw [st]; exact e2,by omega⟩
   .have g3:(nrA J)[q]?=some (.own 3 r.length (avs r)):=by rw [g2]; unfold nrC; rw [if_neg hr]
    simp [go_sem,g3]
    exact ⟨⟨by omega,by omega⟩,by omega,by omega,⟨by omega,by omega⟩,i+1,by omega,by omega,zaa _ _ _ (by simp),by rw [st]; exact e2,by omega⟩
  .rw [if_neg hk] at st
   simp [go_sem,hii,gP,hk]
   exact ⟨⟨by omega,by omega⟩,i+1,by omega,by omega,zaa _ _ _ (by simp),by rw [st],by omega⟩
 .have e:i=t.length:=by omega
  subst e
  simp [go_sem]
def mvgR (b:Nat) (r:List Int) (k:Nat):List Int:=r.map (fun o=>(b:Int)+o)++if k=0 then [0] else []
def mvgL (b:Nat) (J:List (List Int)):List (List Int):=(List.range J.length).map fun k=>mvgR b (J[k]?.getD []) k
def grN (u v:List Int):List (List Int):=noN u u.length++mvgL u.length (noN v v.length)
def grJ (u v:List Int):List (List Int):=(grN u v).set 0 ((grN u v)[0]?.getD []++[(u.length:Int)])
def grF (u v:List Int):List Int:=tfF 7 (grJ u v) 0 (-1)
def grOk (u v:List Int):Bool:=noOk u && (noOk v && (decide (1<=u.length) && (decide (1<=v.length) && (((mvgL u.length (noN v v.length)).all fun r=>decide (r≠[] )) && (decide (tfOk 7 (grJ u v) 0 (-1)=true) && decide ((grF u v).length<=1000))))))
theorem zqF (b:Nat) (J:List (List Int)):(mvgL b J).length=J.length:=by simp [mvgL]
theorem ztQ (b:Nat) (J:List (List Int)) {k:Nat} (h:k<J.length):(mvgL b J)[k]?.getD []=mvgR b (J[k]?.getD []) k:=by simp [mvgL,h]
theorem zqE {J:List (List Int)} {k:Nat} (h:k<J.length):(frzL (nrA J)).drop k=frz (nrC (J[k]?.getD []))::(frzL (nrA J)).drop (k+1):=by
 have l:(frzL (nrA J)).length=J.length:=by rw [zbW,List.length_map,zbv]
 rw [List.drop_eq_getElem_cons (by omega)]
 congr 1
 have:=zdm h
 rw [List.getElem?_eq_getElem (by rw [zbv]; exact h)] at this
 simp only [zbW,List.getElem_map]
 rw [Option.some.inj this]
theorem zs1 {r:List Int} (h:¬ r=[]):frz (nrC r)=.sl r.length (avs r):=by
 unfold nrC
 rw [if_neg h]
 show AV.sl r.length (frzL (avs r))=_
 rw [zcB]
theorem ztl (A B:List (List Int)):nrA (A++B)=nrA A++nrA B:=by simp [nrA]
theorem zlb (xs:List Int) (hl:xs.length<=1048576):Con Tryz.prog 318 [.sl xs.length (avs xs)] (.own 3 xs.length (avs xs)):=by
 refine zgA Tryz.mixed ⟨3,[],[],[]⟩ Tryz.func318 ?_
 rw [Tryz.ntmps318]
 simp [go_sem]
 exact ⟨by omega,by omega⟩
theorem zi9 (u v:List Int) (h:grOk u v=true):Con Tryz.prog 273 [.sl u.length (avs u),.sl 1 [.int 0],.sl 1 [.sl v.length (avs v)]] (.own 2 (grF u v).length (avs (grF u v))):=by
 unfold grOk at h
 simp only [Bool.and_eq_true,decide_eq_true_eq,List.all_eq_true] at h
 obtain ⟨nu,nv,u1,v1,mne,tok,gl⟩:=h
 have c1:=zlm u nu
 have c2:=zlm v nv
 have cT:=zeq 7 (grJ u v) 0 (-1) tok
 have eG:tfF 7 (grJ u v) 0 (-1)=grF u v:=rfl
 rw [eG] at cT
 clear eG
 unfold noOk at nu nv
 simp only [Bool.and_eq_true,decide_eq_true_eq,List.all_eq_true,List.mem_range] at nu nv
 obtain ⟨u6,_,hu⟩:=nu
 obtain ⟨v6,_,hv⟩:=nv
 obtain ⟨lu,_⟩:=hu u.length (by omega)
 obtain ⟨lv,bv⟩:=hv v.length (by omega)
 have lm:=zqF u.length (noN v v.length)
 have am:=fun k (h:k<(noN v v.length).length)=>ztQ u.length (noN v v.length) h
 have eJ:grJ u v=(noN u u.length++mvgL u.length (noN v v.length)).set 0 ((noN u u.length++mvgL u.length (noN v v.length))[0]?.getD []++[(u.length:Int)]):=rfl
 have lJ:(grJ u v).length=u.length+v.length:=by rw [eJ,List.length_set,List.length_append,lu,lm,lv]
 rw [lJ] at cT
 rw [List.getElem?_append_left (by omega)] at eJ
 have b0:=((hu u.length (by omega)).2 _ (memD [] (show 0<(noN u u.length).length by omega))).1
 generalize grF u v=G at *
 generalize grJ u v=J at *
 generalize mvgL u.length (noN v v.length)=M at *
 generalize noN v v.length=V at *
 generalize noN u u.length=U at *
 refine zab Tryz.mixed ⟨16,[28],[],[]⟩ Tryz.func273 ?_
 rw [Tryz.ntmps273]
 simp [go_sem]
 refine CallVC.of (c1) ?_
 simp [go_sem]
 refine zac (7::8::9::10::11::12::13::15::List.range' 20 61) (fun k:Nat=>[(7,.own 149 (if k=0 then u.length else u.length+v.length) (nrA (if k=0 then U else J))),(20,.int k)]) (fun k=>k<=1) (fun k=>1-k) 0 (by simp) (by simp [go_sem]) (by simp [go_sem]) ?_
 intro k hk
 by_cases hk0:k=0
 .subst hk0
  simp only [if_true]
  simp [go_sem]
  refine CallVC.of (c2) ?_
  simp [go_sem]
  refine zac (7::11::12::13::15::List.range' 30 33) (fun k:Nat=>[(7,.own 149 (u.length+k) (nrA (U++M.take k))),(30,.int k)]) (fun k=>k<=v.length) (fun k=>v.length-k) 0 (by simp) (by simp [go_sem]) (by simp [go_sem]) ?_
  intro k hk
  by_cases hkl:k<v.length
  .have hki:(k:Int)<v.length:=by omega
   have md:=zqE (J:=V) (k:=k) (by omega)
   have mk:=am k (by omega)
   have tk:M.take (k+1)=M.take k++[M[k]?.getD []]:=by
    rw [List.take_succ_eq_append_getElem (by omega),List.getElem?_eq_getElem (by omega)]; rfl
   have hne:=mne _ (memD [] (show k<M.length by omega))
   have e3:nrA (U++M.take (k+1))=nrA (U++M.take k)++[.own 3 (M[k]?.getD []).length (avs (M[k]?.getD []))]:=by
    rw [tk,<- List.append_assoc,ztl]
    congr 1
    show [nrC _]=_
    unfold nrC
    rw [if_neg hne]
   obtain ⟨r10,rb⟩:=bv _ (memD [] (show k<V.length by omega))
   have nF:¬ frzL (nrA V)=[]:=by intro e; have:=congrArg List.length e; rw [zbW,List.length_map,zbv,lv] at this; simp only [List.length_nil] at this; omega
   have ln:=zbv (U++M.take k)
   rw [List.length_append,List.length_take] at ln
   rw [mk] at e3 hne
   generalize V[k]?.getD []=r at *
   by_cases hr:r=[]
   .subst hr
    have md:(frzL (nrA V)).drop k=.val (.slice none 0 0)::(frzL (nrA V)).drop (k+1):=md
    simp [go_sem,hki,md]
    refine ⟨nF,?_⟩
    refine zac (13::15::List.range' 38 11) (fun j:Nat=>[(13,.own 3 0 []),(38,.int j)]) (fun j=>j=0) (fun _=>0) 0 rfl (by simp [go_sem]) (by simp [go_sem]) ?_
    intro j hj
    subst hj
    by_cases k0:k=0
    .subst k0
     have e4:nrA (U++M.take 1)=nrA U++[.own 3 1 [.int 0]]:=by simpa [mvgR,avs] using e3
     have lnU:=zbv U
     simp [go_sem]
     exact ⟨⟨by omega,by omega,by omega⟩,1,by omega,by omega,(Off.reset (by intro x hx; simp at hx |-; omega) (by simp) (by simp [go_sem,zaa])),⟨rfl,e4.symm⟩,rfl⟩
    .exact absurd (by simp [mvgR,k0]) hne
   .rw [zs1 hr] at md
    have lM:(r.map fun o=>(u.length:Int)+o).length=r.length:=by simp
    have mm:mvgR u.length r k=(r.map fun o=>(u.length:Int)+o)++if k=0 then [0] else []:=rfl
    have aM:∀ j,j<r.length->(r.map fun o=>(u.length:Int)+o).take (j+1)=(r.map fun o=>(u.length:Int)+o).take j++[(u.length:Int)+iat r j]:=fun j h=>by
     rw [List.take_succ_eq_append_getElem (by omega),List.getElem_map]
     unfold iat
     rw [List.getElem?_eq_getElem h]; rfl
    have tM:(r.map fun o=>(u.length:Int)+o).take r.length=r.map fun o=>(u.length:Int)+o:=List.take_of_length_le (by omega)
    rw [mm] at e3
    generalize (r.map fun o=>(u.length:Int)+o)=Q at *
    simp [go_sem,hki,md]
    refine ⟨nF,?_⟩
    refine zac (13::15::List.range' 38 11) (fun j:Nat=>[(13,.own 3 j (avs (Q.take j))),(38,.int j)]) (fun j=>j<=r.length) (fun j=>r.length-j) 0 (by simp) (by simp [go_sem]) (by simp [go_sem]) ?_
    intro j hj
    by_cases hjl:j<r.length
    .have hji:(j:Int)<r.length:=by omega
     have dr:=zae hjl
     have bj:=rb _ (memD 0 hjl)
     have ej:r[j]?.getD 0=iat r j:=rfl
     rw [ej] at bj
     have a1:=aM j hjl
     generalize iat r j=x at *
     simp [go_sem,hji,dr]
     exact ⟨hr,⟨by omega,by omega⟩,⟨by omega,by omega,by omega⟩,⟨by omega,by omega⟩,j+1,by omega,by omega,zaa _ _ _ (by simp),by rw [a1,zal]; exact ⟨rfl,rfl⟩,by omega⟩
    .have e:j=r.length:=by omega
     subst e
     rw [tM]
     by_cases k0:k=0
     .subst k0
      have e4:nrA (U++M.take 1)=nrA U++[.own 3 (r.length+1) (avs Q++[.int 0])]:=by
       have:=e3
       rw [if_pos rfl,zal,List.length_append,lM,List.take_zero,List.append_nil] at this
       exact this
      have lnU:=zbv U
      simp [go_sem]
      exact ⟨⟨by omega,by omega,by omega⟩,⟨by omega,by omega,by omega⟩,1,by omega,by omega,(Off.reset (by intro x hx; simp at hx |-; omega) (by simp) (by simp [go_sem,zaa])),⟨rfl,e4.symm⟩,rfl⟩
     .rw [if_neg k0,List.append_nil,lM] at e3
      simp [go_sem,k0]
      exact ⟨⟨by omega,by omega,by omega⟩,⟨by omega,by omega⟩,k+1,by omega,by omega,(Off.reset (by intro x hx; simp at hx |-; omega) (by simp) (by simp [go_sem,zaa])),⟨rfl,e3.symm⟩,by omega⟩
  .have e:k=v.length:=by omega
   subst e
   have hki:¬ (v.length:Int)<v.length:=by omega
   have tM:M.take v.length=M:=List.take_of_length_le (by omega)
   rw [tM]
   simp [go_sem,hki]
   refine ⟨by kernel_rfl,by omega,?_⟩
   have g0:=zdm (J:=U++M) (k:=0) (by rw [List.length_append]; omega)
   rw [List.getElem?_append_left (by omega)] at g0
   have e5:=zdp (U++M) 0 (U[0]?.getD []++[(u.length:Int)])
   rw [zej,<- eJ] at e5
   have ln:=zbv (U++M)
   rw [List.length_append] at ln
   generalize U[0]?.getD []=r at *
   by_cases hr:r=[]
   .subst hr
    have g0:(nrA (U++M))[0]?=some (.val (.slice none 0 0)):=g0
    have cC:Con Tryz.prog 318 [.sl 0 []] (.own 3 0 []):=zlb [] (by simp)
    simp [go_sem,g0]
    refine CallD.of (cC) ?_
    simp [go_sem]
    refine ⟨by omega,by omega,?_⟩
    refine ⟨by kernel_rfl,?_⟩
    simp [go_sem]
    refine ⟨1,by omega,by omega,(Off.reset (by intro x hx; simp at hx |-; omega) (by simp) (by simp [go_sem,zaa])),?_⟩
    simp only [show ¬ (1:Nat)=0 from by omega,if_false]
    exact ⟨⟨fun h=>h.elim,e5⟩,rfl⟩
   .have g3:(nrA (U++M))[0]?=some (.own 3 r.length (avs r)):=by rw [g0]; unfold nrC; rw [if_neg hr]
    have cC:=zlb r (by omega)
    simp [go_sem,g3]
    refine CallD.of (cC) ?_
    simp [go_sem]
    refine ⟨⟨by omega,by omega⟩,by omega,by omega,?_⟩
    refine ⟨by kernel_rfl,?_⟩
    simp [go_sem]
    refine ⟨1,by omega,by omega,(Off.reset (by intro x hx; simp at hx |-; omega) (by simp) (by simp [go_sem,zaa])),?_⟩
    simp only [show ¬ (1:Nat)=0 from by omega,if_false]
    exact ⟨⟨fun h=>h.elim,e5⟩,rfl⟩
 .have e:k=1:=by omega
  subst e
  simp only [show ¬ (1:Nat)=0 by omega,if_false]
  simp [go_sem]
  refine CallVC.of (cT) ?_
  simp [go_sem]
end Go.Proofs.YthhdollpkieknaaGreat


namespace Go.Proofs.YthhdollpkieknaaGreat
open Go.Abs
theorem zcz (a b:List Int) (ha:a.length<=1000000) (hb:b.length<=1000000):Con Tryz.prog 293 [.sl a.length (avs a),.sl b.length (avs b)] (.bool (ltT a b)):=by
 unfold ltT
 have c:=ziY b a (by omega) (by omega)
 by_cases h:a.length=b.length
 .have hi:(a.length:Int)=b.length:=by omega
  rw [if_pos h]
  refine zab Tryz.mixed ⟨5,[],[],[]⟩ Tryz.func293 ?_
  rw [Tryz.ntmps293]
  simp [go_sem,hi]
  refine CallVC.of (c) ?_
  simp [go_sem]
 .have hi:¬ (a.length:Int)=b.length:=by omega
  rw [if_neg h]
  refine zab Tryz.mixed ⟨5,[],[],[]⟩ Tryz.func293 ?_
  rw [Tryz.ntmps293]
  simp [go_sem,hi]
theorem zfJ (bs:List (List Int)) (hl:∀ b∈bs,b.length<=1000000) (hn:bs.length<=1000):GCon Tryz.prog 252 [.sl bs.length (mat bs)] (.sl bs.length (mat (srtT bs))) [.any]:=by
 refine zaf Tryz.mixed ⟨7,[7,36,48],[],[]⟩ [] Tryz.func252 ?_
 rw [Tryz.ntmps252]
 simp [go_sem]
 refine zac ([3,4,5,6]++List.range' 8 41) (fun i:Nat=>[(3,.sl i (mat (srtT (bs.take i)))),(4,.int i)]) (fun i=>i<=bs.length) (fun i=>bs.length-i) 0 (by simp) (by simp [go_sem,srtT,mat]) (by simp [go_sem]) ?_
 intro i hi
 simp [go_sem]
 refine ⟨fun h=>?_,fun h=>?_⟩ <;> simp at h
 .have hif:i<bs.length:=by omega
  have hb:=memD [] hif
  have ht:srtT (bs.take (i+1))=insT (bs[i]?.getD []) (srtT (bs.take i)):=by
   rw [List.take_add_one,List.getElem?_eq_getElem hif,Option.toList_some,zfV]; rfl
  have l1:=hl _ hb
  have sl:∀ s∈srtT (bs.take i),s.length<=1000000:=fun s hs=>hl s (List.mem_of_mem_take ((za1 _).mem_iff.1 hs))
  have il:(srtT (bs.take i)).length=i:=by rw [zcy]; simp; omega
  have mi:=zak hif
  have neb:¬ bs=[]:=by rintro rfl; simp at hif
  generalize hN:srtT (bs.take (i+1))=S2 at *
  generalize srtT (bs.take i)=S at *
  generalize bs[i]?.getD []=p at *
  have cO:=zbp p (by omega)
  subst il
  simp [go_sem]
  refine zac (5::List.range' 14 18) (fun a:Nat=>[(5,.int a)]) (fun a=>a<=S.length/\atT p S=a+atT p (S.drop a)) (fun a=>S.length-a) 0 (by simp) (by simp [go_sem]) (by simp [go_sem]) ?_
  rintro a ⟨ha,hat⟩
  by_cases has:a<S.length
  .have has':(a:Int)<S.length:=by omega
   have hd:S.drop a=S[a]?.getD []::S.drop (a+1):=by rw [List.drop_eq_getElem_cons has]; simp [has]
   rw [hd,atT] at hat
   have hg:=zak has
   have hsl:=sl _ (memD [] has)
   have neS:¬ S=[]:=by rintro rfl; simp at has
   have cL:=zcz p (S[a]?.getD []) (by omega) (by omega)
   by_cases hlt:ltT p (S[a]?.getD [])=true
   .rw [if_pos hlt] at hat
    rw [hlt] at cL
    have hS2:S2=S.take a++p::S.drop a:=by rw [ht,insT,hat,Nat.add_zero]
    simp [go_sem,has',hg,mi]
    refine ⟨by kernel_rfl,⟨hif,neb⟩,neS,?_⟩
    refine CallD.of (cL) ?_
    simp [go_sem]
    refine ⟨by kernel_rfl,?_⟩
    simp [go_sem]
    simp [go_sem,mi,zbD,zbz,zbn]
    refine ⟨by kernel_rfl,⟨hif,neb⟩,?_⟩
    refine CallD.of (cO) ?_
    simp [go_sem]
    simp [go_sem,zbD,zbz,zbn]
    refine ⟨by omega,⟨by omega,by omega⟩,?_⟩
    refine ⟨by kernel_rfl,?_⟩
    simp [go_sem]
    simp [go_sem,zbD,zbz,zbn]
    refine ⟨by omega,⟨by omega,by omega⟩,⟨by omega,by omega,by omega,by omega⟩,⟨by omega,by omega⟩,S.length+1,by omega,by omega,(by repeat (first | exact zaa _ _ _ (by simp) | (refine Off.reset (by intro x hx; simp at hx |-; omega) (by simp) ?_; simp -failIfUnchanged [go_sem,zaa]))),⟨by omega,?_⟩,by omega⟩
    rw [hN,hS2,show (S.drop a).take (S.length-a)=S.drop a from List.take_of_length_le (by simp),<- zem (S.take a++p::S.drop a),zhJ]; rfl
   .rw [if_neg hlt] at hat
    have hlf:ltT p (S[a]?.getD [])=false:=by simpa using hlt
    rw [hlf] at cL
    simp [go_sem,has',hg,mi]
    refine ⟨by kernel_rfl,⟨hif,neb⟩,neS,?_⟩
    refine CallD.of (cL) ?_
    simp [go_sem]
    refine ⟨by kernel_rfl,?_⟩
    simp [go_sem]
    exact ⟨by omega,a+1,⟨by omega,by omega⟩,by omega,zaa _ _ _ (by simp),by omega⟩
  .have has':¬ (a:Int)<S.length:=by omega
   have hd:S.drop a=[]:=List.drop_eq_nil_of_le (by omega)
   rw [hd,atT] at hat
   have hS2:S2=S.take a++p::S.drop a:=by rw [ht,insT,hat,Nat.add_zero]
   simp [go_sem,has']
   refine ⟨by kernel_rfl,?_⟩
   refine ⟨by kernel_rfl,?_⟩
   simp [go_sem]
   simp [go_sem,mi,zbD,zbz,zbn]
   refine ⟨by kernel_rfl,⟨hif,neb⟩,?_⟩
   refine CallD.of (cO) ?_
   simp [go_sem]
   simp [go_sem,zbD,zbz,zbn]
   refine ⟨by omega,⟨by omega,by omega⟩,?_⟩
   refine ⟨by kernel_rfl,?_⟩
   simp [go_sem]
   simp [go_sem,zbD,zbz,zbn]
   refine ⟨by omega,⟨by omega,by omega⟩,⟨by omega,by omega,by omega,by omega⟩,⟨by omega,by omega⟩,S.length+1,by omega,by omega,(by repeat (first | exact zaa _ _ _ (by simp) | (refine Off.reset (by intro x hx; simp at hx |-; omega) (by simp) ?_; simp -failIfUnchanged [go_sem,zaa]))),⟨by omega,?_⟩,by omega⟩
   rw [hN,hS2,show (S.drop a).take (S.length-a)=S.drop a from List.take_of_length_le (by simp),<- zem (S.take a++p::S.drop a),zhJ]; rfl
 .have e:i=bs.length:=by omega
  subst e
  rw [List.take_length]
  simp [go_sem]
theorem zhK (n:Nat) (t:List Int) (hn:n<=1000) (h:Lv t) (hl:t.length<=n) (hc:Lv (canF n t)) (hk:(srtT (brs (canF n t))).length<=19) (hm:∀ m∈srtT (brs (canF n t)),m.length<=1000000) :
  GCon Tryz.prog 355 [.sl t.length (avs t)] (.sl (srtT (brs (canF n t))).length (mat (srtT (brs (canF n t))))) [.any]:=by
 have cC:=zaW n t hn h hl
 have cl:=zaF n t h hl
 have cB:=zc4 (canF n t) (by omega) hc
 have cS:=zfJ (brs (canF n t)) (fun m h=>hm m ((za1 _).mem_iff.2 h)) (by rw [zcy] at hk; omega)
 have sl:=zcy (brs (canF n t))
 rw [<- sl] at cB cS
 rw [cl] at cB
 clear cl sl
 generalize canF n t=u at *
 generalize srtT (brs u)=l at *
 refine zaf Tryz.mixed ⟨3,[5],[1000000+252],[]⟩ [] Tryz.func355 ?_
 rw [Tryz.ntmps355]
 simp [go_sem]
 refine CallVC.of (cC) ?_
 simp [go_sem]
 refine CallVC.of (cB) ?_
 simp [go_sem]
 refine ⟨_,_,cS,?_⟩
 simp [go_sem]
end Go.Proofs.YthhdollpkieknaaGreat


namespace Go.Proofs.YthhdollpkieknaaGreat
open Go.Abs
def o5L:List (List Int)->List (List Int)->Int
 | a::f,b::g=>if ltT a b=true then -1 else if ltT b a=true then 1 else o5L f g
 | _,_=>0
def o5C (f g:List (List Int)):Int:=if f.length=g.length then o5L f g else if f.length<g.length then -1 else 1
def o5 (a b:Spl):Int:=if sumN a.1=sumN b.1 then (if o5C a.1 b.1=0 then o5C a.2.1 b.2.1 else o5C a.1 b.1) else if sumN a.1<sumN b.1 then -1 else 1
theorem zkk:∀ (f g:List (List Int)) (i:Nat),i<=f.length->i<=g.length->(∀ j,j<i->ltT (f[j]?.getD []) (g[j]?.getD [])=false/\ltT (g[j]?.getD []) (f[j]?.getD [])=false)->o5L f g=o5L (f.drop i) (g.drop i)
 | f,g,0,_,_,_=>rfl
 | a::f,b::g,i+1,h1,h2,h=>by
  have h0:=h 0 (by omega)
  simp only [List.getElem?_cons_zero,Option.getD_some] at h0
  rw [o5L,h0.1,h0.2,if_neg (by decide),if_neg (by decide),List.drop_succ_cons,List.drop_succ_cons]
  exact zkk f g i (by simpa using h1) (by simpa using h2) (fun j hj=>by simpa using h (j+1) (by omega))
 | [],g,i+1,h1,_,_=>by simp at h1
 | a::f,[],i+1,_,h2,_=>by simp at h2
theorem zeH (f g:List (List Int)) (hf:f.length<=1000) (hg:g.length<=1000) (rf:∀ r∈f,r.length<=1000) (rg:∀ r∈g,r.length<=1000) :
  Con Tryz.prog 390 [.sl f.length (mat f),.sl g.length (mat g)] (.int (o5C f g)):=by
 unfold o5C
 by_cases hl:f.length=g.length
 .rw [if_pos hl]
  have hli:(f.length:Int)=g.length:=by omega
  refine zab Tryz.mixed ⟨6,[],[],[]⟩ Tryz.func390 ?_
  rw [Tryz.ntmps390]
  simp [go_sem]
  simp [go_sem,hli]
  refine zac (4::5::List.range' 16 26) (fun i:Nat=>[(5,.int i)]) (fun i=>i<=f.length/\∀ j,j<i->ltT (f[j]?.getD []) (g[j]?.getD [])=false/\ltT (g[j]?.getD []) (f[j]?.getD [])=false) (fun i=>f.length-i) 0 (by simp) (by simp [go_sem]) (by simp [go_sem]) ?_
  rintro i ⟨hi,hz⟩
  have sk:=zkk f g i hi (by omega) hz
  by_cases h:i<f.length
  .have hii:(i:Int)<f.length:=by omega
   have hgi:i<g.length:=by omega
   have nf:¬ f=[]:=by rintro rfl; simp at h
   have ng:¬ g=[]:=by rintro rfl; simp at hgi
   have df:f.drop i=f[i]?.getD []::f.drop (i+1):=by rw [List.drop_eq_getElem_cons h]; simp [h]
   have dg:g.drop i=g[i]?.getD []::g.drop (i+1):=by rw [List.drop_eq_getElem_cons hgi]; simp [hgi]
   rw [df,dg,o5L] at sk
   have l1:=rf _ (memD [] h)
   have l2:=rg _ (memD [] hgi)
   have c1:=zcz (f[i]?.getD []) (g[i]?.getD []) (by omega) (by omega)
   have c2:=zcz (g[i]?.getD []) (f[i]?.getD []) (by omega) (by omega)
   have m1:=zak h
   have m2:=zak hgi
   have hs:∀ v w,ltT (f[i]?.getD []) (g[i]?.getD [])=v->ltT (g[i]?.getD []) (f[i]?.getD [])=w->v=false->w=false->∀ j,j<i+1->ltT (f[j]?.getD []) (g[j]?.getD [])=false/\ltT (g[j]?.getD []) (f[j]?.getD [])=false:=by
    rintro v w hv hw rfl rfl j hj
    rcases Nat.lt_or_ge j i with hji | hji
    .exact hz j hji
    .have:j=i:=by omega
     subst this; exact ⟨hv,hw⟩
   have hs:=hs _ _ rfl rfl
   generalize ltT (f[i]?.getD []) (g[i]?.getD [])=v at *
   generalize ltT (g[i]?.getD []) (f[i]?.getD [])=w at *
   generalize f[i]?.getD []=r at *
   generalize g[i]?.getD []=q at *
   simp [go_sem,hii,m1,m2]
   refine ⟨by kernel_rfl,nf,⟨hgi,ng⟩,?_⟩
   refine CallD.of (c1) ?_
   simp [go_sem]
   refine ⟨by kernel_rfl,?_⟩
   simp [go_sem]
   cases v with
   | true =>
    rw [sk,if_pos rfl]
    simp [go_sem]
   | false =>
    rw [if_neg (by decide)] at sk
    simp [go_sem,m1,m2]
    refine ⟨by kernel_rfl,⟨hgi,ng⟩,⟨h,nf⟩,?_⟩
    refine CallD.of (c2) ?_
    simp [go_sem]
    refine ⟨by kernel_rfl,?_⟩
    simp [go_sem]
    cases w with
    | true =>
     rw [sk,if_pos rfl]
     simp [go_sem]
    | false =>
     simp [go_sem]
     exact ⟨⟨by omega,by omega⟩,i+1,⟨by omega,hs rfl rfl⟩,by omega,zaa _ _ _ (by simp),by omega⟩
  .have e:i=f.length:=by omega
   subst e
   rw [List.drop_eq_nil_of_le (Nat.le_refl _)] at sk
   have e0:o5L f g=0:=by rw [sk]; simp [o5L]
   rw [e0]
   have hii:¬ (f.length:Int)<f.length:=by omega
   simp [go_sem,hii]
 .rw [if_neg hl]
  have hli:¬ (f.length:Int)=g.length:=by omega
  by_cases h2:f.length<g.length
  .rw [if_pos h2]
   refine zab Tryz.mixed ⟨6,[],[],[]⟩ Tryz.func390 ?_
   rw [Tryz.ntmps390]
   simp [go_sem]
   simp [go_sem,hli,h2]
  .rw [if_neg h2]
   refine zab Tryz.mixed ⟨6,[],[],[]⟩ Tryz.func390 ?_
   rw [Tryz.ntmps390]
   simp [go_sem]
   simp [go_sem,hli,h2]
theorem zg2 (F:List (List Int)) (hF:F.length<=1000) (hr:∀ r∈F,r.length<=1000):Con Tryz.prog 389 [.sl F.length (mat F)] (.int (sumN F)):=by
 have bd:∀ i,i<=F.length->(sumN (F.take i):Int)<=1000*i:=fun i hi=>by
  have:=zjR (F:=F.take i) (b:=1000) (fun r h=>hr r (List.mem_of_mem_take h))
  rw [List.length_take] at this; omega
 refine zab Tryz.mixed ⟨4,[],[],[]⟩ Tryz.func389 ?_
 rw [Tryz.ntmps389]
 simp [go_sem]
 refine zac (3::4::List.range' 5 13) (fun i:Nat=>[(3,.int (sumN (F.take i))),(4,.int i)]) (fun i=>i<=F.length) (fun i=>F.length-i) 0 (by simp) (by simp [go_sem,sumN]) (by simp [go_sem]) ?_
 intro i hi
 by_cases h:i<F.length
 .have hii:(i:Int)<F.length:=by omega
  have nf:¬ F=[]:=by rintro rfl; simp at h
  have b1:=bd i hi
  have hr1:=hr _ (memD [] h)
  have h2:F.take (i+1)=F.take i++[F[i]?.getD []]:=by
   rw [List.take_succ_eq_append_getElem h,List.getElem?_eq_getElem h]; rfl
  have h4:sumN (F.take (i+1))=sumN (F.take i)+(F[i]?.getD []).length:=by rw [h2,zdI]; simp [sumN]
  have md:=zak h
  generalize sumN (F.take i)=s at *
  generalize F[i]?.getD []=r at *
  simp [go_sem,hii,md]
  refine ⟨nf,⟨by omega,by omega⟩,⟨by omega,by omega⟩,i+1,by omega,by omega,zaa _ _ _ (by simp),?_⟩
  rw [h4]
  exact ⟨by omega,by omega⟩
 .have e:i=F.length:=by omega
  subst e
  have hii:¬ (F.length:Int)<F.length:=by omega
  rw [List.take_length]
  simp [go_sem,hii]
theorem zlY (a b:Spl) (ha:SpOk a) (hb:SpOk b):Con Tryz.prog 380 [.agg (spF a),.agg (spF b)] (.int (o5 a b)):=by
 obtain ⟨⟨a1,a2⟩,a3,a4⟩:=ha
 obtain ⟨⟨b1,b2⟩,b3,b4⟩:=hb
 have n1:=zg2 a.1 (by omega) (fun x hx=>by have:=a2 x hx; omega)
 have n2:=zg2 b.1 (by omega) (fun x hx=>by have:=b2 x hx; omega)
 have c1:=zeH a.1 b.1 (by omega) (by omega) (fun x hx=>by have:=a2 x hx; omega) (fun x hx=>by have:=b2 x hx; omega)
 have c2:=zeH a.2.1 b.2.1 (by omega) (by omega) (fun x hx=>by have:=a4 x hx; omega) (fun x hx=>by have:=b4 x hx; omega)
 unfold o5 spF
 generalize o5C a.1 b.1=v at *
 generalize o5C a.2.1 b.2.1=w at *
 generalize sumN a.1=m at *
 generalize sumN b.1=n at *
 by_cases hmn:m=n
 .subst hmn
  rw [if_pos rfl]
  by_cases v0:v=0
  .rw [if_pos v0]
   refine zab Tryz.mixed ⟨8,[],[],[]⟩ Tryz.func380 ?_
   rw [Tryz.ntmps380]
   simp [go_sem]
   refine ⟨by kernel_rfl,?_⟩
   refine CallD.of (n1) ?_
   simp [go_sem]
   refine CallD.of (n2) ?_
   simp [go_sem]
   refine ⟨by kernel_rfl,?_⟩
   simp [go_sem]
   refine CallVC.of (c1) ?_
   simp [go_sem]
   simp [go_sem,v0]
   refine CallVC.of (c2) ?_
   simp [go_sem]
  .rw [if_neg v0]
   refine zab Tryz.mixed ⟨8,[],[],[]⟩ Tryz.func380 ?_
   rw [Tryz.ntmps380]
   simp [go_sem]
   refine ⟨by kernel_rfl,?_⟩
   refine CallD.of (n1) ?_
   simp [go_sem]
   refine CallD.of (n2) ?_
   simp [go_sem]
   refine ⟨by kernel_rfl,?_⟩
   simp [go_sem]
   refine CallVC.of (c1) ?_
   simp [go_sem]
   simp [go_sem,v0]
 .rw [if_neg hmn]
  have hmi:¬ (m:Int)=n:=by omega
  by_cases h2:m<n
  .rw [if_pos h2]
   refine zab Tryz.mixed ⟨8,[],[],[]⟩ Tryz.func380 ?_
   rw [Tryz.ntmps380]
   simp [go_sem]
   refine ⟨by kernel_rfl,?_⟩
   refine CallD.of (n1) ?_
   simp [go_sem]
   refine CallD.of (n2) ?_
   simp [go_sem]
   refine ⟨by kernel_rfl,?_⟩
   simp [go_sem]
   simp [go_sem,hmi,h2]
  .rw [if_neg h2]
   refine zab Tryz.mixed ⟨8,[],[],[]⟩ Tryz.func380 ?_
   rw [Tryz.ntmps380]
   simp [go_sem]
   refine ⟨by kernel_rfl,?_⟩
   refine CallD.of (n1) ?_
   simp [go_sem]
   refine CallD.of (n2) ?_
   simp [go_sem]
   refine ⟨by kernel_rfl,?_⟩
   simp [go_sem]
   simp [go_sem,hmi,h2]
def put5:List Spl->Spl->List Spl
 | [],c=>[c]
 | s::L,c=>if o5 c s<0 then c::s::L else if o5 c s=0 then (s.1,s.2.1,s.2.2+c.2.2)::L else s::put5 L c
def Sp5 (s:Spl):Prop:=SpOk s/\0<=s.2.2/\s.2.2<=1000000
theorem zlg (L:List Spl) (c:Spl) (hL:∀ s∈L,Sp5 s) (hc:Sp5 c) (hn:L.length<=10000) :
  GCon Tryz.prog 356 [.sl L.length (L.flatMap spF),.agg (spF c)] (.sl (put5 L c).length ((put5 L c).flatMap spF)) [.any,.agg (spF c)]:=by
 refine GCon.frzR (r:=.own 198 (put5 L c).length ((put5 L c).flatMap spF)) ?_ (by simp [frz,zhW])
 have cO:=fun s hs=>zlY c s hc.1 (hL s hs).1
 obtain ⟨_,hc1,hc2⟩:=hc
 obtain ⟨ca,cb,cc⟩:=c
 simp only [spF] at cO hc1 hc2 |-
 have x0:put5 L (ca,cb,cc)=L.take 0++put5 (L.drop 0) (ca,cb,cc):=rfl
 refine zaf Tryz.mixed ⟨10,[],[],[]⟩ [1] Tryz.func356 ?_
 rw [Tryz.ntmps356]
 simp [go_sem]
 refine zac (List.range' 5 5++List.range' 11 36) (fun x:Nat × Bool × List Spl=>[(5,.own 198 x.2.2.length (x.2.2.flatMap spF)),(6,.bool x.2.1),(7,.int x.1)]) (fun x=>x.1<=L.length/\x.2.2.length<=x.1+1/\(x.2.1=false->x.2.2=L.take x.1/\put5 L (ca,cb,cc)=L.take x.1++put5 (L.drop x.1) (ca,cb,cc))/\(x.2.1=true->put5 L (ca,cb,cc)=x.2.2++L.drop x.1)) (fun x=>L.length-x.1) (0,false,[]) (by simp) (by simp [go_sem]) (by simp [go_sem]) ?_
 rintro ⟨i,d,O⟩ ⟨hi,hO,hf,ht⟩
 simp only at hi hO hf ht
 by_cases hil:i<L.length
 .have hii:(i:Int)<L.length:=by omega
  have hm:=memD ([],[],0) hil
  have dr:=za4 spF (fun _=>rfl) ([],[],0) hil
  have nL:¬ L.flatMap spF=[]:=by intro e; have:=zau spF (fun _=>rfl) L; rw [e] at this; simp at this; omega
  have lL:=zau spF (fun _=>rfl) L
  have lO:=zau spF (fun _=>rfl) O
  have cOs:=cO _ hm
  obtain ⟨_,s1,s2⟩:=hL _ hm
  have dl:L.drop i=L[i]?.getD ([],[],0)::L.drop (i+1):=by rw [List.drop_eq_getElem_cons hil]; simp [hil]
  have tl:L.take (i+1)=L.take i++[L[i]?.getD ([],[],0)]:=by rw [List.take_succ_eq_append_getElem hil]; simp [hil]
  generalize L[i]?.getD ([],[],0)=s at *
  obtain ⟨sa,sb,sc⟩:=s
  simp only [spF] at dr cOs s1 s2
  cases d with
  | true =>
   have hp:=ht rfl
   rw [dl] at hp
   clear hf ht
   generalize hC:O.flatMap spF=C at *
   generalize hMC:L.flatMap spF=MC at *
   simp [go_sem,hii,dr]
   refine ⟨nL,⟨by omega,by omega,by omega⟩,⟨by omega,by omega⟩,i+1,O++[(sa,sb,sc)],⟨by omega,by simp; omega,by rw [hp]; simp⟩,by omega,zaa _ _ _ (by simp),?_⟩
   rw [List.flatMap_append,hC]
   simp [spF]
  | false =>
   obtain ⟨rfl,hp⟩:=hf rfl
   rw [dl,put5] at hp
   rw [List.length_take] at lO
   clear hf ht
   generalize hC:(L.take i).flatMap spF=C at *
   generalize hMC:L.flatMap spF=MC at *
   generalize o5 (ca,cb,cc) (sa,sb,sc)=v at *
   simp [go_sem,hii,dr]
   refine ⟨by kernel_rfl,nL,?_⟩
   refine CallD.of (cOs) ?_
   simp [go_sem]
   refine ⟨by kernel_rfl,?_⟩
   simp [go_sem]
   by_cases v1:v<0
   .rw [if_pos v1] at hp
    have v0:¬ v=0:=by omega
    simp [go_sem,v1,v0,dr]
    refine ⟨⟨by omega,by omega,by omega⟩,⟨hil,nL⟩,⟨by omega,by omega,by omega⟩,⟨by omega,by omega⟩,i+1,L.take i++[(ca,cb,cc)]++[(sa,sb,sc)],⟨by omega,by simp; omega,by rw [hp]; simp⟩,by omega,zaa _ _ _ (by simp),?_⟩
    rw [List.flatMap_append,List.flatMap_append,hC]
    simp [spF]
   .rw [if_neg v1] at hp
    by_cases v0:v=0
    .rw [if_pos v0] at hp
     subst v0
     simp [go_sem,dr]
     refine ⟨⟨hil,nL⟩,⟨by omega,by omega⟩,⟨by omega,by omega,by omega⟩,⟨by omega,by omega⟩,i+1,L.take i++[(sa,sb,sc+cc)],⟨by omega,by simp; omega,by rw [hp]; simp⟩,by omega,zaa _ _ _ (by simp),?_⟩
     rw [List.flatMap_append,hC]
     simp [spF]
    .rw [if_neg v0] at hp
     simp [go_sem,v1,v0,dr]
     refine ⟨⟨hil,nL⟩,⟨by omega,by omega,by omega⟩,⟨by omega,by omega⟩,i+1,L.take (i+1),⟨by omega,by simp; omega,rfl,by rw [hp,tl]; simp⟩,by omega,zaa _ _ _ (by simp),?_⟩
     rw [tl,List.flatMap_append,hC]
     simp [spF]
 .have e:i=L.length:=by omega
  subst e
  have hii:¬ (L.length:Int)<L.length:=by omega
  have lO:=zau spF (fun _=>rfl) O
  cases d with
  | true =>
   have hp:=ht rfl
   rw [List.drop_length,List.append_nil] at hp
   rw [hp]
   simp [go_sem,hii]
  | false =>
   obtain ⟨rfl,hp⟩:=hf rfl
   rw [List.drop_length,put5,List.take_length] at hp
   rw [List.take_length] at lO |-
   rw [hp]
   generalize hMC:L.flatMap spF=MC at *
   simp [go_sem,hii]
   refine ⟨⟨by omega,by omega,by omega⟩,?_⟩
   rw [hMC]
   simp [spF]
theorem zmS (n:Nat) (f:List (List Int)) (hn:n<=1000) (hv:Lv (zay f)) (hl:(zay f).length<=n) (hf:f.length<=100) (hr:∀ b∈f,b.length<=100/\∀ x∈b,0<=x/\x<=100) :
  Con Tryz.prog 357 [.sl f.length (mat f)] (.own 2 (zay f).length (avs (canF n (zay f)))):=by
 have cC:=zaW n (zay f) hn hv hl
 have bl:∀ i,(zay (f.take i)).length<=1+i*100:=fun i=>by
  rw [zcL]
  have:∀ T:List (List Int),(∀ b∈T,b.length<=100)->sumL T<=T.length*100:=by
   intro T
   induction T with
   | nil=>intro _; simp [sumL]
   | cons b T ih=>intro h; have:=h b (by simp); have:=ih (fun c hc=>h c (by simp [hc])); simp only [sumL,List.length_cons]; omega
  have h1:=this (f.take i) (fun b hb=>(hr b (List.mem_of_mem_take hb)).1)
  have h2:(f.take i).length<=i:=by rw [List.length_take]; omega
  have:=Nat.mul_le_mul_right 100 h2
  omega
 generalize hCF:canF n (zay f)=CF at *
 refine zab Tryz.mixed ⟨6,[],[],[]⟩ Tryz.func357 ?_
 rw [Tryz.ntmps357]
 simp [go_sem]
 refine zac (3::4::5::List.range' 7 26) (fun i:Nat=>[(3,.own 2 (zay (f.take i)).length (avs (zay (f.take i)))),(4,.int i)]) (fun i=>i<=f.length) (fun i=>f.length-i) 0 (by simp) (by simp [go_sem,zay,avs]) (by simp [go_sem]) ?_
 intro i hi
 by_cases hiS:i<f.length
 .have hii:(i:Int)<f.length:=by omega
  have ne:¬ f=[]:=by rintro rfl; simp at hiS
  have md:=zak hiS
  obtain ⟨b1,b2⟩:=hr _ (show f[i]?.getD []∈f by simp [hiS])
  have sn:zay (f.take (i+1))=zay (f.take i)++(f[i]?.getD []).map (·+1):=by
   unfold zay
   rw [List.take_add_one,List.flatMap_append,List.getElem?_eq_getElem hiS]; simp
  have bli:=bl i
  generalize f[i]?.getD []=b at *
  generalize zay (f.take i)=R at *
  simp [go_sem,hii,md]
  refine zac (3::5::List.range' 13 20) (fun k:Nat=>[(3,.own 2 (R.length+k) (avs (R++(b.map (·+1)).take k))),(5,.int k)]) (fun k=>k<=b.length) (fun k=>b.length-k) 0 (by simp) (by simp [go_sem]) (by simp [go_sem]) ?_
  intro k hk
  by_cases hkb:k<b.length
  .have hki:(k:Int)<b.length:=by omega
   have nb:¬ b=[]:=by rintro rfl; simp at hkb
   have ad:=zap hkb
   have bx:=b2 _ (show b[k]?.getD 0∈b by simp [hkb])
   have tk:(b.map (·+1)).take (k+1)=(b.map (·+1)).take k++[b[k]?.getD 0+1]:=by
    rw [List.take_add_one]; simp [hkb]
   rw [List.getD_eq_getElem?_getD] at ad
   generalize b[k]?.getD 0=x at *
   simp [go_sem,md,hki,ad]
   refine ⟨⟨hiS,ne⟩,nb,⟨by omega,by omega⟩,⟨by omega,by omega,by omega⟩,⟨by omega,by omega⟩,k+1,by omega,by omega,zaa _ _ _ (by simp),⟨by omega,by rw [tk,<- List.append_assoc,zal]⟩,by omega⟩
  .have e:k=b.length:=by omega
   subst e
   have hki:¬ (b.length:Int)<b.length:=by omega
   have tk:(b.map (·+1)).take b.length=b.map (·+1):=List.take_of_length_le (by simp)
   simp [go_sem,md,hki,tk]
   exact ⟨⟨hiS,ne⟩,⟨by omega,by omega⟩,i+1,by omega,by omega,(Off.reset (by intro x hx; simp at hx |-; omega) (by simp) (by simp [go_sem,zaa])),⟨by rw [sn]; simp,by rw [sn]⟩,by omega⟩
 .have e:i=f.length:=by omega
  subst e
  have hii:¬ (f.length:Int)<f.length:=by omega
  rw [List.take_length]
  simp [go_sem,hii]
  refine CallVC.of (cC) ?_
  simp [go_sem]
theorem zgT (f g:List (List Int)) (hf:f.length<=400) (hg:g.length<=400) (rf:∀ r∈f,r.length<=1000) (rg:∀ r∈g,r.length<=1000) :
  GCon Tryz.prog 388 [.sl f.length (mat f),.sl g.length (mat g)] (.sl (srtT (f++g)).length (mat (srtT (f++g)))) [.any,.any]:=by
 have c1:=zic f (by omega) (fun r h=>by have:=rf r h; omega)
 have c2:=zfJ (f++g) (fun b hb=>by
  rcases List.mem_append.1 hb with h | h
  .have:=rf b h; omega
  .have:=rg b h; omega) (by rw [List.length_append]; omega)
 have c3:GCon Tryz.prog 252 [.own 25 (f.length+g.length) (omat f++mat g)] (.sl (f++g).length (mat (srtT (f++g)))) [.any]:=by
  refine GCon.frzA (args:=[.own 25 (f.length+g.length) (omat f++mat g)]) (outs:=[.any]) ?_
  have e:frzL [AV.own 25 (f.length+g.length) (omat f++mat g)]=[.sl (f++g).length (mat (f++g))]:=by
   show [AV.sl (f.length+g.length) (frzL (omat f++mat g))]=_
   rw [zen,zqy,List.length_append]
   have:frzL (mat g)=mat g:=by simp
   rw [this]
   simp [mat]
  rw [e]
  exact c2
 rw [zcy]
 refine zaf Tryz.mixed ⟨5,[],[1000000+252],[]⟩ [] Tryz.func388 ?_
 rw [Tryz.ntmps388]
 simp [go_sem]
 refine CallVC.of (c1) ?_
 simp [go_sem]
 refine ⟨⟨by omega,by omega⟩,?_⟩
 refine ⟨_,_,c3,?_⟩
 simp [go_sem]
def tms5 (a b:List Spl):List Spl:=a.foldl (fun o s=>b.foldl (fun o c=>put5 o (srtT (s.1++c.1),srtT (s.2.1++c.2.1),s.2.2*c.2.2)) o) []
def tmJ (o:List Spl) (s:Spl) (b:List Spl):List Spl:=b.foldl (fun o c=>put5 o (srtT (s.1++c.1),srtT (s.2.1++c.2.1),s.2.2*c.2.2)) o
theorem zkx (o:List Spl) (s:Spl) (b:List Spl) (c:Spl):tmJ o s (b++[c])=put5 (tmJ o s b) (srtT (s.1++c.1),srtT (s.2.1++c.2.1),s.2.2*c.2.2):=by simp [tmJ]
theorem zim (a b:List Spl) (s:Spl):tms5 (a++[s]) b=tmJ (tms5 a b) s b:=by simp [tms5,tmJ]
def spB (s:Spl):Bool:=decide (s.1.length<=50) && s.1.all (fun r=>decide (r.length<=100)) && (decide (s.2.1.length<=50) && s.2.1.all (fun r=>decide (r.length<=100))) && (decide (0<=s.2.2) && decide (s.2.2<=1000))
theorem zgX {s:Spl} (h:spB s=true):((s.1.length<=50/\∀ r∈s.1,r.length<=100)/\s.2.1.length<=50/\∀ r∈s.2.1,r.length<=100)/\0<=s.2.2/\s.2.2<=1000:=by
 unfold spB at h
 simp only [Bool.and_eq_true,decide_eq_true_eq,List.all_eq_true] at h
 exact ⟨⟨h.1.1,h.1.2⟩,h.2⟩
def tmsB (a b:List Spl):Bool:=decide (a.length<=1000) && decide (b.length<=1000) && a.all spB && b.all spB &&
 (List.range (a.length+1)).all fun i=>(List.range (b.length+1)).all fun j=>decide ((tmJ (tms5 (a.take i) b) (a[i]?.getD ([],[],0)) (b.take j)).length<=1000) && (tmJ (tms5 (a.take i) b) (a[i]?.getD ([],[],0)) (b.take j)).all fun s=>decide (0<=s.2.2) && decide (s.2.2<=1000000)
theorem zs8 {a b:List Spl} (h:tmsB a b=true):a.length<=1000/\b.length<=1000/\(∀ s∈a,spB s=true)/\(∀ s∈b,spB s=true)/\∀ i,i<=a.length->∀ j,j<=b.length->(tmJ (tms5 (a.take i) b) (a[i]?.getD ([],[],0)) (b.take j)).length<=1000/\∀ s∈tmJ (tms5 (a.take i) b) (a[i]?.getD ([],[],0)) (b.take j),0<=s.2.2/\s.2.2<=1000000:=by
 unfold tmsB at h
 simp only [Bool.and_eq_true,decide_eq_true_eq,List.all_eq_true,List.mem_range] at h
 obtain ⟨⟨⟨⟨h1,h2⟩,h3⟩,h4⟩,h5⟩:=h
 exact ⟨h1,h2,h3,h4,fun i hi j hj=>h5 i (by omega) j (by omega)⟩
theorem ztC {L:List Spl} {c:Spl} (hL:∀ s∈L,SpOk s) (hc:SpOk c):∀ s∈put5 L c,SpOk s:=by
 induction L with
 | nil=>intro s hs; rw [put5] at hs; rw [List.mem_singleton.1 hs]; exact hc
 | cons x L ih =>
  intro s hs
  rw [put5] at hs
  have h0:=hL x (by simp)
  split at hs
  .rcases List.mem_cons.1 hs with rfl | hs
   .exact hc
   .exact hL s hs
  .split at hs
   .rcases List.mem_cons.1 hs with rfl | hs
    .exact h0
    .exact hL s (by simp [hs])
   .rcases List.mem_cons.1 hs with rfl | hs
    .exact h0
    .exact ih (fun y hy=>hL y (by simp [hy])) s hs
theorem zwu {s c:Spl} (hs:spB s=true) (hc:spB c=true):SpOk (srtT (s.1++c.1),srtT (s.2.1++c.2.1),s.2.2*c.2.2)/\0<=s.2.2*c.2.2/\s.2.2*c.2.2<=1000000:=by
 obtain ⟨⟨⟨s1,s2⟩,s3,s4⟩,s5,s6⟩:=zgX hs
 obtain ⟨⟨⟨c1,c2⟩,c3,c4⟩,c5,c6⟩:=zgX hc
 refine ⟨⟨⟨by rw [zcy,List.length_append]; omega,fun r hr=>?_⟩,by rw [zcy,List.length_append]; omega,fun r hr=>?_⟩,Int.mul_nonneg s5 c5,?_⟩
 .rcases List.mem_append.1 ((za1 _).mem_iff.1 hr) with h | h
  .exact s2 r h
  .exact c2 r h
 .rcases List.mem_append.1 ((za1 _).mem_iff.1 hr) with h | h
  .exact s4 r h
  .exact c4 r h
 .have:=Int.mul_le_mul s6 c6 c5 (by omega)
  omega
theorem zr5 {o:List Spl} {s:Spl} (ho:∀ x∈o,SpOk x) (hs:spB s=true):∀ b:List Spl,(∀ c∈b,spB c=true)->∀ x∈tmJ o s b,SpOk x:=by
 intro b
 generalize hn:b.length=n
 induction n generalizing b with
 | zero=>intro _; rw [List.length_eq_zero_iff.1 hn]; exact ho
 | succ n ih =>
  intro hb
  rcases List.eq_nil_or_concat b with rfl | ⟨h,y,rfl⟩
  .simp at hn
  .rw [List.concat_eq_append] at hn hb |-
   rw [zkx]
   exact ztC (ih h (by simpa using hn) fun c hc=>hb c (by simp [hc])) (zwu hs (hb y (by simp))).1
theorem ztk:∀ {a b:List Spl},(∀ s∈a,spB s=true)->(∀ s∈b,spB s=true)->∀ x∈tms5 a b,SpOk x:=by
 intro a
 generalize hn:a.length=n
 induction n generalizing a with
 | zero=>intro b _ _; rw [List.length_eq_zero_iff.1 hn]; intro x hx; simp [tms5] at hx
 | succ n ih =>
  intro b ha hb
  rcases List.eq_nil_or_concat a with rfl | ⟨h,y,rfl⟩
  .simp at hn
  .rw [List.concat_eq_append] at hn ha |-
   rw [zim]
   exact zr5 (ih (by simpa using hn) (fun c hc=>ha c (by simp [hc])) hb) (ha y (by simp)) b hb
theorem zlQ (a b:List Spl) (h:tmsB a b=true) :
  GCon Tryz.prog 379 [.sl a.length (a.flatMap spF),.sl b.length (b.flatMap spF)] (.sl (tms5 a b).length ((tms5 a b).flatMap spF)) [.any,.any]:=by
 obtain ⟨a1,b1,ha,hb,hx⟩:=zs8 h
 refine zaf Tryz.mixed ⟨8,[8],[1000000+388,1000000+356],[]⟩ [] Tryz.func379 ?_
 rw [Tryz.ntmps379]
 simp [go_sem]
 refine zac (5::6::7::List.range' 9 48) (fun i:Nat=>[(5,.sl (tms5 (a.take i) b).length ((tms5 (a.take i) b).flatMap spF)),(6,.int i)]) (fun i=>i<=a.length) (fun i=>a.length-i) 0 (by simp) (by simp [go_sem,tms5]) (by simp [go_sem]) ?_
 intro i hi
 by_cases hil:i<a.length
 .have hii:(i:Int)<a.length:=by omega
  have hx1:=fun j hj=>hx i hi j hj
  have ho:=ztk (a:=a.take i) (b:=b) (fun s hs=>ha s (List.mem_of_mem_take hs)) hb
  have hm:=ha _ (memD ([],[],0) hil)
  have tl:a.take (i+1)=a.take i++[a[i]?.getD ([],[],0)]:=by rw [List.take_succ_eq_append_getElem hil]; simp [hil]
  have ts:=zim (a.take i) b (a[i]?.getD ([],[],0))
  rw [<- tl] at ts
  have dr:=za4 spF (fun _=>rfl) ([],[],0) hil
  have nA:¬ a.flatMap spF=[]:=by intro e; have:=zau spF (fun _=>rfl) a; rw [e] at this; simp at this; omega
  have lA:=zau spF (fun _=>rfl) a
  generalize a[i]?.getD ([],[],0)=s at *
  generalize tms5 (a.take i) b=o at *
  have z0:tmJ o s []=o:=rfl
  simp [go_sem,hii]
  refine zac (5::7::List.range' 15 42) (fun j:Nat=>[(5,.sl (tmJ o s (b.take j)).length ((tmJ o s (b.take j)).flatMap spF)),(7,.int j)]) (fun j=>j<=b.length) (fun j=>b.length-j) 0 (by simp) (by simp [go_sem,z0]) (by simp [go_sem]) ?_
  intro j hj
  by_cases hjl:j<b.length
  .have hji:(j:Int)<b.length:=by omega
   obtain ⟨x1,x2⟩:=hx1 j hj
   have hm2:=hb _ (memD ([],[],0) hjl)
   have tj:b.take (j+1)=b.take j++[b[j]?.getD ([],[],0)]:=by rw [List.take_succ_eq_append_getElem hjl]; simp [hjl]
   have tsn:=zkx o s (b.take j) (b[j]?.getD ([],[],0))
   rw [<- tj] at tsn
   have oo:=zr5 ho hm (b.take j) (fun c hc=>hb c (List.mem_of_mem_take hc))
   have dr2:=za4 spF (fun _=>rfl) ([],[],0) hjl
   have nB:¬ b.flatMap spF=[]:=by intro e; have:=zau spF (fun _=>rfl) b; rw [e] at this; simp at this; omega
   have lB:=zau spF (fun _=>rfl) b
   generalize b[j]?.getD ([],[],0)=c at *
   obtain ⟨p1,p2,p3⟩:=zwu hm hm2
   obtain ⟨⟨⟨s1,s2⟩,s3,s4⟩,s5,s6⟩:=zgX hm
   obtain ⟨⟨⟨d1,d2⟩,d3,d4⟩,d5,d6⟩:=zgX hm2
   have cP:=zlg (tmJ o s (b.take j)) (srtT (s.1++c.1),srtT (s.2.1++c.2.1),s.2.2*c.2.2) (fun x hx=>⟨oo x hx,x2 x hx⟩) ⟨p1,p2,p3⟩ (by omega)
   have c1:=zgT s.1 c.1 (by omega) (by omega) (fun r hr=>by have:=s2 r hr; omega) (fun r hr=>by have:=d2 r hr; omega)
   have c2:=zgT s.2.1 c.2.1 (by omega) (by omega) (fun r hr=>by have:=s4 r hr; omega) (fun r hr=>by have:=d4 r hr; omega)
   rw [<- tsn] at cP
   obtain ⟨sa,sb,sc⟩:=s
   obtain ⟨ca,cb,cc⟩:=c
   simp only [spF] at dr dr2 cP c1 c2 p2 p3
   generalize hX1:tmJ o (sa,sb,sc) (b.take (j+1))=X1 at *
   generalize tmJ o (sa,sb,sc) (b.take j)=X0 at *
   generalize srtT (sa++ca)=w1 at *
   generalize srtT (sb++cb)=w2 at *
   generalize hMA:a.flatMap spF=MA at *
   generalize hMB:b.flatMap spF=MB at *
   simp [go_sem,hji,dr,dr2]
   refine ⟨by kernel_rfl,⟨hil,nA⟩,nB,?_⟩
   refine ⟨_,_,c1,?_⟩
   simp [go_sem]
   refine ⟨⟨hil,nA⟩,nB,?_⟩
   refine ⟨_,_,c2,?_⟩
   simp [go_sem]
   refine ⟨⟨hil,nA⟩,nB,⟨by omega,by omega⟩,?_⟩
   refine ⟨_,_,cP,?_⟩
   simp [go_sem]
   refine ⟨by kernel_rfl,?_⟩
   simp [go_sem]
   exact ⟨⟨by omega,by omega⟩,j+1,by omega,by omega,zaa _ _ _ (by simp),by rw [hX1]; exact ⟨rfl,rfl⟩,by omega⟩
  .have e:j=b.length:=by omega
   subst e
   have hji:¬ (b.length:Int)<b.length:=by omega
   rw [List.take_length]
   simp [go_sem,hji]
   exact ⟨⟨by omega,by omega⟩,i+1,by omega,by omega,(Off.reset (by intro x hx; simp at hx |-; omega) (by simp) (by simp [go_sem,zaa])),by rw [ts]; exact ⟨rfl,rfl⟩,by omega⟩
 .have e:i=a.length:=by omega
  subst e
  have hii:¬ (a.length:Int)<a.length:=by omega
  rw [List.take_length]
  simp [go_sem,hii]
end Go.Proofs.YthhdollpkieknaaGreat


namespace Go.Proofs.YthhdollpkieknaaGreat
open Go.Abs
def for5 (T:List Int->List Spl) (f:List (List Int)):List Spl:=f.foldl (fun o t=>tms5 o (T t)) [([],[],1)]
theorem zm2 (T:List Int->List Spl) (f:List (List Int)) (t:List Int):for5 T (f++[t])=tms5 (for5 T f) (T t):=by simp [for5]
def ro5 (n:Nat) (s:Spl):Spl:=(s.1,[canF n (zay s.2.1)],s.2.2)
def tr5 (n:Nat) (t:List Int) (b:List Spl):List Spl:=b.foldl (fun o s=>put5 o (ro5 n s)) [([t],[],1)]
theorem zqU (n:Nat) (t:List Int) (b:List Spl) (s:Spl):tr5 n t (b++[s])=put5 (tr5 n t b) (ro5 n s):=by simp [tr5]
def tre5:Nat->List Int->List Spl
 | 0,_=>[]
 | n+1,t=>tr5 (n+1) t (for5 (tre5 n) (srtT (brs (canF (n+1) t))))
def bnS (n:Nat) (t:List Int):List (List Int):=srtT (brs (canF n t))
theorem znW (n:Nat) (t:List Int):tre5 (n+1) t=tr5 (n+1) t (for5 (tre5 n) (bnS (n+1) t)):=rfl
def foB (n:Nat) (bs:List (List Int)):Bool:=(List.range bs.length).all fun i=>tmsB (for5 (tre5 n) (bs.take i)) (tre5 n (bs[i]?.getD []))
def trB (n:Nat) (t:List Int) (b:List Spl):Bool:=decide (b.length<=1000) && b.all (fun s=>spB s && rtS n s) && (List.range (b.length+1)).all fun i=>decide ((tr5 n t (b.take i)).length<=1000) && (tr5 n t (b.take i)).all spB
def trcB:Nat->List Int->Bool
 | 0,_=>false
 | n+1,t=>decide (n+1<=100) && lvC t && decide (t.length<=n+1) && lvC (canF (n+1) t) && (decide ((bnS (n+1) t).length<=19) && (bnS (n+1) t).all (fun b=>decide (b.length<=100) && trcB n b)) && foB n (bnS (n+1) t) && trB (n+1) t (for5 (tre5 n) (bnS (n+1) t))
theorem zpR:(trN 6).all (trcB 6)=true:=by kernel_rfl
theorem zoY {n:Nat} {t:List Int} (h:trcB (n+1) t=true):n+1<=100/\Lv t/\t.length<=n+1/\Lv (canF (n+1) t)/\(bnS (n+1) t).length<=19/\(∀ b∈bnS (n+1) t,b.length<=100/\trcB n b=true)/\foB n (bnS (n+1) t)=true/\trB (n+1) t (for5 (tre5 n) (bnS (n+1) t))=true:=by
 simp only [trcB,Bool.and_eq_true,decide_eq_true_eq,List.all_eq_true] at h
 obtain ⟨⟨⟨⟨⟨⟨h1,h2⟩,h3⟩,h4⟩,h5⟩,h6⟩,h7⟩:=h
 exact ⟨h1,zgB h2,h3,zgB h4,h5.1,h5.2,h6,h7⟩
theorem zwp {n:Nat} {bs:List (List Int)} (h:foB n bs=true) {i:Nat} (hi:i<bs.length):tmsB (for5 (tre5 n) (bs.take i)) (tre5 n (bs[i]?.getD []))=true:=List.all_eq_true.1 h i (List.mem_range.2 hi)
theorem zpX {n:Nat} {t:List Int} {b:List Spl} (h:trB n t b=true):b.length<=1000/\(∀ s∈b,spB s=true/\rtS n s=true)/\∀ i,i<=b.length->(tr5 n t (b.take i)).length<=1000/\∀ s∈tr5 n t (b.take i),spB s=true:=by
 simp only [trB,Bool.and_eq_true,decide_eq_true_eq,List.all_eq_true,List.mem_range] at h
 exact ⟨h.1.1,h.1.2,fun i hi=>h.2 i (by omega)⟩
def c3L (n:Nat) (bs:List (List Int)) (i:Nat):List AV:=if i=0 then [.val (.slice none 0 0),.val (.slice none 0 0),.int 1] else (for5 (tre5 n) (bs.take i)).flatMap spF
theorem zrU (n:Nat) (bs:List (List Int)) (i:Nat):NXL (c3L n bs i) ((for5 (tre5 n) (bs.take i)).flatMap spF):=by
 unfold c3L
 by_cases h:i=0
 .rw [if_pos h,h]
  exact .cons .nil (.cons .nil (.cons (.same _) .nil))
 .rw [if_neg h]; exact NXL.same _
theorem zjX (n:Nat) (ih:∀ t,trcB n t=true->GCon Tryz.prog 316 [.sl t.length (avs t)] (.sl (tre5 n t).length ((tre5 n t).flatMap spF)) [.any]) (bs:List (List Int)) (h:foB n bs=true) (hb:∀ b∈bs,b.length<=100/\trcB n b=true) (hl:bs.length<=19) :
  GCon Tryz.prog 354 [.sl bs.length (mat bs)] (.sl (for5 (tre5 n) bs).length ((for5 (tre5 n) bs).flatMap spF)) [.any]:=by
 have xl:=zrU n bs bs.length
 rw [List.take_length] at xl
 refine GCon.nx (.sl _ xl) ?_
 have x0:c3L n bs 0=[.val (.slice none 0 0),.val (.slice none 0 0),.int 1]:=rfl
 have fl0:(for5 (tre5 n) []).length=1:=rfl
 refine zaf Tryz.mixed ⟨5,[6],[1000000+316,1000000+379],[]⟩ [] Tryz.func354 ?_
 rw [Tryz.ntmps354]
 simp [go_sem]
 refine zac (3::4::List.range' 7 13) (fun i:Nat=>[(3,.sl (for5 (tre5 n) (bs.take i)).length (c3L n bs i)),(4,.int i)]) (fun i=>i<=bs.length) (fun i=>bs.length-i) 0 (by simp) (by simp [go_sem,x0,fl0]) (by simp [go_sem]) ?_
 intro i hi
 by_cases hil:i<bs.length
 .have hii:(i:Int)<bs.length:=by omega
  have hm:=memD [] hil
  have md:=zak hil
  have ne:¬ bs=[]:=by rintro rfl; simp at hil
  have cT:=ih _ (hb _ hm).2
  have cM:=GCon.nxL (.cons (.sl _ (zrU n bs i)) (.cons (.same _) .nil)) (zlQ _ _ (zwp h hil))
  have tk:bs.take (i+1)=bs.take i++[bs[i]?.getD []]:=by rw [List.take_succ_eq_append_getElem hil]; simp [hil]
  have fs:=zm2 (tre5 n) (bs.take i) (bs[i]?.getD [])
  rw [<- tk] at fs
  have x1:c3L n bs (i+1)=(for5 (tre5 n) (bs.take (i+1))).flatMap spF:=by unfold c3L; rw [if_neg (by omega)]
  rw [fs] at x1
  generalize bs[i]?.getD []=b at *
  generalize tms5 (for5 (tre5 n) (bs.take i)) (tre5 n b)=X1 at *
  generalize for5 (tre5 n) (bs.take i)=X0 at *
  generalize c3L n bs i=C at *
  simp [go_sem,hii,md]
  refine ⟨ne,?_⟩
  refine ⟨_,_,cT,?_⟩
  simp [go_sem]
  refine ⟨_,_,cM,?_⟩
  simp [go_sem]
  exact ⟨⟨by omega,by omega⟩,i+1,by omega,by omega,zaa _ _ _ (by simp),by rw [x1,fs]; exact ⟨rfl,rfl⟩,by omega⟩
 .have e:i=bs.length:=by omega
  subst e
  have hii:¬ (bs.length:Int)<bs.length:=by omega
  rw [List.take_length]
  simp [go_sem,hii]
def c4L (n:Nat) (t:List Int) (b:List Spl) (i:Nat):List AV:=if i=0 then [.sl 1 [.sl t.length (avs t)],.val (.slice none 0 0),.int 1] else (tr5 n t (b.take i)).flatMap spF
theorem zsD (n:Nat) (t:List Int) (b:List Spl) (i:Nat):NXL (c4L n t b i) ((tr5 n t (b.take i)).flatMap spF):=by
 unfold c4L
 by_cases h:i=0
 .rw [if_pos h,h]
  exact .cons (.same _) (.cons .nil (.cons (.same _) .nil))
 .rw [if_neg h]; exact NXL.same _
theorem zo6:∀ (n:Nat) (t:List Int),trcB n t=true->GCon Tryz.prog 316 [.sl t.length (avs t)] (.sl (tre5 n t).length ((tre5 n t).flatMap spF)) [.any]:=by
 intro n
 induction n with
 | zero=>intro t h; simp [trcB] at h
 | succ n ih =>
  intro t h
  obtain ⟨h1,h2,h3,h4,h5,h6,h7,h8⟩:=zoY h
  have cB:=zhK (n+1) t (by omega) h2 h3 h4 h5 (fun m hm=>by have:=(h6 m hm).1; omega)
  have cF:=zjX n ih (bnS (n+1) t) h7 h6 h5
  have cO:=zbp t (by omega)
  rw [znW]
  show GCon Tryz.prog _ _ (.sl (tr5 (n+1) t (for5 (tre5 n) (bnS (n+1) t))).length _) _
  have hbn:bnS (n+1) t=srtT (brs (canF (n+1) t)):=rfl
  rw [<- hbn] at cB
  obtain ⟨g1,g2,g3⟩:=zpX h8
  generalize for5 (tre5 n) (bnS (n+1) t)=B at *
  generalize bnS (n+1) t=bs at *
  have xl:=zsD (n+1) t B B.length
  rw [List.take_length] at xl
  refine GCon.nx (.sl _ xl) ?_
  have x0:c4L (n+1) t B 0=[.sl 1 [.sl t.length (avs t)],.val (.slice none 0 0),.int 1]:=rfl
  have fl0:(tr5 (n+1) t []).length=1:=rfl
  refine zaf Tryz.mixed ⟨6,[10,11,13,31,32],[1000000+355,1000000+354,1000000+356],[]⟩ [] Tryz.func316 ?_
  rw [Tryz.ntmps316]
  simp [go_sem]
  refine ⟨_,_,cB,?_⟩
  simp [go_sem]
  refine ⟨_,_,cF,?_⟩
  simp [go_sem]
  refine CallVC.of (cO) ?_
  simp [go_sem]
  refine zac (4::5::List.range' 14 26) (fun i:Nat=>[(4,.sl (tr5 (n+1) t (B.take i)).length (c4L (n+1) t B i)),(5,.int i)]) (fun i=>i<=B.length) (fun i=>B.length-i) 0 (by simp) (by simp [go_sem,x0,fl0]) (by simp [go_sem]) ?_
  intro i hi
  by_cases hil:i<B.length
  .have hii:(i:Int)<B.length:=by omega
   have hm:=memD ([],[],0) hil
   obtain ⟨q1,q2⟩:=g2 _ hm
   obtain ⟨y1,y2⟩:=g3 i hi
   obtain ⟨⟨⟨s1,s2⟩,s3,s4⟩,s5,s6⟩:=zgX q1
   obtain ⟨r1,r2,r3⟩:=zkj q2
   have cR:=zmS (n+1) (B[i]?.getD ([],[],0)).2.1 (by omega) r1 r2 (by omega) (fun b hb=>r3 b hb)
   have lc:(canF (n+1) (zay (B[i]?.getD ([],[],0)).2.1)).length=(zay (B[i]?.getD ([],[],0)).2.1).length:=zaF _ _ r1 r2
   have cP:=GCon.nxL (.cons (.sl _ (zsD (n+1) t B i)) (.cons (.same _) .nil)) (zlg (tr5 (n+1) t (B.take i)) (ro5 (n+1) (B[i]?.getD ([],[],0))) (fun s hs=>by
    obtain ⟨⟨⟨z1,z2⟩,z3,z4⟩,z5,z6⟩:=zgX (y2 s hs)
    exact ⟨⟨⟨by omega,z2⟩,by omega,z4⟩,z5,by omega⟩) ⟨⟨⟨by show (B[i]?.getD ([],[],0)).1.length<=100; omega,s2⟩,by simp [ro5],fun r hr=>by
     have hr:r∈[canF (n+1) (zay (B[i]?.getD ([],[],0)).2.1)]:=hr
     rw [List.mem_singleton.1 hr,lc]; omega⟩,s5,by show (B[i]?.getD ([],[],0)).2.2<=1000000; omega⟩ (by omega))
   have dr:=za4 spF (fun _=>rfl) ([],[],0) hil
   have nB:¬ B.flatMap spF=[]:=by intro e; have:=zau spF (fun _=>rfl) B; rw [e] at this; simp at this; omega
   have lB:=zau spF (fun _=>rfl) B
   have tk:B.take (i+1)=B.take i++[B[i]?.getD ([],[],0)]:=by rw [List.take_succ_eq_append_getElem hil]; simp [hil]
   have ts:=zqU (n+1) t (B.take i) (B[i]?.getD ([],[],0))
   rw [<- tk] at ts
   have x1:c4L (n+1) t B (i+1)=(tr5 (n+1) t (B.take (i+1))).flatMap spF:=by unfold c4L; rw [if_neg (by omega)]
   rw [ts] at x1
   generalize B[i]?.getD ([],[],0)=s at *
   obtain ⟨sa,sb,sc⟩:=s
   simp only [ro5,spF] at dr cR lc cP ts x1
   generalize put5 (tr5 (n+1) t (B.take i)) (sa,[canF (n+1) (zay sb)],sc)=X1 at *
   generalize tr5 (n+1) t (B.take i)=X0 at *
   generalize c4L (n+1) t B i=C at *
   rw [<- lc] at cR
   generalize canF (n+1) (zay sb)=w at *
   generalize hMB:B.flatMap spF=MB at *
   simp [go_sem,hii,dr]
   refine ⟨by kernel_rfl,nB,?_⟩
   refine CallD.of (cR) ?_
   simp [go_sem]
   have dr2:MB.drop (i*3+2)=AV.int sc::(B.drop (i+1)).flatMap spF:=by
    have:=congrArg (List.drop 2) dr
    rw [List.drop_drop] at this
    exact this
   simp [go_sem,dr2]
   refine ⟨⟨hil,nB⟩,?_⟩
   refine ⟨_,_,cP,?_⟩
   simp [go_sem]
   refine ⟨by kernel_rfl,?_⟩
   simp [go_sem]
   exact ⟨⟨by omega,by omega⟩,i+1,by omega,by omega,zaa _ _ _ (by simp),by rw [x1,ts]; exact ⟨rfl,rfl⟩,by omega⟩
  .have e:i=B.length:=by omega
   subst e
   have hii:¬ (B.length:Int)<B.length:=by omega
   rw [List.take_length]
   simp [go_sem,hii]
def cut5 (t:List Int):List Spl:=tre5 6 t
theorem zs4:(trN 6).all (fun t=>decide ((cut5 t).length<=100) && (cut5 t).all fun s=>decide (s.1.length<=6) && (s.1.all (fun r=>decide (r.length<=6)) && (decide (s.2.1.length<=1) && (s.2.1.all (fun r=>decide (1<=r.length) && decide (r.length<=6)) && (decide (0<=s.2.2) && decide (s.2.2<=100))))))=true:=by decide +kernel
theorem zm6 {t:List Int} (h:t∈trN 6):(cut5 t).length<=100/\∀ s∈cut5 t,s.1.length<=6/\(∀ r∈s.1,r.length<=6)/\s.2.1.length<=1/\(∀ r∈s.2.1,1<=r.length/\r.length<=6)/\0<=s.2.2/\s.2.2<=100:=by
 have k:=List.all_eq_true.1 zs4 t h
 simp only [Bool.and_eq_true,decide_eq_true_eq,List.all_eq_true] at k
 exact k
theorem zpp {t:List Int} (h:t∈trN 6):GCon Tryz.prog 271 [.sl t.length (avs t)] (.sl (cut5 t).length ((cut5 t).flatMap cuF)) [.any]:=by
 have cT:=zo6 6 t (List.all_eq_true.1 zpR t h)
 obtain ⟨b1,b2⟩:=zm6 h
 have hc:cut5 t=tre5 6 t:=rfl
 rw [<- hc] at cT
 generalize cut5 t=L at *
 have cf:frzL (L.flatMap cuF)=L.flatMap cuF:=by
  clear cT hc b1 b2
  induction L with
  | nil=>rfl
  | cons s L ih=>rw [List.flatMap_cons,zen,ih]; simp [cuF,frzL,frz]
 refine GCon.frzR (r:=.own 148 L.length (L.flatMap cuF)) ?_ (by show AV.sl _ (frzL _)=_; rw [cf])
 refine zaf Tryz.mixed ⟨7,[16,31,38],[1000000+316],[]⟩ [] Tryz.func271 ?_
 rw [Tryz.ntmps271]
 simp [go_sem]
 refine ⟨_,_,cT,?_⟩
 simp [go_sem]
 refine zac (4::5::6::List.range' 10 38) (fun i:Nat=>[(4,.own 148 i ((L.take i).flatMap cuF)),(5,.int i)]) (fun i=>i<=L.length) (fun i=>L.length-i) 0 (by simp) (by simp [go_sem]) (by simp [go_sem]) ?_
 intro i hi
 by_cases hil:i<L.length
 .have hii:(i:Int)<L.length:=by omega
  have hm:=memD ([],[],0) hil
  obtain ⟨c1,c2,c3,c4,c5,c6⟩:=b2 _ hm
  have dr:=za4 spF (fun _=>rfl) ([],[],0) hil
  have nL:¬ L.flatMap spF=[]:=by intro e; have:=zau spF (fun _=>rfl) L; rw [e] at this; simp at this; omega
  have lL:=zau spF (fun _=>rfl) L
  have cl:=zau cuF (fun _=>rfl) (L.take i)
  rw [List.length_take,Nat.min_eq_left (by omega)] at cl
  have tk:L.take (i+1)=L.take i++[L[i]?.getD ([],[],0)]:=by rw [List.take_succ_eq_append_getElem hil]; simp [hil]
  generalize L[i]?.getD ([],[],0)=s at *
  obtain ⟨a,b,k⟩:=s
  simp only [spF] at dr
  simp only at c1 c2 c3 c4 c5 c6
  have cO2:=zic a (by omega) (fun r hr=>by have:=c2 r hr; omega)
  generalize hC:(L.take i).flatMap cuF=C at *
  generalize hML:L.flatMap spF=ML at *
  have dr1:ML.drop (i*3+1)=AV.sl b.length (mat b)::AV.int k::(L.drop (i+1)).flatMap spF:=by
   have:=congrArg (List.drop 1) dr
   rw [List.drop_drop] at this
   exact this
  have dr2:ML.drop (i*3+2)=AV.int k::(L.drop (i+1)).flatMap spF:=by
   have:=congrArg (List.drop 2) dr
   rw [List.drop_drop] at this
   exact this
  cases b with
  | nil =>
   simp [go_sem,hii,dr,dr1,dr2]
   refine ⟨nL,by kernel_rfl,nL,?_⟩
   refine CallD.of (cO2) ?_
   simp [go_sem]
   simp [go_sem,dr2]
   refine ⟨⟨hil,nL⟩,⟨by rw [cl],by omega,by omega⟩,?_⟩
   refine ⟨by kernel_rfl,?_⟩
   simp [go_sem]
   refine ⟨⟨by omega,by omega⟩,i+1,by omega,by omega,zaa _ _ _ (by simp),?_⟩
   rw [tk,List.flatMap_append,hC]
   refine ⟨⟨by omega,?_⟩,by omega⟩
   simp [cuF,tkL,mat]
  | cons r b =>
   have e:b=[]:=List.length_eq_zero_iff.1 (by simpa using c3)
   subst e
   have cO:=zbp r (by have:=(c4 r (by simp)).2; omega)
   simp [go_sem,hii,dr,dr1,dr2,mat]
   refine ⟨nL,?_⟩
   refine CallVC.of (cO) ?_
   simp [go_sem]
   simp [go_sem,dr,dr2]
   refine ⟨by kernel_rfl,⟨hil,nL⟩,?_⟩
   refine CallD.of (cO2) ?_
   simp [go_sem]
   simp [go_sem,dr2]
   refine ⟨⟨hil,nL⟩,⟨by rw [cl],by omega,by omega⟩,?_⟩
   refine ⟨by kernel_rfl,?_⟩
   simp [go_sem]
   refine ⟨⟨by omega,by omega⟩,i+1,by omega,by omega,zaa _ _ _ (by simp),?_⟩
   rw [tk,List.flatMap_append,hC]
   refine ⟨⟨by omega,?_⟩,by omega⟩
   simp [cuF,tkL,mat]
 .have e:i=L.length:=by omega
  subst e
  have hii:¬ (L.length:Int)<L.length:=by omega
  rw [List.take_length]
  simp [go_sem,hii]
end Go.Proofs.YthhdollpkieknaaGreat


namespace Go.Proofs.YthhdollpkieknaaGreat
open Go.Abs
end Go.Proofs.YthhdollpkieknaaGreat


namespace Go.Proofs.YthhdollpkieknaaGreat
open Go.Abs
end Go.Proofs.YthhdollpkieknaaGreat


namespace Go.Proofs.YthhdollpkieknaaGreat
open Go.Abs
end Go.Proofs.YthhdollpkieknaaGreat


namespace Go.Proofs.YthhdollpkieknaaGreat
open Go.Abs
end Go.Proofs.YthhdollpkieknaaGreat


namespace Go.Proofs.YthhdollpkieknaaGreat
open Go.Abs
end Go.Proofs.YthhdollpkieknaaGreat


namespace Go.Proofs.YthhdollpkieknaaGreat
open Go.Abs
end Go.Proofs.YthhdollpkieknaaGreat


namespace Go.Proofs.YthhdollpkieknaaGreat
open Go.Abs
end Go.Proofs.YthhdollpkieknaaGreat


namespace Go.Proofs.YthhdollpkieknaaGreat
open Go.Abs
end Go.Proofs.YthhdollpkieknaaGreat


namespace Go.Proofs.YthhdollpkieknaaGreat
open Go.Abs
end Go.Proofs.YthhdollpkieknaaGreat


namespace Go.Proofs.YthhdollpkieknaaGreat
open Go.Abs
end Go.Proofs.YthhdollpkieknaaGreat


namespace Go.Proofs.YthhdollpkieknaaGreat
open Go.Abs
end Go.Proofs.YthhdollpkieknaaGreat


namespace Go.Proofs.YthhdollpkieknaaGreat
open Go.Abs
end Go.Proofs.YthhdollpkieknaaGreat


namespace Go.Proofs.YthhdollpkieknaaGreat
open Go.Abs
end Go.Proofs.YthhdollpkieknaaGreat


namespace Go.Proofs.YthhdollpkieknaaGreat
open Go.Abs
end Go.Proofs.YthhdollpkieknaaGreat


namespace Go.Proofs.YthhdollpkieknaaGreat
open Go.Abs CR
abbrev c7:Cg (Ser Int):=cgS cgI 7
section
variable {α:Type} [CR α]
end
end Go.Proofs.YthhdollpkieknaaGreat


namespace Go.Proofs.YthhdollpkieknaaGreat
open Go.Abs
end Go.Proofs.YthhdollpkieknaaGreat


namespace Go.Proofs.YthhdollpkieknaaGreat
open Go.Abs
theorem zpN {k:Nat} (h:0<k) (t:List Int):genT k t≠[]:=by
 cases k with
 | zero=>omega
 | succ k=>simp [genT]
theorem zgS (n:Nat) (h1:1<=n) (h6:n<=6):Con Tryz.prog 215 [.int n] (.own 25 (genT 200 (upTo n)).length (omat (genT 200 (upTo n)))):=by
 have c:=zij n h6 (n-1) [0] [] ⟨by simp,by simp,fun j h1 h2=>by simp at h2; omega⟩ (by simp; omega) (by
  have:=Nat.pow_le_pow_right (n:=6) (by omega) (show n-1<=6 by omega)
  simp only [List.length_nil]; omega)
 rw [<- (zgR n h1 h6).2.1] at c
 have hp:=zpN (k:=200) (by omega) (upTo n)
 generalize genT 200 (upTo n)=G at *
 cases G with
 | nil=>exact (hp rfl).elim
 | cons r G =>
  refine zab Tryz.mixed ⟨3,[],[272],[]⟩ Tryz.func215 ?_
  rw [Tryz.ntmps215]
  simp [go_sem]
  refine ⟨_,_,c,?_⟩
  simp [go_sem]
end Go.Proofs.YthhdollpkieknaaGreat


namespace Go.Proofs.YthhdollpkieknaaGreat
open Go.Abs
def bys (c:List Int):List AV:=c.map fun x=>.val (.int .u8 x)
@[simp] theorem zxT (c:List Int):(bys c).length=c.length:=by simp [bys]
theorem zkg {c:List Int} {k:Nat} (h:k<c.length):(bys c).drop k=.val (.int .u8 (c[k]?.getD 0))::bys (c.drop (k+1)):=by
 rw [bys,<- List.map_drop,List.drop_eq_getElem_cons h,List.map_cons]; simp [h,bys]
def Byt (c:List Int):Prop:=c.length<=4096/\∀ x∈c,0<=x/\x<=255
theorem Byt.get {c:List Int} (h:Byt c) (k:Nat):0<=c[k]?.getD 0/\c[k]?.getD 0<=255:=by
 rcases Nat.lt_or_ge k c.length with hk | hk
 .simp [hk]; exact h.2 _ (List.getElem_mem hk)
 .simp [hk]
abbrev Src:=Nat × Int
def srcA (c:List Int) (σ:Src):AV:=.box 162 [.sl c.length (bys c),.int σ.1,.val (.int .u64 σ.2)]
theorem zaA (c:List Int) (σ:Src):srcA c σ=.box 162 [.sl c.length (bys c),.int σ.1,.val (.int .u64 σ.2)]:=rfl
def nxH (h:Int):Int:=IntKind.u64.wrap (IntKind.u64.wrap (h*6364136223846793005)+1442695040888963407)
def nxX (h:Int):Int:=andI IntKind.u64 (shrI IntKind.u64 (nxH h) 33) 16777215
def byV (c:List Int) (k:Nat):Int:=if k<c.length then c[k]?.getD 0 else 0
def nx1 (c:List Int) (σ:Src) (n:Int):Int:=if n<1 then 0 else (nxX σ.2+byV c σ.1).tmod n
def nx2 (c:List Int) (σ:Src) (n:Int):Src:=if n<1 then σ else (if σ.1<c.length then σ.1+1 else σ.1,nxH σ.2)
def SOk (σ:Src):Prop:=σ.1<=4096
theorem zaI {c:List Int} (hc:Byt c) {σ:Src} (h:SOk σ) (n:Int):SOk (nx2 c σ n):=by
 unfold SOk nx2 at *
 have:=hc.1
 split
 .exact h
 .simp only; split <;> omega
theorem zwG (h:Int):0<=nxX h/\nxX h<=16777215:=by
 unfold nxX andI
 generalize shrI IntKind.u64 (nxH h) 33=y
 have h1:(BitVec.ofInt IntKind.u64.bits y &&& BitVec.ofInt IntKind.u64.bits 16777215).toNat<=16777215:=by
  rw [BitVec.toNat_and]
  exact Nat.le_trans Nat.and_le_right (by decide)
 generalize (BitVec.ofInt IntKind.u64.bits y &&& BitVec.ofInt IntKind.u64.bits 16777215).toNat=m at *
 simp [IntKind.wrap,IntKind.signed,IntKind.bits]
 omega
theorem zvP {c:List Int} (hc:Byt c) (k:Nat):0<=byV c k/\byV c k<=255:=by
 unfold byV
 split
 .exact hc.get k
 .omega
theorem zct {c:List Int} (hc:Byt c) (σ:Src) {n:Int} (hn:1<=n):0<=nx1 c σ n/\nx1 c σ n<n:=by
 have h1:=zwG σ.2
 have h2:=zvP hc σ.1
 unfold nx1
 rw [if_neg (by omega),Int.tmod_eq_emod_of_nonneg (by omega)]
 exact ⟨Int.emod_nonneg _ (by omega),Int.emod_lt_of_pos _ (by omega)⟩
theorem zan (c:List Int) (σ:Src) (n:Int) (hc:Byt c) (hs:SOk σ):GCon Tryz.prog 183 [srcA c σ,.int n] (.int (nx1 c σ n)) [srcA c (nx2 c σ n),.any]:=by
 have hx:=zwG σ.2
 have hy:=zvP hc σ.1
 have hcl:=hc.1
 unfold SOk at hs
 unfold nx1 nx2
 by_cases h0:n<1
 .rw [if_pos h0,if_pos h0]
  unfold srcA
  refine zaf Tryz.mixed ⟨6,[],[],[]⟩ [0] Tryz.func183 ?_
  rw [Tryz.ntmps183]
  simp [go_sem]
  simp [go_sem,h0]
 .rw [if_neg h0,if_neg h0]
  unfold srcA
  have e1:nxH σ.2=IntKind.u64.wrap (IntKind.u64.wrap (σ.2*6364136223846793005)+1442695040888963407):=rfl
  have e2:nxX σ.2=andI IntKind.u64 (shrI IntKind.u64 (nxH σ.2) 33) 16777215:=rfl
  generalize nxX σ.2=x at *
  generalize nxH σ.2=h' at *
  have n0:¬ n=0:=by omega
  by_cases hk:σ.1<c.length
  .have hb:byV c σ.1=c[σ.1]?.getD 0:=by unfold byV; rw [if_pos hk]
   have hne:¬ c=[]:=by rintro rfl; simp at hk
   rw [if_pos hk]
   rw [hb] at hy |-
   refine zaf Tryz.mixed ⟨6,[],[],[]⟩ [0] Tryz.func183 ?_
   rw [Tryz.ntmps183]
   simp [go_sem]
   simp [go_sem,h0,<- e1,<- e2]
   refine ⟨⟨by omega,by omega⟩,by kernel_rfl,?_⟩
   refine ⟨by kernel_rfl,?_⟩
   simp [go_sem]
   have hD:=zkg hk
   generalize c[σ.1]?.getD 0=b at *
   simp [go_sem,hk,hD]
   refine ⟨by kernel_rfl,by intro e; exact hne (by simpa [bys] using e),⟨by omega,by omega⟩,⟨by omega,by omega⟩,?_⟩
   refine ⟨by kernel_rfl,?_⟩
   simp [go_sem]
   exact ⟨⟨by omega,by omega⟩,n0⟩
  .have hb:byV c σ.1=0:=by unfold byV; rw [if_neg hk]
   rw [if_neg hk]
   rw [hb] at hy |-
   refine zaf Tryz.mixed ⟨6,[],[],[]⟩ [0] Tryz.func183 ?_
   rw [Tryz.ntmps183]
   simp [go_sem]
   simp [go_sem,h0,<- e1,<- e2]
   refine ⟨⟨by omega,by omega⟩,by kernel_rfl,?_⟩
   refine ⟨by kernel_rfl,?_⟩
   simp [go_sem]
   simp [go_sem,hk]
   exact n0
theorem getI {xs:List Int} {v:Int} (h0:0<=v) (h1:v<xs.length):∃ k:Nat,v=k/\k<xs.length/\v.toNat=k:=⟨v.toNat,by omega,by omega,rfl⟩
def pk (c:List Int) (σ:Src) (xs:List Int):Int:=xs[(nx1 c σ xs.length).toNat]?.getD 0
theorem zvV (c:List Int) (hc:Byt c) (σ:Src) {xs:List Int} (hx:0<xs.length):pk c σ xs∈xs:=by
 have h:=zct hc σ (n:=xs.length) (by omega)
 unfold pk
 have hk:(nx1 c σ xs.length).toNat<xs.length:=by omega
 simp [hk]
theorem ziS (c:List Int) (σ:Src) (xs:List Int) (hc:Byt c) (hs:SOk σ) (hx:0<xs.length) (hxl:xs.length<=1000) :
  GCon Tryz.prog 98 [srcA c σ,.own 2 xs.length (avs xs)] (.int (pk c σ xs)) [srcA c (nx2 c σ xs.length),.any]:=by
 have cN:=zan c σ xs.length hc hs
 have hb:=zct hc σ (n:=xs.length) (by omega)
 unfold pk
 obtain ⟨k,hk,hkl,hkt⟩:=getI hb.1 hb.2
 rw [hkt]
 rw [hk] at cN
 unfold srcA at *
 refine zaf Tryz.mixed ⟨5,[],[1000000+183],[]⟩ [0] Tryz.func98 ?_
 rw [Tryz.ntmps98]
 simp [go_sem]
 refine ⟨_,_,cN,?_⟩
 simp [go_sem]
 have hA:=zbd hkl
 simp [go_sem,hA]
 exact hkl
theorem zbB (p q:Int) (hp:fits p) (hq:fits q):Con Tryz.prog 209 [.int p,.int q] (.int (p%10007*pw (q%10007) 10005%10007)):=by
 have hf:fits (p%10007*pw (q%10007) 10005):=zaw (zai _) (zai _)
 refine zab Tryz.mixed ⟨5,[],[],[]⟩ Tryz.func209 ?_
 rw [Tryz.ntmps209]
 simp [go_sem]
 refine CallVC.of (zcv p hp.1 hp.2) ?_
 simp [go_sem]
 refine CallVC.of (zcv q hq.1 hq.2) ?_
 simp [go_sem]
 refine CallVC.of (zks _ (zai q)) ?_
 simp [go_sem]
 refine CallVC.of (zaZ _ _ hf) ?_
 simp [go_sem]
def nbV (c:List Int) (σ:Src):Int × Src :=
 if nx1 c σ 5=0 then (nx1 c (nx2 c σ 5) 10007,nx2 c (nx2 c σ 5) 10007)
 else if nx1 c σ 5=1 then (pk c (nx2 c σ 5) [0,1,0,1,10006,2],nx2 c (nx2 c σ 5) 6)
 else ((nx1 c (nx2 c σ 5) 15-7)%10007*pw ((1+nx1 c (nx2 c (nx2 c σ 5) 15) 12)%10007) 10005%10007,nx2 c (nx2 c (nx2 c σ 5) 15) 12)
theorem zb2 {c:List Int} (hc:Byt c) {σ:Src} (hs:SOk σ):isN (nbV c σ).1/\SOk (nbV c σ).2:=by
 have s1:=zaI hc hs 5
 unfold nbV
 split
 .exact ⟨zct hc (nx2 c σ 5) (n:=10007) (by omega),zaI hc s1 _⟩
 .split
  .refine ⟨?_,zaI hc s1 _⟩
   have:=zvV c hc (nx2 c σ 5) (xs:=[0,1,0,1,10006,2]) (by simp)
   simp at this
   simp only
   constructor <;> omega
  .exact ⟨zai _,zaI hc (zaI hc s1 _) _⟩
theorem zbs (c:List Int) (σ:Src) (hc:Byt c) (hs:SOk σ):GCon Tryz.prog 184 [srcA c σ] (.int (nbV c σ).1) [srcA c (nbV c σ).2]:=by
 have s1:=zaI hc hs 5
 have s2:=zaI hc s1 15
 have c1:=zan c σ 5 hc hs
 have c2:=zan c (nx2 c σ 5) 10007 hc s1
 have c3:=ziS c (nx2 c σ 5) [0,1,0,1,10006,2] hc s1 (by simp) (by simp)
 have c4:=zan c (nx2 c σ 5) 15 hc s1
 have c5:=zan c (nx2 c (nx2 c σ 5) 15) 12 hc s2
 have b4:=zct hc (nx2 c σ 5) (n:=15) (by omega)
 have b5:=zct hc (nx2 c (nx2 c σ 5) 15) (n:=12) (by omega)
 have c6:=zbB (nx1 c (nx2 c σ 5) 15-7) (1+nx1 c (nx2 c (nx2 c σ 5) 15) 12) ⟨by omega,by omega⟩ ⟨by omega,by omega⟩
 unfold nbV
 have e3:(([0,1,0,1,10006,2]:List Int).length:Int)=6:=rfl
 rw [e3] at c3
 generalize pk c (nx2 c σ 5) [0,1,0,1,10006,2]=pv at *
 generalize nx1 c (nx2 c (nx2 c σ 5) 15) 12=v5 at *
 generalize nx2 c (nx2 c (nx2 c σ 5) 15) 12=t5 at *
 generalize nx1 c (nx2 c σ 5) 15=v4 at *
 generalize nx2 c (nx2 c σ 5) 15=t4 at *
 generalize nx2 c (nx2 c σ 5) 6=t3 at *
 generalize nx1 c (nx2 c σ 5) 10007=v2 at *
 generalize nx2 c (nx2 c σ 5) 10007=t2 at *
 generalize nx1 c σ 5=v1 at *
 generalize nx2 c σ 5=t1 at *
 unfold srcA at *
 by_cases h0:v1=0
 .rw [if_pos h0]
  refine zaf Tryz.mixed ⟨3,[],[1000000+183,1000000+98],[]⟩ [0] Tryz.func184 ?_
  rw [Tryz.ntmps184]
  simp [go_sem]
  refine ⟨_,_,c1,?_⟩
  simp [go_sem]
  simp [go_sem,h0]
  refine ⟨_,_,c2,?_⟩
  simp [go_sem]
 .rw [if_neg h0]
  by_cases h1:v1=1
  .rw [if_pos h1]
   refine zaf Tryz.mixed ⟨3,[],[1000000+183,1000000+98],[]⟩ [0] Tryz.func184 ?_
   rw [Tryz.ntmps184]
   simp [go_sem]
   refine ⟨_,_,c1,?_⟩
   simp [go_sem]
   simp [go_sem,h0,h1]
   refine ⟨_,_,c3,?_⟩
   simp [go_sem]
  .rw [if_neg h1]
   refine zaf Tryz.mixed ⟨3,[],[1000000+183,1000000+98],[]⟩ [0] Tryz.func184 ?_
   rw [Tryz.ntmps184]
   simp [go_sem]
   refine ⟨_,_,c1,?_⟩
   simp [go_sem]
   simp [go_sem,h0,h1]
   refine ⟨_,_,c4,?_⟩
   simp [go_sem]
   refine ⟨⟨by omega,by omega⟩,?_⟩
   refine ⟨_,_,c5,?_⟩
   simp [go_sem]
   refine ⟨⟨by omega,by omega⟩,?_⟩
   refine CallVC.of (c6) ?_
   simp [go_sem]
def lsV (f:Src->Int × Src):Nat->Src->List Int × Src
 | 0,σ=>([],σ)
 | n+1,σ=>((f σ).1::(lsV f n (f σ).2).1,(lsV f n (f σ).2).2)
theorem zeI {f:Src->Int × Src} (hf:∀ σ,SOk σ->isN (f σ).1/\SOk (f σ).2):∀ (n:Nat) (σ:Src),SOk σ->(lsV f n σ).1.length=n/\Ns (lsV f n σ).1/\SOk (lsV f n σ).2
 | 0,σ,h=>⟨rfl,by simp [lsV,Ns],h⟩
 | n+1,σ,h=>by
  have h1:=hf σ h
  have h2:=zeI hf n _ h1.2
  refine ⟨by simp [lsV,h2.1],fun x hx=>?_,h2.2.2⟩
  rcases List.mem_cons.1 hx with rfl | hx
  .exact h1.1
  .exact h2.2.1 x hx
theorem zbR (c:List Int) (σ:Src) (n:Nat) (hc:Byt c) (hs:SOk σ) (hn:n<=100000) :
  GCon Tryz.prog 221 [srcA c σ,.int n] (.own 2 n (avs (lsV (nbV c) n σ).1)) [srcA c (lsV (nbV c) n σ).2,.any]:=by
 unfold srcA
 refine zaf Tryz.mixed ⟨6,[],[1000000+184],[]⟩ [0] Tryz.func221 ?_
 rw [Tryz.ntmps221]
 simp [go_sem]
 refine zac (0::1::5::List.range' 7 9) (fun x:List Int × Src × Nat=>[(0,.box 162 [.sl c.length (bys c),.int x.2.1.1,.val (.int .u64 x.2.1.2)]),(1,.int x.2.2),(5,.own 2 x.1.length (avs x.1))]) (fun x=>SOk x.2.1/\x.1.length+x.2.2=n/\x.1++(lsV (nbV c) x.2.2 x.2.1).1=(lsV (nbV c) n σ).1/\(lsV (nbV c) x.2.2 x.2.1).2=(lsV (nbV c) n σ).2) (fun x=>x.2.2) ([],σ,n) ⟨hs,by simp,rfl,rfl⟩ (by simp [go_sem,avs]) (by simp [go_sem]) ?_
 rintro ⟨acc,τ,k⟩ ⟨h1,h2,h3,h4⟩
 simp only at h1 h2 h3 h4
 simp [go_sem]
 refine ⟨fun h=>?_,fun h=>?_⟩ <;> simp at h
 .obtain ⟨j,rfl⟩:∃ j,k=j+1:=⟨k-1,by omega⟩
  have cN:=zbs c τ hc h1
  have hok:=zb2 hc h1
  unfold srcA at cN
  simp only [lsV] at h3 h4
  generalize nbV c τ=r at *
  simp [go_sem]
  refine ⟨_,_,cN,?_⟩
  simp [go_sem]
  refine ⟨⟨by omega,by omega⟩,by omega,acc++[r.1],r.2.1,r.2.2,j,⟨hok.2,by simp; omega,by simpa using h3,h4⟩,by omega,zaa _ _ _ (by simp),?_⟩
  simp [avs]
 .have e:k=0:=by omega
  subst e
  simp only [lsV,List.append_nil] at h3 h4
  simp [go_sem]
  rw [<- h3,<- h4]
  simp at h2
  simp [h2]
theorem zoN (c:List Int) (hc:Byt c):RCon Tryz.prog 96 [.sl c.length (bys c)] (fun r o=>o=[.any]/\∃ h,r=srcA c (0,h)):=by
 have hcl:=hc.1
 unfold srcA
 refine zaD Tryz.mixed ⟨5,[],[],[]⟩ [] Tryz.func96 ?_
 rw [Tryz.ntmps96]
 simp [go_sem]
 refine zac (3::4::List.range' 12 25) (fun x:Nat × Int=>[(3,.box 162 [.sl c.length (bys c),.int 0,.val (.int .u64 x.2)]),(4,.int x.1)]) (fun x=>x.1<=c.length) (fun x=>c.length-x.1) (0,IntKind.u64.wrap (5381+IntKind.u64.wrap c.length)) (by simp) (by simp [go_sem]) (by simp [go_sem]) ?_
 rintro ⟨i,h⟩ hi
 simp only at hi
 by_cases hic:i<c.length
 .have h4:(i:Int)<4096:=by omega
  have hne:¬ c=[]:=by rintro rfl; simp at hic
  have hD:=zkg hic
  have hb:=hc.get i
  generalize c[i]?.getD 0=b at *
  simp [go_sem,hic,h4,hD]
  refine ⟨by kernel_rfl,by intro e; exact hne (by simpa [bys] using e),?_⟩
  refine ⟨by kernel_rfl,?_⟩
  simp [go_sem]
  exact ⟨⟨by omega,by omega⟩,i+1,by omega,by omega,zaa _ _ _ (by simp),by omega⟩
 .simp [go_sem,hic]
theorem zeB (a b:List Int) (ha:a.length<=9223372036854775807):Con Tryz.prog 22 [.sl a.length (avs a),.sl b.length (avs b)] (.bool (decide (a=b))):=by
 by_cases hl:a.length=b.length
 .refine zab Tryz.mixed ⟨6,[],[],[]⟩ Tryz.func22 ?_
  rw [Tryz.ntmps22]
  simp [go_sem]
  simp [go_sem,hl]
  refine zac (4::5::List.range' 11 15) (fun i:Nat=>[(5,.int i)]) (fun i=>i<=a.length/\∀ j,j<i->a[j]?.getD 0=b[j]?.getD 0) (fun i=>a.length-i) 0 (by simp) (by simp [go_sem]) (by simp [go_sem]) ?_
  rintro i ⟨hi,hj⟩
  simp [go_sem]
  refine ⟨fun h=>?_,fun h=>?_⟩ <;> simp at h
  .have hia:i<a.length:=by omega
   have hib:i<b.length:=by omega
   have na:¬ a=[]:=by rintro rfl; simp at hia
   have nb:¬ b=[]:=by rintro rfl; simp at hib
   simp [go_sem,zap hia,zap hib]
   refine ⟨by kernel_rfl,⟨hib,na⟩,⟨hib,nb⟩,?_⟩
   refine ⟨by kernel_rfl,?_⟩
   simp [go_sem]
   refine ⟨fun h2=>?_,fun h2=>?_⟩ <;> simp at h2
   .have e:¬ a=b:=fun e=>h2 (by rw [e])
    simp [go_sem,e]
   .simp [go_sem]
    refine ⟨by omega,i+1,⟨by omega,fun j hj2=>?_⟩,by omega,zaa _ _ _ (by simp),by omega⟩
    rcases Nat.lt_or_ge j i with h3 | h3
    .exact hj j h3
    .have:j=i:=by omega
     subst this
     exact h2
  .have e:a=b:=by
    refine List.ext_getElem hl fun k h1 h2=>?_
    have:=hj k (by omega)
    simpa [h1,h2] using this
   simp [go_sem,e]
 .have e:¬ a=b:=fun e=>hl (by rw [e])
  have hl2:¬ (a.length:Int)=b.length:=by omega
  refine zab Tryz.mixed ⟨6,[],[],[]⟩ Tryz.func22 ?_
  rw [Tryz.ntmps22]
  simp [go_sem]
  simp [go_sem,hl2,e]
end Go.Proofs.YthhdollpkieknaaGreat


namespace Go.Proofs.YthhdollpkieknaaGreat
open Go.Abs
theorem zb4 (n:Nat) (hn:n<=6):Con Tryz.prog 130 [.int n] (.own 25 (trN n).length (omat (trN n))):=by
 refine zab Tryz.mixed ⟨5,[],[],[]⟩ Tryz.func130 ?_
 rw [Tryz.ntmps130]
 simp [go_sem]
 refine zac ([3,4]++List.range' 6 9) (fun i:Nat=>[(3,.own 25 (trN i).length (omat (trN i))),(4,.int (i+1))]) (fun i=>i<=n) (fun i=>n-i) 0 (by simp) (by simp [go_sem,trN,omat]) (by simp [go_sem]) ?_
 intro i hi
 have l0:=zhq i (by omega)
 by_cases hin:i<n
 .have hii:(i:Int)+1<=n:=by omega
  have cT:=zgS (i+1) (by omega) (by omega)
  have l1:=zhq (i+1) (by omega)
  have ts:=zd2 i
  have tl:=congrArg List.length ts
  rw [List.length_append] at tl
  have ot:omat (trN (i+1))=omat (trN i)++omat (genT 200 (upTo (i+1))):=by rw [ts]; simp [omat]
  have ec:((i+1:Nat):Int)=(i:Int)+1:=by omega
  rw [ec] at cT
  generalize genT 200 (upTo (i+1))=G at *
  simp [go_sem,hii]
  refine CallVC.of (cT) ?_
  simp [go_sem]
  exact ⟨⟨by omega,by omega⟩,⟨by omega,by omega⟩,i+1,by omega,by omega,zaa _ _ _ (by simp),by rw [tl,ot]; exact ⟨rfl,rfl⟩,by omega⟩
 .have e:i=n:=by omega
  subst e
  have hii:¬ (i:Int)+1<=i:=by omega
  simp [go_sem,hii]
def fdL:List (List Int)->List Int->Nat->Int
 | [],_,_ => -1
 | x::L,t,i=>if x=t then (i:Int) else fdL L t (i+1)
theorem zk4:∀ (L:List (List Int)) (t:List Int) (i:Nat),-1<=fdL L t i/\fdL L t i<=L.length+i
 | [],_,i=>by simp [fdL]
 | x::L,t,i=>by
  rw [fdL]
  split
  .simp; omega
  .have:=zk4 L t (i+1)
   simp only [List.length_cons]; omega
theorem zf7 (L:List (List Int)) (t:List Int) (hL:L.length<=1048576) (hr:∀ r∈L,r.length<=1048576):Con Tryz.prog 189 [.sl L.length (mat L),.sl t.length (avs t)] (.int (fdL L t 0)):=by
 refine zab Tryz.mixed ⟨6,[],[],[]⟩ Tryz.func189 ?_
 rw [Tryz.ntmps189]
 simp [go_sem]
 refine zac (4::5::List.range' 6 13) (fun i:Nat=>[(5,.int i)]) (fun i=>i<=L.length/\fdL L t 0=fdL (L.drop i) t i) (fun i=>L.length-i) 0 (by simp) (by simp [go_sem]) (by simp [go_sem]) ?_
 rintro i ⟨hi,he⟩
 by_cases h:i<L.length
 .have hii:(i:Int)<L.length:=by omega
  have ne:¬ L=[]:=by rintro rfl; simp at h
  have md:=zak h
  have cS:=zci (L[i]?.getD []) t (by have:=hr _ (memD [] h); omega)
  have dl:L.drop i=L[i]?.getD []::L.drop (i+1):=by rw [List.drop_eq_getElem_cons h]; simp [h]
  rw [dl,fdL] at he
  generalize L[i]?.getD []=r at *
  by_cases hrt:r=t
  .rw [if_pos hrt] at he
   subst hrt
   simp only [decide_true] at cS
   simp [go_sem,hii,md]
   refine ⟨ne,?_⟩
   refine CallVC.of (cS) ?_
   simp [go_sem]
   exact he.symm
  .rw [if_neg hrt] at he
   simp only [hrt,decide_false] at cS
   simp [go_sem,hii,md]
   refine ⟨ne,?_⟩
   refine CallVC.of (cS) ?_
   simp [go_sem]
   exact ⟨⟨by omega,by omega⟩,i+1,⟨by omega,he⟩,by omega,zaa _ _ _ (by simp),by omega⟩
 .have e:i=L.length:=by omega
  subst e
  have hii:¬ (L.length:Int)<L.length:=by omega
  rw [List.drop_length,fdL] at he
  rw [he]
  simp [go_sem,hii]
theorem znf:Con Tryz.prog 269 [] (.own 2 38 (avs zbq)):=by
 have e:avs zbq=.int 1::List.replicate 37 (.int 0):=by kernel_rfl
 rw [e]
 refine zab Tryz.mixed ⟨2,[],[],[]⟩ Tryz.func269 ?_
 rw [Tryz.ntmps269]
 simp [go_sem]
def adL (a b:List Int) (k:Int):List Int:=(List.range a.length).map fun i=>(iat a i+k*iat b i%10007)%10007
theorem zhw (a b:List Int) (k:Int):(adL a b k).length=a.length:=by simp [adL]
theorem zq0 {a b:List Int} {k:Int} {i:Nat} (h:i<a.length):(adL a b k).take (i+1)=(adL a b k).take i++[(iat a i+k*iat b i%10007)%10007]:=by
 rw [List.take_succ_eq_append_getElem (by rw [zhw]; exact h)]
 simp [adL]
theorem zpO (a b:List Int) (k:Int) (ha:Ns a) (hb:Ns b) (hk:isN k) (hl:a.length<=1048576) (hab:a.length<=b.length) :
  Con Tryz.prog 311 [.sl a.length (avs a),.sl b.length (avs b),.int k] (.own 2 a.length (avs (adL a b k))):=by
 have tk:=fun i h=>zq0 (a:=a) (b:=b) (k:=k) (i:=i) h
 have tl:(adL a b k).take a.length=adL a b k:=List.take_of_length_le (by rw [zhw]; exact Nat.le_refl _)
 have ll:=zhw a b k
 generalize adL a b k=O at *
 refine zab Tryz.mixed ⟨9,[],[],[]⟩ Tryz.func311 ?_
 rw [Tryz.ntmps311]
 simp [go_sem]
 refine zac (7::8::List.range' 10 20) (fun i:Nat=>[(7,.own 2 i (avs (O.take i))),(8,.int i)]) (fun i=>i<=a.length) (fun i=>a.length-i) 0 (by simp) (by simp [go_sem]) (by simp [go_sem]) ?_
 intro i hi
 by_cases hil:i<a.length
 .have hii:(i:Int)<a.length:=by omega
  have da:=zae hil
  have db:=zae (a:=b) (v:=i) (by omega)
  have na:¬ a=[]:=by rintro rfl; simp at hil
  have nb:¬ b=[]:=by rintro rfl; simp at hab; rw [hab] at hil; simp at hil
  have xN:isN (iat a i):=ha.get i
  have yN:isN (iat b i):=hb.get i
  have f1:=zaw hk yN
  have c1:=zaZ k (iat b i) f1
  have m1:=zai (k*iat b i)
  have q1:=m1.1; have q2:=m1.2; have q3:=xN.1; have q4:=xN.2
  have c2:=zb8 (iat a i) (k*iat b i%10007) ⟨by omega,by omega⟩
  have t1:=tk i hil
  generalize iat a i=x at *
  generalize iat b i=y at *
  simp [go_sem,hii,da,db]
  refine ⟨by kernel_rfl,na,⟨by omega,nb⟩,?_⟩
  refine CallD.of (c1) ?_
  simp [go_sem]
  refine CallD.of (c2) ?_
  simp [go_sem]
  refine ⟨⟨by omega,by omega,by omega⟩,?_⟩
  refine ⟨by kernel_rfl,?_⟩
  simp [go_sem]
  refine ⟨⟨by omega,by omega⟩,i+1,by omega,by omega,zaa _ _ _ (by simp),?_⟩
  have em:(x+k*y%10007)%10007=(x+k*y)%10007:=by omega
  rw [t1,zal,em]
  exact ⟨⟨rfl,rfl⟩,by omega⟩
 .have e:i=a.length:=by omega
  subst e
  have hii:¬ (a.length:Int)<a.length:=by omega
  rw [tl]
  simp [go_sem,hii]
theorem zlS (a:List Int) (k:Int) (ha:N38 a) (hk:isN k):Con Tryz.prog 213 [.sl a.length (avs a),.int k] (.own 2 38 (avs (scS k a))):=by
 have cA:=zb4 6 (by omega)
 have l6:=zaJ
 have e6:((6:Nat):Int)=6:=rfl
 rw [e6,l6] at cA
 have tk:=fun i (h:i<38)=>zkA k a h
 have ta:=(zhU k a).take
 have lo:=(zhU k a).1
 have la:=ha.1
 have t1:=tk 0 (by omega)
 have na:=ha.ne
 have r0:=ha.at 0
 have e0:iat a 0*k ^ nd 0%10007=iat a 0:=by
  show iat a 0*k ^ 0%10007=iat a 0
  rw [Int.pow_zero,Int.mul_one,Int.emod_eq_of_lt r0.1 r0.2]
 rw [e0,List.take_zero,List.nil_append] at t1
 have a0:=zae (a:=a) (v:=0) (by omega)
 rw [List.drop_zero,List.drop_one] at a0
 generalize scS k a=O at *
 refine zab Tryz.mixed ⟨8,[],[],[]⟩ Tryz.func213 ?_
 rw [Tryz.ntmps213]
 simp [go_sem]
 refine ⟨by kernel_rfl,?_⟩
 refine CallD.of (cA) ?_
 simp [go_sem]
 simp [go_sem,a0]
 refine ⟨⟨by omega,na⟩,?_⟩
 refine ⟨by kernel_rfl,?_⟩
 simp [go_sem]
 refine zac (6::7::List.range' 13 22) (fun i:Nat=>[(6,.own 2 (i+1) (avs (O.take (i+1)))),(7,.int i)]) (fun i=>i<=37) (fun i=>37-i) 0 (by simp) (by simp [go_sem,t1,avs]) (by simp [go_sem]) ?_
 intro i hi
 by_cases hil:i<37
 .have hii:(i:Int)<37:=by omega
  have dr:=zae (a:=a) (v:=i+1) (by omega)
  rw [a0,List.drop_succ_cons] at dr
  have ht:i<(trN 6).length:=by omega
  have og:=zb1 ht
  have e:=zgP hil
  rw [e] at og
  have n6:=zdD (i:=i+1) (by omega)
  have c2:=zhi k (nd (i+1)) hk (by omega) (by omega)
  have pN:=pw_N k (nd (i+1))
  have xN:isN (iat a (i+1)):=ha.Ns.get (i+1)
  have f1:=zaw xN pN
  have c3:=zaZ (iat a (i+1)) (pw k (nd (i+1))) f1
  have e2:iat a (i+1)*k ^ nd (i+1)%10007=iat a (i+1)*pw k (nd (i+1))%10007:=by
   refine zas rfl ?_
   unfold pw
   rw [Int.emod_emod_of_dvd _ (Int.dvd_refl _)]; rfl
  have t2:=tk (i+1) (by omega)
  rw [e2] at t2
  generalize iat a (i+1)=x at *
  generalize pw k (nd (i+1))=y at *
  generalize nd (i+1)=m at *
  generalize (trN 6)[i]?.getD []=t at *
  have ei:((i:Int)+1)=((i+1:Nat):Int):=by omega
  simp [go_sem,hii,og,dr]
  refine ⟨by kernel_rfl,⟨by omega,by omega⟩,⟨by omega,by omega⟩,?_⟩
  refine CallD.of (c2) ?_
  simp [go_sem]
  refine CallD.of (c3) ?_
  simp [go_sem]
  refine ⟨⟨by omega,by omega,by omega⟩,?_⟩
  refine ⟨by kernel_rfl,?_⟩
  simp [go_sem]
  refine ⟨⟨by omega,by omega⟩,i+1,by omega,by omega,zaa _ _ _ (by simp),?_⟩
  rw [t2,zal]
  exact ⟨⟨rfl,rfl⟩,by omega⟩
 .have e:i=37:=by omega
  subst e
  rw [ta]
  simp [go_sem]
end Go.Proofs.YthhdollpkieknaaGreat


namespace Go.Proofs.YthhdollpkieknaaGreat
open Go.Abs
def cp7 (s:Spl):List Int:=s.1.map fun c=>fdL (trN 6) c 0+1
def tp7 (s:Spl):Int:=fdL (trN 6) (tkL s) 0+1
theorem zq5:(List.range 37).all (fun i=>decide ((cut5 ((trN 6)[i]?.getD [])).map (fun s=>(s.2.2%10007,cp7 s,tp7 s))=(cutT[i]?.getD []).map fun c=>((c.1:Int),nvs c.2.1,(c.2.2:Int))))=true:=by decide +kernel
def cr7 (s:Spl) (j:Nat):AV:=if j=0 then .val (.slice none 0 0) else .own 2 j (avs ((cp7 s).take j))
def mc7 (s:Spl):List AV:=[.int (s.2.2%10007),if s.1=[] then .val (.slice none 0 0) else .own 2 s.1.length (avs (cp7 s)),.int (tp7 s)]
def rwS7 (t:List Int):AV:=.own 220 (cut5 t).length ((cut5 t).flatMap mc7)
theorem znp:GCon Tryz.prog 212 [] (.own 218 38 (.own 220 0 []::(trN 6).map rwS7)) []:=by
 have cT:=zb4 6 (by omega)
 have l6:=zaJ
 have at6:=fun t h=>zeK (t:=t) h
 have e6:((6:Nat):Int)=6:=rfl
 rw [e6,l6] at cT
 have tl:(trN 6).take 37=trN 6:=List.take_of_length_le (by omega)
 refine zaf Tryz.mixed ⟨9,[9,22],[1000000+271],[]⟩ [] Tryz.func212 ?_
 rw [Tryz.ntmps212]
 simp [go_sem]
 refine CallVC.of (cT) ?_
 simp [go_sem]
 refine zac (List.range' 2 7++List.range' 12 67) (fun i:Nat=>[(2,.own 218 (i+1) (.own 220 0 []::((trN 6).take i).map rwS7)),(3,.int i)]) (fun i=>i<=37) (fun i=>37-i) 0 (by simp) (by simp [go_sem]) (by simp [go_sem]) ?_
 intro i hi
 by_cases hil:i<37
 .have hii:(i:Int)<37:=by omega
  have hl:i<(trN 6).length:=by omega
  have dm:=zak hl
  have hm:=memD [] hl
  have cC:=zpp hm
  obtain ⟨b1,b2⟩:=zm6 hm
  have nm:=zm1
  have tki:(trN 6).take (i+1)=(trN 6).take i++[(trN 6)[i]?.getD []]:=by
   rw [List.take_succ_eq_append_getElem hl,List.getElem?_eq_getElem hl]; rfl
  have hrw:rwS7 ((trN 6)[i]?.getD [])=.own 220 (cut5 ((trN 6)[i]?.getD [])).length ((cut5 ((trN 6)[i]?.getD [])).flatMap mc7):=rfl
  have lti:(((trN 6).take i).map rwS7).length=i:=by rw [List.length_map,List.length_take]; omega
  have cFd:=fun t=>zf7 (trN 6) t (by omega) (fun r hr=>by have:=(at6 r hr).2.1; omega)
  rw [l6] at cFd
  generalize (trN 6)[i]?.getD []=t at *
  generalize cut5 t=L at *
  simp [go_sem,hii,dm]
  refine ⟨nm,?_⟩
  refine ⟨_,_,cC,?_⟩
  simp [go_sem]
  refine zac (5::6::7::8::List.range' 24 51) (fun j:Nat=>[(5,.own 220 j ((L.take j).flatMap mc7)),(6,.int j)]) (fun j=>j<=L.length) (fun j=>L.length-j) 0 (by simp) (by simp [go_sem]) (by simp [go_sem]) ?_
  intro j hj
  by_cases hjl:j<L.length
  .have hji:(j:Int)<L.length:=by omega
   have dr:=za4 cuF (fun _=>rfl) ([],[],0) hjl
   have nL:¬ L.flatMap cuF=[]:=by intro e; have:=zau cuF (fun _=>rfl) L; rw [e] at this; simp at this; omega
   have lL:=zau cuF (fun _=>rfl) L
   have hms:=memD ([],[],0) hjl
   obtain ⟨c1,c2,c3,c4,c5,c6⟩:=b2 _ hms
   have tkj:L.take (j+1)=L.take j++[L[j]?.getD ([],[],0)]:=by
    rw [List.take_succ_eq_append_getElem hjl,List.getElem?_eq_getElem hjl]; rfl
   have clj:=zau mc7 (fun _=>rfl) (L.take j)
   rw [List.length_take,Nat.min_eq_left (by omega)] at clj
   generalize L[j]?.getD ([],[],0)=s at *
   obtain ⟨sa,sb,sc⟩:=s
   simp only [cuF] at dr
   simp only at c1 c2 c3 c4 c5 c6
   have hMX:mc7 (sa,sb,sc)=[.int (sc%10007),if sa=[] then .val (.slice none 0 0) else .own 2 sa.length (avs (cp7 (sa,sb,sc))),.int (tp7 (sa,sb,sc))]:=rfl
   have htp:tp7 (sa,sb,sc)=fdL (trN 6) (tkL (sa,sb,sc)) 0+1:=rfl
   have hcp:cp7 (sa,sb,sc)=sa.map fun c=>fdL (trN 6) c 0+1:=rfl
   have hcr:∀ k,cr7 (sa,sb,sc) k=if k=0 then .val (.slice none 0 0) else .own 2 k (avs ((cp7 (sa,sb,sc)).take k)):=fun k=>rfl
   have hcl:(cp7 (sa,sb,sc)).length=sa.length:=by rw [hcp,List.length_map]
   have cPt:=cFd (tkL (sa,sb,sc))
   have btp:=zk4 (trN 6) (tkL (sa,sb,sc)) 0
   rw [l6] at btp
   have cM:=zcv sc (by omega) (by omega)
   generalize tkL (sa,sb,sc)=tk at *
   generalize hCP:cp7 (sa,sb,sc)=cps at *
   generalize hMC:L.flatMap cuF=MC at *
   generalize hC:(L.take j).flatMap mc7=C at *
   have dr1:MC.drop (j*3+1)=AV.sl tk.length (avs tk)::AV.int sc::(L.drop (j+1)).flatMap cuF:=by
    have:=congrArg (List.drop 1) dr
    rw [List.drop_drop] at this
    exact this
   have dr2:MC.drop (j*3+2)=AV.int sc::(L.drop (j+1)).flatMap cuF:=by
    have:=congrArg (List.drop 2) dr
    rw [List.drop_drop] at this
    exact this
   simp [go_sem,hji,dr2]
   refine ⟨by kernel_rfl,nL,?_⟩
   refine CallD.of (cM) ?_
   simp [go_sem]
   simp [go_sem,dr1]
   refine ⟨⟨hjl,nL⟩,?_⟩
   refine CallD.of (cPt) ?_
   simp [go_sem]
   refine ⟨⟨by omega,by omega⟩,?_⟩
   refine ⟨by kernel_rfl,?_⟩
   simp [go_sem]
   refine zac (7::8::List.range' 45 26) (fun k:Nat=>[(7,.box 220 [.int (sc%10007),cr7 (sa,sb,sc) k,.int (tp7 (sa,sb,sc))]),(8,.int k)]) (fun k=>k<=sa.length) (fun k=>sa.length-k) 0 (by simp) (by simp [go_sem,cr7,htp]) (by simp [go_sem,cr7]) ?_
   intro k hk
   by_cases hkl:k<sa.length
   .have hki:(k:Int)<sa.length:=by omega
    have dk:=zak hkl
    have na:¬ sa=[]:=by rintro rfl; simp at hkl
    have cP:=cFd (sa[k]?.getD [])
    have bp:=zk4 (trN 6) (sa[k]?.getD []) 0
    rw [l6] at bp
    have tkk:cps.take (k+1)=cps.take k++[fdL (trN 6) (sa[k]?.getD []) 0+1]:=by
     rw [List.take_succ_eq_append_getElem (by omega)]
     congr 2
     subst hcp
     rw [List.getElem_map,List.getElem?_eq_getElem hkl]; rfl
    have lk:(cps.take k).length=k:=by rw [List.length_take]; omega
    have x1:cr7 (sa,sb,sc) (k+1)=.own 2 (k+1) (avs (cps.take k++[fdL (trN 6) (sa[k]?.getD []) 0+1])):=by rw [hcr,if_neg (by omega),tkk]
    generalize sa[k]?.getD []=r at *
    generalize fdL (trN 6) r 0=v at *
    by_cases k0:k=0
    .have x0:cr7 (sa,sb,sc) k=.val (.slice none 0 0):=by rw [hcr,if_pos k0]
     rw [x0]
     simp [go_sem,dr,hki,dk]
     refine ⟨⟨hjl,nL⟩,by kernel_rfl,⟨hjl,nL⟩,na,?_⟩
     refine CallD.of (cP) ?_
     simp [go_sem]
     refine ⟨⟨by omega,by omega⟩,?_⟩
     refine ⟨by kernel_rfl,?_⟩
     simp [go_sem]
     refine ⟨⟨by omega,by omega⟩,k+1,by omega,by omega,zaa _ _ _ (by simp),?_⟩
     rw [x1]
     subst k0
     exact ⟨by simp [avs],by omega⟩
    .have x0:cr7 (sa,sb,sc) k=.own 2 k (avs (cps.take k)):=by rw [hcr,if_neg k0]
     rw [x0]
     simp [go_sem,dr,hki,dk]
     refine ⟨⟨hjl,nL⟩,by kernel_rfl,⟨hjl,nL⟩,na,?_⟩
     refine CallD.of (cP) ?_
     simp [go_sem]
     refine ⟨⟨by omega,by omega⟩,⟨by omega,by omega,by omega⟩,?_⟩
     refine ⟨by kernel_rfl,?_⟩
     simp [go_sem]
     refine ⟨⟨by omega,by omega⟩,k+1,by omega,by omega,zaa _ _ _ (by simp),?_⟩
     rw [x1,zal]
     exact ⟨rfl,by omega⟩
   .have e:k=sa.length:=by omega
    subst e
    have hki:¬ (sa.length:Int)<sa.length:=by omega
    by_cases s0:sa=[]
    .have x0:cr7 (sa,sb,sc) sa.length=.val (.slice none 0 0):=by rw [hcr,if_pos (by rw [s0]; rfl)]
     rw [x0]
     rw [if_pos s0] at hMX
     simp [go_sem,dr,hki]
     refine ⟨⟨hjl,nL⟩,⟨by rw [clj],by omega,by omega⟩,⟨by omega,by omega⟩,j+1,by omega,by omega,(Off.reset (by intro x hx; simp at hx |-; omega) (by simp) (by simp [go_sem,zaa])),?_⟩
     rw [tkj,List.flatMap_append,hC]
     refine ⟨⟨by omega,?_⟩,by omega⟩
     simp [hMX]
    .have x0:cr7 (sa,sb,sc) sa.length=.own 2 sa.length (avs cps):=by
      rw [hcr,if_neg (by intro e; exact s0 (List.length_eq_zero_iff.1 e)),List.take_of_length_le (by omega)]
     rw [x0]
     rw [if_neg s0] at hMX
     simp [go_sem,dr,hki]
     refine ⟨⟨hjl,nL⟩,⟨by rw [clj],by omega,by omega⟩,⟨by omega,by omega⟩,j+1,by omega,by omega,(Off.reset (by intro x hx; simp at hx |-; omega) (by simp) (by simp [go_sem,zaa])),?_⟩
     rw [tkj,List.flatMap_append,hC]
     refine ⟨⟨by omega,?_⟩,by omega⟩
     simp [hMX]
  .have e:j=L.length:=by omega
   subst e
   have hji:¬ (L.length:Int)<L.length:=by omega
   rw [List.take_length]
   simp [go_sem,hji]
   refine ⟨⟨by omega,by omega,by omega⟩,⟨by omega,by omega⟩,i+1,by omega,by omega,(by repeat (first | exact zaa _ _ _ (by simp) | (refine Off.reset (by intro x hx; simp at hx |-; omega) (by simp) ?_; simp -failIfUnchanged [go_sem,zaa]))),?_⟩
   rw [<- List.map_take,<- List.map_take,tki,List.map_append,<- hrw]
   exact ⟨⟨rfl,rfl⟩,by omega⟩
 .have e:i=37:=by omega
  subst e
  rw [tl]
  simp [go_sem]
theorem zmR:∀ L:List Spl,NXL (frzL (L.flatMap mc7)) ((L.map fun s=>(s.2.2%10007,cp7 s,tp7 s)).flatMap fun x=>[.int x.1,.sl x.2.1.length (avs x.2.1),.int x.2.2])
 | []=>.nil
 | s::L=>by
  rw [List.map_cons,List.flatMap_cons,List.flatMap_cons,zen]
  refine NXL.app (zmR L) ?_
  by_cases h:s.1=[]
  .have e:mc7 s=[.int (s.2.2%10007),.val (.slice none 0 0),.int (tp7 s)]:=by unfold mc7; rw [if_pos h]
   have e2:cp7 s=[]:=by unfold cp7; rw [h]; rfl
   rw [e,e2]
   exact .cons (.same _) (.cons .nil (.cons (.same _) .nil))
  .have e:mc7 s=[.int (s.2.2%10007),.own 2 s.1.length (avs (cp7 s)),.int (tp7 s)]:=by unfold mc7; rw [if_neg h]
   have e2:(cp7 s).length=s.1.length:=by simp [cp7]
   rw [e]
   show NXL [.int (s.2.2%10007),.sl s.1.length (frzL (avs (cp7 s))),.int (tp7 s)] [.int (s.2.2%10007),.sl (cp7 s).length (avs (cp7 s)),.int (tp7 s)]
   rw [zcB,e2]
   exact NXL.same _
theorem zoR:∀ T:List (List Int),NXL (frzL (T.map rwS7)) (T.map fun t=>trG ((cut5 t).map fun s=>(s.2.2%10007,cp7 s,tp7 s)))
 | []=>.nil
 | t::T=>by
  rw [List.map_cons,List.map_cons]
  refine .cons ?_ (zoR T)
  show NX (.sl (cut5 t).length (frzL ((cut5 t).flatMap mc7))) (trG _)
  unfold trG
  rw [List.length_map]
  exact .sl _ (zmR _)
theorem zpD:((trN 6).map fun t=>trG ((cut5 t).map fun s=>(s.2.2%10007,cp7 s,tp7 s)))=fcF:=by
 have l6:=zaJ
 have lc:=zhe
 show _=cutT.map fun r=>AV.sl r.length (r.flatMap ctF)
 refine List.ext_getElem (by rw [List.length_map,List.length_map,l6,lc]) fun i h1 h2=>?_
 have hi:i<37:=by rw [List.length_map,l6] at h1; exact h1
 have e:=of_decide_eq_true (List.all_eq_true.1 zq5 i (List.mem_range.2 hi))
 rw [List.getElem?_eq_getElem (show i<(trN 6).length by omega),List.getElem?_eq_getElem (show i<cutT.length by omega),Option.getD_some,Option.getD_some] at e
 rw [List.getElem_map,e]
 unfold trG
 rw [List.getElem_map,List.length_map,List.flatMap_map]
 show AV.sl _ (List.flatMap (fun c:Ctp=>[AV.int c.1,AV.sl (nvs c.2.1).length (avs (nvs c.2.1)),AV.int c.2.2]) _)=_
 simp only [zfI]
 rfl
theorem zig:GCon Tryz.prog 212 [] (.sl 38 (.sl 0 []::fcF)) []:=by
 refine GCon.nx (.sl 38 (.cons (.same _) ?_)) (GCon.frzR znp rfl)
 rw [<- zpD]
 exact zoR _
end Go.Proofs.YthhdollpkieknaaGreat

