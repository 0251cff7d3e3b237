/- Texts of the own layer and contracts, part 6: E44 E45 E46 E47 V15 W51 W50 E48 E49 E53 W65 W33 W77 W78 W52 W53 Q15 Q16 Q17 Q18 Q19 Q20 Q21 Q22 Q23 Q24 Q25 Q26 Q30 Q31 Q32 Q33 Q44 W0 W56 W79 W34 W81 W83 W82 W54 W55 W57 Q34. -/
import Derived.Test.YthhdollpkieknaaGreatM5
set_option linter.unusedSectionVars false
set_option linter.unusedVariables false
set_option linter.unusedSimpArgs false
set_option maxHeartbeats 4000000
set_option maxRecDepth 100000
namespace Go.Proofs.YthhdollpkieknaaGreat
def cutT:List (List (Nat × List Nat × Nat)):=[[(1,[],1),(1,[1],0)],
 [(1,[],2),(1,[1],1),(1,[2],0)],
 [(1,[],3),(1,[1],2),(1,[2],1),(1,[3],0)],
 [(1,[],4),(2,[1],2),(1,[1,1],1),(1,[4],0)],
 [(1,[],5),(1,[1],3),(1,[2],2),(1,[3],1),(1,[5],0)],
 [(1,[],6),(2,[1],3),(1,[1,1],2),(1,[4],1),(1,[6],0)],
 [(1,[],7),(1,[1],3),(1,[1],4),(1,[2],2),(1,[1,1],2),(1,[1,2],1),(1,[7],0)],
 [(1,[],8),(3,[1],4),(3,[1,1],2),(1,[1,1,1],1),(1,[8],0)],
 [(1,[],9),(1,[1],5),(1,[2],3),(1,[3],2),(1,[5],1),(1,[9],0)],
 [(1,[],10),(2,[1],5),(1,[1,1],3),(1,[4],2),(1,[6],1),(1,[10],0)],
 [(1,[],11),(1,[1],5),(1,[1],6),(1,[2],3),(1,[1,1],3),(1,[1,2],2),(1,[7],1),(1,[11],0)],
 [(1,[],12),(1,[1],5),(1,[1],7),(1,[2],4),(1,[1,1],3),(1,[3],2),(1,[1,2],2),(1,[1,3],1),(1,[12],0)],
 [(1,[],13),(3,[1],6),(3,[1,1],3),(1,[1,1,1],2),(1,[8],1),(1,[13],0)],
 [(1,[],14),(1,[1],6),(2,[1],7),(2,[1,1],3),(1,[1,1],4),(1,[4],2),(1,[1,1,1],2),(1,[1,4],1),(1,[14],0)],
 [(1,[],15),(2,[1],7),(2,[2],3),(1,[1,1],4),(2,[1,2],2),(1,[2,2],1),(1,[15],0)],
 [(1,[],16),(2,[1],7),(1,[1],8),(1,[2],4),(1,[1,1],3),(2,[1,1],4),(2,[1,2],2),(1,[1,1,1],2),(1,[1,1,2],1),(1,[16],0)],
 [(1,[],17),(4,[1],8),(6,[1,1],4),(4,[1,1,1],2),(1,[1,1,1,1],1),(1,[17],0)],
 [(1,[],18),(1,[1],9),(1,[2],5),(1,[3],3),(1,[5],2),(1,[9],1),(1,[18],0)],
 [(1,[],19),(2,[1],9),(1,[1,1],5),(1,[4],3),(1,[6],2),(1,[10],1),(1,[19],0)],
 [(1,[],20),(1,[1],9),(1,[1],10),(1,[2],5),(1,[1,1],5),(1,[1,2],3),(1,[7],2),(1,[11],1),(1,[20],0)],
 [(1,[],21),(1,[1],9),(1,[1],11),(1,[2],6),(1,[1,1],5),(1,[3],3),(1,[1,2],3),(1,[1,3],2),(1,[12],1),(1,[21],0)],
 [(1,[],22),(1,[1],9),(1,[1],12),(1,[2],7),(1,[1,1],5),(1,[3],4),(1,[1,2],3),(1,[5],2),(1,[1,3],2),(1,[1,5],1),(1,[22],0)],
 [(1,[],23),(3,[1],10),(3,[1,1],5),(1,[1,1,1],3),(1,[8],2),(1,[13],1),(1,[23],0)],
 [(1,[],24),(1,[1],10),(2,[1],11),(2,[1,1],5),(1,[1,1],6),(1,[4],3),(1,[1,1,1],3),(1,[1,4],2),(1,[14],1),(1,[24],0)],
 [(1,[],25),(1,[1],10),(2,[1],12),(2,[1,1],5),(1,[1,1],7),(1,[4],4),(1,[1,1,1],3),(1,[6],2),(1,[1,4],2),(1,[1,6],1),(1,[25],0)],
 [(1,[],26),(2,[1],11),(2,[2],5),(1,[1,1],6),(2,[1,2],3),(1,[2,2],2),(1,[15],1),(1,[26],0)],
 [(1,[],27),(2,[1],11),(1,[1],13),(1,[2],6),(1,[1,1],5),(2,[1,1],6),(2,[1,2],3),(1,[1,1,1],3),(1,[1,1,2],2),(1,[16],1),(1,[27],0)],
 [(1,[],28),(1,[1],11),(1,[1],12),(1,[1],14),(1,[2],7),(1,[1,1],5),(1,[1,1],6),(1,[1,1],7),(1,[1,2],3),(1,[1,2],4),(1,[1,1,1],3),(1,[7],2),(1,[1,1,2],2),(1,[1,7],1),(1,[28],0)],
 [(1,[],29),(1,[1],12),(1,[1],15),(1,[2],5),(1,[2],7),(1,[1,1],7),(1,[3],3),(1,[1,2],3),(1,[1,2],4),(1,[1,3],2),(1,[2,2],2),(1,[2,3],1),(1,[29],0)],
 [(1,[],30),(2,[1],12),(1,[1],16),(1,[2],8),(1,[1,1],5),(2,[1,1],7),(1,[3],4),(2,[1,2],4),(1,[1,1,1],3),(2,[1,3],2),(1,[1,1,2],2),(1,[1,1,3],1),(1,[30],0)],
 [(1,[],31),(4,[1],13),(6,[1,1],6),(4,[1,1,1],3),(1,[1,1,1,1],2),(1,[17],1),(1,[31],0)],
 [(1,[],32),(1,[1],13),(3,[1],14),(3,[1,1],6),(3,[1,1],7),(3,[1,1,1],3),(1,[1,1,1],4),(1,[8],2),(1,[1,1,1,1],2),(1,[1,8],1),(1,[32],0)],
 [(1,[],33),(1,[1],14),(2,[1],15),(1,[2],6),(3,[1,1],7),(1,[4],3),(2,[1,2],3),(1,[1,1,1],4),(1,[1,4],2),(1,[1,1,2],2),(1,[2,4],1),(1,[33],0)],
 [(1,[],34),(2,[1],14),(2,[1],16),(1,[1,1],6),(4,[1,1],7),(1,[1,1],8),(1,[4],4),(2,[1,1,1],3),(2,[1,1,1],4),(2,[1,4],2),(1,[1,1,1,1],2),(1,[1,1,4],1),(1,[34],0)],
 [(1,[],35),(1,[1],15),(2,[1],16),(2,[2],7),(2,[1,1],7),(1,[1,1],8),(2,[1,2],3),(2,[1,2],4),(1,[1,1,1],4),(1,[2,2],2),(2,[1,1,2],2),(1,[1,2,2],1),(1,[35],0)],
 [(1,[],36),(3,[1],16),(1,[1],17),(1,[2],8),(3,[1,1],7),(3,[1,1],8),(3,[1,2],4),(1,[1,1,1],3),(3,[1,1,1],4),(3,[1,1,2],2),(1,[1,1,1,1],2),(1,[1,1,1,2],1),(1,[36],0)],
 [(1,[],37),(5,[1],17),(10,[1,1],8),(10,[1,1,1],4),(5,[1,1,1,1],2),(1,[1,1,1,1,1],1),(1,[37],0)]]
abbrev Ctp:=Nat × List Nat × Nat
def prI (A:Nat->Int):List Nat->Int
 | []=>1
 | v::m=>A v*prI A m
def rowI (A B:Nat->Int):List Ctp->Int
 | []=>0
 | c::L=>(c.1:Int)*(prI A c.2.1*B c.2.2)+rowI A B L
def ctR (i:Nat):List Ctp:=cutT[i-1]?.getD []
def cvI (A B:Nat->Int) (i:Nat):Int:=if i=0 then B 0 else rowI A B (ctR i)
def znK (A:Nat->Py):List Nat->Py
 | []=>[(1,[])]
 | v::m=>mulP (A v) (znK A m)
def rowP (A B:Nat->Py):List Ctp->Py
 | []=>[]
 | c::L=>addP (mulP [(c.1,[])] (mulP (znK A c.2.1) (B c.2.2))) (rowP A B L)
def cvP (A B:Nat->Py) (i:Nat):Py:=if Nat.beq i 0 then B 0 else rowP A B (ctR i)
theorem zgQ (r:Nat->Int):evp r [(1,[])]=1:=by simp [evp,evm]
theorem zty (r:Nat->Int) (c:Nat):evp r [(c,[])]=c:=by simp [evp,evm]
theorem zs5 (r:Nat->Int) (v:Nat):evp r [(1,[v])]=r v:=by simp [evp,evm]
theorem zmh {A A':Nat->Int}:∀ {m:List Nat},(∀ v∈m,A v%10007=A' v%10007)->prI A m%10007=prI A' m%10007
 | [],_=>rfl
 | v::m,h=>zag (h v (by simp)) (zmh fun w hw=>h w (by simp [hw]))
theorem zcX {A A' B B':Nat->Int}:∀ {L:List Ctp},(∀ c∈L,(∀ v∈c.2.1,A v%10007=A' v%10007)/\B c.2.2%10007=B' c.2.2%10007)->rowI A B L%10007=rowI A' B' L%10007
 | [],_=>rfl
 | c::L,h=>zbt (zag rfl (zag (zmh (h c (by simp)).1) (h c (by simp)).2)) (zcX fun d hd=>h d (by simp [hd]))
theorem zkn (r:Nat->Int) {A:Nat->Py} {A':Nat->Int}:∀ m,(∀ v∈m,evp r (A v)%10007=A' v%10007)->evp r (znK A m)%10007=prI A' m%10007
 | [],_=>by rw [znK,zgQ]; rfl
 | v::m,h=>by rw [znK,zec,prI]; exact zag (h v (by simp)) (zkn r m fun w hw=>h w (by simp [hw]))
theorem zmn (r:Nat->Int) {A B:Nat->Py} {A' B':Nat->Int}:∀ L:List Ctp,(∀ c∈L,(∀ v∈c.2.1,evp r (A v)%10007=A' v%10007)/\evp r (B c.2.2)%10007=B' c.2.2%10007)->evp r (rowP A B L)%10007=rowI A' B' L%10007
 | [],_=>rfl
 | c::L,h=>by
  rw [rowP,zn8,rowI]
  refine zbt ?_ (zmn r L fun d hd=>h d (by simp [hd]))
  rw [zec,zty]
  refine zag rfl ?_
  rw [zec]
  exact zag (zkn r _ (h c (by simp)).1) (h c (by simp)).2
theorem zdd {i:Nat} (hi:i<38):∀ c∈ctR i,(∀ v∈c.2.1,v<38)/\c.2.2<38:=by
 have ok:(List.range 38).all (fun i=>(ctR i).all fun c=>c.2.1.all (fun v=>decide (v<38)) && decide (c.2.2<38))=true:=by decide +kernel
 intro c hc
 have h:=List.all_eq_true.1 (List.all_eq_true.1 ok i (List.mem_range.2 hi)) c hc
 simp only [Bool.and_eq_true,List.all_eq_true,decide_eq_true_eq] at h
 exact h
theorem zeZ (r:Nat->Int) {A B:Nat->Py} {A' B':Nat->Int} (h:∀ v,v<38->evp r (A v)%10007=A' v%10007) (k:∀ v,v<38->evp r (B v)%10007=B' v%10007) {i:Nat} (hi:i<38):evp r (cvP A B i)%10007=cvI A' B' i%10007:=by
 unfold cvP cvI
 by_cases e:i=0
 .subst e; exact k 0 (by omega)
 .rw [if_neg e,if_neg (by intro x; exact e (Nat.eq_of_beq_eq_true x))]
  exact zmn r _ fun c hc=>⟨fun v hv=>h v ((zdd hi c hc).1 v hv),k _ (zdd hi c hc).2⟩
def vr (k i:Nat):Py:=if Nat.beq i 0 then [(1,[])] else [(1,[k+i])]
def v0 (k i:Nat):Py:=[(1,[k+i])]
def en3 (A B C:Nat->Int) (v:Nat):Int:=if v<40 then A v else if v<80 then B (v-40) else C (v-80)
theorem zlY {r:Nat->Int} {k:Nat} {A:Nat->Int} (h0:A 0%10007=1) (h:∀ i,i<38->r (k+i)=A i) {i:Nat} (hi:i<38):evp r (vr k i)%10007=A i%10007:=by
 unfold vr
 split
 .rename_i e
  have e:=Nat.eq_of_beq_eq_true e
  subst e
  rw [zgQ,h0]
  rfl
 .rw [zs5,h i hi]
theorem zqB {r:Nat->Int} {k:Nat} {A:Nat->Int} (h:∀ i,i<38->r (k+i)=A i) {i:Nat} (hi:i<38):evp r (v0 k i)%10007=A i%10007:=by
 unfold v0
 rw [zs5,h i hi]
theorem zn5 {A A' B B':Nat->Int} (ha:∀ i,i<38->A i%10007=A' i%10007) (hb:∀ i,i<38->B i%10007=B' i%10007) {i:Nat} (hi:i<38):cvI A B i%10007=cvI A' B' i%10007:=by
 unfold cvI
 split
 .exact hb 0 (by omega)
 .exact zcX fun c hc=>⟨fun v hv=>ha v ((zdd hi c hc).1 v hv),hb _ (zdd hi c hc).2⟩
theorem zlB:(List.range 38).all (fun i=>decide (cvP (cvP (vr 0) (vr 40)) (v0 80) i=cvP (vr 0) (cvP (vr 40) (v0 80)) i))=true:=by decide +kernel
theorem ztU {A B C:Nat->Int} (ha:A 0%10007=1) (hb:B 0%10007=1) {i:Nat} (hi:i<38):cvI (cvI A B) C i%10007=cvI A (cvI B C) i%10007:=by
 have e:=of_decide_eq_true (List.all_eq_true.1 zlB i (List.mem_range.2 hi))
 have hA:∀ v,v<38->evp (en3 A B C) (vr 0 v)%10007=A v%10007:=fun v hv=>zlY ha (fun i hi=>by unfold en3; rw [if_pos (by omega),Nat.zero_add]) hv
 have hB:∀ v,v<38->evp (en3 A B C) (vr 40 v)%10007=B v%10007:=fun v hv=>zlY hb (fun i hi=>by unfold en3; rw [if_neg (by omega),if_pos (by omega)]; congr 1; omega) hv
 have hC:∀ v,v<38->evp (en3 A B C) (v0 80 v)%10007=C v%10007:=fun v hv=>zqB (fun i hi=>by unfold en3; rw [if_neg (by omega),if_neg (by omega)]; congr 1; omega) hv
 rw [<- zeZ (en3 A B C) (fun v hv=>zeZ (en3 A B C) hA hB hv) hC hi,e,zeZ (en3 A B C) hA (fun v hv=>zeZ (en3 A B C) hB hC hv) hi]
def iat (a:List Int) (i:Nat):Int:=a[i]?.getD 0
def N38 (a:List Int):Prop:=a.length=38/\∀ x∈a,0<=x/\x<10007
def Ch (a:List Int):Prop:=N38 a/\iat a 0=1
theorem N38.at {a:List Int} (h:N38 a) (i:Nat):0<=iat a i/\iat a i<10007:=by
 unfold iat
 by_cases e:i<a.length
 .rw [List.getElem?_eq_getElem e]; exact h.2 _ (List.getElem_mem e)
 .rw [List.getElem?_eq_none (by omega)]; simp
theorem N38.ext {a b:List Int} (ha:N38 a) (hb:N38 b) (h:∀ i,i<38->iat a i%10007=iat b i%10007):a=b:=by
 refine List.ext_getElem (by rw [ha.1,hb.1]) fun i h1 h2=>?_
 have k:=h i (by rw [ha.1] at h1; exact h1)
 have a1:=ha.at i
 have b1:=hb.at i
 rw [Int.emod_eq_of_lt a1.1 a1.2,Int.emod_eq_of_lt b1.1 b1.2] at k
 unfold iat at k
 rw [List.getElem?_eq_getElem h1,List.getElem?_eq_getElem h2] at k
 exact k
def mk38 (f:Nat->Int):List Int:=(List.range 38).map fun i=>f i%10007
theorem zbc (f:Nat->Int):N38 (mk38 f):=by
 refine ⟨by simp [mk38],fun x hx=>?_⟩
 obtain ⟨i,_,rfl⟩:=List.mem_map.1 hx
 exact ⟨Int.emod_nonneg _ (by decide),Int.emod_lt_of_pos _ (by decide)⟩
theorem za9 (f:Nat->Int) {i:Nat} (h:i<38):iat (mk38 f) i=f i%10007:=by
 unfold iat mk38
 rw [List.getElem?_map,List.getElem?_range h]; rfl
theorem zb3 (f:Nat->Int) {i:Nat} (h:i<38):iat (mk38 f) i%10007=f i%10007:=by
 rw [za9 f h,Int.emod_emod_of_dvd _ (Int.dvd_refl _)]
theorem zfF {f g:Nat->Int} (h:∀ i,i<38->f i%10007=g i%10007):mk38 f=mk38 g:=List.map_congr_left fun i hi=>h i (List.mem_range.1 hi)
theorem zdZ {a:List Int} {f:Nat->Int} (ha:N38 a) (h:∀ i,i<38->f i%10007=iat a i%10007):mk38 f=a :=
 (zbc f).ext ha fun i hi=>by rw [zb3 f hi,h i hi]
def cvS (a b:List Int):List Int:=mk38 (cvI (iat a) (iat b))
def zaU:List Int:=mk38 fun i=>if i=0 then 1 else 0
theorem znx (a b:List Int):N38 (cvS a b):=zbc _
theorem zpV (a b:List Int):iat (cvS a b) 0=iat b 0%10007:=za9 _ (by decide)
theorem zjR {a b:List Int} (hb:Ch b):Ch (cvS a b):=⟨znx a b,by rw [zpV,hb.2]; rfl⟩
theorem zb0:Ch zaU:=⟨zbc _,za9 _ (by decide)⟩
theorem zbM (a b:List Int) {i:Nat} (hi:i<38):iat (cvS a b) i%10007=cvI (iat a) (iat b) i%10007:=zb3 _ hi
theorem zsr {a b c:List Int} (ha:Ch a) (hb:Ch b):cvS (cvS a b) c=cvS a (cvS b c):=by
 refine zfF fun i hi=>?_
 rw [zn5 (fun j hj=>zbM a b hj) (fun _ _=>rfl) hi,ztU (by rw [ha.2]; rfl) (by rw [hb.2]; rfl) hi]
 exact (zn5 (fun _ _=>rfl) (fun j hj=>zbM b c hj) hi).symm
def u0 (i:Nat):Py:=if Nat.beq i 0 then [(1,[])] else []
theorem zp9 (r:Nat->Int) {i:Nat} (hi:i<38):evp r (u0 i)%10007=iat zaU i%10007:=by
 unfold zaU
 rw [zb3 _ hi]
 unfold u0
 by_cases e:i=0
 .subst e; show evp r [(1,[])]%10007=1%10007; rw [zgQ]
 .rw [if_neg e,if_neg (by intro x; exact e (Nat.eq_of_beq_eq_true x))]; rfl
theorem zkd:(List.range 38).all (fun i=>decide (cvP u0 (v0 0) i=v0 0 i) && decide (cvP (vr 0) u0 i=vr 0 i))=true:=by decide +kernel
theorem zi6 {a:List Int} (ha:N38 a):cvS zaU a=a:=by
 refine zdZ ha fun i hi=>?_
 have e:=List.all_eq_true.1 zkd i (List.mem_range.2 hi)
 simp only [Bool.and_eq_true,decide_eq_true_eq] at e
 have hv:∀ v,v<38->evp (iat a) (v0 0 v)%10007=iat a v%10007:=fun v hv=>zqB (fun i _=>by rw [Nat.zero_add]) hv
 rw [<- zeZ (iat a) (fun v hv=>zp9 (iat a) hv) hv hi,e.1,hv i hi]
theorem zrX {a:List Int} (ha:Ch a):cvS a zaU=a:=by
 refine zdZ ha.1 fun i hi=>?_
 have e:=List.all_eq_true.1 zkd i (List.mem_range.2 hi)
 simp only [Bool.and_eq_true,decide_eq_true_eq] at e
 have hv:∀ v,v<38->evp (iat a) (vr 0 v)%10007=iat a v%10007:=fun v hv=>zlY (by rw [ha.2]; rfl) (fun i _=>by rw [Nat.zero_add]) hv
 rw [<- zeZ (iat a) hv (fun v hv=>zp9 (iat a) hv) hi,e.2,hv i hi]
def nwR (i:Nat):List Ctp:=(ctR i).filter fun c=>decide (0<c.2.2)
def invN (a:List Int):Nat->List Int
 | 0=>[1]
 | k+1=>invN a k++[(-(rowI (iat (invN a k)) (iat a) (nwR (k+1))))%10007]
theorem zcR (a:List Int):∀ k,(invN a k).length=k+1
 | 0=>rfl
 | k+1=>by rw [invN,List.length_append,zcR a k]; rfl
theorem zl8 (a:List Int):∀ k,∀ x∈invN a k,0<=x/\x<10007
 | 0,x,hx=>by simp only [invN,List.mem_singleton] at hx; subst hx; exact ⟨by decide,by decide⟩
 | k+1,x,hx=>by
  rw [invN] at hx
  rcases List.mem_append.1 hx with hx | hx
  .exact zl8 a k x hx
  .rw [List.mem_singleton.1 hx]
   exact ⟨Int.emod_nonneg _ (by decide),Int.emod_lt_of_pos _ (by decide)⟩
theorem zdL (a:List Int) {i k:Nat} (h:i<=k):∀ d,iat (invN a (k+d)) i=iat (invN a k) i
 | 0=>rfl
 | d+1=>by
  rw [<- zdL a h d]
  show iat (invN a (k+d)++_) i=_
  unfold iat
  rw [List.getElem?_append_left (by rw [zcR]; omega)]
def invS (a:List Int):List Int:=invN a 37
theorem zgT (a:List Int):Ch (invS a):=by
 refine ⟨⟨zcR a 37,zl8 a 37⟩,?_⟩
 have:=zdL a (i:=0) (k:=0) (Nat.le_refl 0) 37
 exact this
theorem znD {i:Nat} (hi:i<38) (h0:0<i):(∀ c∈nwR i,∀ v∈c.2.1,v<i)/\(ctR i).filter (fun c=>!decide (0<c.2.2))=[(1,[i],0)]:=by
 have ok:(List.range 37).all (fun j=>((nwR (j+1)).all fun c=>c.2.1.all fun v=>decide (v<j+1)) && decide ((ctR (j+1)).filter (fun c=>!decide (0<c.2.2))=[(1,[j+1],0)]))=true:=by decide +kernel
 obtain ⟨j,rfl⟩:∃ j,i=j+1:=⟨i-1,by omega⟩
 have h:=List.all_eq_true.1 ok j (List.mem_range.2 (by omega))
 simp only [Bool.and_eq_true,List.all_eq_true,decide_eq_true_eq] at h
 exact h
theorem zcg (A B:Nat->Int) (p:Ctp->Bool):∀ L,rowI A B L=rowI A B (L.filter p)+rowI A B (L.filter fun c=>!p c)
 | []=>rfl
 | c::L=>by
  rw [rowI,zcg A B p L,List.filter_cons,List.filter_cons]
  by_cases h:p c=true
  .simp only [h,if_true,Bool.not_true,rowI]; rw [if_neg (by decide)]; omega
  .have h2:p c=false:=by simpa using h
   simp only [h2,Bool.not_false,if_true,rowI]; rw [if_neg (by decide)]; omega
theorem zjG (A B:Nat->Int) {i:Nat} (hi:i<38) (h0:0<i):cvI A B i=rowI A B (nwR i)+A i*B 0:=by
 unfold cvI
 rw [if_neg (by omega),zcg A B (fun c=>decide (0<c.2.2)),(znD hi h0).2]
 simp [rowI,prI,nwR]
theorem ztH {a:List Int} (ha:Ch a):cvS (invS a) a=zaU:=by
 refine zdZ zb0.1 fun i hi=>?_
 unfold zaU
 rw [zb3 _ hi]
 by_cases h0:i=0
 .subst h0; rw [cvI,if_pos rfl,if_pos rfl,ha.2]
 .rw [if_neg h0,zjG _ _ hi (by omega),ha.2,Int.mul_one]
  obtain ⟨j,rfl⟩:∃ j,i=j+1:=⟨i-1,by omega⟩
  have e:iat (invS a) (j+1)=(-(rowI (iat (invN a j)) (iat a) (nwR (j+1))))%10007:=by
   have:=zdL a (i:=j+1) (k:=j+1) (Nat.le_refl _) (36-j)
   rw [show j+1+(36-j)=37 by omega] at this
   refine this.trans ?_
   unfold iat
   rw [invN,List.getElem?_append_right (by rw [zcR]; omega),zcR,Nat.sub_self]
   rfl
  have e2:rowI (iat (invS a)) (iat a) (nwR (j+1))%10007=rowI (iat (invN a j)) (iat a) (nwR (j+1))%10007:=by
   refine zcX fun c hc=>⟨fun v hv=>?_,rfl⟩
   have hv:=(znD hi (by omega)).1 c hc v hv
   have:=zdL a (i:=v) (k:=j) (by omega) (37-j)
   rw [show j+(37-j)=37 by omega] at this
   unfold invS
   rw [this]
  rw [e]
  omega
def pwrS (a:List Int):Nat->List Int
 | 0=>zaU
 | k+1=>cvS (pwrS a k) a
theorem znZ {a:List Int} (ha:Ch a):∀ k,Ch (pwrS a k)
 | 0=>zb0
 | k+1=>zjR ha
end Go.Proofs.YthhdollpkieknaaGreat


namespace Go.Proofs.YthhdollpkieknaaGreat
def ndT:List Nat:=[0,1,2,3,3,4,4,4,4,5,5,5,5,5,5,5,5,5,6,6,6,6,6,6,6,6,6,6,6,6,6,6,6,6,6,6,6,6]
def exT:List Nat:=[1,1,5004,1668,3336,417,834,1251,2502,8089,6171,4253,2335,8506,4670,8506,7005,4003,3016,6032,9048,2057,5073,8089,4114,139,8089,6171,5212,139,278,2335,417,278,556,417,834,1668]
def nd (i:Nat):Nat:=ndT[i]?.getD 0
def exI (i:Nat):Int:=((exT[i]?.getD 0:Nat):Int)
def scS (k:Int) (a:List Int):List Int:=mk38 fun i=>iat a i*k ^ nd i
theorem zex (k:Int) (a:List Int):N38 (scS k a):=zbc _
theorem zbj (k:Int) (a:List Int) {i:Nat} (h:i<38):iat (scS k a) i%10007=iat a i*k ^ nd i%10007:=zb3 _ h
theorem zbV (k:Int) {a:List Int} (h:Ch a):Ch (scS k a):=⟨zex k a,by
 unfold scS
 rw [za9 _ (by decide)]
 show iat a 0*k ^ 0%10007=1
 rw [h.2]; simp⟩
def ziU:List Nat->Nat
 | []=>0
 | v::m=>nd v+ziU m
theorem zvu {i:Nat} (hi:i<38) (h0:0<i):∀ c∈ctR i,ziU c.2.1+nd c.2.2=nd i:=by
 have ok:(List.range 37).all (fun j=>(ctR (j+1)).all fun c=>decide (ziU c.2.1+nd c.2.2=nd (j+1)))=true:=by decide +kernel
 obtain ⟨j,rfl⟩:∃ j,i=j+1:=⟨i-1,by omega⟩
 have h:=List.all_eq_true.1 ok j (List.mem_range.2 (by omega))
 simp only [List.all_eq_true,decide_eq_true_eq] at h
 exact h
theorem zqK (A:Nat->Int) (k:Int):∀ m,prI (fun v=>A v*k ^ nd v) m=prI A m*k ^ ziU m
 | []=>by simp [prI,ziU]
 | v::m=>by rw [prI,zqK A k m,prI,ziU,Int.pow_add]; ac_rfl
theorem zn6 (A B:Nat->Int) (k:Int) (n:Nat):∀ L:List Ctp,(∀ c∈L,ziU c.2.1+nd c.2.2=n)->rowI (fun v=>A v*k ^ nd v) (fun v=>B v*k ^ nd v) L=rowI A B L*k ^ n
 | [],_=>by simp [rowI]
 | c::L,h=>by
  rw [rowI,zn6 A B k n L fun d hd=>h d (by simp [hd]),rowI,zqK,<- h c (by simp),Int.pow_add,Int.add_mul]
  congr 1
  ac_rfl
theorem zu5 (A B:Nat->Int) (k:Int) {i:Nat} (hi:i<38):cvI (fun v=>A v*k ^ nd v) (fun v=>B v*k ^ nd v) i=cvI A B i*k ^ nd i:=by
 unfold cvI
 by_cases h:i=0
 .subst h; rw [if_pos rfl,if_pos rfl]
 .rw [if_neg h,if_neg h,zn6 A B k (nd i) _ (zvu hi (by omega))]
theorem zti (k:Int) (a b:List Int):cvS (scS k a) (scS k b)=scS k (cvS a b):=by
 refine zfF fun i hi=>?_
 rw [zn5 (fun j hj=>zbj k a hj) (fun j hj=>zbj k b hj) hi,zu5 _ _ k hi]
 exact (zag (zbM a b hi) rfl).symm
theorem zs0 (k l:Int) (a:List Int):scS k (scS l a)=scS (l*k) a:=by
 refine zfF fun i hi=>?_
 rw [Int.mul_pow,<- Int.mul_assoc]
 exact zag (zbj l a hi) rfl
theorem zg0 {a b:Int} (h:a%10007=b%10007):∀ n:Nat,a ^ n%10007=b ^ n%10007
 | 0=>by simp
 | n+1=>by rw [Int.pow_succ,Int.pow_succ]; exact zag (zg0 h n) h
theorem znY {k l:Int} (h:k%10007=l%10007) (a:List Int):scS k a=scS l a:=zfF fun i _=>zag rfl (zg0 h _)
theorem zfx {a:List Int} (h:N38 a):scS 1 a=a:=zdZ h fun i _=>by rw [Int.one_pow,Int.mul_one]
theorem zmo {i:Nat} (hi:i<38):iat zaU i=if i=0 then 1 else 0:=by
 unfold zaU
 rw [za9 _ hi]
 by_cases h:i=0
 .rw [if_pos h]; rfl
 .rw [if_neg h]; rfl
theorem ztv (k:Int):scS k zaU=zaU:=zdZ zb0.1 fun i hi=>by
 rw [zmo hi]
 by_cases h:i=0
 .subst h; show 1*k ^ 0%10007=_; simp
 .rw [if_neg h,Int.zero_mul]
theorem zm9 {i:Nat} (hi:i<38) (h0:0<i):0<nd i:=by
 have ok:(List.range 37).all (fun j=>decide (0<nd (j+1)))=true:=by decide +kernel
 obtain ⟨j,rfl⟩:∃ j,i=j+1:=⟨i-1,by omega⟩
 exact of_decide_eq_true (List.all_eq_true.1 ok j (List.mem_range.2 (by omega)))
theorem zkp {a:List Int} (ha:Ch a):scS 0 a=zaU:=zdZ zb0.1 fun i hi=>by
 rw [zmo hi]
 by_cases h:i=0
 .subst h; rw [if_pos rfl,ha.2]; rfl
 .rw [if_neg h,Int.zero_pow (Nat.pos_iff_ne_zero.1 (zm9 hi (by omega))),Int.mul_zero]
def exaS:List Int:=mk38 exI
theorem zmm {i:Nat} (h:i<38):iat exaS i%10007=exI i%10007:=zb3 _ h
theorem zal:Ch exaS:=⟨zbc _,by unfold exaS; rw [za9 _ (by decide)]; decide⟩
def powP:Nat->Py
 | 0=>[(1,[])]
 | n+1=>mulP [(1,[0]),(1,[1])] (powP n)
def exP (v i:Nat):Py:=[(exT[i]?.getD 0,List.replicate (nd i) v)]
theorem zlL (r:Nat->Int) (v:Nat):∀ n,evm r (List.replicate n v)=r v ^ n
 | 0=>by simp [evm]
 | n+1=>by rw [List.replicate_succ,evm,zlL r v n,Int.pow_succ,Int.mul_comm]
theorem zlZ (r:Nat->Int) (v i:Nat):evp r (exP v i)=exI i*r v ^ nd i:=by
 unfold exP exI
 rw [evp,zlL,evp,Int.add_zero]
theorem zjV (r:Nat->Int):∀ n,evp r (powP n)%10007=(r 0+r 1) ^ n%10007
 | 0=>by rw [powP,zgQ,Int.pow_zero]
 | n+1=>by
  rw [powP,zec,Int.pow_succ,Int.mul_comm _ (r 0+r 1)]
  refine zag ?_ (zjV r n)
  simp [evp,evm]
theorem zpg:(List.range 38).all (fun i=>decide (cvP (exP 0) (exP 1) i=mulP [(exT[i]?.getD 0,[])] (powP (nd i))))=true:=by decide +kernel
theorem zmp (s t:Int):cvS (scS s exaS) (scS t exaS)=scS (s+t) exaS:=by
 refine zfF fun i hi=>?_
 have e:=of_decide_eq_true (List.all_eq_true.1 zpg i (List.mem_range.2 hi))
 have hs:∀ u v:Int,∀ i,i<38->iat (scS u exaS) i%10007=exI i*u ^ nd i%10007:=fun u _ i hi=>by
  rw [zbj _ _ hi]; exact zag (zmm hi) rfl
 have h0:∀ v,v<38->evp (fun x=>if x=0 then s else t) (exP 0 v)%10007=iat (scS s exaS) v%10007:=fun v hv=>by
  rw [zlZ,hs s 0 v hv,if_pos rfl]
 have h1:∀ v,v<38->evp (fun x=>if x=0 then s else t) (exP 1 v)%10007=iat (scS t exaS) v%10007:=fun v hv=>by
  rw [zlZ,hs t 0 v hv,if_neg (by decide)]
 rw [<- zeZ _ h0 h1 hi,e,zec,zty]
 exact zag (zmm hi).symm (zjV _ _)
def cmS (a:List Int):List Int->List Int
 | g=>g.foldl (fun o g=>cvS o (scS g a)) zaU
theorem zbX (a g:List Int) (x:Int):cmS a (g++[x])=cvS (cmS a g) (scS x a):=by simp [cmS]
theorem ztV {a:List Int} (ha:Ch a) (g:List Int):Ch (cmS a g):=by
 rcases List.eq_nil_or_concat g with rfl | ⟨h,x,rfl⟩
 .exact zb0
 .rw [List.concat_eq_append,zbX]; exact zjR (zbV x ha)
def sumG:List Int->Int
 | []=>0
 | x::g=>x+sumG g
theorem zdF (x:Int):∀ g,sumG (g++[x])=sumG g+x
 | []=>by simp [sumG]
 | y::g=>by rw [List.cons_append,sumG,zdF x g,sumG]; omega
theorem zuP (g:List Int):cmS exaS g=scS (sumG g) exaS:=by
 generalize hn:g.length=n
 induction n generalizing g with
 | zero =>
  rw [List.length_eq_zero_iff.1 hn]
  exact (zkp zal).symm
 | succ n ih =>
  rcases List.eq_nil_or_concat g with rfl | ⟨h,x,rfl⟩
  .simp at hn
  .rw [List.concat_eq_append] at hn |-
   rw [zbX,ih h (by simpa using hn),zmp,zdF]
theorem zo8 {a:List Int} (ha:Ch a) (g:List Int):iat (cmS a g) 1%10007=iat a 1*sumG g%10007:=by
 generalize hn:g.length=n
 induction n generalizing g with
 | zero =>
  rw [List.length_eq_zero_iff.1 hn]
  show iat zaU 1%10007=_
  rw [zmo (by decide)]
  simp [sumG]
 | succ n ih =>
  rcases List.eq_nil_or_concat g with rfl | ⟨h,x,rfl⟩
  .simp at hn
  .rw [List.concat_eq_append] at hn |-
   have h0:=(zbV x ha).2
   have h1:=zbj x a (i:=1) (by decide)
   have h2:=(ztV ha h).2
   rw [zbX,zbM _ _ (by decide),zdF]
   show rowI _ _ [(1,[],1),(1,[1],0)]%10007=_
   simp only [rowI,prI,h0,Int.mul_add]
   have h3:=ih h (by simpa using hn)
   have h4:iat a 1*x ^ nd 1=iat a 1*x:=by rw [show nd 1=1 from rfl,Int.pow_succ,Int.pow_zero,Int.one_mul]
   rw [h4] at h1
   generalize iat a 1*x=A at *
   generalize iat a 1*sumG h=B at *
   generalize iat (scS x a) 1=C at *
   generalize iat (cmS a h) 1=D at *
   omega
end Go.Proofs.YthhdollpkieknaaGreat


namespace Go.Proofs.YthhdollpkieknaaGreat
theorem zl1:iat exaS 1=1:=by unfold exaS; rw [za9 _ (by decide)]; decide
def Agr (a b:List Int) (n:Nat):Prop:=∀ i,i<38->nd i<=n->iat a i=iat b i
def mdR (i:Nat):List Ctp:=(nwR i).filter fun c=>!decide (c.2.1=[])
theorem zqI {i:Nat} (hi:i<38) (h0:0<i):(∀ c∈mdR i,(∀ v∈c.2.1,v<38/\nd v<nd i)/\c.2.2<38/\nd c.2.2<nd i)/\(nwR i).filter (fun c=>decide (c.2.1=[]))=[(1,[],i)]:=by
 have ok:(List.range 37).all (fun j=>((mdR (j+1)).all fun c=>c.2.1.all (fun v=>decide (v<38) && decide (nd v<nd (j+1))) && (decide (c.2.2<38) && decide (nd c.2.2<nd (j+1)))) && decide ((nwR (j+1)).filter (fun c=>decide (c.2.1=[]))=[(1,[],j+1)]))=true:=by decide +kernel
 obtain ⟨j,rfl⟩:∃ j,i=j+1:=⟨i-1,by omega⟩
 have h:=List.all_eq_true.1 ok j (List.mem_range.2 (by omega))
 simp only [Bool.and_eq_true,List.all_eq_true,decide_eq_true_eq] at h
 exact h
theorem zdn (A B:Nat->Int) {i:Nat} (hi:i<38) (h0:0<i):cvI A B i=rowI A B (mdR i)+A i*B 0+B i:=by
 rw [zjG A B hi h0,zcg A B (fun c=>decide (c.2.1=[])) (nwR i),(zqI hi h0).2]
 simp [rowI,prI,mdR]
 omega
theorem znS {A A' B B':Nat->Int} {i:Nat} (hi:i<38) (h0:0<i) (ha:∀ j,j<38->nd j<nd i->A j%10007=A' j%10007) (hb:∀ j,j<38->nd j<nd i->B j%10007=B' j%10007):rowI A B (mdR i)%10007=rowI A' B' (mdR i)%10007 :=
 zcX fun c hc=>by
  obtain ⟨h1,h2,h3⟩:=(zqI hi h0).1 c hc
  exact ⟨fun v hv=>ha v (h1 v hv).1 (h1 v hv).2,hb _ h2 h3⟩
def Sym (a:List Int):Prop:=cvS a (scS (-1) a)=zaU
theorem zlq:Sym exaS:=by
 unfold Sym
 have h:=zmp 1 (-1)
 rw [zfx zal.1] at h
 rw [h]
 exact zkp zal
theorem zhe {i:Nat} (hi:i<38):nd i<=6:=by
 have ok:(List.range 38).all (fun j=>decide (nd j<=6))=true:=by decide +kernel
 exact of_decide_eq_true (List.all_eq_true.1 ok i (List.mem_range.2 hi))
theorem zcA {n:Nat} (h:n%2=0):(-1:Int) ^ n=1:=by
 obtain ⟨m,rfl⟩:∃ m,n=2*m:=⟨n / 2,by omega⟩
 rw [Int.pow_mul]
 show (1:Int) ^ m=1
 exact Int.one_pow
theorem ziL {n:Nat} (h:n%2=1):(-1:Int) ^ n = -1:=by
 obtain ⟨m,rfl⟩:∃ m,n=2*m+1:=⟨n / 2,by omega⟩
 rw [Int.pow_succ,zcA (by omega)]
 rfl
theorem zrR {u x y:Int} (v:Int) (hu:v*u%10007=1) (h:u*x%10007=u*y%10007):x%10007=y%10007:=by
 have e:∀ z:Int,z%10007=v*(u*z)%10007:=fun z=>by
  rw [<- Int.mul_assoc,Int.mul_emod,hu,Int.one_mul,Int.emod_emod_of_dvd _ (Int.dvd_refl _)]
 rw [e x,e y,Int.mul_emod v (u*x),h,<- Int.mul_emod]
theorem zt1 {X Y x y:Int} (k1:(X+x+x)%10007=0) (k2:(Y+y+y)%10007=0) (m:X%10007=Y%10007) (r1:0<=x/\x<10007) (r2:0<=y/\y<10007):x=y:=by
 rw [Int.add_assoc,<- Int.two_mul] at k1 k2
 have e:2*x%10007=2*y%10007:=by
  clear r1 r2
  generalize 2*x=z at *
  generalize 2*y=w at *
  omega
 have:=zrR 5004 (by decide) e
 rw [Int.emod_eq_of_lt r1.1 r1.2,Int.emod_eq_of_lt r2.1 r2.2] at this
 exact this
theorem zpe {a b:List Int} (ha:Ch a) (hb:Ch b) (sa:Sym a) (sb:Sym b) {n:Nat} (hn:n%2=0) (h:Agr a b (n-1)):Agr a b n:=by
 intro i hi hni
 by_cases hl:nd i<=n-1
 .exact h i hi hl
 .have e:nd i=n:=by omega
  have h0:0<i:=by
   rcases Nat.eq_zero_or_pos i with rfl | h0
   .exact (hl (show 0<=n-1 by omega)).elim
   .exact h0
  have key:∀ c:List Int,Ch c->Sym c->(rowI (iat c) (iat (scS (-1) c)) (mdR i)+iat c i+iat c i)%10007=0:=fun c hc sc=>by
   have u:=zmo hi
   rw [if_neg (by omega),<- show cvS c (scS (-1) c)=zaU from sc] at u
   have m:=zbM c (scS (-1) c) hi
   rw [u,zdn _ _ hi h0,(zbV (-1) hc).2,Int.mul_one] at m
   have s:=zbj (-1) c hi
   rw [e,zcA hn,Int.mul_one] at s
   omega
  have k1:=key a ha sa
  have k2:=key b hb sb
  have m:=znS (A:=iat a) (A':=iat b) (B:=iat (scS (-1) a)) (B':=iat (scS (-1) b)) hi h0 (fun j hj hl=>by rw [h j hj (by omega)]) (fun j hj hl=>by
   rw [zbj _ _ hj,zbj _ _ hj,h j hj (by omega)])
  have r1:=ha.1.at i
  have r2:=hb.1.at i
  exact zt1 k1 k2 m r1 r2
def zbx (n:Nat):List Int->Int
 | []=>0
 | x::g=>x ^ n+zbx n g
theorem zcW (n:Nat) (x:Int):∀ g,zbx n (g++[x])=zbx n g+x ^ n
 | []=>by simp [zbx]
 | y::g=>by rw [List.cons_append,zbx,zcW n x g,zbx]; omega
theorem zql {a b:List Int} (ha:Ch a) (hb:Ch b) {p:Nat} (h:Agr a b p) (g:List Int) :
  Agr (cmS a g) (cmS b g) p/\∀ i,i<38->nd i=p+1->iat (cmS a g) i%10007=(iat (cmS b g) i+zbx (p+1) g*(iat a i-iat b i))%10007:=by
 generalize hn:g.length=n
 induction n generalizing g with
 | zero =>
  rw [List.length_eq_zero_iff.1 hn]
  exact ⟨fun i _ _=>rfl,fun i _ _=>by simp [zbx,cmS]⟩
 | succ n ih =>
  rcases List.eq_nil_or_concat g with rfl | ⟨g,x,rfl⟩
  .simp at hn
  .rw [List.concat_eq_append] at hn |-
   obtain ⟨i1,i2⟩:=ih g (by simpa using hn)
   rw [zbX,zbX,zcW]
   have sx:∀ j,j<38->nd j<=p->iat (scS x a) j%10007=iat (scS x b) j%10007:=fun j hj hl=>by
    rw [zbj _ _ hj,zbj _ _ hj,h j hj hl]
   have main:∀ i,i<38->0<i->nd i<=p+1->(rowI (iat (cmS a g)) (iat (scS x a)) (mdR i))%10007=(rowI (iat (cmS b g)) (iat (scS x b)) (mdR i))%10007:=fun i hi h0 hl =>
    znS hi h0 (fun j hj hl=>by rw [i1 j hj (by omega)]) (fun j hj hl=>sx j hj (by omega))
   refine ⟨fun i hi hl=>?_,fun i hi hl=>?_⟩
   .have r1:=(znx (cmS a g) (scS x a)).at i
    have r2:=(znx (cmS b g) (scS x b)).at i
    have m1:=zbM (cmS a g) (scS x a) hi
    have m2:=zbM (cmS b g) (scS x b) hi
    rcases Nat.eq_zero_or_pos i with rfl | h0
    .have h1:=(zjR (a:=cmS a g) (zbV x ha)).2
     have h2:=(zjR (a:=cmS b g) (zbV x hb)).2
     omega
    .rw [zdn _ _ hi h0,(zbV x ha).2,Int.mul_one] at m1
     rw [zdn _ _ hi h0,(zbV x hb).2,Int.mul_one] at m2
     have h3:=main i hi h0 (by omega)
     have h4:=i1 i hi hl
     have h5:=sx i hi hl
     omega
   .have h0:0<i:=by
     rcases Nat.eq_zero_or_pos i with rfl | h0
     .exact absurd hl (by show ¬ 0=p+1; omega)
     .exact h0
    rw [zbM _ _ hi,zdn _ _ hi h0,(zbV x ha).2,Int.mul_one]
    have m2:=zbM (cmS b g) (scS x b) hi
    rw [zdn _ _ hi h0,(zbV x hb).2,Int.mul_one] at m2
    have h3:=main i hi h0 (by omega)
    have h4:=i2 i hi hl
    have h5:=zbj x a hi
    have h6:=zbj x b hi
    rw [hl] at h5 h6
    have e:x ^ (p+1)*(iat a i-iat b i)=iat a i*x ^ (p+1)-iat b i*x ^ (p+1):=by
     rw [Int.mul_sub,Int.mul_comm,Int.mul_comm (x ^ (p+1)) (iat b i)]
    rw [Int.add_mul,e]
    generalize iat a i*x ^ (p+1)=A at *
    generalize iat b i*x ^ (p+1)=B at *
    generalize zbx (p+1) g*(iat a i-iat b i)=C at *
    omega
def agI (a b:List Int):Nat->Nat->Int
 | 0,_=>6
 | m+1,i=>if iat a i=iat b i then agI a b m (i+1) else (nd i:Int)-1
def agS (a b:List Int):Int:=agI a b 38 0
theorem zrU {i j:Nat} (h:i<=j) (hj:j<38):nd i<=nd j:=by
 have ok:(List.range 38).all (fun j=>(List.range (j+1)).all fun i=>decide (nd i<=nd j))=true:=by decide +kernel
 exact of_decide_eq_true (List.all_eq_true.1 (List.all_eq_true.1 ok j (List.mem_range.2 hj)) i (List.mem_range.2 (by omega)))
theorem zjo (a b:List Int):∀ m i,m+i=38->(agI a b m i=6/\∀ j,i<=j->j<38->iat a j=iat b j)\/∃ j,i<=j/\j<38/\iat a j≠iat b j/\agI a b m i=(nd j:Int)-1/\∀ k,i<=k->k<j->iat a k=iat b k
 | 0,i,h=>.inl ⟨rfl,fun j h1 h2=>by omega⟩
 | m+1,i,h=>by
  by_cases e:iat a i=iat b i
  .rw [agI,if_pos e]
   rcases zjo a b m (i+1) (by omega) with ⟨h1,h2⟩ | ⟨j,h1,h2,h3,h4,h5⟩
   .refine .inl ⟨h1,fun j k1 k2=>?_⟩
    by_cases ej:j=i
    .subst ej; exact e
    .exact h2 j (by omega) k2
   .refine .inr ⟨j,by omega,h2,h3,h4,fun k k1 k2=>?_⟩
    by_cases ek:k=i
    .subst ek; exact e
    .exact h5 k (by omega) k2
  .rw [agI,if_neg e]
   exact .inr ⟨i,Nat.le_refl _,by omega,e,rfl,fun k k1 k2=>by omega⟩
theorem zez (a b:List Int):(agS a b=6/\∀ j,j<38->iat a j=iat b j)\/∃ j,j<38/\iat a j≠iat b j/\agS a b=(nd j:Int)-1/\∀ k,k<38->nd k<nd j->iat a k=iat b k:=by
 rcases zjo a b 38 0 rfl with ⟨h1,h2⟩ | ⟨j,_,h2,h3,h4,h5⟩
 .exact .inl ⟨h1,fun j hj=>h2 j (by omega) hj⟩
 .refine .inr ⟨j,h2,h3,h4,fun k hk hl=>h5 k (by omega) ?_⟩
  rcases Nat.lt_or_ge k j with h | h
  .exact h
  .have:=zrU h hk; omega
theorem zht {a b:List Int} {n:Nat} (h:Agr a b n) (h6:n<=6):(n:Int)<=agS a b:=by
 rcases zez a b with ⟨h1,_⟩ | ⟨j,h2,h3,h4,_⟩
 .omega
 .rcases Nat.lt_or_ge n (nd j) with hl | hl
  .omega
  .exact (h3 (h j h2 hl)).elim
theorem zfp {a b:List Int} {n:Nat} (h:(n:Int)<=agS a b):Agr a b n:=by
 intro i hi hl
 rcases zez a b with ⟨_,h2⟩ | ⟨j,h2,h3,h4,h5⟩
 .exact h2 i hi
 .exact h5 i hi (by omega)
theorem zdf {a b:List Int} (ha:Ch a) (hb:Ch b):0<=agS a b/\agS a b<=6:=by
 have h:Agr a b 0:=fun i hi hl=>by
  rcases Nat.eq_zero_or_pos i with rfl | h0
  .rw [ha.2,hb.2]
  .have:=zm9 hi h0; omega
 refine ⟨by have:=zht h (by omega); simpa using this,?_⟩
 rcases zez a b with ⟨h1,_⟩ | ⟨j,h2,h3,h4,_⟩
 .omega
 .have:=zhe h2; omega
theorem zrF {a:List Int} (ha:Ch a) (sa:Sym a):agS a exaS%2=0:=by
 obtain ⟨h1,h2⟩:=zdf ha zal
 obtain ⟨n,hn⟩:∃ n:Nat,agS a exaS=n:=⟨(agS a exaS).toNat,by omega⟩
 rcases Nat.mod_two_eq_zero_or_one n with h | h
 .omega
 .have k:=zpe ha zal sa zlq (n:=n+1) (by omega) (zfp (by rw [hn]; omega))
  have:=zht k (by omega)
  omega
theorem zsG {a:List Int} (ha:Ch a):invS (scS (-1) a)=a ↔ Sym a:=by
 have hs:=zbV (-1) ha
 constructor
 .intro h
  unfold Sym
  have:=ztH hs
  rw [h] at this
  exact this
 .intro h
  have e:cvS (scS (-1) a) a=zaU:=by
   have h2:scS (-1) (cvS a (scS (-1) a))=zaU:=by rw [show cvS a (scS (-1) a)=zaU from h,ztv]
   rw [<- zti,zs0] at h2
   rw [show scS (-1 * -1) a=a from zfx ha.1] at h2
   exact h2
  have f:cvS (cvS (invS (scS (-1) a)) (scS (-1) a)) a=cvS (invS (scS (-1) a)) (cvS (scS (-1) a) a):=zsr (zgT _) hs
  rw [ztH hs,zi6 ha.1,e,zrX (zgT _)] at f
  exact f.symm
end Go.Proofs.YthhdollpkieknaaGreat


namespace Go.Proofs.YthhdollpkieknaaGreat
def p1R (i:Nat) (c:Ctp):Bool:=decide (c.2.1.length=1) && decide (nd (c.2.1.headD 0)+1=nd i)
def p2R (i:Nat) (c:Ctp):Bool:=decide (nd c.2.2+1=nd i)
def r1R (i:Nat):List Ctp:=(mdR i).filter (p1R i)
def q1R (i:Nat):List Ctp:=(mdR i).filter fun c=>!p1R i c
def r2R (i:Nat):List Ctp:=(q1R i).filter (p2R i)
def r3R (i:Nat):List Ctp:=(q1R i).filter fun c=>!p2R i c
theorem ztA {i:Nat} (hi:i<38) (h0:3<=nd i):(∀ c∈r1R i,c.2.1=[c.2.1.headD 0]/\c.2.2=1/\c.2.1.headD 0<38/\nd (c.2.1.headD 0)+1=nd i)/\(∀ c∈r2R i,c.2.1=[1]/\c.2.2<38/\nd c.2.2+1=nd i)/\(∀ c∈r3R i,(∀ v∈c.2.1,v<38/\nd v+2<=nd i)/\c.2.2<38/\nd c.2.2+2<=nd i):=by
 have ok:(List.range 38).all (fun i=>decide (nd i<3) || ((r1R i).all (fun c=>decide (c.2.1=[c.2.1.headD 0]) && (decide (c.2.2=1) && (decide (c.2.1.headD 0<38) && decide (nd (c.2.1.headD 0)+1=nd i)))) && ((r2R i).all (fun c=>decide (c.2.1=[1]) && (decide (c.2.2<38) && decide (nd c.2.2+1=nd i))) && (r3R i).all (fun c=>c.2.1.all (fun v=>decide (v<38) && decide (nd v+2<=nd i)) && (decide (c.2.2<38) && decide (nd c.2.2+2<=nd i))))))=true:=by decide +kernel
 have h:=List.all_eq_true.1 ok i (List.mem_range.2 hi)
 have h3:¬ nd i<3:=by omega
 simp only [Bool.or_eq_true,Bool.and_eq_true,List.all_eq_true,decide_eq_true_eq,h3,false_or] at h
 exact h
def LI (d:Nat->Int):List Ctp->Int
 | []=>0
 | c::L=>(c.1:Int)*d (c.2.1.headD 0)+LI d L
def RI (d:Nat->Int):List Ctp->Int
 | []=>0
 | c::L=>(c.1:Int)*d c.2.2+RI d L
theorem zqh (k:Int) (d:Nat->Int):∀ L,LI (fun v=>k*d v) L=k*LI d L
 | []=>by simp [LI]
 | c::L=>by rw [LI,zqh k d L,LI,Int.mul_add]; congr 1; ac_rfl
theorem zqm (k:Int) (d:Nat->Int):∀ L,RI (fun v=>k*d v) L=k*RI d L
 | []=>by simp [RI]
 | c::L=>by rw [RI,zqm k d L,RI,Int.mul_add]; congr 1; ac_rfl
theorem zs3 {A A' B B' d:Nat->Int} (hb:B 1%10007=B' 1%10007):∀ {L:List Ctp},(∀ c∈L,c.2.1=[c.2.1.headD 0]/\c.2.2=1/\A (c.2.1.headD 0)%10007=(A' (c.2.1.headD 0)+d (c.2.1.headD 0))%10007)->rowI A B L%10007=(rowI A' B' L+B' 1*LI d L)%10007
 | [],_=>by simp [rowI,LI]
 | c::L,h=>by
  obtain ⟨h1,h2,h3⟩:=h c (by simp)
  have ih:=zs3 (A':=A') (B':=B') (d:=d) hb (L:=L) fun e he=>h e (by simp [he])
  rw [rowI,rowI,LI,h1,h2]
  simp only [prI,List.headD_cons,Int.mul_one] at *
  generalize c.2.1.headD 0=v at *
  have k:(c.1:Int)*(A v*B 1)%10007=((c.1:Int)*(A' v*B' 1)+B' 1*((c.1:Int)*d v))%10007:=by
   rw [show (c.1:Int)*(A' v*B' 1)+B' 1*((c.1:Int)*d v)=(c.1:Int)*((A' v+d v)*B' 1) by rw [Int.add_mul,Int.mul_add]; congr 1; ac_rfl]
   exact zag rfl (zag h3 hb)
  rw [Int.mul_add]
  generalize (c.1:Int)*(A v*B 1)=x1 at *
  generalize (c.1:Int)*(A' v*B' 1)=x2 at *
  generalize B' 1*((c.1:Int)*d v)=x3 at *
  generalize B' 1*LI d L=x4 at *
  omega
theorem zue {A A' B B' d:Nat->Int} (ha:A 1%10007=A' 1%10007):∀ {L:List Ctp},(∀ c∈L,c.2.1=[1]/\B c.2.2%10007=(B' c.2.2+d c.2.2)%10007)->rowI A B L%10007=(rowI A' B' L+A' 1*RI d L)%10007
 | [],_=>by simp [rowI,RI]
 | c::L,h=>by
  obtain ⟨h1,h3⟩:=h c (by simp)
  have ih:=zue (A':=A') (B':=B') (d:=d) ha (L:=L) fun e he=>h e (by simp [he])
  rw [rowI,rowI,RI,h1]
  simp only [prI,Int.mul_one] at *
  generalize c.2.2=v at *
  have k:(c.1:Int)*(A 1*B v)%10007=((c.1:Int)*(A' 1*B' v)+A' 1*((c.1:Int)*d v))%10007:=by
   rw [show (c.1:Int)*(A' 1*B' v)+A' 1*((c.1:Int)*d v)=(c.1:Int)*(A' 1*(B' v+d v)) by rw [Int.mul_add,Int.mul_add]; congr 1; ac_rfl]
   exact zag rfl (zag ha h3)
  rw [Int.mul_add]
  generalize (c.1:Int)*(A 1*B v)=x1 at *
  generalize (c.1:Int)*(A' 1*B' v)=x2 at *
  generalize A' 1*((c.1:Int)*d v)=x3 at *
  generalize A' 1*RI d L=x4 at *
  omega
def LdI (d:Nat->Int) (i:Nat):Int:=LI d (r1R i)
def RdI (d:Nat->Int) (i:Nat):Int:=RI d (r2R i)
theorem zq7 {A A' B B' u w:Nat->Int} {i:Nat} (hi:i<38) (h3:3<=nd i)
  (ha:∀ j,j<38->nd j+2<=nd i->A j%10007=A' j%10007) (ha1:∀ j,j<38->nd j+1=nd i->A j%10007=(A' j+u j)%10007)
  (hb:∀ j,j<38->nd j+2<=nd i->B j%10007=B' j%10007) (hb1:∀ j,j<38->nd j+1=nd i->B j%10007=(B' j+w j)%10007) :
  rowI A B (mdR i)%10007=(rowI A' B' (mdR i)+B' 1*LdI u i+A' 1*RdI w i)%10007:=by
 obtain ⟨c1,c2,c3⟩:=ztA hi h3
 have n1:nd 1=1:=rfl
 have e:=fun A B=>zcg A B (p1R i) (mdR i)
 have e2:=fun A B=>zcg A B (p2R i) (q1R i)
 have k1:=zs3 (A:=A) (A':=A') (B:=B) (B':=B') (d:=u) (hb 1 (by decide) (by omega)) (L:=r1R i) fun c hc=>by
  obtain ⟨x1,x2,x3,x4⟩:=c1 c hc
  exact ⟨x1,x2,ha1 _ x3 x4⟩
 have k2:=zue (A:=A) (A':=A') (B:=B) (B':=B') (d:=w) (ha 1 (by decide) (by omega)) (L:=r2R i) fun c hc=>by
  obtain ⟨x1,x3,x4⟩:=c2 c hc
  exact ⟨x1,hb1 _ x3 x4⟩
 have k3:=zcX (A:=A) (A':=A') (B:=B) (B':=B') (L:=r3R i) fun c hc=>by
  obtain ⟨x1,x3,x4⟩:=c3 c hc
  exact ⟨fun v hv=>ha v (x1 v hv).1 (x1 v hv).2,hb _ x3 x4⟩
 rw [e A B,e A' B']
 have f1:=e2 A B
 have f2:=e2 A' B'
 show (rowI A B (r1R i)+rowI A B (q1R i))%10007=(rowI A' B' (r1R i)+rowI A' B' (q1R i)+B' 1*LdI u i+A' 1*RdI w i)%10007
 rw [f1,f2]
 show (rowI A B (r1R i)+(rowI A B (r2R i)+rowI A B (r3R i)))%10007=(rowI A' B' (r1R i)+(rowI A' B' (r2R i)+rowI A' B' (r3R i))+B' 1*LI u (r1R i)+A' 1*RI w (r2R i))%10007
 omega
def T1 (n:Nat) (g:List Int):Int:=g.foldl (fun (p:Int × Int) x=>(p.1+x*p.2,p.2+x ^ n)) (0,0) |>.1
def T2 (n:Nat) (g:List Int):Int:=g.foldl (fun (p:Int × Int) x=>(p.1+p.2*x ^ n,p.2+x)) (0,0) |>.1
theorem zr1 (n:Nat) (g:List Int):g.foldl (fun (p:Int × Int) x=>(p.1+x*p.2,p.2+x ^ n)) (0,0)=(T1 n g,zbx n g):=by
 have:∀ (g:List Int),(g.foldl (fun (p:Int × Int) x=>(p.1+x*p.2,p.2+x ^ n)) (0,0)).2=zbx n g:=fun g=>by
  generalize hn:g.length=m
  induction m generalizing g with
  | zero=>rw [List.length_eq_zero_iff.1 hn]; rfl
  | succ m ih =>
   rcases List.eq_nil_or_concat g with rfl | ⟨h,y,rfl⟩
   .simp at hn
   .rw [List.concat_eq_append] at hn |-
    rw [List.foldl_append,zcW,<- ih h (by simpa using hn)]; rfl
 exact Prod.ext rfl (this g)
theorem ziN (n:Nat) (g:List Int) (x:Int):T1 n (g++[x])=T1 n g+x*zbx n g:=by
 have h:=zr1 n g
 unfold T1 at *
 rw [List.foldl_append,h]; rfl
theorem zrn (n:Nat) (g:List Int):g.foldl (fun (p:Int × Int) x=>(p.1+p.2*x ^ n,p.2+x)) (0,0)=(T2 n g,sumG g):=by
 have:∀ (g:List Int),(g.foldl (fun (p:Int × Int) x=>(p.1+p.2*x ^ n,p.2+x)) (0,0)).2=sumG g:=fun g=>by
  generalize hn:g.length=m
  induction m generalizing g with
  | zero=>rw [List.length_eq_zero_iff.1 hn]; rfl
  | succ m ih =>
   rcases List.eq_nil_or_concat g with rfl | ⟨h,y,rfl⟩
   .simp at hn
   .rw [List.concat_eq_append] at hn |-
    rw [List.foldl_append,zdF,<- ih h (by simpa using hn)]; rfl
 exact Prod.ext rfl (this g)
theorem zjl (n:Nat) (g:List Int) (x:Int):T2 n (g++[x])=T2 n g+sumG g*x ^ n:=by
 have h:=zrn n g
 unfold T2 at *
 rw [List.foldl_append,h]; rfl
theorem zqz {a:List Int} (ha:Ch a) {p:Nat} (p1:1<=p) (h:Agr a exaS p) (g:List Int) {i:Nat} (hi:i<38) (hl:nd i=p+2) :
  iat (cmS a g) i%10007=(iat (cmS exaS g) i+zbx (p+2) g*(iat a i-iat exaS i)+T1 (p+1) g*LdI (fun v=>iat a v-iat exaS v) i+T2 (p+1) g*RdI (fun v=>iat a v-iat exaS v) i)%10007:=by
 have h0:0<i:=by
  rcases Nat.eq_zero_or_pos i with rfl | h0
  .exact absurd hl (by show ¬ 0=p+2; omega)
  .exact h0
 generalize hn:g.length=n
 induction n generalizing g with
 | zero =>
  rw [List.length_eq_zero_iff.1 hn]
  simp [zbx,T1,T2,cmS]
 | succ n ih =>
  rcases List.eq_nil_or_concat g with rfl | ⟨g,x,rfl⟩
  .simp at hn
  .rw [List.concat_eq_append] at hn |-
   have i0:=ih g (by simpa using hn)
   obtain ⟨i1,i2⟩:=zql ha zal h g
   rw [zbX,zbX,zcW,ziN,zjl,zbM _ _ hi,zdn _ _ hi h0,(zbV x ha).2,Int.mul_one]
   have m2:=zbM (cmS exaS g) (scS x exaS) hi
   rw [zdn _ _ hi h0,(zbV x zal).2,Int.mul_one] at m2
   have m:=zq7 (A:=iat (cmS a g)) (A':=iat (cmS exaS g)) (B:=iat (scS x a)) (B':=iat (scS x exaS)) (u:=fun v=>zbx (p+1) g*(iat a v-iat exaS v)) (w:=fun v=>x ^ (p+1)*(iat a v-iat exaS v)) hi (by omega)
    (fun j hj hl=>by rw [i1 j hj (by omega)]) (fun j hj hl=>i2 j hj (by omega))
    (fun j hj hl=>by rw [zbj _ _ hj,zbj _ _ hj,h j hj (by omega)])
    (fun j hj hl2=>by
     rw [zbj _ _ hj,show nd j=p+1 by omega]
     have s:=zbj x exaS hj
     rw [show nd j=p+1 by omega] at s
     have e:x ^ (p+1)*(iat a j-iat exaS j)=iat a j*x ^ (p+1)-iat exaS j*x ^ (p+1):=by
      rw [Int.mul_sub,Int.mul_comm,Int.mul_comm (x ^ (p+1)) (iat exaS j)]
     rw [e]
     generalize iat a j*x ^ (p+1)=A at *
     generalize iat exaS j*x ^ (p+1)=B at *
     omega)
   have x1:iat (scS x exaS) 1%10007=x%10007:=by
    rw [zbj _ _ (by decide),zl1,Int.one_mul,show nd 1=1 from rfl,Int.pow_succ,Int.pow_zero,Int.one_mul]
   have x2:iat (cmS exaS g) 1%10007=sumG g%10007:=by
    have:=zo8 zal g
    rw [zl1,Int.one_mul] at this
    exact this
   unfold LdI RdI at m i0 |-
   rw [zqh,zqm] at m
   have y1:iat (scS x exaS) 1*(zbx (p+1) g*LI (fun v=>iat a v-iat exaS v) (r1R i))%10007=x*zbx (p+1) g*LI (fun v=>iat a v-iat exaS v) (r1R i)%10007:=by
    rw [Int.mul_assoc x]
    exact zag x1 rfl
   have y2:iat (cmS exaS g) 1*(x ^ (p+1)*RI (fun v=>iat a v-iat exaS v) (r2R i))%10007=sumG g*x ^ (p+1)*RI (fun v=>iat a v-iat exaS v) (r2R i)%10007:=by
    rw [Int.mul_assoc (sumG g)]
    exact zag x2 rfl
   have h5:=zbj x a hi
   have h6:=zbj x exaS hi
   rw [hl] at h5 h6
   have e:x ^ (p+2)*(iat a i-iat exaS i)=iat a i*x ^ (p+2)-iat exaS i*x ^ (p+2):=by
    rw [Int.mul_sub,Int.mul_comm,Int.mul_comm (x ^ (p+2)) (iat exaS i)]
   rw [Int.add_mul,Int.add_mul,Int.add_mul,e]
   generalize iat a i*x ^ (p+2)=z1 at *
   generalize iat exaS i*x ^ (p+2)=z2 at *
   generalize iat (scS x exaS) 1*(zbx (p+1) g*LI (fun v=>iat a v-iat exaS v) (r1R i))=z3 at *
   generalize iat (cmS exaS g) 1*(x ^ (p+1)*RI (fun v=>iat a v-iat exaS v) (r2R i))=z4 at *
   generalize x*zbx (p+1) g*LI (fun v=>iat a v-iat exaS v) (r1R i)=z5 at *
   generalize sumG g*x ^ (p+1)*RI (fun v=>iat a v-iat exaS v) (r2R i)=z6 at *
   generalize zbx (p+2) g*(iat a i-iat exaS i)=z7 at *
   generalize T1 (p+1) g*LI (fun v=>iat a v-iat exaS v) (r1R i)=z8 at *
   generalize T2 (p+1) g*RI (fun v=>iat a v-iat exaS v) (r2R i)=z9 at *
   omega
theorem zqd (a:List Int) (q:Int):∀ k,cmS a (List.replicate k q)=pwrS (scS q a) k
 | 0=>rfl
 | k+1=>by rw [List.replicate_succ',zbX,zqd a q k]; rfl
theorem zgY (q:Int):∀ k:Nat,sumG (List.replicate k q)=k*q
 | 0=>by simp [sumG]
 | k+1=>by rw [List.replicate_succ,sumG,zgY q k,Int.natCast_add,Int.add_mul]; omega
theorem zdH (n:Nat) (q:Int):∀ k:Nat,zbx n (List.replicate k q)=k*q ^ n
 | 0=>by simp [zbx]
 | k+1=>by rw [List.replicate_succ,zbx,zdH n q k,Int.natCast_add,Int.add_mul]; omega
theorem zmZ (n:Nat) (q:Int):∀ k:Nat,2*T1 n (List.replicate k q)=k*(k-1)*q ^ (n+1)/\T2 n (List.replicate k q)=T1 n (List.replicate k q)
 | 0=>by simp [T1,T2]
 | k+1=>by
  obtain ⟨h1,h2⟩:=zmZ n q k
  rw [List.replicate_succ',ziN,zjl,zdH,zgY,h2]
  refine ⟨?_,by congr 1; ac_rfl⟩
  rw [Int.mul_add,h1,show q*((k:Int)*q ^ n)=k*q ^ (n+1) by rw [Int.pow_succ]; ac_rfl,<- Int.mul_assoc,<- Int.add_mul]
  congr 1
  have e:((k+1:Nat):Int)=(k:Int)+1:=by omega
  rw [e,show ((k:Int)+1-1)=k by omega,Int.mul_sub,Int.add_mul,Int.mul_one,Int.one_mul]
  omega
theorem zgR {a:List Int} (ha:Ch a) {p k:Nat} (h:Agr a exaS p) {q:Int} (hq:(k:Int)*q%10007=1) :
  Agr (pwrS (scS q a) k) exaS p/\(∀ i,i<38->nd i=p+1->iat (pwrS (scS q a) k) i%10007=(iat exaS i+q ^ p*(iat a i-iat exaS i))%10007) /\
  (Sym a->1<=p->p%2=0->∀ i,i<38->nd i=p+2->iat (pwrS (scS q a) k) i%10007=(iat exaS i+q ^ p*(iat a i-iat exaS i))%10007):=by
 have e:cmS exaS (List.replicate k q)=exaS:=by
  rw [zuP,zgY,znY (l:=1) (by rw [hq]; rfl),zfx zal.1]
 obtain ⟨k1,k2⟩:=zql ha zal h (List.replicate k q)
 rw [e] at k1 k2
 rw [<- zqd]
 refine ⟨k1,fun i hi hl=>?_,fun sa p1 pe i hi hl=>?_⟩
 .rw [k2 i hi hl,zdH]
  refine zbt rfl (zag ?_ rfl)
  rw [Int.pow_succ,show (k:Int)*(q ^ p*q)=(k*q)*q ^ p by ac_rfl,Int.mul_emod,hq,Int.one_mul,Int.emod_emod_of_dvd _ (Int.dvd_refl _)]
 .have c1:=zqz ha p1 h (List.replicate k q) hi hl
  have c2:=zqz ha p1 h [1,-1] hi hl
  have s1:cmS a [1,-1]=zaU:=by
   show cvS (cvS zaU (scS 1 a)) (scS (-1) a)=zaU
   rw [zi6 (zex _ _),zfx ha.1]; exact sa
  have s2:cmS exaS [1,-1]=zaU:=by
   show cvS (cvS zaU (scS 1 exaS)) (scS (-1) exaS)=zaU
   rw [zi6 (zex _ _),zfx zal.1]; exact zlq
  rw [s1,s2] at c2
  have w1:zbx (p+2) [1,-1]=2:=by
   simp only [zbx,Int.one_pow]
   rw [zcA (by omega)]; rfl
  have w2:T1 (p+1) [1,-1] = -1:=by
   have:=ziN (p+1) [1] (-1)
   show T1 (p+1) ([1]++[-1])=_
   rw [this]; simp [T1,zbx,Int.one_pow]
  have w3:T2 (p+1) [1,-1] = -1:=by
   have:=zjl (p+1) [1] (-1)
   show T2 (p+1) ([1]++[-1])=_
   rw [this,ziL (by omega)]; simp [T2,sumG]
  rw [w1,w2,w3] at c2
  obtain ⟨t1,t2⟩:=zmZ (p+1) q k
  rw [e,zdH,t2] at c1
  rw [c1]
  generalize LdI (fun v=>iat a v-iat exaS v) i=L at *
  generalize RdI (fun v=>iat a v-iat exaS v) i=R at *
  generalize hd:iat a i-iat exaS i=d at *
  have lr:(L+R)%10007=2*d%10007:=by
   rw [Int.neg_one_mul,Int.neg_one_mul] at c2
   generalize 2*d=dd at *
   omega
  rw [Int.add_assoc,Int.add_assoc,<- Int.mul_add,<- Int.add_assoc]
  generalize T1 (p+1) (List.replicate k q)=t at *
  have m1:t*(L+R)%10007=t*(2*d)%10007:=zag rfl lr
  have m2:t*(2*d)=k*(k-1)*q ^ (p+2)*d:=by
   rw [show t*(2*d)=(2*t)*d by ac_rfl,t1]
  rw [m2] at m1
  have m3:((k:Int)*q ^ (p+2)*d+k*(k-1)*q ^ (p+2)*d)%10007=q ^ p*d%10007:=by
   rw [<- Int.add_mul,<- Int.add_mul,show (k:Int)+k*(k-1)=k*k by rw [Int.mul_sub,Int.mul_one]; omega]
   refine zag ?_ rfl
   rw [Int.pow_succ,Int.pow_succ,show (k:Int)*k*(q ^ p*q*q)=(k*q)*((k*q)*q ^ p) by ac_rfl]
   rw [Int.mul_emod,hq,Int.one_mul,Int.emod_emod_of_dvd _ (Int.dvd_refl _),Int.mul_emod,hq,Int.one_mul,Int.emod_emod_of_dvd _ (Int.dvd_refl _)]
  generalize (k:Int)*q ^ (p+2)*d=y1 at *
  generalize k*((k:Int)-1)*q ^ (p+2)*d=y2 at *
  generalize t*(L+R)=y3 at *
  generalize q ^ p*d=y4 at *
  omega
end Go.Proofs.YthhdollpkieknaaGreat


namespace Go.Proofs.YthhdollpkieknaaGreat
open Go.Abs
def mapB (a:List Int):Bool:=decide (a.length=38) && zfO a
theorem zdr (a:List Int) (ha:a.length<=9223372036854775807):Con Tryz.prog 77 [.sl a.length (avs a)] (.bool (mapB a)):=by
 have cN:=zhs a ha
 unfold mapB
 by_cases h:a.length=38
 .have hi:(a.length:Int)=38:=by omega
  rw [decide_eq_true h]
  refine zab Tryz.mixed ⟨3,[],[],[]⟩ Tryz.func77 ?_
  rw [Tryz.ntmps77]
  simp [go_sem,hi]
  refine CallVC.of (cN) ?_
  simp [go_sem]
 .have hi:¬ (a.length:Int)=38:=by omega
  rw [decide_eq_false h]
  refine zab Tryz.mixed ⟨3,[],[],[]⟩ Tryz.func77 ?_
  rw [Tryz.ntmps77]
  simp [go_sem,hi]
theorem zls (a:List Int) (ha:a.length<=9223372036854775807):Con Tryz.prog 118 [.sl a.length (avs a)] (.bool (mapB a)):=by
 have cN:=zhw a ha
 unfold mapB
 by_cases h:a.length=38
 .have hi:(a.length:Int)=38:=by omega
  rw [decide_eq_true h]
  refine zab Tryz.mixed ⟨3,[],[],[]⟩ Tryz.func118 ?_
  rw [Tryz.ntmps118]
  simp [go_sem,hi]
  refine CallVC.of (cN) ?_
  simp [go_sem]
 .have hi:¬ (a.length:Int)=38:=by omega
  rw [decide_eq_false h]
  refine zab Tryz.mixed ⟨3,[],[],[]⟩ Tryz.func118 ?_
  rw [Tryz.ntmps118]
  simp [go_sem,hi]
end Go.Proofs.YthhdollpkieknaaGreat


namespace Go.Proofs.YthhdollpkieknaaGreat
open Go.Abs
def nvs (l:List Nat):List Int:=l.map fun (v:Nat)=>(v:Int)
theorem zea (l:List Nat):(nvs l).length=l.length:=by simp [nvs]
theorem zqg {l:List Nat} {i:Nat} (h:i<l.length):(nvs l).getD i 0=((l[i]?.getD 0:Nat):Int):=by rw [List.getD_eq_getElem?_getD]; simp [nvs,h]
theorem N38.Ns {a:List Int} (h:N38 a):Ns a:=fun x hx=>by have:=h.2 x hx; exact ⟨this.1,by have:=this.2; omega⟩
theorem ze4 {a:List Int} (h:mapB a=true):N38 a:=by
 unfold mapB at h
 simp only [Bool.and_eq_true,decide_eq_true_eq] at h
 have hn:=zml.1 h.2
 exact ⟨by omega,fun x hx=>by have:=hn x hx; exact ⟨this.1,by have:=this.2; omega⟩⟩
theorem N38.mapB {a:List Int} (h:N38 a):mapB a=true:=by
 unfold Go.Proofs.YthhdollpkieknaaGreat.mapB
 rw [h.1,zml.2 h.Ns]; rfl
theorem zae {a:List Int} {v:Nat} (h:v<a.length):(avs a).drop v=.int (iat a v)::avs (a.drop (v+1)):=by
 rw [zap h,List.getD_eq_getElem?_getD]; rfl
def vlN (a:List Int) (l:List Nat):Int:=l.foldl (fun o v=>o*iat a v%10007) 1
theorem zgv (a:List Int) (l:List Nat) (v:Nat):vlN a (l++[v])=vlN a l*iat a v%10007:=by simp [vlN]
theorem zsx (a:List Int) (l:List Nat):isN (vlN a l):=by
 rcases List.eq_nil_or_concat l with rfl | ⟨h,x,rfl⟩
 .show isN 1; exact ⟨by decide,by decide⟩
 .rw [List.concat_eq_append,zgv]; exact zak _
theorem zgr (A:Nat->Int) (v:Nat):∀ l,prI A (l++[v])=prI A l*A v
 | []=>by simp [prI]
 | w::l=>by rw [List.cons_append,prI,zgr A v l,prI,Int.mul_assoc]
theorem zr3 (a:List Int) (l:List Nat):vlN a l%10007=prI (iat a) l%10007:=by
 generalize hn:l.length=n
 induction n generalizing l with
 | zero=>rw [List.length_eq_zero_iff.1 hn]; rfl
 | succ n ih =>
  rcases List.eq_nil_or_concat l with rfl | ⟨h,x,rfl⟩
  .simp at hn
  .rw [List.concat_eq_append] at hn |-
   rw [zgv,zgr,Int.emod_emod_of_dvd _ (Int.dvd_refl _)]
   exact zag (ih h (by simpa using hn)) rfl
theorem zij (a:List Int) (l:List Nat) (ha:Ns a) (hal:a.length<=1048576) (hl:l.length<=100) (h:∀ v∈l,v<a.length) :
  Con Tryz.prog 186 [.sl a.length (avs a),.sl l.length (avs (nvs l))] (.int (vlN a l)):=by
 refine zab Tryz.mixed ⟨8,[],[],[]⟩ Tryz.func186 ?_
 rw [Tryz.ntmps186]
 simp [go_sem]
 refine zac (5::7::List.range' 10 12) (fun i:Nat=>[(5,.int (vlN a (l.take i))),(10,.int i)]) (fun i=>i<=l.length) (fun i=>l.length-i) 0 (by simp) (by simp [go_sem,vlN]) (by simp [go_sem]) ?_
 intro i hi
 by_cases hil:i<l.length
 .have hii:(i:Int)<l.length:=by omega
  have hm:=h _ (memD 0 hil)
  have tk:l.take (i+1)=l.take i++[l[i]?.getD 0]:=by
   rw [List.take_succ_eq_append_getElem hil,List.getElem?_eq_getElem hil]; rfl
  have hN:=zsx a (l.take i)
  have hv:isN (iat a (l[i]?.getD 0)):=ha.get _
  have cN:=zcO (vlN a (l.take i)*iat a (l[i]?.getD 0)) (zay hN hv).1 (zay hN hv).2
  have dr:=zap (show i<(nvs l).length by rw [zea]; exact hil)
  rw [zqg hil] at dr
  have nl:¬ nvs l=[]:=by intro e; have:=zea l; rw [e] at this; simp at this; omega
  have ar:=zae hm
  have na:¬ a=[]:=by intro e; rw [e] at hm; simp at hm
  have e:=zgv a (l.take i) (l[i]?.getD 0)
  rw [<- tk] at e
  have fm:=zay hN hv
  generalize l[i]?.getD 0=v at *
  generalize iat a v=x at *
  simp [go_sem,hii,dr,ar]
  refine ⟨nl,⟨hm,na⟩,⟨fm.1,fm.2⟩,?_⟩
  refine CallVC.of (cN) ?_
  simp [go_sem]
  refine ⟨⟨by omega,by omega⟩,i+1,by omega,by omega,zaa _ _ _ (by simp),?_⟩
  rw [e]
  exact ⟨rfl,by omega⟩
 .have e:i=l.length:=by omega
  subst e
  have hii:¬ (l.length:Int)<l.length:=by omega
  rw [List.take_length]
  simp [go_sem,hii]
def ctF (c:Ctp):List AV:=[.int c.1,.sl c.2.1.length (avs (nvs c.2.1)),.int c.2.2]
def fcF:List AV:=cutT.map fun r=>.sl r.length (r.flatMap ctF)
theorem zcq (X:List Ctp):(X.flatMap ctF).length=X.length*3:=by
 induction X with
 | nil=>rfl
 | cons s X ih=>rw [List.flatMap_cons,List.length_append,ih]; simp [ctF]; omega
theorem zeB {L:List Ctp} {i:Nat} (h:i<L.length):(L.flatMap ctF).drop (i*3)=ctF (L[i]?.getD (0,[],0))++(L.drop (i+1)).flatMap ctF:=by
 have e1:((L.take i).flatMap ctF).length=i*3:=by rw [zcq,List.length_take,Nat.min_eq_left (by omega)]
 have e2:L.drop i=L[i]?.getD (0,[],0)::L.drop (i+1):=by rw [List.drop_eq_getElem_cons h]; simp [h]
 have e3:L.flatMap ctF=(L.take i).flatMap ctF++(L.drop i).flatMap ctF:=by rw [<- List.flatMap_append,List.take_append_drop]
 rw [e3,List.drop_append_of_le_length (by omega),e2,List.flatMap_cons,List.drop_eq_nil_of_le (by omega),List.nil_append]
theorem zha:cutT.length=37:=by decide +kernel
theorem zgN {i:Nat} (h:i<37):fcF.drop i=.sl (ctR (i+1)).length ((ctR (i+1)).flatMap ctF)::fcF.drop (i+1):=by
 have hl:i<cutT.length:=by rw [zha]; exact h
 unfold fcF ctR
 rw [<- List.map_drop,List.drop_eq_getElem_cons hl,List.map_cons,<- List.map_drop]
 simp [hl]
theorem zqG:¬ fcF=[]:=by
 have:=congrArg List.length (show fcF=cutT.map fun r=>.sl r.length (r.flatMap ctF) from rfl)
 rw [List.length_map,zha] at this
 intro e
 rw [e] at this
 simp at this
theorem zkc {i:Nat} (hi:i<38):(ctR i).length<=100/\∀ c∈ctR i,c.2.1.length<=100/\c.1<=100:=by
 have ok:(List.range 38).all (fun i=>decide ((ctR i).length<=100) && (ctR i).all fun c=>decide (c.2.1.length<=100) && decide (c.1<=100))=true:=by decide +kernel
 have h:=List.all_eq_true.1 ok i (List.mem_range.2 hi)
 simp only [Bool.and_eq_true,List.all_eq_true,decide_eq_true_eq] at h
 exact h
def rsF (a b:List Int) (L:List Ctp):Int:=L.foldl (fun s c=>s+(c.1:Int)*(vlN a c.2.1*iat b c.2.2%10007)%10007) 0
theorem zeH (a b:List Int) (L:List Ctp) (c:Ctp):rsF a b (L++[c])=rsF a b L+(c.1:Int)*(vlN a c.2.1*iat b c.2.2%10007)%10007:=by simp [rsF]
theorem zdw (A B:Nat->Int) (c:Ctp):∀ L,rowI A B (L++[c])=rowI A B L+(c.1:Int)*(prI A c.2.1*B c.2.2)
 | []=>by simp [rowI]
 | d::L=>by rw [List.cons_append,rowI,zdw A B c L,rowI,Int.add_assoc]
theorem zjY (a b:List Int) (L:List Ctp):0<=rsF a b L/\rsF a b L<=10006*L.length:=by
 generalize hn:L.length=n
 induction n generalizing L with
 | zero=>rw [List.length_eq_zero_iff.1 hn]; exact ⟨Int.le_refl 0,by show (0:Int)<=_; omega⟩
 | succ n ih =>
  rcases List.eq_nil_or_concat L with rfl | ⟨h,x,rfl⟩
  .simp at hn
  .rw [List.concat_eq_append] at hn |-
   rw [zeH]
   have:=ih h (by simpa using hn)
   have m:=zak ((x.1:Int)*(vlN a x.2.1*iat b x.2.2%10007))
   have:=m.1; have:=m.2
   omega
theorem zlU (a b:List Int) (L:List Ctp):rsF a b L%10007=rowI (iat a) (iat b) L%10007:=by
 generalize hn:L.length=n
 induction n generalizing L with
 | zero=>rw [List.length_eq_zero_iff.1 hn]; rfl
 | succ n ih =>
  rcases List.eq_nil_or_concat L with rfl | ⟨h,x,rfl⟩
  .simp at hn
  .rw [List.concat_eq_append] at hn |-
   rw [zeH,zdw]
   refine zbt (ih h (by simpa using hn)) ?_
   rw [Int.emod_emod_of_dvd _ (Int.dvd_refl _)]
   refine zag rfl ?_
   rw [Int.emod_emod_of_dvd _ (Int.dvd_refl _)]
   exact zag (zr3 a _) rfl
theorem zbw (f:Nat->Int) {i:Nat} (h:i<38):(mk38 f).take (i+1)=(mk38 f).take i++[f i%10007]:=by
 have hl:i<(mk38 f).length:=by rw [(zbc f).1]; exact h
 rw [List.take_succ_eq_append_getElem hl]
 have:=za9 f h
 unfold iat at this
 rw [List.getElem?_eq_getElem hl] at this
 rw [<- this]; rfl
theorem zjv (f:Nat->Int):(mk38 f).take 38=mk38 f:=List.take_of_length_le (by rw [(zbc f).1]; exact Nat.le_refl _)
theorem zk1 (a b:List Int) (ha:N38 a) (hb:N38 b) :
  Con Tryz.prog 182 [.agg [.sl 37 (mat (trN 6)),.sl 37 fcF],.sl a.length (avs a),.sl b.length (avs b)] (.own 2 38 (avs (cvS a b))):=by
 have b0:=zae (a:=b) (v:=0) (by rw [hb.1]; omega)
 rw [List.drop_zero] at b0
 have nb:¬ b=[]:=by intro e; have:=hb.1; rw [e] at this; simp at this
 have t1:=zbw (cvI (iat a) (iat b)) (i:=0) (by omega)
 rw [List.take_zero,List.nil_append,cvI,if_pos rfl,Int.emod_eq_of_lt (hb.at 0).1 (hb.at 0).2] at t1
 have tk:=fun i (h:i<38)=>zbw (cvI (iat a) (iat b)) h
 have ta:=zjv (cvI (iat a) (iat b))
 have la:=ha.1
 have lb:=hb.1
 have nf:=zqG
 have fd:=fun i h=>zgN (i:=i) h
 show Con Tryz.prog _ _ (.own _ 38 (avs (mk38 (cvI (iat a) (iat b)))))
 generalize hO:mk38 (cvI (iat a) (iat b))=O at *
 generalize fcF=FC at *
 have b0l:0<b.length:=by omega
 refine zab Tryz.mixed ⟨13,[],[],[]⟩ Tryz.func182 ?_
 rw [Tryz.ntmps182]
 simp [go_sem,b0]
 refine ⟨b0l,?_⟩
 refine zac (7::9::10::12::List.range' 20 34) (fun i:Nat=>[(7,.own 2 (i+1) (avs (O.take (i+1)))),(20,.int i)]) (fun i=>i<=37) (fun i=>37-i) 0 (by simp) (by simp [go_sem,t1,avs]) (by simp [go_sem]) ?_
 intro i hi
 by_cases hil:i<37
 .have hii:(i:Int)<37:=by omega
  have dr:=fd i hil
  obtain ⟨r1,r2⟩:=zkc (i:=i+1) (by omega)
  have rk:=zdd (i:=i+1) (by omega)
  have tk1:=tk (i+1) (by omega)
  have cv:cvI (iat a) (iat b) (i+1)=rowI (iat a) (iat b) (ctR (i+1)):=by unfold cvI; rw [if_neg (by omega)]
  rw [cv] at tk1
  have lo:O.length=38:=by rw [<- hO]; exact (zbc _).1
  generalize ctR (i+1)=R at *
  simp [go_sem,hii,dr]
  refine ⟨nf,?_⟩
  refine zac (10::12::List.range' 26 22) (fun j:Nat=>[(10,.int (rsF a b (R.take j))),(26,.int j)]) (fun j=>j<=R.length) (fun j=>R.length-j) 0 (by simp) (by simp [go_sem,rsF]) (by simp [go_sem]) ?_
  intro j hj
  by_cases hjl:j<R.length
  .have hji:(j:Int)<R.length:=by omega
   have cd:=zeB hjl
   have hm:=memD (0,[],0) hjl
   obtain ⟨q1,q2⟩:=r2 _ hm
   obtain ⟨k1,k2⟩:=rk _ hm
   have tj:R.take (j+1)=R.take j++[R[j]?.getD (0,[],0)]:=by
    rw [List.take_succ_eq_append_getElem hjl,List.getElem?_eq_getElem hjl]; rfl
   have rs:=zeH a b (R.take j) (R[j]?.getD (0,[],0))
   rw [<- tj] at rs
   have bd:=zjY a b (R.take j)
   rw [List.length_take] at bd
   have nR:¬ R.flatMap ctF=[]:=by intro e; have:=zcq R; rw [e] at this; simp at this; omega
   have lR:=zcq R
   generalize R[j]?.getD (0,[],0)=c at *
   obtain ⟨n,l,t⟩:=c
   simp only [ctF] at cd q1 q2 k1 k2 rs
   have cV:=zij a l ha.Ns (by omega) q1 (fun v hv=>by have:=k1 v hv; omega)
   have vN:=zsx a l
   have bN:isN (iat b t):=hb.Ns.get t
   have br:=zae (a:=b) (v:=t) (by omega)
   rw [b0,List.drop_one] at br
   have f1:=zay vN bN
   have c1:=zcO (vlN a l*iat b t) f1.1 f1.2
   have m1:=zak (vlN a l*iat b t)
   have f2:fits ((n:Int)*(vlN a l*iat b t%10007)):=zay (show isN (n:Int) from ⟨by omega,by omega⟩) m1
   have c2:=zcO ((n:Int)*(vlN a l*iat b t%10007)) f2.1 f2.2
   have m2:=zak ((n:Int)*(vlN a l*iat b t%10007))
   generalize rsF a b (R.take j)=s at *
   generalize hMC:R.flatMap ctF=MC at *
   generalize vlN a l=v at *
   generalize iat b t=y at *
   simp [go_sem,hji,cd,br]
   refine ⟨nR,by kernel_rfl,?_⟩
   refine CallD.of (cV) ?_
   simp [go_sem]
   simp [go_sem,br]
   refine ⟨by omega,⟨f1.1,f1.2⟩,?_⟩
   refine CallD.of (c1) ?_
   simp [go_sem]
   refine ⟨⟨f2.1,f2.2⟩,?_⟩
   refine CallD.of (c2) ?_
   simp [go_sem]
   refine ⟨⟨by omega,by omega⟩,?_⟩
   refine ⟨by kernel_rfl,?_⟩
   simp [go_sem]
   refine ⟨⟨by omega,by omega⟩,j+1,by omega,by omega,zaa _ _ _ (by simp),?_⟩
   rw [rs]
   exact ⟨rfl,by omega⟩
  .have e:j=R.length:=by omega
   subst e
   have hji:¬ (R.length:Int)<R.length:=by omega
   rw [List.take_length]
   have bd:=zjY a b R
   have rm:=zlU a b R
   rw [<- rm] at tk1
   have c1:=zcO (rsF a b R) (by omega) (by omega)
   generalize rsF a b R=s at *
   simp [go_sem,hji]
   refine CallVC.of (c1) ?_
   simp [go_sem]
   refine ⟨⟨by omega,by omega,by omega⟩,⟨by omega,by omega⟩,i+1,by omega,by omega,(Off.reset (by intro x hx; simp at hx |-; omega) (by simp) (by simp [go_sem,zaa])),?_⟩
   rw [tk1,zav]
   exact ⟨⟨rfl,rfl⟩,by omega⟩
 .have e:i=37:=by omega
  subst e
  rw [ta]
  simp [go_sem]
end Go.Proofs.YthhdollpkieknaaGreat


namespace Go.Proofs.YthhdollpkieknaaGreat
open Go.Abs
def cp (s:Spl):List Int:=s.1.map fun c=>ixT (trN 6) c+1
def tp (s:Spl):Int:=if tkL s=[] then 0 else ixT (trN 6) (tkL s)+1
theorem zui:(trN 6).map (fun t=>(cutL t).map fun s=>(s.2.2,cp s,tp s))=cutT.map fun r=>r.map fun c=>((c.1:Int),nvs c.2.1,(c.2.2:Int)):=by kernel_rfl
def crX (s:Spl) (j:Nat):AV:=if j=0 then .val (.slice none 0 0) else .own 3 j (avs ((cp s).take j))
def mcX (s:Spl):List AV:=[.int s.2.2,if s.1=[] then .val (.slice none 0 0) else .own 3 s.1.length (avs (cp s)),.int (tp s)]
def rwX (t:List Int):AV:=.own 151 (cutL t).length ((cutL t).flatMap mcX)
def fcX (i:Nat):AV:=if i=0 then .val (.slice none 0 0) else .own 144 i (((trN 6).take i).map rwX)
theorem zaw {α:Type} (F:α->List AV) (hF:∀ s,(F s).length=3) (X:List α):(X.flatMap F).length=X.length*3:=by
 induction X with
 | nil=>rfl
 | cons s X ih=>rw [List.flatMap_cons,List.length_append,ih,hF,List.length_cons]; omega
theorem zbd {α:Type} (F:α->List AV) (hF:∀ s,(F s).length=3) (d:α) {L:List α} {i:Nat} (h:i<L.length):(L.flatMap F).drop (i*3)=F (L[i]?.getD d)++(L.drop (i+1)).flatMap F:=by
 have e1:((L.take i).flatMap F).length=i*3:=by rw [zaw F hF,List.length_take,Nat.min_eq_left (by omega)]
 have e2:L.drop i=L[i]?.getD d::L.drop (i+1):=by rw [List.drop_eq_getElem_cons h]; simp [h]
 have e3:L.flatMap F=(L.take i).flatMap F++(L.drop i).flatMap F:=by rw [<- List.flatMap_append,List.take_append_drop]
 rw [e3,List.drop_append_of_le_length (by omega),e2,List.flatMap_cons,List.drop_eq_nil_of_le (by omega),List.nil_append]
theorem zkL:GCon Tryz.prog 71 [] (.agg [.sl 37 (mat (trN 6)),.own 144 37 ((trN 6).map rwX)]) []:=by
 have cT:=zlH 6 (by omega)
 have l6:=zaQ
 have at6:=fun t h=>zim (t:=t) h
 have e6:((6:Nat):Int)=6:=rfl
 rw [e6] at cT
 rw [l6] at cT
 refine RCon.toG ?_
 refine zaC Tryz.mixed ⟨10,[10,56],[1000000+161],[]⟩ [] Tryz.func71 ?_
 rw [Tryz.ntmps71]
 simp [go_sem]
 refine CallVC.of (cT) ?_
 simp [go_sem]
 refine zac (1::3::4::6::7::9::List.range' 15 52) (fun i:Nat=>[(1,.box 88 [.sl 37 (mat (trN 6)),fcX i]),(15,.int i)]) (fun i=>i<=37) (fun i=>37-i) 0 (by simp) (by simp [go_sem,fcX]) (by simp [go_sem,fcX]) ?_
 intro i hi
 by_cases hil:i<37
 .have hii:(i:Int)<37:=by omega
  have hl:i<(trN 6).length:=by omega
  have dm:=zas hl
  have hm:=memD [] hl
  have cC:=zp2 hm
  obtain ⟨b1,b2⟩:=zlv hm
  have nm:¬ trN 6=[]:=by intro e; rw [e] at l6; simp at l6
  have tki:(trN 6).take (i+1)=(trN 6).take i++[(trN 6)[i]?.getD []]:=by
   rw [List.take_succ_eq_append_getElem hl,List.getElem?_eq_getElem hl]; rfl
  have x1:fcX (i+1)=.own 144 (i+1) (((trN 6).take i).map rwX++[rwX ((trN 6)[i]?.getD [])]):=by
   unfold fcX
   rw [if_neg (by omega),tki,List.map_append]; rfl
  have hrw:rwX ((trN 6)[i]?.getD [])=.own 151 (cutL ((trN 6)[i]?.getD [])).length ((cutL ((trN 6)[i]?.getD [])).flatMap mcX):=rfl
  have lti:(((trN 6).take i).map rwX).length=i:=by rw [List.length_map,List.length_take]; omega
  by_cases i0:i=0
  .have x0:fcX i=.val (.slice none 0 0):=by unfold fcX; rw [if_pos i0]
   rw [x0]
   generalize (trN 6)[i]?.getD []=t at *
   generalize cutL t=L at *
   have xf:AV.own 144 1 [AV.own 151 L.length (L.flatMap mcX)]=fcX (i+1):=by rw [x1,<- hrw,i0]; simp
   simp [go_sem,hii,dm]
   refine ⟨nm,?_⟩
   refine ⟨_,_,cC,?_⟩
   simp [go_sem]
   refine zac (4::6::7::9::List.range' 23 37) (fun j:Nat=>[(4,.own 151 j ((L.take j).flatMap mcX)),(23,.int j)]) (fun j=>j<=L.length) (fun j=>L.length-j) 0 (by simp) (by simp [go_sem]) (by simp [go_sem]) ?_
   intro j hj
   by_cases hjl:j<L.length
   .have hji:(j:Int)<L.length:=by omega
    have dr:=zbd cuF (fun _=>rfl) ([],[],0) hjl
    have nL:¬ L.flatMap cuF=[]:=by intro e; have:=zaw cuF (fun _=>rfl) L; rw [e] at this; simp at this; omega
    have lL:=zaw cuF (fun _=>rfl) L
    have hms:=memD ([],[],0) hjl
    obtain ⟨c1,c2,c3,c4,c5,c6⟩:=b2 _ hms
    have tkj:L.take (j+1)=L.take j++[L[j]?.getD ([],[],0)]:=by
     rw [List.take_succ_eq_append_getElem hjl,List.getElem?_eq_getElem hjl]; rfl
    have clj:=zaw mcX (fun _=>rfl) (L.take j)
    rw [List.length_take,Nat.min_eq_left (by omega)] at clj
    generalize L[j]?.getD ([],[],0)=s at *
    obtain ⟨sa,sb,sc⟩:=s
    simp only [cuF] at dr
    simp only at c1 c2 c3 c4 c5 c6
    have tk1:(tkL (sa,sb,sc)).length<=6:=by
     unfold tkL
     cases sb with
     | nil=>simp
     | cons r b=>exact (c4 r (by simp)).2
    have hMX:mcX (sa,sb,sc)=[.int sc,if sa=[] then .val (.slice none 0 0) else .own 3 sa.length (avs (cp (sa,sb,sc))),.int (tp (sa,sb,sc))]:=rfl
    have htp:tp (sa,sb,sc)=if tkL (sa,sb,sc)=[] then 0 else ixT (trN 6) (tkL (sa,sb,sc))+1:=rfl
    have hcp:cp (sa,sb,sc)=sa.map fun c=>ixT (trN 6) c+1:=rfl
    have hcr:∀ k,crX (sa,sb,sc) k=if k=0 then .val (.slice none 0 0) else .own 3 k (avs ((cp (sa,sb,sc)).take k)):=fun k=>rfl
    have hcl:(cp (sa,sb,sc)).length=sa.length:=by rw [hcp,List.length_map]
    have cPt:=zgH (trN 6) 0 [] (tkL (sa,sb,sc)) (by omega) (fun r hr=>by have:=(at6 r hr).2.1; omega) (by omega)
    have btp:=zhk (trN 6) (tkL (sa,sb,sc))
    rw [l6] at cPt btp
    generalize tkL (sa,sb,sc)=tk at *
    generalize tp (sa,sb,sc)=tpv at *
    generalize hCP:cp (sa,sb,sc)=cps at *
    generalize hMC:L.flatMap cuF=MC at *
    generalize hC:(L.take j).flatMap mcX=C at *
    simp [go_sem,hji,dr]
    refine ⟨⟨nL,by omega⟩,?_⟩
    refine zac (7::9::List.range' 33 13) (fun k:Nat=>[(7,.box 151 [.int sc,crX (sa,sb,sc) k,.int 0]),(33,.int k)]) (fun k=>k<=sa.length) (fun k=>sa.length-k) 0 (by simp) (by simp [go_sem,crX]) (by simp [go_sem,crX]) ?_
    intro k hk
    by_cases hkl:k<sa.length
    .have hki:(k:Int)<sa.length:=by omega
     have dk:=zas hkl
     have hmk:=memD [] hkl
     have hk6:=c2 _ hmk
     have na:¬ sa=[]:=by rintro rfl; simp at hkl
     have cP:=zgH (trN 6) 0 [] (sa[k]?.getD []) (by omega) (fun r hr=>by have:=(at6 r hr).2.1; omega) (by omega)
     rw [l6] at cP
     have bp:=zhk (trN 6) (sa[k]?.getD [])
     rw [l6] at bp
     have tkk:cps.take (k+1)=cps.take k++[ixT (trN 6) (sa[k]?.getD [])+1]:=by
      rw [List.take_succ_eq_append_getElem (by omega)]
      congr 2
      subst hcp
      rw [List.getElem_map,List.getElem?_eq_getElem hkl]; rfl
     have lk:(cps.take k).length=k:=by rw [List.length_take]; omega
     have x1:crX (sa,sb,sc) (k+1)=.own 3 (k+1) (avs (cps.take k++[ixT (trN 6) (sa[k]?.getD [])+1])):=by rw [hcr,if_neg (by omega),tkk]
     generalize sa[k]?.getD []=r at *
     generalize ixT (trN 6) r+1=v at *
     by_cases k0:k=0
     .have x0:crX (sa,sb,sc) k=.val (.slice none 0 0):=by rw [hcr,if_pos k0]
      rw [x0]
      simp [go_sem,hki,dk]
      refine ⟨na,by kernel_rfl,?_⟩
      refine CallD.of (cP) ?_
      simp [go_sem]
      refine ⟨by kernel_rfl,?_⟩
      simp [go_sem]
      refine ⟨⟨by omega,by omega⟩,k+1,by omega,by omega,zaa _ _ _ (by simp),?_⟩
      rw [x1]
      subst k0
      exact ⟨by simp [avs],by omega⟩
     .have x0:crX (sa,sb,sc) k=.own 3 k (avs (cps.take k)):=by rw [hcr,if_neg k0]
      rw [x0]
      simp [go_sem,hki,dk]
      refine ⟨na,by kernel_rfl,?_⟩
      refine CallD.of (cP) ?_
      simp [go_sem]
      refine ⟨⟨by omega,by omega,by omega⟩,?_⟩
      refine ⟨by kernel_rfl,?_⟩
      simp [go_sem]
      refine ⟨⟨by omega,by omega⟩,k+1,by omega,by omega,zaa _ _ _ (by simp),?_⟩
      rw [x1,zav]
      exact ⟨rfl,by omega⟩
    .have e:k=sa.length:=by omega
     subst e
     have hki:¬ (sa.length:Int)<sa.length:=by omega
     by_cases s0:sa=[]
     .have x0:crX (sa,sb,sc) sa.length=.val (.slice none 0 0):=by rw [hcr,if_pos (by rw [s0]; rfl)]
      rw [x0]
      rw [if_pos s0] at hMX
      by_cases ht:0<tk.length
      .have t0:¬ tk=[]:=by rintro rfl; simp at ht
       rw [if_neg t0] at htp
       simp [go_sem,hki,ht]
       refine CallVC.of (cPt) ?_
       simp [go_sem]
       refine ⟨⟨by rw [clj],by omega,by omega⟩,⟨by omega,by omega⟩,j+1,by omega,by omega,(Off.reset (by intro x hx; simp at hx |-; omega) (by simp) (by simp [go_sem,zaa])),?_⟩
       rw [tkj,List.flatMap_append,hC]
       refine ⟨⟨by omega,?_⟩,by omega⟩
       simp [hMX,htp]
      .have t0:tk=[]:=List.length_eq_zero_iff.1 (by omega)
       rw [if_pos t0] at htp
       simp [go_sem,hki,ht]
       refine ⟨⟨by rw [clj],by omega,by omega⟩,⟨by omega,by omega⟩,j+1,by omega,by omega,(Off.reset (by intro x hx; simp at hx |-; omega) (by simp) (by simp [go_sem,zaa])),?_⟩
       rw [tkj,List.flatMap_append,hC]
       refine ⟨⟨by omega,?_⟩,by omega⟩
       simp [hMX,htp]
     .have x0:crX (sa,sb,sc) sa.length=.own 3 sa.length (avs cps):=by
       rw [hcr,if_neg (by intro e; exact s0 (List.length_eq_zero_iff.1 e)),List.take_of_length_le (by omega)]
      rw [x0]
      rw [if_neg s0] at hMX
      by_cases ht:0<tk.length
      .have t0:¬ tk=[]:=by rintro rfl; simp at ht
       rw [if_neg t0] at htp
       simp [go_sem,hki,ht]
       refine CallVC.of (cPt) ?_
       simp [go_sem]
       refine ⟨⟨by rw [clj],by omega,by omega⟩,⟨by omega,by omega⟩,j+1,by omega,by omega,(Off.reset (by intro x hx; simp at hx |-; omega) (by simp) (by simp [go_sem,zaa])),?_⟩
       rw [tkj,List.flatMap_append,hC]
       refine ⟨⟨by omega,?_⟩,by omega⟩
       simp [hMX,htp]
      .have t0:tk=[]:=List.length_eq_zero_iff.1 (by omega)
       rw [if_pos t0] at htp
       simp [go_sem,hki,ht]
       refine ⟨⟨by rw [clj],by omega,by omega⟩,⟨by omega,by omega⟩,j+1,by omega,by omega,(Off.reset (by intro x hx; simp at hx |-; omega) (by simp) (by simp [go_sem,zaa])),?_⟩
       rw [tkj,List.flatMap_append,hC]
       refine ⟨⟨by omega,?_⟩,by omega⟩
       simp [hMX,htp]
   .have e:j=L.length:=by omega
    subst e
    have hji:¬ (L.length:Int)<L.length:=by omega
    rw [List.take_length]
    simp [go_sem,hji]
    exact ⟨⟨by omega,by omega⟩,i+1,by omega,by omega,(by repeat (first | exact zaa _ _ _ (by simp) | (refine Off.reset (by intro x hx; simp at hx |-; omega) (by simp) ?_; simp -failIfUnchanged [go_sem,zaa]))),xf,by omega⟩
  .have x0:fcX i=.own 144 i (((trN 6).take i).map rwX):=by unfold fcX; rw [if_neg i0]
   rw [x0]
   generalize (trN 6)[i]?.getD []=t at *
   generalize cutL t=L at *
   generalize ((trN 6).take i).map rwX=FR at *
   have xf:AV.own 144 (i+1) (FR++[AV.own 151 L.length (L.flatMap mcX)])=fcX (i+1):=by rw [x1,<- hrw]
   simp [go_sem,hii,dm]
   refine ⟨nm,?_⟩
   refine ⟨_,_,cC,?_⟩
   simp [go_sem]
   refine zac (4::6::7::9::List.range' 23 37) (fun j:Nat=>[(4,.own 151 j ((L.take j).flatMap mcX)),(23,.int j)]) (fun j=>j<=L.length) (fun j=>L.length-j) 0 (by simp) (by simp [go_sem]) (by simp [go_sem]) ?_
   intro j hj
   by_cases hjl:j<L.length
   .have hji:(j:Int)<L.length:=by omega
    have dr:=zbd cuF (fun _=>rfl) ([],[],0) hjl
    have nL:¬ L.flatMap cuF=[]:=by intro e; have:=zaw cuF (fun _=>rfl) L; rw [e] at this; simp at this; omega
    have lL:=zaw cuF (fun _=>rfl) L
    have hms:=memD ([],[],0) hjl
    obtain ⟨c1,c2,c3,c4,c5,c6⟩:=b2 _ hms
    have tkj:L.take (j+1)=L.take j++[L[j]?.getD ([],[],0)]:=by
     rw [List.take_succ_eq_append_getElem hjl,List.getElem?_eq_getElem hjl]; rfl
    have clj:=zaw mcX (fun _=>rfl) (L.take j)
    rw [List.length_take,Nat.min_eq_left (by omega)] at clj
    generalize L[j]?.getD ([],[],0)=s at *
    obtain ⟨sa,sb,sc⟩:=s
    simp only [cuF] at dr
    simp only at c1 c2 c3 c4 c5 c6
    have tk1:(tkL (sa,sb,sc)).length<=6:=by
     unfold tkL
     cases sb with
     | nil=>simp
     | cons r b=>exact (c4 r (by simp)).2
    have hMX:mcX (sa,sb,sc)=[.int sc,if sa=[] then .val (.slice none 0 0) else .own 3 sa.length (avs (cp (sa,sb,sc))),.int (tp (sa,sb,sc))]:=rfl
    have htp:tp (sa,sb,sc)=if tkL (sa,sb,sc)=[] then 0 else ixT (trN 6) (tkL (sa,sb,sc))+1:=rfl
    have hcp:cp (sa,sb,sc)=sa.map fun c=>ixT (trN 6) c+1:=rfl
    have hcr:∀ k,crX (sa,sb,sc) k=if k=0 then .val (.slice none 0 0) else .own 3 k (avs ((cp (sa,sb,sc)).take k)):=fun k=>rfl
    have hcl:(cp (sa,sb,sc)).length=sa.length:=by rw [hcp,List.length_map]
    have cPt:=zgH (trN 6) i (frzL FR) (tkL (sa,sb,sc)) (by omega) (fun r hr=>by have:=(at6 r hr).2.1; omega) (by omega)
    have btp:=zhk (trN 6) (tkL (sa,sb,sc))
    rw [l6] at cPt btp
    generalize tkL (sa,sb,sc)=tk at *
    generalize tp (sa,sb,sc)=tpv at *
    generalize hCP:cp (sa,sb,sc)=cps at *
    generalize hMC:L.flatMap cuF=MC at *
    generalize hC:(L.take j).flatMap mcX=C at *
    simp [go_sem,hji,dr]
    refine ⟨⟨nL,by omega⟩,?_⟩
    refine zac (7::9::List.range' 33 13) (fun k:Nat=>[(7,.box 151 [.int sc,crX (sa,sb,sc) k,.int 0]),(33,.int k)]) (fun k=>k<=sa.length) (fun k=>sa.length-k) 0 (by simp) (by simp [go_sem,crX]) (by simp [go_sem,crX]) ?_
    intro k hk
    by_cases hkl:k<sa.length
    .have hki:(k:Int)<sa.length:=by omega
     have dk:=zas hkl
     have hmk:=memD [] hkl
     have hk6:=c2 _ hmk
     have na:¬ sa=[]:=by rintro rfl; simp at hkl
     have cP:=zgH (trN 6) i (frzL FR) (sa[k]?.getD []) (by omega) (fun r hr=>by have:=(at6 r hr).2.1; omega) (by omega)
     rw [l6] at cP
     have bp:=zhk (trN 6) (sa[k]?.getD [])
     rw [l6] at bp
     have tkk:cps.take (k+1)=cps.take k++[ixT (trN 6) (sa[k]?.getD [])+1]:=by
      rw [List.take_succ_eq_append_getElem (by omega)]
      congr 2
      subst hcp
      rw [List.getElem_map,List.getElem?_eq_getElem hkl]; rfl
     have lk:(cps.take k).length=k:=by rw [List.length_take]; omega
     have x1:crX (sa,sb,sc) (k+1)=.own 3 (k+1) (avs (cps.take k++[ixT (trN 6) (sa[k]?.getD [])+1])):=by rw [hcr,if_neg (by omega),tkk]
     generalize sa[k]?.getD []=r at *
     generalize ixT (trN 6) r+1=v at *
     by_cases k0:k=0
     .have x0:crX (sa,sb,sc) k=.val (.slice none 0 0):=by rw [hcr,if_pos k0]
      rw [x0]
      simp [go_sem,hki,dk]
      refine ⟨na,by kernel_rfl,?_⟩
      refine CallD.of (cP) ?_
      simp [go_sem]
      refine ⟨by kernel_rfl,?_⟩
      simp [go_sem]
      refine ⟨⟨by omega,by omega⟩,k+1,by omega,by omega,zaa _ _ _ (by simp),?_⟩
      rw [x1]
      subst k0
      exact ⟨by simp [avs],by omega⟩
     .have x0:crX (sa,sb,sc) k=.own 3 k (avs (cps.take k)):=by rw [hcr,if_neg k0]
      rw [x0]
      simp [go_sem,hki,dk]
      refine ⟨na,by kernel_rfl,?_⟩
      refine CallD.of (cP) ?_
      simp [go_sem]
      refine ⟨⟨by omega,by omega,by omega⟩,?_⟩
      refine ⟨by kernel_rfl,?_⟩
      simp [go_sem]
      refine ⟨⟨by omega,by omega⟩,k+1,by omega,by omega,zaa _ _ _ (by simp),?_⟩
      rw [x1,zav]
      exact ⟨rfl,by omega⟩
    .have e:k=sa.length:=by omega
     subst e
     have hki:¬ (sa.length:Int)<sa.length:=by omega
     by_cases s0:sa=[]
     .have x0:crX (sa,sb,sc) sa.length=.val (.slice none 0 0):=by rw [hcr,if_pos (by rw [s0]; rfl)]
      rw [x0]
      rw [if_pos s0] at hMX
      by_cases ht:0<tk.length
      .have t0:¬ tk=[]:=by rintro rfl; simp at ht
       rw [if_neg t0] at htp
       simp [go_sem,hki,ht]
       refine CallVC.of (cPt) ?_
       simp [go_sem]
       refine ⟨⟨by rw [clj],by omega,by omega⟩,⟨by omega,by omega⟩,j+1,by omega,by omega,(Off.reset (by intro x hx; simp at hx |-; omega) (by simp) (by simp [go_sem,zaa])),?_⟩
       rw [tkj,List.flatMap_append,hC]
       refine ⟨⟨by omega,?_⟩,by omega⟩
       simp [hMX,htp]
      .have t0:tk=[]:=List.length_eq_zero_iff.1 (by omega)
       rw [if_pos t0] at htp
       simp [go_sem,hki,ht]
       refine ⟨⟨by rw [clj],by omega,by omega⟩,⟨by omega,by omega⟩,j+1,by omega,by omega,(Off.reset (by intro x hx; simp at hx |-; omega) (by simp) (by simp [go_sem,zaa])),?_⟩
       rw [tkj,List.flatMap_append,hC]
       refine ⟨⟨by omega,?_⟩,by omega⟩
       simp [hMX,htp]
     .have x0:crX (sa,sb,sc) sa.length=.own 3 sa.length (avs cps):=by
       rw [hcr,if_neg (by intro e; exact s0 (List.length_eq_zero_iff.1 e)),List.take_of_length_le (by omega)]
      rw [x0]
      rw [if_neg s0] at hMX
      by_cases ht:0<tk.length
      .have t0:¬ tk=[]:=by rintro rfl; simp at ht
       rw [if_neg t0] at htp
       simp [go_sem,hki,ht]
       refine CallVC.of (cPt) ?_
       simp [go_sem]
       refine ⟨⟨by rw [clj],by omega,by omega⟩,⟨by omega,by omega⟩,j+1,by omega,by omega,(Off.reset (by intro x hx; simp at hx |-; omega) (by simp) (by simp [go_sem,zaa])),?_⟩
       rw [tkj,List.flatMap_append,hC]
       refine ⟨⟨by omega,?_⟩,by omega⟩
       simp [hMX,htp]
      .have t0:tk=[]:=List.length_eq_zero_iff.1 (by omega)
       rw [if_pos t0] at htp
       simp [go_sem,hki,ht]
       refine ⟨⟨by rw [clj],by omega,by omega⟩,⟨by omega,by omega⟩,j+1,by omega,by omega,(Off.reset (by intro x hx; simp at hx |-; omega) (by simp) (by simp [go_sem,zaa])),?_⟩
       rw [tkj,List.flatMap_append,hC]
       refine ⟨⟨by omega,?_⟩,by omega⟩
       simp [hMX,htp]
   .have e:j=L.length:=by omega
    subst e
    have hji:¬ (L.length:Int)<L.length:=by omega
    rw [List.take_length]
    simp [go_sem,hji]
    exact ⟨⟨by omega,by omega,by omega⟩,⟨by omega,by omega⟩,i+1,by omega,by omega,(by repeat (first | exact zaa _ _ _ (by simp) | (refine Off.reset (by intro x hx; simp at hx |-; omega) (by simp) ?_; simp -failIfUnchanged [go_sem,zaa]))),xf,by omega⟩
 .have e:i=37:=by omega
  subst e
  have x:fcX 37=.own 144 37 ((trN 6).map rwX):=by
   unfold fcX
   rw [if_neg (by omega),List.take_of_length_le (by omega)]
  rw [x]
  simp [go_sem]
def trG (row:List (Int × List Int × Int)):AV:=.sl row.length (row.flatMap fun x=>[.int x.1,.sl x.2.1.length (avs x.2.1),.int x.2.2])
theorem zfE:∀ a b:List AV,frzL (a++b)=frzL a++frzL b
 | [],b=>rfl
 | c::a,b=>by rw [List.cons_append,frzL,zfE a b,frzL]; rfl
theorem zqe:∀ L:List Spl,NXL (frzL (L.flatMap mcX)) ((L.map fun s=>(s.2.2,cp s,tp s)).flatMap fun x=>[.int x.1,.sl x.2.1.length (avs x.2.1),.int x.2.2])
 | []=>.nil
 | s::L=>by
  rw [List.map_cons,List.flatMap_cons,List.flatMap_cons,zfE]
  refine NXL.app (zqe L) ?_
  by_cases h:s.1=[]
  .have e:mcX s=[.int s.2.2,.val (.slice none 0 0),.int (tp s)]:=by unfold mcX; rw [if_pos h]
   have e2:cp s=[]:=by unfold cp; rw [h]; rfl
   rw [e,e2]
   exact .cons (.same _) (.cons .nil (.cons (.same _) .nil))
  .have e:mcX s=[.int s.2.2,.own 3 s.1.length (avs (cp s)),.int (tp s)]:=by unfold mcX; rw [if_neg h]
   have e2:(cp s).length=s.1.length:=by simp [cp]
   rw [e]
   show NXL [.int s.2.2,.sl s.1.length (frzL (avs (cp s))),.int (tp s)] [.int s.2.2,.sl (cp s).length (avs (cp s)),.int (tp s)]
   rw [zd5,e2]
   exact NXL.same _
theorem zqc:∀ T:List (List Int),NXL (frzL (T.map rwX)) (T.map fun t=>trG ((cutL t).map fun s=>(s.2.2,cp s,tp s)))
 | []=>.nil
 | t::T=>by
  rw [List.map_cons,List.map_cons]
  refine .cons ?_ (zqc T)
  show NX (.sl (cutL t).length (frzL ((cutL t).flatMap mcX))) (trG _)
  unfold trG
  rw [List.length_map]
  exact .sl _ (zqe _)
theorem zrl:((trN 6).map fun t=>trG ((cutL t).map fun s=>(s.2.2,cp s,tp s)))=fcF:=by
 have e:=congrArg (List.map trG) zui
 rw [List.map_map,List.map_map] at e
 refine (Eq.trans ?_ e).trans ?_
 .rfl
 .unfold fcF
  refine List.map_congr_left fun r _=>?_
  show trG (r.map _)=_
  unfold trG
  rw [List.length_map,List.flatMap_map]
  show AV.sl r.length (r.flatMap fun c=>[.int c.1,.sl (nvs c.2.1).length (avs (nvs c.2.1)),.int c.2.2])=_
  simp only [zea]
  rfl
theorem zbe:GCon Tryz.prog 71 [] (.agg [.sl 37 (mat (trN 6)),.sl 37 fcF]) []:=by
 refine GCon.nxA (.cons (.same _) (.cons (.sl 37 ?_) .nil)) (GCon.frzR zkL rfl)
 rw [<- zrl]
 exact zqc _
end Go.Proofs.YthhdollpkieknaaGreat


namespace Go.Proofs.YthhdollpkieknaaGreat
def c1R (i:Nat):List Ctp:=(ctR i).filter fun c=>decide (c.2.1.length=1)
def acI (B X:Nat->Int) (i:Nat):Int:=if i=0 then 0 else rowI B X (c1R i)
theorem zmd {i:Nat}:∀ c∈c1R i,c∈ctR i:=fun c hc=>(List.mem_filter.1 hc).1
theorem ztC {A A' B B':Nat->Int} {i:Nat} (hi:i<38) (ha:∀ i,i<38->A i%10007=A' i%10007) (hb:∀ i,i<38->B i%10007=B' i%10007):acI A B i%10007=acI A' B' i%10007:=by
 unfold acI
 split
 .rfl
 .exact zcX fun c hc=>⟨fun v hv=>ha v ((zdd hi c (zmd c hc)).1 v hv),hb _ (zdd hi c (zmd c hc)).2⟩
def unJ (i:Nat):Int:=if i=0 then 1 else 0
def xpI (B:Nat->Int):Nat->Nat->Int
 | 0=>unJ
 | k+1=>acI B (xpI B k)
def ifT:List Nat:=[1,1,5004,1668,417,8089,3016]
def ifI (k:Nat):Int:=((ifT[k]?.getD 0:Nat):Int)
def expI (B:Nat->Int) (i:Nat):Int:=xpI B 0 i+xpI B 1 i*ifI 1+xpI B 2 i*ifI 2+xpI B 3 i*ifI 3+xpI B 4 i*ifI 4+xpI B 5 i*ifI 5+xpI B 6 i*ifI 6
def expS (b:List Int):List Int:=mk38 (expI (iat b))
theorem znF (B:Nat->Int):expI B 0=1:=by
 have:∀ k,xpI B (k+1) 0=0:=fun k=>by rw [xpI,acI,if_pos rfl]
 unfold expI
 rw [this 0,this 1,this 2,this 3,this 4,this 5]
 simp [xpI,unJ]
theorem zeT (b:List Int):Ch (expS b):=⟨zbc _,by unfold expS; rw [za9 _ (by decide),znF]; rfl⟩
theorem zpP (b:List Int) {i:Nat} (hi:i<38):iat (expS b) i%10007=expI (iat b) i%10007:=zb3 _ hi
end Go.Proofs.YthhdollpkieknaaGreat


namespace Go.Proofs.YthhdollpkieknaaGreat
end Go.Proofs.YthhdollpkieknaaGreat


namespace Go.Proofs.YthhdollpkieknaaGreat
open Go.Abs Go.Shelf Go.Sort
def parK (t:List Int) (l:Int):Nat->Int
 | 0 => -1
 | k+1=>if t[k]?.getD 0=l-1 then (k:Int) else parK t l k
structure CuS where
 near:List (List Int)
 top:List Int
 tops:List Int
 btw:List (Int × Int)
end Go.Proofs.YthhdollpkieknaaGreat


namespace Go.Proofs.YthhdollpkieknaaGreat
open Go.Abs
theorem zji (t:List Int) (l:Int):∀ k,-1<=parK t l k/\parK t l k<k
 | 0=>by simp [parK]
 | k+1=>by
  have:=zji t l k
  unfold parK
  split <;> omega
end Go.Proofs.YthhdollpkieknaaGreat


namespace Go.Proofs.YthhdollpkieknaaGreat
open Go.Abs
theorem zci (a b:List Int) (ha:a.length<=1000000) (hb:b.length<=1000000):Con Tryz.prog 293 [.sl a.length (avs a),.sl b.length (avs b)] (.bool (ltT a b)):=by
 unfold ltT
 have c:=zhn b a (by omega) (by omega)
 by_cases h:a.length=b.length
 .have hi:(a.length:Int)=b.length:=by omega
  rw [if_pos h]
  refine zab Tryz.mixed ⟨5,[],[],[]⟩ Tryz.func293 ?_
  rw [Tryz.ntmps293]
  simp [go_sem,hi]
  refine CallVC.of (c) ?_
  simp [go_sem]
 .have hi:¬ (a.length:Int)=b.length:=by omega
  rw [if_neg h]
  refine zab Tryz.mixed ⟨5,[],[],[]⟩ Tryz.func293 ?_
  rw [Tryz.ntmps293]
  simp [go_sem,hi]
theorem ziq (bs:List (List Int)) (hl:∀ b∈bs,b.length<=1000000) (hn:bs.length<=1000):GCon Tryz.prog 252 [.sl bs.length (mat bs)] (.sl bs.length (mat (srtT bs))) [.any]:=by
 refine zaj Tryz.mixed ⟨7,[7,36,48],[],[]⟩ [] Tryz.func252 ?_
 rw [Tryz.ntmps252]
 simp [go_sem]
 refine zac ([3,4,5,6]++List.range' 8 41) (fun i:Nat=>[(3,.sl i (mat (srtT (bs.take i)))),(4,.int i)]) (fun i=>i<=bs.length) (fun i=>bs.length-i) 0 (by simp) (by simp [go_sem,srtT,mat]) (by simp [go_sem]) ?_
 intro i hi
 simp [go_sem]
 refine ⟨fun h=>?_,fun h=>?_⟩ <;> simp at h
 .have hif:i<bs.length:=by omega
  have hb:=memD [] hif
  have ht:srtT (bs.take (i+1))=insT (bs[i]?.getD []) (srtT (bs.take i)):=by
   rw [List.take_add_one,List.getElem?_eq_getElem hif,Option.toList_some,zfo]; rfl
  have l1:=hl _ hb
  have sl:∀ s∈srtT (bs.take i),s.length<=1000000:=fun s hs=>hl s (List.mem_of_mem_take ((za4 _).mem_iff.1 hs))
  have il:(srtT (bs.take i)).length=i:=by rw [zcY]; simp; omega
  have mi:=zas hif
  have neb:¬ bs=[]:=by rintro rfl; simp at hif
  generalize hN:srtT (bs.take (i+1))=S2 at *
  generalize srtT (bs.take i)=S at *
  generalize bs[i]?.getD []=p at *
  have cO:=zbl p (by omega)
  subst il
  simp [go_sem]
  refine zac (5::List.range' 14 18) (fun a:Nat=>[(5,.int a)]) (fun a=>a<=S.length/\atT p S=a+atT p (S.drop a)) (fun a=>S.length-a) 0 (by simp) (by simp [go_sem]) (by simp [go_sem]) ?_
  rintro a ⟨ha,hat⟩
  by_cases has:a<S.length
  .have has':(a:Int)<S.length:=by omega
   have hd:S.drop a=S[a]?.getD []::S.drop (a+1):=by rw [List.drop_eq_getElem_cons has]; simp [has]
   rw [hd,atT] at hat
   have hg:=zas has
   have hsl:=sl _ (memD [] has)
   have neS:¬ S=[]:=by rintro rfl; simp at has
   have cL:=zci p (S[a]?.getD []) (by omega) (by omega)
   by_cases hlt:ltT p (S[a]?.getD [])=true
   .rw [if_pos hlt] at hat
    rw [hlt] at cL
    have hS2:S2=S.take a++p::S.drop a:=by rw [ht,insT,hat,Nat.add_zero]
    simp [go_sem,has',hg,mi]
    refine ⟨by kernel_rfl,⟨hif,neb⟩,neS,?_⟩
    refine CallD.of (cL) ?_
    simp [go_sem]
    refine ⟨by kernel_rfl,?_⟩
    simp [go_sem]
    simp [go_sem,mi,zby,zbB,zbh]
    refine ⟨by kernel_rfl,⟨hif,neb⟩,?_⟩
    refine CallD.of (cO) ?_
    simp [go_sem]
    simp [go_sem,zby,zbB,zbh]
    refine ⟨by omega,⟨by omega,by omega⟩,?_⟩
    refine ⟨by kernel_rfl,?_⟩
    simp [go_sem]
    simp [go_sem,zby,zbB,zbh]
    refine ⟨by omega,⟨by omega,by omega⟩,⟨by omega,by omega,by omega,by omega⟩,⟨by omega,by omega⟩,S.length+1,by omega,by omega,(by repeat (first | exact zaa _ _ _ (by simp) | (refine Off.reset (by intro x hx; simp at hx |-; omega) (by simp) ?_; simp -failIfUnchanged [go_sem,zaa]))),⟨by omega,?_⟩,by omega⟩
    rw [hN,hS2,show (S.drop a).take (S.length-a)=S.drop a from List.take_of_length_le (by simp),<- zdV (S.take a++p::S.drop a),zgX]; rfl
   .rw [if_neg hlt] at hat
    have hlf:ltT p (S[a]?.getD [])=false:=by simpa using hlt
    rw [hlf] at cL
    simp [go_sem,has',hg,mi]
    refine ⟨by kernel_rfl,⟨hif,neb⟩,neS,?_⟩
    refine CallD.of (cL) ?_
    simp [go_sem]
    refine ⟨by kernel_rfl,?_⟩
    simp [go_sem]
    exact ⟨by omega,a+1,⟨by omega,by omega⟩,by omega,zaa _ _ _ (by simp),by omega⟩
  .have has':¬ (a:Int)<S.length:=by omega
   have hd:S.drop a=[]:=List.drop_eq_nil_of_le (by omega)
   rw [hd,atT] at hat
   have hS2:S2=S.take a++p::S.drop a:=by rw [ht,insT,hat,Nat.add_zero]
   simp [go_sem,has']
   refine ⟨by kernel_rfl,?_⟩
   refine ⟨by kernel_rfl,?_⟩
   simp [go_sem]
   simp [go_sem,mi,zby,zbB,zbh]
   refine ⟨by kernel_rfl,⟨hif,neb⟩,?_⟩
   refine CallD.of (cO) ?_
   simp [go_sem]
   simp [go_sem,zby,zbB,zbh]
   refine ⟨by omega,⟨by omega,by omega⟩,?_⟩
   refine ⟨by kernel_rfl,?_⟩
   simp [go_sem]
   simp [go_sem,zby,zbB,zbh]
   refine ⟨by omega,⟨by omega,by omega⟩,⟨by omega,by omega,by omega,by omega⟩,⟨by omega,by omega⟩,S.length+1,by omega,by omega,(by repeat (first | exact zaa _ _ _ (by simp) | (refine Off.reset (by intro x hx; simp at hx |-; omega) (by simp) ?_; simp -failIfUnchanged [go_sem,zaa]))),⟨by omega,?_⟩,by omega⟩
   rw [hN,hS2,show (S.drop a).take (S.length-a)=S.drop a from List.take_of_length_le (by simp),<- zdV (S.take a++p::S.drop a),zgX]; rfl
 .have e:i=bs.length:=by omega
  subst e
  rw [List.take_length]
  simp [go_sem]
theorem zgJ (n:Nat) (t:List Int) (hn:n<=1000) (h:Lv t) (hl:t.length<=n) (hc:Lv (canF n t)) (hk:(srtT (brs (canF n t))).length<=19) (hm:∀ m∈srtT (brs (canF n t)),m.length<=1000000) :
  GCon Tryz.prog 355 [.sl t.length (avs t)] (.sl (srtT (brs (canF n t))).length (mat (srtT (brs (canF n t))))) [.any]:=by
 have cC:=zbf n t hn h hl
 have cl:=zaK n t h hl
 have cB:=zc0 (canF n t) (by omega) hc
 have cS:=ziq (brs (canF n t)) (fun m h=>hm m ((za4 _).mem_iff.2 h)) (by rw [zcY] at hk; omega)
 have sl:=zcY (brs (canF n t))
 rw [<- sl] at cB cS
 rw [cl] at cB
 clear cl sl
 generalize canF n t=u at *
 generalize srtT (brs u)=l at *
 refine zaj Tryz.mixed ⟨3,[5],[1000000+252],[]⟩ [] Tryz.func355 ?_
 rw [Tryz.ntmps355]
 simp [go_sem]
 refine CallVC.of (cC) ?_
 simp [go_sem]
 refine CallVC.of (cB) ?_
 simp [go_sem]
 refine ⟨_,_,cS,?_⟩
 simp [go_sem]
end Go.Proofs.YthhdollpkieknaaGreat


namespace Go.Proofs.YthhdollpkieknaaGreat
open Go.Abs
def enF (t:List Int) (x:Int) (e:Nat):Nat:=e+((t.drop e).takeWhile fun y=>decide (x<y)).length
def enT (t:List Int) (k:Nat):Nat:=enF t (iat t k) (k+1)
theorem zoO {t:List Int} {x:Int} {e:Nat} (h:e<t.length):enF t x e=if x<iat t e then enF t x (e+1) else e:=by
 unfold enF
 have d:t.drop e=iat t e::t.drop (e+1):=by
  rw [List.drop_eq_getElem_cons h]; unfold iat; rw [List.getElem?_eq_getElem h]; rfl
 rw [d,List.takeWhile_cons]
 by_cases hx:x<iat t e
 .rw [if_pos (by simpa using hx),if_pos hx]; simp; omega
 .rw [if_neg (by simpa using hx),if_neg hx]; rfl
theorem zq8 {t:List Int} {x:Int} {e:Nat} (h:t.length<=e):enF t x e=e:=by
 unfold enF
 rw [List.drop_eq_nil_of_le h]; rfl
theorem zic (t:List Int) (x:Int) {e:Nat} (h:e<=t.length):e<=enF t x e/\enF t x e<=t.length:=by
 unfold enF
 have:((t.drop e).takeWhile fun y=>decide (x<y)).length<=(t.drop e).length:=List.Sublist.length_le (List.takeWhile_sublist _)
 rw [List.length_drop] at this
 omega
theorem zeA (t:List Int) (k:Nat) (hk:k<t.length) (hl:t.length<=1000):Con Tryz.prog 377 [.sl t.length (avs t),.int k] (.int (enT t k)):=by
 have ng:¬ t=[]:=by rintro rfl; simp at hk
 have dk:=zae hk
 generalize hF:enT t k=F
 unfold enT at hF
 generalize iat t k=x at *
 refine zab Tryz.mixed ⟨6,[],[],[]⟩ Tryz.func377 ?_
 rw [Tryz.ntmps377]
 simp [go_sem]
 refine ⟨⟨by omega,by omega⟩,?_⟩
 refine zac (5::List.range' 8 17) (fun e:Nat=>[(5,.int e)]) (fun e=>k+1<=e/\e<=t.length/\enF t x e=F) (fun e=>t.length-e) (k+1) ⟨Nat.le_refl _,by omega,hF⟩ (by simp [go_sem]) (by simp [go_sem]) ?_
 rintro e ⟨h1,h2,h3⟩
 by_cases he:e<t.length
 .have hei:(e:Int)<t.length:=by omega
  have de:=zae he
  rw [zoO he] at h3
  generalize iat t e=y at *
  refine ⟨by kernel_rfl,?_⟩
  simp [go_sem,hei,de,dk]
  refine ⟨ng,⟨hk,ng⟩,?_⟩
  refine ⟨by kernel_rfl,?_⟩
  simp [go_sem]
  by_cases hx:x<y
  .rw [if_pos hx] at h3
   simp [go_sem,hx]
   exact ⟨⟨by omega,by omega⟩,e+1,⟨by omega,by omega,h3⟩,by omega,zaa _ _ _ (by simp),by omega⟩
  .rw [if_neg hx] at h3
   subst h3
   simp [go_sem,hx]
 .have hei:¬ (e:Int)<t.length:=by omega
  rw [zq8 (by omega)] at h3
  subst h3
  refine ⟨by kernel_rfl,?_⟩
  simp [go_sem,hei]
  refine ⟨by kernel_rfl,?_⟩
  simp [go_sem]
def grL (u v:List Int):List Int:=u.take (enT u 0)++(v.map fun x=>iat u 0+1+x)++u.drop (enT u 0)
theorem zla (u v:List Int) (hu:0<u.length) (lu:u.length<=100) (lv:v.length<=100) (bu:0<=iat u 0/\iat u 0<=1000) (bv:∀ x∈v,0<=x/\x<=1000) (hL:Lv (grL u v)) (l6:(grL u v).length<=6) :
  Con Tryz.prog 378 [.sl u.length (avs u),.int 0,.sl v.length (avs v)] (.own 2 (canF 6 (grL u v)).length (avs (canF 6 (grL u v)))):=by
 have cE:=zeA u 0 hu (by omega)
 have cC:=zbf 6 (grL u v) (by omega) hL l6
 rw [zaK 6 _ hL l6]
 have eb:=zic u (iat u 0) (e:=1) (by omega)
 have hG:grL u v=u.take (enT u 0)++(v.map fun x=>iat u 0+1+x)++u.drop (enT u 0):=rfl
 have ee:enT u 0=enF u (iat u 0) 1:=rfl
 rw [<- ee] at eb
 have d0:=zae hu
 rw [List.drop_zero,Nat.zero_add,List.drop_one] at d0
 have ng:¬ u=[]:=by rintro rfl; simp at hu
 generalize canF 6 (grL u v)=C at *
 generalize grL u v=G at *
 generalize enT u 0=e at *
 have lt:(u.take e).length=e:=by rw [List.length_take]; omega
 have cO:=zbl (u.take e) (by omega)
 rw [lt] at cO
 generalize iat u 0=x at *
 refine zab Tryz.mixed ⟨10,[],[],[]⟩ Tryz.func378 ?_
 rw [Tryz.ntmps378]
 simp [go_sem]
 refine CallVC.of (cE) ?_
 simp [go_sem]
 refine ⟨eb.2,?_⟩
 rw [show List.take e (avs u)=avs (u.take e) from by simp [avs,List.map_take]]
 refine CallVC.of (cO) ?_
 simp [go_sem]
 refine zac (8::9::List.range' 17 19) (fun i:Nat=>[(8,.own 2 (e+i) (avs (u.take e++(v.map fun y=>x+1+y).take i))),(9,.int i)]) (fun i=>i<=v.length) (fun i=>v.length-i) 0 (by simp) (by simp [go_sem]) (by simp [go_sem]) ?_
 intro i hi
 by_cases hil:i<v.length
 .have hii:(i:Int)<v.length:=by omega
  have di:=zae hil
  have by_:=bv (iat v i) (memD 0 hil)
  have tk:(v.map fun y=>x+1+y).take (i+1)=(v.map fun y=>x+1+y).take i++[x+1+iat v i]:=by
   rw [List.take_add_one]; simp [hil,iat]
  have nv:¬ v=[]:=by rintro rfl; simp at hil
  have lk:((v.map fun y=>x+1+y).take i).length=i:=by simp; omega
  generalize (v.map fun y=>x+1+y).take i=W at *
  generalize iat v i=y at *
  simp [go_sem,hii]
  refine ⟨by kernel_rfl,?_⟩
  simp [go_sem,d0,di]
  refine ⟨⟨hu,ng⟩,⟨by omega,by omega⟩,⟨hil,nv⟩,⟨by omega,by omega⟩,⟨by omega,by omega,by omega⟩,?_⟩
  refine ⟨by kernel_rfl,?_⟩
  simp [go_sem]
  refine ⟨⟨by omega,by omega⟩,i+1,by omega,by omega,zaa _ _ _ (by simp),?_⟩
  rw [tk]
  simp [avs]
  omega
 .have e2:i=v.length:=by omega
  subst e2
  have hii:¬ (v.length:Int)<v.length:=by omega
  have tv:(v.map fun y=>x+1+y).take v.length=v.map fun y=>x+1+y:=List.take_of_length_le (by simp)
  have eG:avs (u.take e++v.map fun y=>x+1+y)++List.take (u.length-e) (List.drop e (avs u))=avs G:=by
   rw [show List.drop e (avs u)=avs (u.drop e) from by simp [avs,List.map_drop],List.take_of_length_le (l:=avs (u.drop e)) (by simp),hG]; simp [avs]
  have lG:e+v.length+(u.length-e)=G.length:=by rw [hG]; simp; omega
  simp [go_sem,hii,tv]
  refine ⟨eb.2,⟨by first | omega | (simp; omega),by omega,by omega⟩,?_⟩
  rw [eG,lG,zd5]
  refine CallVC.of (cC) ?_
  simp [go_sem]
def brT (t:List Int) (k:Nat):List Int:=((t.take (enT t k)).drop k).map fun x=>x-iat t k
def rsT (t:List Int) (k:Nat):List Int:=t.take k++t.drop (enT t k)
def paT (t:List Int) (k:Nat):Nat:=(parK t (iat t k) k).toNat
def tuF:Nat->List Int->Nat->List Int
 | 0,_,_=>[]
 | n+1,t,k=>if k=0 then canF 6 t else canF 6 (grL (brT t k) (tuF n (rsT t k) (paT t k)))
def tuOk:Nat->List Int->Nat->Bool
 | 0,_,_=>false
 | n+1,t,k=>(decide (k<t.length) && (decide (t.length<=6) && t.all fun x=>decide (0<=x) && decide (x<=1000))) &&
  if k=0 then lv0 t else decide (0<=parK t (iat t k) k) && (tuOk n (rsT t k) (paT t k) && (lv0 (grL (brT t k) (tuF n (rsT t k) (paT t k))) && (decide ((grL (brT t k) (tuF n (rsT t k) (paT t k))).length<=6) && (decide (iat (brT t k) 0=0) && (tuF n (rsT t k) (paT t k)).all fun x=>decide (0<=x) && decide (x<=1000)))))
theorem zdS:∀ (n:Nat) (t:List Int) (k:Nat),tuOk n t k=true->Con Tryz.prog 353 [.sl t.length (avs t),.int k] (.own 2 (tuF n t k).length (avs (tuF n t k)))
 | 0,t,k,h=>by simp [tuOk] at h
 | n+1,t,k,h=>by
  unfold tuOk at h
  simp only [Bool.and_eq_true,decide_eq_true_eq,List.all_eq_true] at h
  obtain ⟨⟨hk,l6,bt⟩,h⟩:=h
  unfold tuF
  by_cases k0:k=0
  .subst k0
   rw [if_pos rfl] at h |-
   have hv:=zkq h
   have cC:=zbf 6 t (by omega) hv l6
   rw [zaK 6 t hv l6]
   refine zab Tryz.mixed ⟨10,[],[],[]⟩ Tryz.func353 ?_
   rw [Tryz.ntmps353]
   simp [go_sem]
   refine CallVC.of (cC) ?_
   simp [go_sem]
  .rw [if_neg k0] at h |-
   simp only [Bool.and_eq_true,decide_eq_true_eq,List.all_eq_true] at h
   obtain ⟨p0,hr,hv,hl,b0,bv⟩:=h
   have cR:=zdS n (rsT t k) (paT t k) hr
   have hv:=zkq hv
   have pb:=zji t (iat t k) k
   have hpa:(paT t k:Int)=parK t (iat t k) k:=by unfold paT; omega
   have eb:=zic t (iat t k) (e:=k+1) (by omega)
   have ee:enT t k=enF t (iat t k) (k+1):=rfl
   rw [<- ee] at eb
   have lb:(brT t k).length=enT t k-k:=by unfold brT; simp; omega
   have cG:=zla (brT t k) (tuF n (rsT t k) (paT t k)) (by omega) (by omega) (by
    have e:(grL (brT t k) (tuF n (rsT t k) (paT t k))).length=(brT t k).length+(tuF n (rsT t k) (paT t k)).length:=by
     have:=zic (brT t k) (iat (brT t k) 0) (e:=1) (by omega)
     have ee:enT (brT t k) 0=enF (brT t k) (iat (brT t k) 0) 1:=rfl
     rw [<- ee] at this
     unfold grL; simp; omega
    omega) (by rw [b0]; decide) bv hv hl
   have hBr:brT t k=((t.take (enT t k)).drop k).map fun x=>x-iat t k:=rfl
   have hRs:rsT t k=t.take k++t.drop (enT t k):=rfl
   have cE:=zeA t k hk (by omega)
   have cO:=zbl (t.take k) (by simp; omega)
   have lk:(t.take k).length=k:=by rw [List.length_take]; omega
   rw [lk] at cO
   rw [<- hpa] at pb
   have dk:=zae hk
   have bk:0<=iat t k/\iat t k<=1000:=bt _ (memD 0 hk)
   have ng:¬ t=[]:=by rintro rfl; simp at hk
   generalize canF 6 (grL (brT t k) (tuF n (rsT t k) (paT t k)))=C at *
   generalize tuF n (rsT t k) (paT t k)=V at *
   generalize brT t k=B at *
   generalize rsT t k=R at *
   generalize hP:paT t k=q at *
   generalize enT t k=e at *
   have hF:=hpa.symm
   generalize iat t k=x at *
   have k1:¬ (k:Int)=0:=by omega
   refine zab Tryz.mixed ⟨10,[],[],[]⟩ Tryz.func353 ?_
   rw [Tryz.ntmps353]
   simp [go_sem]
   simp [go_sem,k0]
   refine ⟨⟨by omega,by omega⟩,?_⟩
   refine zac (5::List.range' 16 12) (fun j:Nat=>[(5,.int ((j:Int)-1))]) (fun j=>j<=k/\parK t x j=q) (fun j=>j) k ⟨Nat.le_refl _,hF⟩ (by simp [go_sem]) (by simp [go_sem]) ?_
   rintro j ⟨h1,h2⟩
   cases j with
   | zero =>
    have e:parK t x 0 = -1:=rfl
    rw [e] at h2
    omega
   | succ j =>
    have dj:=zae (a:=t) (v:=j) (by omega)
    have bj:0<=iat t j/\iat t j<=1000:=bt _ (memD 0 (show j<t.length by omega))
    have e1:((j+1:Nat):Int)-1=j:=by omega
    rw [e1]
    rw [show parK t x (j+1)=if iat t j=x-1 then (j:Int) else parK t x j from rfl] at h2
    generalize iat t j=y at *
    by_cases hy:y=x-1
    .rw [if_pos hy] at h2
     have hjq:j=q:=by omega
     subst hjq
     refine ⟨by kernel_rfl,?_⟩
     simp [go_sem,dk,dj,hy]
     refine ⟨⟨by omega,ng⟩,⟨hk,ng⟩,⟨by omega,by omega⟩,?_⟩
     refine ⟨by kernel_rfl,?_⟩
     simp [go_sem]
     refine CallVC.of (cE) ?_
     simp [go_sem]
     refine zac (7::8::List.range' 33 17) (fun i:Nat=>[(7,.own 2 i (avs (B.take i))),(8,.int ((k+i:Nat):Int))]) (fun i=>k+i<=e) (fun i=>e-i) 0 (by omega) (by simp [go_sem]) (by simp [go_sem]) ?_
     intro i hi
     by_cases hie:k+i<e
     .have hii:((k+i:Nat):Int)<e:=by omega
      have hkl:k+i<t.length:=by omega
      have di:=zae hkl
      have bi:0<=iat t (k+i)/\iat t (k+i)<=1000:=bt _ (memD 0 hkl)
      have tk:B.take (i+1)=B.take i++[iat t (k+i)-x]:=by
       rw [List.take_add_one,hBr]
       have h2:i<((t.take e).drop k).length:=by simp; omega
       rw [List.getElem?_map,List.getElem?_drop,List.getElem?_take_of_lt hie]
       unfold iat
       rw [List.getElem?_eq_getElem hkl]; rfl
      have lB:(B.take i).length=i:=by rw [List.length_take]; omega
      generalize B.take i=B1 at *
      generalize iat t (k+i)=z at *
      generalize hm:k+i=m at *
      simp [go_sem,hii]
      refine ⟨by kernel_rfl,?_⟩
      simp [go_sem,di,dk]
      refine ⟨⟨hkl,ng⟩,⟨hk,ng⟩,⟨by omega,by omega⟩,⟨lB,by omega,by omega⟩,?_⟩
      refine ⟨by kernel_rfl,?_⟩
      simp [go_sem]
      refine ⟨⟨by omega,by omega⟩,i+1,by omega,by omega,zaa _ _ _ (by simp),?_⟩
      rw [tk,zav]
      exact ⟨⟨rfl,rfl⟩,by omega⟩
     .have e2:i=B.length:=by omega
      subst e2
      have hii:¬ (k:Int)+(B.length:Int)<e:=by omega
      rw [List.take_length]
      simp [go_sem,hii]
      refine ⟨by kernel_rfl,by omega,?_⟩
      rw [show List.take k (avs t)=avs (t.take k) from by simp [avs,List.map_take]]
      refine CallD.of (cO) ?_
      simp [go_sem]
      refine ⟨eb.2,⟨by omega,by omega,by omega⟩,?_⟩
      refine ⟨by kernel_rfl,?_⟩
      simp [go_sem]
      have eR:avs (t.take k)++List.take (t.length-e) (List.drop e (avs t))=avs R:=by
       rw [show List.drop e (avs t)=avs (t.drop e) from by simp [avs,List.map_drop],List.take_of_length_le (l:=avs (t.drop e)) (by simp),hRs]; simp [avs]
      have lR:k+(t.length-e)=R.length:=by rw [hRs]; simp; omega
      rw [eR,lR]
      simp [go_sem]
      refine CallVC.of (cR) ?_
      simp [go_sem]
      refine CallVC.of (cG) ?_
      simp [go_sem]
    .rw [if_neg hy] at h2
     refine ⟨by kernel_rfl,?_⟩
     simp [go_sem,dk,dj,hy]
     refine ⟨⟨by omega,ng⟩,⟨hk,ng⟩,⟨by omega,by omega⟩,?_⟩
     refine ⟨by kernel_rfl,?_⟩
     simp [go_sem]
     exact ⟨⟨by omega,by omega⟩,j,⟨by omega,h2⟩,by omega,zaa _ _ _ (by simp),by omega⟩
theorem zpj (t:List Int) (k:Nat) (hk:k<t.length) (l6:t.length<=6) (bt:∀ x∈t,0<=x/\x<=1000) (hv:Lv (rsT t k)) (hw:Lv (brT t k)) :
  Con Tryz.prog 387 [.sl t.length (avs t),.int k] (.tup [.own 2 (canF 6 (rsT t k)).length (avs (canF 6 (rsT t k))),.own 2 (canF 6 (brT t k)).length (avs (canF 6 (brT t k)))]):=by
 have eb:=zic t (iat t k) (e:=k+1) (by omega)
 have ee:enT t k=enF t (iat t k) (k+1):=rfl
 rw [<- ee] at eb
 have lb:(brT t k).length=enT t k-k:=by unfold brT; simp; omega
 have hBr:brT t k=((t.take (enT t k)).drop k).map fun x=>x-iat t k:=rfl
 have hRs:rsT t k=t.take k++t.drop (enT t k):=rfl
 have lr:(rsT t k).length<=6:=by rw [hRs]; simp; omega
 have cE:=zeA t k hk (by omega)
 have cO:=zbl (t.take k) (by simp; omega)
 have lk:(t.take k).length=k:=by rw [List.length_take]; omega
 rw [lk] at cO
 have c1:=zbf 6 (rsT t k) (by omega) hv lr
 have c2:=zbf 6 (brT t k) (by omega) hw (by omega)
 rw [zaK 6 _ hv lr,zaK 6 _ hw (by omega)]
 have dk:=zae hk
 have bk:0<=iat t k/\iat t k<=1000:=bt _ (memD 0 hk)
 have ng:¬ t=[]:=by rintro rfl; simp at hk
 generalize canF 6 (rsT t k)=C at *
 generalize canF 6 (brT t k)=D at *
 generalize brT t k=B at *
 generalize rsT t k=R at *
 generalize enT t k=e at *
 generalize iat t k=x at *
 refine zab Tryz.mixed ⟨9,[],[],[]⟩ Tryz.func387 ?_
 rw [Tryz.ntmps387]
 simp [go_sem]
 refine CallVC.of (cE) ?_
 simp [go_sem]
 refine zac (7::8::List.range' 14 17) (fun i:Nat=>[(7,.own 2 i (avs (B.take i))),(8,.int ((k+i:Nat):Int))]) (fun i=>k+i<=e) (fun i=>e-i) 0 (by omega) (by simp [go_sem]) (by simp [go_sem]) ?_
 intro i hi
 by_cases hie:k+i<e
 .have hii:((k+i:Nat):Int)<e:=by omega
  have hkl:k+i<t.length:=by omega
  have di:=zae hkl
  have bi:0<=iat t (k+i)/\iat t (k+i)<=1000:=bt _ (memD 0 hkl)
  have tk:B.take (i+1)=B.take i++[iat t (k+i)-x]:=by
   rw [List.take_add_one,hBr]
   have h2:i<((t.take e).drop k).length:=by simp; omega
   rw [List.getElem?_map,List.getElem?_drop,List.getElem?_take_of_lt hie]
   unfold iat
   rw [List.getElem?_eq_getElem hkl]; rfl
  have lB:(B.take i).length=i:=by rw [List.length_take]; omega
  generalize B.take i=B1 at *
  generalize iat t (k+i)=z at *
  generalize hm:k+i=m at *
  simp [go_sem,hii]
  refine ⟨by kernel_rfl,?_⟩
  simp [go_sem,di,dk]
  refine ⟨⟨hkl,ng⟩,⟨hk,ng⟩,⟨by omega,by omega⟩,⟨lB,by omega,by omega⟩,?_⟩
  refine ⟨by kernel_rfl,?_⟩
  simp [go_sem]
  refine ⟨⟨by omega,by omega⟩,i+1,by omega,by omega,zaa _ _ _ (by simp),?_⟩
  rw [tk,zav]
  exact ⟨⟨rfl,rfl⟩,by omega⟩
 .have e2:i=B.length:=by omega
  subst e2
  have hii:¬ (k:Int)+(B.length:Int)<e:=by omega
  have eR:avs (t.take k)++List.take (t.length-e) (List.drop e (avs t))=avs R:=by
   rw [show List.drop e (avs t)=avs (t.drop e) from by simp [avs,List.map_drop],List.take_of_length_le (l:=avs (t.drop e)) (by simp),hRs]; simp [avs]
  have lR:k+(t.length-e)=R.length:=by rw [hRs]; simp; omega
  rw [List.take_length]
  simp [go_sem,hii]
  refine ⟨by kernel_rfl,by omega,?_⟩
  rw [show List.take k (avs t)=avs (t.take k) from by simp [avs,List.map_take]]
  refine CallD.of (cO) ?_
  simp [go_sem]
  refine ⟨eb.2,⟨by omega,by omega,by omega⟩,?_⟩
  rw [eR,lR,zd5]
  refine CallD.of (c1) ?_
  simp [go_sem]
  refine CallD.of (c2) ?_
  simp [go_sem]
  refine ⟨by kernel_rfl,?_⟩
  simp [go_sem]
end Go.Proofs.YthhdollpkieknaaGreat


namespace Go.Proofs.YthhdollpkieknaaGreat
open Go.Abs
abbrev Ctd:=List Int × Int
def ctd (s:Ctd):List AV:=[.sl s.1.length (avs s.1),.int s.2]
theorem zd0 (L:List Ctd):(L.flatMap ctd).length=L.length*2:=by
 induction L with
 | nil=>rfl
 | cons s X ih=>rw [List.flatMap_cons,List.length_append,ih,List.length_cons]; simp [ctd]; omega
theorem zkw {L:List Ctd} {i:Nat} (h:i<L.length):(L.flatMap ctd).drop (i*2)=ctd (L[i]?.getD ([],0))++(L.drop (i+1)).flatMap ctd:=by
 have e1:((L.take i).flatMap ctd).length=i*2:=by rw [zd0,List.length_take,Nat.min_eq_left (by omega)]
 have e2:L.drop i=L[i]?.getD ([],0)::L.drop (i+1):=by rw [List.drop_eq_getElem_cons h]; simp [h]
 have e3:L.flatMap ctd=(L.take i).flatMap ctd++(L.drop i).flatMap ctd:=by rw [<- List.flatMap_append,List.take_append_drop]
 rw [e3,List.drop_append_of_le_length (by omega),e2,List.flatMap_cons,List.drop_eq_nil_of_le (by omega),List.nil_append]
theorem znh (L:List Ctd):frzL (L.flatMap ctd)=L.flatMap ctd:=by
 induction L with
 | nil=>rfl
 | cons s X ih=>rw [List.flatMap_cons]; simp only [ctd,List.cons_append,List.nil_append,frzL,frz,zd5]; rw [ih]
def atF (L:List Ctd) (t:List Int) (k:Nat):Nat:=k+((L.drop k).takeWhile fun s=>ltT s.1 t).length
theorem zpY {L:List Ctd} {t:List Int} {k:Nat} (h:k<L.length):atF L t k=if ltT (L[k]?.getD ([],0)).1 t=true then atF L t (k+1) else k:=by
 unfold atF
 have e2:L.drop k=L[k]?.getD ([],0)::L.drop (k+1):=by rw [List.drop_eq_getElem_cons h]; simp [h]
 rw [e2,List.takeWhile_cons]
 split
 .rw [List.length_cons]; omega
 .rfl
theorem zsv {L:List Ctd} {t:List Int} {k:Nat} (h:L.length<=k):atF L t k=k:=by
 unfold atF
 rw [List.drop_eq_nil_of_le h]; rfl
def pt4 (L:List Ctd) (t:List Int) (a:Nat):Nat->List Ctd
 | 0=>[]
 | i+1=>pt4 L t a i++(if i=a/\¬ (L[i]?.getD ([],0)).1=t then [(t,1)] else [])++[((L[i]?.getD ([],0)).1,if (L[i]?.getD ([],0)).1=t then (L[i]?.getD ([],0)).2+1 else (L[i]?.getD ([],0)).2)]
def put4 (L:List Ctd) (t:List Int):List Ctd:=pt4 L t (atF L t 0) L.length++if atF L t 0=L.length then [(t,1)] else []
theorem zn7 (L:List Ctd) (t:List Int) (a:Nat):∀ i,(pt4 L t a i).length<=i*2
 | 0=>by simp [pt4]
 | i+1=>by
  have:=zn7 L t a i
  unfold pt4
  split <;> simp <;> omega
theorem zoC (L:List Ctd) (t:List Int) (hl:L.length<=1000) (ht:t.length<=1000) (hL:∀ s∈L,s.1.length<=1000/\0<=s.2/\s.2<=1000) :
  GCon Tryz.prog 352 [.sl L.length (L.flatMap ctd),.sl t.length (avs t),.int 1] (.sl (put4 L t).length ((put4 L t).flatMap ctd)) [.any,.any,.any]:=by
 refine GCon.frzR (r:=.own 258 (put4 L t).length ((put4 L t).flatMap ctd)) ?_ (by simp [frz,znh])
 have cB:=fun i (h:i<L.length)=>zci (L[i]?.getD ([],0)).1 t (by have:=(hL _ (memD (([],0):Ctd) h)).1; omega) (by omega)
 have cS:=fun i (h:i<L.length)=>zb9 (L[i]?.getD ([],0)).1 t (by have:=(hL _ (memD (([],0):Ctd) h)).1; omega)
 have cO:=zbl t (by omega)
 have pl:=zn7 L t (atF L t 0)
 have p0:pt4 L t (atF L t 0) 0=[]:=rfl
 have ps:∀ i,pt4 L t (atF L t 0) (i+1)=pt4 L t (atF L t 0) i++(if i=atF L t 0/\¬ (L[i]?.getD ([],0)).1=t then [(t,1)] else [])++[((L[i]?.getD ([],0)).1,if (L[i]?.getD ([],0)).1=t then (L[i]?.getD ([],0)).2+1 else (L[i]?.getD ([],0)).2)]:=fun _=>rfl
 have hR:put4 L t=pt4 L t (atF L t 0) L.length++if atF L t 0=L.length then [(t,1)] else []:=rfl
 generalize put4 L t=R at *
 generalize pt4 L t (atF L t 0)=O at *
 generalize hA:atF L t 0=a at *
 have nL:∀ i,i<L.length->¬ L.flatMap ctd=[]:=fun i h e=>by have:=zd0 L; rw [e] at this; simp at this; omega
 have lL:=zd0 L
 have dr:=fun i (h:i<L.length)=>zkw h
 refine zaj Tryz.mixed ⟨11,[48,86],[],[]⟩ [] Tryz.func352 ?_
 rw [Tryz.ntmps352]
 simp [go_sem]
 refine zac (7::List.range' 11 15) (fun k:Nat=>[(7,.int k)]) (fun k=>k<=L.length/\atF L t k=a) (fun k=>L.length-k) 0 ⟨by omega,hA⟩ (by simp [go_sem]) (by simp [go_sem]) ?_
 rintro k ⟨hk,ha⟩
 by_cases hkl:k<L.length
 .have hki:(k:Int)<L.length:=by omega
  rw [zpY hkl] at ha
  have cB:=cB k hkl
  have dk:=dr k hkl
  have nk:=nL k hkl
  generalize hs0:L[k]?.getD ([],0)=s at *
  obtain ⟨sa,sc⟩:=s
  simp only [ctd] at dk cB ha
  generalize hMC0:L.flatMap ctd=MC at *
  simp [go_sem,hki,dk]
  refine ⟨nk,?_⟩
  refine CallVC.of (cB) ?_
  simp [go_sem]
  cases hv:ltT sa t with
  | true =>
   rw [hv,if_pos rfl] at ha
   simp [go_sem]
   exact ⟨⟨by omega,by omega⟩,k+1,⟨by omega,ha⟩,by omega,zaa _ _ _ (by simp),by omega⟩
  | false =>
   rw [hv,if_neg (by decide)] at ha
   clear hs0 dk nk
   simp [go_sem]
   subst ha
   clear hA
   refine zac (8::9::10::List.range' 27 53) (fun i:Nat=>[(8,.own 258 (O i).length ((O i).flatMap ctd)),(9,.int i)]) (fun i=>i<=L.length) (fun i=>L.length-i) 0 (by simp) (by simp [go_sem,p0]) (by simp [go_sem]) ?_
   intro i hi
   have li:=pl i
   by_cases hil:i<L.length
   .have hii:(i:Int)<L.length:=by omega
    have dr:=dr i hil
    have nL:=nL i hil
    have cS:=cS i hil
    have hm:=hL _ (memD (([],0):Ctd) hil)
    have pz:=ps i
    have lC:=zd0 (O i)
    generalize L[i]?.getD ([],0)=s at *
    obtain ⟨sa,sc⟩:=s
    simp only [ctd] at dr cS hm pz
    generalize hO1:O (i+1)=O1 at *
    generalize O i=Oi at *
    generalize hC:Oi.flatMap ctd=C at *
    by_cases hs:sa=t
    .subst hs
     simp only [decide_true] at cS
     rw [if_neg (by simp),if_pos rfl,List.append_nil] at pz
     by_cases hia:(i:Int)=k
     .have e:i=k:=by omega
      subst e
      simp [go_sem,hii,dr]
      refine ⟨nL,?_⟩
      refine CallVC.of (cS) ?_
      simp [go_sem,dr]
      refine ⟨by kernel_rfl,⟨hil,nL⟩,?_⟩
      refine ⟨by kernel_rfl,?_⟩
      simp [go_sem]
      simp [go_sem,dr]
      refine ⟨⟨hil,nL⟩,?_⟩
      refine CallVC.of (cS) ?_
      simp [go_sem]
      refine ⟨⟨by omega,by omega⟩,⟨by omega,by omega,by omega⟩,⟨by omega,by omega⟩,i+1,by omega,by omega,zaa _ _ _ (by simp),?_⟩
      first
       | rw [hO1,pz,List.flatMap_append,hC]
       | rw [pz,List.flatMap_append,hC]
      simp [ctd]
     .simp [go_sem,hii,hia,dr]
      refine ⟨by kernel_rfl,nL,?_⟩
      refine ⟨by kernel_rfl,?_⟩
      simp [go_sem]
      simp [go_sem,dr]
      refine ⟨⟨hil,nL⟩,?_⟩
      refine CallVC.of (cS) ?_
      simp [go_sem]
      refine ⟨⟨by omega,by omega⟩,⟨by omega,by omega,by omega⟩,⟨by omega,by omega⟩,i+1,by omega,by omega,zaa _ _ _ (by simp),?_⟩
      first
       | rw [hO1,pz,List.flatMap_append,hC]
       | rw [pz,List.flatMap_append,hC]
      simp [ctd]
    .rw [decide_eq_false hs] at cS
     rw [if_neg hs] at pz
     by_cases hia:(i:Int)=k
     .have e:i=k:=by omega
      subst e
      simp [go_sem,hii,dr]
      rw [if_pos ⟨rfl,hs⟩] at pz
      refine ⟨nL,?_⟩
      refine CallVC.of (cS) ?_
      simp [go_sem]
      refine CallVC.of (cO) ?_
      simp [go_sem,dr]
      refine ⟨⟨by omega,by omega,by omega⟩,by kernel_rfl,⟨hil,nL⟩,?_⟩
      refine ⟨by kernel_rfl,?_⟩
      simp [go_sem]
      simp [go_sem,dr]
      refine ⟨⟨hil,nL⟩,?_⟩
      refine CallVC.of (cS) ?_
      simp [go_sem]
      refine ⟨⟨by first | omega | (simp; omega),by omega,by omega⟩,⟨by omega,by omega⟩,i+1,by omega,by omega,zaa _ _ _ (by simp),?_⟩
      first
       | rw [hO1,pz,List.flatMap_append,List.flatMap_append,hC]
       | rw [pz,List.flatMap_append,List.flatMap_append,hC]
      simp [ctd]
     .simp [go_sem,hii,hia,dr]
      refine ⟨by kernel_rfl,nL,?_⟩
      refine ⟨by kernel_rfl,?_⟩
      simp [go_sem]
      simp [go_sem,dr]
      refine ⟨⟨hil,nL⟩,?_⟩
      refine CallVC.of (cS) ?_
      simp [go_sem]
      rw [if_neg (by omega),List.append_nil] at pz
      refine ⟨⟨by omega,by omega,by omega⟩,⟨by omega,by omega⟩,i+1,by omega,by omega,zaa _ _ _ (by simp),?_⟩
      first
       | rw [hO1,pz,List.flatMap_append,hC]
       | rw [pz,List.flatMap_append,hC]
      simp [ctd]
   .have e:i=L.length:=by omega
    subst e
    have hii:¬ (L.length:Int)<L.length:=by omega
    have hkk:¬ (k:Int)=L.length:=by omega
    rw [if_neg (by omega),List.append_nil] at hR
    rw [hR]
    simp [go_sem,hii,hkk]
 .have e:k=L.length:=by omega
  subst e
  rw [zsv (Nat.le_refl _)] at ha
  have hki:¬ (L.length:Int)<L.length:=by omega
  simp [go_sem,hki]
  subst ha
  clear hA
  refine zac (8::9::10::List.range' 27 53) (fun i:Nat=>[(8,.own 258 (O i).length ((O i).flatMap ctd)),(9,.int i)]) (fun i=>i<=L.length) (fun i=>L.length-i) 0 (by simp) (by simp [go_sem,p0]) (by simp [go_sem]) ?_
  intro i hi
  have li:=pl i
  by_cases hil:i<L.length
  .have hii:(i:Int)<L.length:=by omega
   have dr:=dr i hil
   have nL:=nL i hil
   have cS:=cS i hil
   have hm:=hL _ (memD (([],0):Ctd) hil)
   have pz:=ps i
   have lC:=zd0 (O i)
   generalize L[i]?.getD ([],0)=s at *
   obtain ⟨sa,sc⟩:=s
   simp only [ctd] at dr cS hm pz
   generalize hMC:L.flatMap ctd=MC at *
   generalize hO1:O (i+1)=O1 at *
   generalize O i=Oi at *
   generalize hC:Oi.flatMap ctd=C at *
   by_cases hs:sa=t
   .subst hs
    simp only [decide_true] at cS
    rw [if_neg (by simp),if_pos rfl,List.append_nil] at pz
    by_cases hia:(i:Int)=L.length
    .exfalso; omega
    .simp [go_sem,hii,hia,dr]
     refine ⟨by kernel_rfl,nL,?_⟩
     refine ⟨by kernel_rfl,?_⟩
     simp [go_sem]
     simp [go_sem,dr]
     refine ⟨⟨hil,nL⟩,?_⟩
     refine CallVC.of (cS) ?_
     simp [go_sem]
     refine ⟨⟨by omega,by omega⟩,⟨by omega,by omega,by omega⟩,⟨by omega,by omega⟩,i+1,by omega,by omega,zaa _ _ _ (by simp),?_⟩
     first
      | rw [hO1,pz,List.flatMap_append,hC]
      | rw [pz,List.flatMap_append,hC]
     simp [ctd]
   .rw [decide_eq_false hs] at cS
    rw [if_neg hs] at pz
    by_cases hia:(i:Int)=L.length
    .exfalso; omega
    .simp [go_sem,hii,hia,dr]
     refine ⟨by kernel_rfl,nL,?_⟩
     refine ⟨by kernel_rfl,?_⟩
     simp [go_sem]
     simp [go_sem,dr]
     refine ⟨⟨hil,nL⟩,?_⟩
     refine CallVC.of (cS) ?_
     simp [go_sem]
     rw [if_neg (by omega),List.append_nil] at pz
     refine ⟨⟨by omega,by omega,by omega⟩,⟨by omega,by omega⟩,i+1,by omega,by omega,zaa _ _ _ (by simp),?_⟩
     first
      | rw [hO1,pz,List.flatMap_append,hC]
      | rw [pz,List.flatMap_append,hC]
     simp [ctd]
  .have e:i=L.length:=by omega
   subst e
   have hii:¬ (L.length:Int)<L.length:=by omega
   have lC:=zd0 (O L.length)
   rw [if_pos rfl] at hR
   rw [hR,List.flatMap_append]
   generalize (O L.length).flatMap ctd=C at *
   simp [go_sem,hii]
   refine CallVC.of (cO) ?_
   simp [go_sem]
   exact ⟨⟨by omega,by omega,by omega⟩,rfl⟩
end Go.Proofs.YthhdollpkieknaaGreat


namespace Go.Proofs.YthhdollpkieknaaGreat
open Go.Abs
theorem znU:¬ trN 6=[]:=by intro e; have:=zaQ; rw [e] at this; simp at this
theorem zhM {p:Nat} (h:p<37):((trN 6)[p]?.getD []).length=nd (p+1):=by
 have ok:(List.range 37).all (fun p=>decide (((trN 6)[p]?.getD []).length=nd (p+1)))=true:=by decide +kernel
 exact of_decide_eq_true (List.all_eq_true.1 ok p (List.mem_range.2 h))
theorem zjg (p:Nat) (hp:p<38):Con Tryz.prog 163 [.agg [.sl 37 (mat (trN 6)),.sl 37 fcF],.int p] (.int (nd p)):=by
 have nt:=znU
 have l6:=zaQ
 generalize fcF=FC at *
 by_cases h0:p=0
 .subst h0
  refine zab Tryz.mixed ⟨5,[],[],[]⟩ Tryz.func163 ?_
  rw [Tryz.ntmps163]
  simp [go_sem]
  rfl
 .obtain ⟨q,rfl⟩:∃ q,p=q+1:=⟨p-1,by omega⟩
  have e:=zhM (p:=q) (by omega)
  have dm:=zas (xss:=trN 6) (k:=q) (by omega)
  rw [e] at dm
  have cL:=zjt (nd (q+1)) (avs ((trN 6)[q]?.getD [])) (by have:=zhe hp; omega)
  have e1:((q+1:Nat):Int)=(q:Int)+1:=by omega
  rw [e1]
  have e2:¬ (q:Int)+1=0:=by omega
  generalize (trN 6)[q]?.getD []=t at *
  generalize nd (q+1)=m at *
  refine zab Tryz.mixed ⟨5,[],[],[]⟩ Tryz.func163 ?_
  rw [Tryz.ntmps163]
  simp [go_sem]
  simp [go_sem,e2]
  have e3:((q:Int)+1-1)=q:=by omega
  simp [go_sem,e3,dm]
  refine ⟨by omega,⟨by omega,nt⟩,?_⟩
  refine CallVC.of (cL) ?_
  simp [go_sem]
theorem zju (k:Int) (a:List Int) {i:Nat} (h:i<38):(scS k a).take (i+1)=(scS k a).take i++[iat a i*k ^ nd i%10007]:=zbw _ h
theorem N38.take {a:List Int} (ha:N38 a):a.take 38=a:=List.take_of_length_le (by rw [ha.1]; exact Nat.le_refl _)
theorem zf2 (a:List Int) (k:Int) (ha:N38 a) (hk:isN k) :
  Con Tryz.prog 94 [.agg [.sl 37 (mat (trN 6)),.sl 37 fcF],.sl a.length (avs a),.int k] (.own 2 38 (avs (scS k a))):=by
 have tk:=fun i (h:i<38)=>zju k a h
 have ta:=(zex k a).take
 have lo:=(zex k a).1
 have la:=ha.1
 have cN:=fun p h=>zjg p h
 generalize scS k a=O at *
 generalize fcF=FC at *
 refine zab Tryz.mixed ⟨10,[],[],[]⟩ Tryz.func94 ?_
 rw [Tryz.ntmps94]
 simp [go_sem]
 refine zac (7::8::9::List.range' 13 17) (fun i:Nat=>[(7,.own 2 i (avs (O.take i))),(13,.int i)]) (fun i=>i<=38) (fun i=>38-i) 0 (by simp) (by simp [go_sem]) (by simp [go_sem]) ?_
 intro i hi
 by_cases hil:i<a.length
 .have hii:(i:Int)<a.length:=by omega
  have na:¬ a=[]:=by rintro rfl; simp at hil
  have dr:=zae hil
  have c1:=cN i (by omega)
  have n6:=zhe (i:=i) (by omega)
  have c2:=zom k (nd i) hk (by omega) (by omega)
  have pN:=pw_N k (nd i)
  have xN:isN (iat a i):=ha.Ns.get i
  have f1:=zay xN pN
  have c3:=zcO (iat a i*pw k (nd i)) f1.1 f1.2
  have e:iat a i*k ^ nd i%10007=iat a i*pw k (nd i)%10007:=by
   refine zag rfl ?_
   unfold pw
   rw [Int.emod_emod_of_dvd _ (Int.dvd_refl _)]; rfl
  have t1:=tk i (by omega)
  rw [e] at t1
  generalize iat a i=x at *
  generalize pw k (nd i)=y at *
  generalize nd i=m at *
  simp [go_sem,hii,dr]
  refine ⟨na,?_⟩
  refine CallVC.of (c1) ?_
  simp [go_sem]
  refine CallVC.of (c2) ?_
  simp [go_sem]
  refine ⟨⟨f1.1,f1.2⟩,?_⟩
  refine CallVC.of (c3) ?_
  simp [go_sem]
  refine ⟨⟨by omega,by omega,by omega⟩,⟨by omega,by omega⟩,i+1,by omega,by omega,zaa _ _ _ (by simp),?_⟩
  rw [t1,zav]
  exact ⟨⟨rfl,rfl⟩,by omega⟩
 .have e:i=a.length:=by omega
  subst e
  have hii:¬ (a.length:Int)<a.length:=by omega
  rw [la,ta]
  simp [go_sem,hii]
theorem zcz (a b:List Int) (ha:N38 a) (hb:N38 b) :
  Con Tryz.prog 72 [.agg [.sl 37 (mat (trN 6)),.sl 37 fcF],.sl a.length (avs a),.sl b.length (avs b)] (.int (agS a b)):=by
 have la:=ha.1
 have lb:=hb.1
 have cN:=fun p h=>zjg p h
 have hA:agS a b=agI a b 38 0:=rfl
 generalize fcF=FC at *
 refine zab Tryz.mixed ⟨8,[],[],[]⟩ Tryz.func72 ?_
 rw [Tryz.ntmps72]
 simp [go_sem]
 refine zac (6::7::List.range' 10 17) (fun i:Nat=>[(10,.int i)]) (fun i=>i<=38/\agS a b=agI a b (38-i) i) (fun i=>38-i) 0 (by simp [hA]) (by simp [go_sem]) (by simp [go_sem]) ?_
 rintro i ⟨hi,hag⟩
 by_cases hil:i<38
 .have hii:(i:Int)<a.length:=by omega
  have da:=zae (a:=a) (v:=i) (by omega)
  have db:=zae (a:=b) (v:=i) (by omega)
  have na:¬ a=[]:=by rintro rfl; simp at la
  have nb:¬ b=[]:=by rintro rfl; simp at lb
  have c1:=cN i hil
  have n6:=zhe (i:=i) hil
  obtain ⟨m,hm⟩:∃ m,38-i=m+1:=⟨37-i,by omega⟩
  rw [hm,agI] at hag
  have hm2:38-(i+1)=m:=by omega
  by_cases he:iat a i=iat b i
  .rw [if_pos he,<- hm2] at hag
   rw [he] at da
   generalize iat b i=x at *
   simp [go_sem,hii,da,db]
   refine ⟨by kernel_rfl,na,⟨by omega,nb⟩,?_⟩
   refine ⟨by kernel_rfl,?_⟩
   simp [go_sem]
   refine ⟨⟨by omega,by omega⟩,i+1,⟨by omega,hag⟩,by omega,zaa _ _ _ (by simp),by omega⟩
  .rw [if_neg he] at hag
   generalize iat a i=x at *
   generalize iat b i=y at *
   generalize nd i=k at *
   simp [go_sem,hii,da,db]
   refine ⟨by kernel_rfl,na,⟨by omega,nb⟩,?_⟩
   refine ⟨by kernel_rfl,?_⟩
   simp [go_sem]
   simp [go_sem,he]
   refine CallVC.of (c1) ?_
   simp [go_sem]
   refine ⟨⟨by omega,by omega⟩,?_⟩
   exact hag.symm
 .have e:i=38:=by omega
  subst e
  have hii:¬ (38:Int)<a.length:=by omega
  simp [go_sem,hii]
  exact hag.symm
theorem zhR:Con Tryz.prog 27 [] (.own 2 38 (avs zaU)):=by
 have e:avs zaU=.int 1::List.replicate 37 (.int 0):=by kernel_rfl
 rw [e]
 refine zab Tryz.mixed ⟨2,[],[],[]⟩ Tryz.func27 ?_
 rw [Tryz.ntmps27]
 simp [go_sem]
theorem zqS {t:List Int} (h:t∈trN 6):0<=denF 8 t/\denF 8 t<=1000000:=by
 have ok:(trN 6).all (fun t=>decide (0<=denF 8 t) && decide (denF 8 t<=1000000))=true:=by decide +kernel
 have k:=List.all_eq_true.1 ok t h
 simpa using k
theorem zs9:(trN 6).map (fun t=>((fp 15 (denF 8 t%10007).toNat 10005:Nat):Int))=exT.tail.map fun (v:Nat)=>(v:Int):=by kernel_rfl
theorem zrO:exaS=exT.map fun (v:Nat)=>(v:Int):=by kernel_rfl
theorem zqy {p:Nat} (h:p<37):pw (denF 8 ((trN 6)[p]?.getD [])%10007) 10005=iat exaS (p+1):=by
 have hl:p<(trN 6).length:=by rw [zaQ]; exact h
 have e:=congrArg (fun l=>l[p]?) zs9
 simp only [List.getElem?_map] at e
 rw [List.getElem?_eq_getElem hl] at e
 have k:=zsL (denF 8 (trN 6)[p]%10007).toNat
 rw [Int.toNat_of_nonneg (Int.emod_nonneg _ (by decide))] at k
 rw [List.getElem?_eq_getElem hl,Option.getD_some,<- k]
 unfold iat
 rw [zrO,List.getElem?_map]
 have e2:exT[p+1]?=exT.tail[p]?:=by rw [List.getElem?_tail]
 rw [e2,<- e]; rfl
def xaX (i:Nat):List Int:=exaS.take (i+1)++List.replicate (37-i) 0
theorem zi4 (v:Int):∀ (P:List Int) (n:Nat),(P++List.replicate (n+1) 0).set P.length v=P++[v]++List.replicate n 0
 | [],n=>by simp [List.replicate_succ]
 | x::P,n=>by
  have:=zi4 v P n
  simp only [List.cons_append,List.length_cons,List.set_cons_succ]
  rw [this]
theorem zrZ {i:Nat} (h:i<37):(xaX i).set (i+1) (iat exaS (i+1))=xaX (i+1):=by
 have l:=zal.1.1
 have tl:(exaS.take (i+1)).length=i+1:=by rw [List.length_take]; omega
 have t:exaS.take (i+2)=exaS.take (i+1)++[iat exaS (i+1)]:=by
  rw [List.take_succ_eq_append_getElem (by omega)]
  unfold iat
  rw [List.getElem?_eq_getElem (by omega)]; rfl
 unfold xaX
 have k:=zi4 (iat exaS (i+1)) (exaS.take (i+1)) (36-i)
 rw [tl,show 36-i+1=37-i by omega] at k
 rw [k,t,show 37-(i+1)=36-i by omega]
theorem zcc:Con Tryz.prog 73 [.agg [.sl 37 (mat (trN 6)),.sl 37 fcF]] (.own 2 38 (avs exaS)):=by
 have cU:=zhR
 have l6:=zaQ
 have nt:=znU
 have x0:zaU=xaX 0:=by kernel_rfl
 have x37:xaX 37=exaS:=by kernel_rfl
 have at6:=fun t h=>zim (t:=t) h
 rw [x0] at cU
 rw [<- x37]
 generalize fcF=FC at *
 refine zab Tryz.mixed ⟨6,[],[],[]⟩ Tryz.func73 ?_
 rw [Tryz.ntmps73]
 simp [go_sem]
 refine CallVC.of (cU) ?_
 simp [go_sem]
 refine zac (3::4::5::List.range' 10 14) (fun i:Nat=>[(3,.own 2 38 (avs (xaX i))),(10,.int i)]) (fun i=>i<=37) (fun i=>37-i) 0 (by simp) (by simp [go_sem]) (by simp [go_sem]) ?_
 intro i hi
 by_cases hil:i<37
 .have hii:(i:Int)<37:=by omega
  have hl:i<(trN 6).length:=by omega
  have dm:=zas hl
  have hm:=memD [] hl
  obtain ⟨t1,t2,t3⟩:=at6 _ hm
  have cD:=zir 8 _ t1 (by omega) t3
  have xs:=zrZ hil
  rw [<- zqy hil] at xs
  have lx:(xaX i).length=38:=by
   have l:=zal.1.1
   unfold xaX
   rw [List.length_append,List.length_take,List.length_replicate]; omega
  obtain ⟨d1,d2⟩:=zqS hm
  generalize (trN 6)[i]?.getD []=t at *
  have c1:=zcO (denF 8 t) (by omega) (by omega)
  have c2:=zrA (denF 8 t%10007) (zak _)
  generalize hv:pw (denF 8 t%10007) 10005=v at *
  generalize denF 8 t=d at *
  have ls:((xaX i).set (i+1) v).length=38:=by rw [List.length_set]; exact lx
  simp [go_sem,hii,dm]
  refine ⟨nt,⟨by omega,by omega⟩,?_⟩
  refine CallVC.of (cD) ?_
  simp [go_sem]
  refine CallVC.of (c1) ?_
  simp [go_sem]
  refine CallVC.of (c2) ?_
  simp [go_sem]
  refine ⟨⟨by omega,by omega⟩,by omega,⟨by omega,by omega⟩,i+1,by omega,by omega,zaa _ _ _ (by simp),?_⟩
  rw [<- xs]
  exact ⟨by simp [avs,List.map_set],by omega⟩
 .have e:i=37:=by omega
  subst e
  simp [go_sem]
theorem zkR:Con Tryz.prog 18 [] (.own 2 38 (avs exaS)):=by
 have cF:=zbe
 have cE:=zcc
 generalize fcF=FC at *
 refine zab Tryz.mixed ⟨1,[],[1000000+71],[]⟩ Tryz.func18 ?_
 rw [Tryz.ntmps18]
 simp [go_sem]
 refine ⟨_,_,cF,?_⟩
 simp [go_sem]
 refine CallVC.of (cE) ?_
 simp [go_sem]
def ckC (a:List Int):Int:=if mapB a=true then (if iat a 0=1 then 0 else 5) else 1
theorem zqC {a:List Int} (h:ckC a=0):Ch a:=by
 unfold ckC at h
 split at h
 .rename_i hm
  split at h
  .rename_i h1; exact ⟨ze4 hm,h1⟩
  .omega
 .omega
theorem Ch.ck {a:List Int} (h:Ch a):ckC a=0:=by
 unfold ckC
 rw [if_pos h.1.mapB,if_pos h.2]
theorem zaV (a:List Int) (ha:a.length<=9223372036854775807):Con Tryz.prog 70 [.sl a.length (avs a)] (.int (ckC a)):=by
 have cM:=zdr a ha
 unfold ckC
 by_cases hm:mapB a=true
 .rw [if_pos hm]
  rw [hm] at cM
  have hl:=(ze4 hm).1
  have na:¬ a=[]:=by rintro rfl; simp at hl
  have a0:=zae (a:=a) (v:=0) (by omega)
  rw [List.drop_zero] at a0
  by_cases h1:iat a 0=1
  .rw [if_pos h1]
   rw [h1] at a0
   refine zab Tryz.mixed ⟨3,[],[],[]⟩ Tryz.func70 ?_
   rw [Tryz.ntmps70]
   simp [go_sem]
   refine CallVC.of (cM) ?_
   simp [go_sem]
   simp [go_sem,a0]
   exact ⟨by omega,na⟩
  .rw [if_neg h1]
   generalize iat a 0=x at *
   refine zab Tryz.mixed ⟨3,[],[],[]⟩ Tryz.func70 ?_
   rw [Tryz.ntmps70]
   simp [go_sem]
   refine CallVC.of (cM) ?_
   simp [go_sem]
   simp [go_sem,a0,h1]
   exact ⟨by omega,na⟩
 .rw [if_neg hm]
  have hf:mapB a=false:=by simpa using hm
  rw [hf] at cM
  refine zab Tryz.mixed ⟨3,[],[],[]⟩ Tryz.func70 ?_
  rw [Tryz.ntmps70]
  simp [go_sem]
  refine CallVC.of (cM) ?_
  simp [go_sem]
theorem zin (a:List Int) (ha:N38 a) :
  Con Tryz.prog 176 [.agg [.sl 37 (mat (trN 6)),.sl 37 fcF],.sl a.length (avs a)] (.own 2 38 (avs (invS a))):=by
 have la:=ha.1
 have nf:=zqG
 have fd:=fun i h=>zgN (i:=i) h
 have il:=zcR a
 have iN:=zl8 a
 have e0:avs (invN a 0)=[.int 1]:=rfl
 have es:∀ k,invN a (k+1)=invN a k++[(-(rowI (iat (invN a k)) (iat a) (nwR (k+1))))%10007]:=fun k=>rfl
 show Con Tryz.prog _ _ (.own _ 38 (avs (invN a 37)))
 generalize hO:invN a=O at *
 generalize fcF=FC at *
 refine zab Tryz.mixed ⟨11,[],[],[]⟩ Tryz.func176 ?_
 rw [Tryz.ntmps176]
 simp [go_sem]
 refine zac (5::7::8::10::List.range' 15 38) (fun i:Nat=>[(5,.own 2 (i+1) (avs (O i))),(15,.int i)]) (fun i=>i<=37) (fun i=>37-i) 0 (by simp) (by simp [go_sem,e0]) (by simp [go_sem]) ?_
 intro i hi
 by_cases hil:i<37
 .have hii:(i:Int)<37:=by omega
  have dr:=fd i hil
  obtain ⟨r1,r2⟩:=zkc (i:=i+1) (by omega)
  have rk:=zdd (i:=i+1) (by omega)
  have nk:=(znD (i:=i+1) (by omega) (by omega)).1
  have ei:=es i
  have hnw:nwR (i+1)=(ctR (i+1)).filter fun c=>decide (0<c.2.2):=rfl
  have li:=il i
  have Ni:Ns (O i):=fun x hx=>iN i x hx
  rw [hnw] at ei nk
  generalize ctR (i+1)=R at *
  have oi:O i=O i:=rfl
  generalize O i=o at *
  simp [go_sem,hii,dr]
  refine ⟨nf,?_⟩
  refine zac (8::10::List.range' 21 25) (fun j:Nat=>[(8,.int (rsF o a ((R.take j).filter fun c=>decide (0<c.2.2)))),(21,.int j)]) (fun j=>j<=R.length) (fun j=>R.length-j) 0 (by simp) (by simp [go_sem,rsF]) (by simp [go_sem]) ?_
  intro j hj
  by_cases hjl:j<R.length
  .have hji:(j:Int)<R.length:=by omega
   have cd:=zeB hjl
   have hm:=memD (0,[],0) hjl
   obtain ⟨q1,q2⟩:=r2 _ hm
   obtain ⟨k1,k2⟩:=rk _ hm
   have k3:=fun h=>nk _ (List.mem_filter.2 ⟨hm,h⟩)
   have tj:(R.take (j+1)).filter (fun c=>decide (0<c.2.2))=(R.take j).filter (fun c=>decide (0<c.2.2))++[R[j]?.getD (0,[],0)].filter (fun c=>decide (0<c.2.2)):=by
    rw [<- List.filter_append,List.take_succ_eq_append_getElem hjl,List.getElem?_eq_getElem hjl]; rfl
   have rs:=zeH o a ((R.take j).filter fun c=>decide (0<c.2.2)) (R[j]?.getD (0,[],0))
   have bd:=zjY o a ((R.take j).filter fun c=>decide (0<c.2.2))
   have bl:((R.take j).filter fun c=>decide (0<c.2.2)).length<=100:=by
    have:=List.length_filter_le (fun c:Ctp=>decide (0<c.2.2)) (R.take j)
    rw [List.length_take] at this; omega
   have nR:¬ R.flatMap ctF=[]:=by intro e; have:=zcq R; rw [e] at this; simp at this; omega
   have lR:=zcq R
   generalize (R.take j).filter (fun c=>decide (0<c.2.2))=X at *
   generalize R[j]?.getD (0,[],0)=c at *
   obtain ⟨n,l,t⟩:=c
   simp only [ctF] at cd q1 q2 k1 k2 k3 rs
   generalize hMC:R.flatMap ctF=MC at *
   by_cases ht:0<t
   .rw [List.filter_cons,if_pos (by simpa using ht),List.filter_nil] at tj
    rw [<- tj] at rs
    have k4:=k3 (by simpa using ht)
    have cV:=zij o l Ni (by omega) q1 (fun v hv=>by have:=k4 v hv; omega)
    have vN:=zsx o l
    have bN:isN (iat a t):=ha.Ns.get t
    have br:=zae (a:=a) (v:=t) (by omega)
    have f1:=zay vN bN
    have c1:=zcO (vlN o l*iat a t) f1.1 f1.2
    have m1:=zak (vlN o l*iat a t)
    have f2:fits ((n:Int)*(vlN o l*iat a t%10007)):=zay (show isN (n:Int) from ⟨by omega,by omega⟩) m1
    have c2:=zcO ((n:Int)*(vlN o l*iat a t%10007)) f2.1 f2.2
    have m2:=zak ((n:Int)*(vlN o l*iat a t%10007))
    have na:¬ a=[]:=by rintro rfl; simp at la
    rw [li] at cV
    generalize rsF o a X=s at *
    generalize vlN o l=v at *
    generalize iat a t=y at *
    simp [go_sem,hji,cd,br,ht]
    refine ⟨nR,by kernel_rfl,?_⟩
    refine CallD.of (cV) ?_
    simp [go_sem]
    simp [go_sem,br]
    refine ⟨⟨by omega,na⟩,⟨f1.1,f1.2⟩,?_⟩
    refine CallD.of (c1) ?_
    simp [go_sem]
    refine ⟨⟨f2.1,f2.2⟩,?_⟩
    refine CallD.of (c2) ?_
    simp [go_sem]
    refine ⟨⟨by omega,by omega⟩,?_⟩
    refine ⟨by kernel_rfl,?_⟩
    simp [go_sem]
    refine ⟨⟨by omega,by omega⟩,j+1,by omega,by omega,zaa _ _ _ (by simp),?_⟩
    rw [rs]
    exact ⟨rfl,by omega⟩
   .rw [List.filter_cons,if_neg (by simpa using ht),List.filter_nil,List.append_nil] at tj
    simp [go_sem,hji,cd,ht]
    refine ⟨nR,⟨by omega,by omega⟩,j+1,by omega,by omega,zaa _ _ _ (by simp),?_⟩
    rw [tj]
    exact ⟨rfl,by omega⟩
  .have e:j=R.length:=by omega
   subst e
   have hji:¬ (R.length:Int)<R.length:=by omega
   rw [List.take_length]
   have bd:=zjY o a (R.filter fun c=>decide (0<c.2.2))
   have bl:(R.filter fun c=>decide (0<c.2.2)).length<=100:=by
    have:=List.length_filter_le (fun c:Ctp=>decide (0<c.2.2)) R
    omega
   have rm:=zlU o a (R.filter fun c=>decide (0<c.2.2))
   have c1:=zcO (-rsF o a (R.filter fun c=>decide (0<c.2.2))) (by omega) (by omega)
   have ng : -rowI (iat o) (iat a) (R.filter fun c=>decide (0<c.2.2))%10007 = -rsF o a (R.filter fun c=>decide (0<c.2.2))%10007:=by omega
   rw [ng] at ei
   generalize rsF o a (R.filter fun c=>decide (0<c.2.2))=s at *
   simp [go_sem,hji]
   refine ⟨⟨by omega,by omega⟩,?_⟩
   refine CallVC.of (c1) ?_
   simp [go_sem]
   refine ⟨⟨by omega,by omega,by omega⟩,⟨by omega,by omega⟩,i+1,by omega,by omega,(Off.reset (by intro x hx; simp at hx |-; omega) (by simp) (by simp [go_sem,zaa])),?_⟩
   rw [ei,zav]
   exact ⟨⟨rfl,rfl⟩,by omega⟩
 .have e:i=37:=by omega
  subst e
  simp [go_sem]
theorem zrq (a:List Int):scS 10006 a=scS (-1) a:=znY (by decide) a
theorem zis (a:List Int) (ha:N38 a) :
  Con Tryz.prog 91 [.agg [.sl 37 (mat (trN 6)),.sl 37 fcF],.sl a.length (avs a)] (.own 2 38 (avs (invS (scS (-1) a)))):=by
 have c1:=zf2 a 10006 ha ⟨by decide,by decide⟩
 have c2:=zin (scS 10006 a) (zex _ _)
 rw [zrq] at c1 c2
 rw [(zex (-1) a).1] at c2
 generalize fcF=FC at *
 refine zab Tryz.mixed ⟨5,[],[],[]⟩ Tryz.func91 ?_
 rw [Tryz.ntmps91]
 simp [go_sem]
 refine ⟨by kernel_rfl,?_⟩
 refine CallD.of (c1) ?_
 simp [go_sem]
 refine CallD.of (c2) ?_
 simp [go_sem]
 refine ⟨by kernel_rfl,?_⟩
 simp [go_sem]
end Go.Proofs.YthhdollpkieknaaGreat


namespace Go.Proofs.YthhdollpkieknaaGreat
open Go.Abs
theorem zmM (a b:List Int) (ha:N38 a) (hb:N38 b) :
  Con Tryz.prog 43 [.sl a.length (avs a),.sl b.length (avs b)] (.tup [.int (agS a b),.int 0]):=by
 have c1:=zdr a (by rw [ha.1]; omega)
 have c2:=zdr b (by rw [hb.1]; omega)
 rw [ha.mapB] at c1
 rw [hb.mapB] at c2
 have cF:=zbe
 have cC:=zcz a b ha hb
 generalize agS a b=X at *
 generalize fcF=FC at *
 refine zab Tryz.mixed ⟨6,[],[1000000+71],[]⟩ Tryz.func43 ?_
 rw [Tryz.ntmps43]
 simp [go_sem]
 refine CallVC.of (c1) ?_
 simp [go_sem]
 refine CallVC.of (c2) ?_
 simp [go_sem]
 refine ⟨_,_,cF,?_⟩
 simp [go_sem]
 refine CallVC.of (cC) ?_
 simp [go_sem]
theorem Ch.cons {a:List Int} (h:Ch a):avs a=.int 1::avs a.tail:=by
 have a0:=zae (a:=a) (v:=0) (by rw [h.1.1]; omega)
 rw [List.drop_zero,h.2,List.drop_one] at a0
 exact a0
theorem N38.ne {a:List Int} (h:N38 a):¬ a=[]:=by rintro rfl; have:=h.1; simp at this
theorem zj2 (a:List Int):∀ k,N38 (pwrS a k)
 | 0=>zb0.1
 | k+1=>znx _ _
theorem zhz (a:List Int) (ha:Ch a) :
  Con Tryz.prog 14 [.sl a.length (avs a)] (.tup [.int (agS a exaS),.int 0]):=by
 have c1:=zaV a (by rw [ha.1.1]; omega)
 rw [ha.ck] at c1
 have cF:=zbe
 have c2:=zcc
 have c3:=zcz a exaS ha.1 zal.1
 rw [zal.1.1] at c3
 generalize agS a exaS=X at *
 generalize exaS=E at *
 generalize fcF=FC at *
 refine zab Tryz.mixed ⟨6,[],[1000000+71],[]⟩ Tryz.func14 ?_
 rw [Tryz.ntmps14]
 simp [go_sem]
 refine CallVC.of (c1) ?_
 simp [go_sem]
 refine ⟨_,_,cF,?_⟩
 simp [go_sem]
 refine ⟨by kernel_rfl,?_⟩
 refine CallD.of (c2) ?_
 simp [go_sem]
 refine CallD.of (c3) ?_
 simp [go_sem]
 refine ⟨by kernel_rfl,?_⟩
 simp [go_sem]
theorem zey (a:List Int) (ha:Ch a) :
  Con Tryz.prog 44 [.sl a.length (avs a)] (.tup [.bool (decide (invS (scS (-1) a)=a)),.int 0]):=by
 have c1:=zaV a (by rw [ha.1.1]; omega)
 rw [ha.ck] at c1
 have cF:=zbe
 have c2:=zis a ha.1
 have c3:=znd (invS (scS (-1) a)) a (by rw [(zgT _).1.1]; omega)
 rw [(zgT (scS (-1) a)).1.1] at c3
 generalize invS (scS (-1) a)=E at *
 generalize fcF=FC at *
 refine zab Tryz.mixed ⟨5,[],[1000000+71],[]⟩ Tryz.func44 ?_
 rw [Tryz.ntmps44]
 simp [go_sem]
 refine CallVC.of (c1) ?_
 simp [go_sem]
 refine ⟨_,_,cF,?_⟩
 simp [go_sem]
 refine CallVC.of (c2) ?_
 simp [go_sem]
 refine CallVC.of (c3) ?_
 simp [go_sem]
end Go.Proofs.YthhdollpkieknaaGreat


namespace Go.Proofs.YthhdollpkieknaaGreat
open Go.Abs
end Go.Proofs.YthhdollpkieknaaGreat


namespace Go.Proofs.YthhdollpkieknaaGreat
open Go.Abs
end Go.Proofs.YthhdollpkieknaaGreat


namespace Go.Proofs.YthhdollpkieknaaGreat
open Go.Abs
end Go.Proofs.YthhdollpkieknaaGreat


namespace Go.Proofs.YthhdollpkieknaaGreat
open Go.Abs
end Go.Proofs.YthhdollpkieknaaGreat


namespace Go.Proofs.YthhdollpkieknaaGreat
open Go.Abs
end Go.Proofs.YthhdollpkieknaaGreat


namespace Go.Proofs.YthhdollpkieknaaGreat
open Go.Abs
end Go.Proofs.YthhdollpkieknaaGreat


namespace Go.Proofs.YthhdollpkieknaaGreat
open Go.Abs
end Go.Proofs.YthhdollpkieknaaGreat


namespace Go.Proofs.YthhdollpkieknaaGreat
open Go.Abs
end Go.Proofs.YthhdollpkieknaaGreat


namespace Go.Proofs.YthhdollpkieknaaGreat
open Go.Abs
abbrev z7:List Int:=[0,0,0,0,0,0,0]
end Go.Proofs.YthhdollpkieknaaGreat


namespace Go.Proofs.YthhdollpkieknaaGreat
open Go.Abs
end Go.Proofs.YthhdollpkieknaaGreat


namespace Go.Proofs.YthhdollpkieknaaGreat
open Go.Abs
end Go.Proofs.YthhdollpkieknaaGreat


namespace Go.Proofs.YthhdollpkieknaaGreat
open Go.Abs
end Go.Proofs.YthhdollpkieknaaGreat


namespace Go.Proofs.YthhdollpkieknaaGreat
open Go.Abs
end Go.Proofs.YthhdollpkieknaaGreat


namespace Go.Proofs.YthhdollpkieknaaGreat
open Go.Abs
end Go.Proofs.YthhdollpkieknaaGreat


namespace Go.Proofs.YthhdollpkieknaaGreat
open Go.Abs CR
abbrev c7:Cg (Ser Int):=cgS cgI 7
section
variable {α:Type} [CR α]
end
end Go.Proofs.YthhdollpkieknaaGreat


namespace Go.Proofs.YthhdollpkieknaaGreat
open Go.Abs
end Go.Proofs.YthhdollpkieknaaGreat


namespace Go.Proofs.YthhdollpkieknaaGreat
open Go.Abs
theorem zoh {k:Nat} (h:0<k) (t:List Int):genT k t≠[]:=by
 cases k with
 | zero=>omega
 | succ k=>simp [genT]
theorem zfZ (n:Nat) (h1:1<=n) (h6:n<=6):Con Tryz.prog 215 [.int n] (.own 25 (genT 200 (upTo n)).length (omat (genT 200 (upTo n)))):=by
 have c:=zhJ n h6 (n-1) [0] [] ⟨by simp,by simp,fun j h1 h2=>by simp at h2; omega⟩ (by simp; omega) (by
  have:=Nat.pow_le_pow_right (n:=6) (by omega) (show n-1<=6 by omega)
  simp only [List.length_nil]; omega)
 rw [<- (zgf n h1 h6).2.1] at c
 have hp:=zoh (k:=200) (by omega) (upTo n)
 generalize genT 200 (upTo n)=G at *
 cases G with
 | nil=>exact (hp rfl).elim
 | cons r G =>
  refine zab Tryz.mixed ⟨3,[],[272],[]⟩ Tryz.func215 ?_
  rw [Tryz.ntmps215]
  simp [go_sem]
  refine ⟨_,_,c,?_⟩
  simp [go_sem]
end Go.Proofs.YthhdollpkieknaaGreat


namespace Go.Proofs.YthhdollpkieknaaGreat
open Go.Abs
def bys (c:List Int):List AV:=c.map fun x=>.val (.int .u8 x)
@[simp] theorem zu6 (c:List Int):(bys c).length=c.length:=by simp [bys]
theorem zjw {c:List Int} {k:Nat} (h:k<c.length):(bys c).drop k=.val (.int .u8 (c[k]?.getD 0))::bys (c.drop (k+1)):=by
 rw [bys,<- List.map_drop,List.drop_eq_getElem_cons h,List.map_cons]; simp [h,bys]
def Byt (c:List Int):Prop:=c.length<=4096/\∀ x∈c,0<=x/\x<=255
theorem Byt.get {c:List Int} (h:Byt c) (k:Nat):0<=c[k]?.getD 0/\c[k]?.getD 0<=255:=by
 rcases Nat.lt_or_ge k c.length with hk | hk
 .simp [hk]; exact h.2 _ (List.getElem_mem hk)
 .simp [hk]
abbrev Src:=Nat × Int
def srcA (c:List Int) (σ:Src):AV:=.box 162 [.sl c.length (bys c),.int σ.1,.val (.int .u64 σ.2)]
theorem zaz (c:List Int) (σ:Src):srcA c σ=.box 162 [.sl c.length (bys c),.int σ.1,.val (.int .u64 σ.2)]:=rfl
def nxH (h:Int):Int:=IntKind.u64.wrap (IntKind.u64.wrap (h*6364136223846793005)+1442695040888963407)
def nxX (h:Int):Int:=andI IntKind.u64 (shrI IntKind.u64 (nxH h) 33) 16777215
def byV (c:List Int) (k:Nat):Int:=if k<c.length then c[k]?.getD 0 else 0
def nx1 (c:List Int) (σ:Src) (n:Int):Int:=if n<1 then 0 else (nxX σ.2+byV c σ.1).tmod n
def nx2 (c:List Int) (σ:Src) (n:Int):Src:=if n<1 then σ else (if σ.1<c.length then σ.1+1 else σ.1,nxH σ.2)
def SOk (σ:Src):Prop:=σ.1<=4096
theorem zaH {c:List Int} (hc:Byt c) {σ:Src} (h:SOk σ) (n:Int):SOk (nx2 c σ n):=by
 unfold SOk nx2 at *
 have:=hc.1
 split
 .exact h
 .simp only; split <;> omega
theorem zta (h:Int):0<=nxX h/\nxX h<=16777215:=by
 unfold nxX andI
 generalize shrI IntKind.u64 (nxH h) 33=y
 have h1:(BitVec.ofInt IntKind.u64.bits y &&& BitVec.ofInt IntKind.u64.bits 16777215).toNat<=16777215:=by
  rw [BitVec.toNat_and]
  exact Nat.le_trans Nat.and_le_right (by decide)
 generalize (BitVec.ofInt IntKind.u64.bits y &&& BitVec.ofInt IntKind.u64.bits 16777215).toNat=m at *
 simp [IntKind.wrap,IntKind.signed,IntKind.bits]
 omega
theorem zsZ {c:List Int} (hc:Byt c) (k:Nat):0<=byV c k/\byV c k<=255:=by
 unfold byV
 split
 .exact hc.get k
 .omega
theorem zcn {c:List Int} (hc:Byt c) (σ:Src) {n:Int} (hn:1<=n):0<=nx1 c σ n/\nx1 c σ n<n:=by
 have h1:=zta σ.2
 have h2:=zsZ hc σ.1
 unfold nx1
 rw [if_neg (by omega),Int.tmod_eq_emod_of_nonneg (by omega)]
 exact ⟨Int.emod_nonneg _ (by omega),Int.emod_lt_of_pos _ (by omega)⟩
theorem zan (c:List Int) (σ:Src) (n:Int) (hc:Byt c) (hs:SOk σ):GCon Tryz.prog 183 [srcA c σ,.int n] (.int (nx1 c σ n)) [srcA c (nx2 c σ n),.any]:=by
 have hx:=zta σ.2
 have hy:=zsZ hc σ.1
 have hcl:=hc.1
 unfold SOk at hs
 unfold nx1 nx2
 by_cases h0:n<1
 .rw [if_pos h0,if_pos h0]
  unfold srcA
  refine zaj Tryz.mixed ⟨6,[],[],[]⟩ [0] Tryz.func183 ?_
  rw [Tryz.ntmps183]
  simp [go_sem]
  simp [go_sem,h0]
 .rw [if_neg h0,if_neg h0]
  unfold srcA
  have e1:nxH σ.2=IntKind.u64.wrap (IntKind.u64.wrap (σ.2*6364136223846793005)+1442695040888963407):=rfl
  have e2:nxX σ.2=andI IntKind.u64 (shrI IntKind.u64 (nxH σ.2) 33) 16777215:=rfl
  generalize nxX σ.2=x at *
  generalize nxH σ.2=h' at *
  have n0:¬ n=0:=by omega
  by_cases hk:σ.1<c.length
  .have hb:byV c σ.1=c[σ.1]?.getD 0:=by unfold byV; rw [if_pos hk]
   have hne:¬ c=[]:=by rintro rfl; simp at hk
   rw [if_pos hk]
   rw [hb] at hy |-
   refine zaj Tryz.mixed ⟨6,[],[],[]⟩ [0] Tryz.func183 ?_
   rw [Tryz.ntmps183]
   simp [go_sem]
   simp [go_sem,h0,<- e1,<- e2]
   refine ⟨⟨by omega,by omega⟩,by kernel_rfl,?_⟩
   refine ⟨by kernel_rfl,?_⟩
   simp [go_sem]
   have hD:=zjw hk
   generalize c[σ.1]?.getD 0=b at *
   simp [go_sem,hk,hD]
   refine ⟨by kernel_rfl,by intro e; exact hne (by simpa [bys] using e),⟨by omega,by omega⟩,⟨by omega,by omega⟩,?_⟩
   refine ⟨by kernel_rfl,?_⟩
   simp [go_sem]
   exact ⟨⟨by omega,by omega⟩,n0⟩
  .have hb:byV c σ.1=0:=by unfold byV; rw [if_neg hk]
   rw [if_neg hk]
   rw [hb] at hy |-
   refine zaj Tryz.mixed ⟨6,[],[],[]⟩ [0] Tryz.func183 ?_
   rw [Tryz.ntmps183]
   simp [go_sem]
   simp [go_sem,h0,<- e1,<- e2]
   refine ⟨⟨by omega,by omega⟩,by kernel_rfl,?_⟩
   refine ⟨by kernel_rfl,?_⟩
   simp [go_sem]
   simp [go_sem,hk]
   exact n0
theorem getI {xs:List Int} {v:Int} (h0:0<=v) (h1:v<xs.length):∃ k:Nat,v=k/\k<xs.length/\v.toNat=k:=⟨v.toNat,by omega,by omega,rfl⟩
def pk (c:List Int) (σ:Src) (xs:List Int):Int:=xs[(nx1 c σ xs.length).toNat]?.getD 0
theorem ztG (c:List Int) (hc:Byt c) (σ:Src) {xs:List Int} (hx:0<xs.length):pk c σ xs∈xs:=by
 have h:=zcn hc σ (n:=xs.length) (by omega)
 unfold pk
 have hk:(nx1 c σ xs.length).toNat<xs.length:=by omega
 simp [hk]
theorem zdt (c:List Int) (σ:Src) (xs:List Int) (hc:Byt c) (hs:SOk σ) (hx:0<xs.length) (hxl:xs.length<=1000) :
  GCon Tryz.prog 98 [srcA c σ,.own 2 xs.length (avs xs)] (.int (pk c σ xs)) [srcA c (nx2 c σ xs.length),.any]:=by
 have cN:=zan c σ xs.length hc hs
 have hb:=zcn hc σ (n:=xs.length) (by omega)
 unfold pk
 obtain ⟨k,hk,hkl,hkt⟩:=getI hb.1 hb.2
 rw [hkt]
 rw [hk] at cN
 unfold srcA at *
 refine zaj Tryz.mixed ⟨5,[],[1000000+183],[]⟩ [0] Tryz.func98 ?_
 rw [Tryz.ntmps98]
 simp [go_sem]
 refine ⟨_,_,cN,?_⟩
 simp [go_sem]
 have hA:=zbC hkl
 simp [go_sem,hA]
 exact hkl
theorem zbA (p q:Int) (hp:fits p) (hq:fits q):Con Tryz.prog 209 [.int p,.int q] (.int (p%10007*pw (q%10007) 10005%10007)):=by
 have hf:fits (p%10007*pw (q%10007) 10005):=zay (zak _) (zak _)
 refine zab Tryz.mixed ⟨5,[],[],[]⟩ Tryz.func209 ?_
 rw [Tryz.ntmps209]
 simp [go_sem]
 refine CallVC.of (zcm p hp.1 hp.2) ?_
 simp [go_sem]
 refine CallVC.of (zcm q hq.1 hq.2) ?_
 simp [go_sem]
 refine CallVC.of (zgn _ (zak q)) ?_
 simp [go_sem]
 refine CallVC.of (zaO _ _ hf) ?_
 simp [go_sem]
def nbV (c:List Int) (σ:Src):Int × Src :=
 if nx1 c σ 5=0 then (nx1 c (nx2 c σ 5) 10007,nx2 c (nx2 c σ 5) 10007)
 else if nx1 c σ 5=1 then (pk c (nx2 c σ 5) [0,1,0,1,10006,2],nx2 c (nx2 c σ 5) 6)
 else ((nx1 c (nx2 c σ 5) 15-7)%10007*pw ((1+nx1 c (nx2 c (nx2 c σ 5) 15) 12)%10007) 10005%10007,nx2 c (nx2 c (nx2 c σ 5) 15) 12)
theorem zbW {c:List Int} (hc:Byt c) {σ:Src} (hs:SOk σ):isN (nbV c σ).1/\SOk (nbV c σ).2:=by
 have s1:=zaH hc hs 5
 unfold nbV
 split
 .exact ⟨zcn hc (nx2 c σ 5) (n:=10007) (by omega),zaH hc s1 _⟩
 .split
  .refine ⟨?_,zaH hc s1 _⟩
   have:=ztG c hc (nx2 c σ 5) (xs:=[0,1,0,1,10006,2]) (by simp)
   simp at this
   simp only
   constructor <;> omega
  .exact ⟨zak _,zaH hc (zaH hc s1 _) _⟩
theorem zbr (c:List Int) (σ:Src) (hc:Byt c) (hs:SOk σ):GCon Tryz.prog 184 [srcA c σ] (.int (nbV c σ).1) [srcA c (nbV c σ).2]:=by
 have s1:=zaH hc hs 5
 have s2:=zaH hc s1 15
 have c1:=zan c σ 5 hc hs
 have c2:=zan c (nx2 c σ 5) 10007 hc s1
 have c3:=zdt c (nx2 c σ 5) [0,1,0,1,10006,2] hc s1 (by simp) (by simp)
 have c4:=zan c (nx2 c σ 5) 15 hc s1
 have c5:=zan c (nx2 c (nx2 c σ 5) 15) 12 hc s2
 have b4:=zcn hc (nx2 c σ 5) (n:=15) (by omega)
 have b5:=zcn hc (nx2 c (nx2 c σ 5) 15) (n:=12) (by omega)
 have c6:=zbA (nx1 c (nx2 c σ 5) 15-7) (1+nx1 c (nx2 c (nx2 c σ 5) 15) 12) ⟨by omega,by omega⟩ ⟨by omega,by omega⟩
 unfold nbV
 have e3:(([0,1,0,1,10006,2]:List Int).length:Int)=6:=rfl
 rw [e3] at c3
 generalize pk c (nx2 c σ 5) [0,1,0,1,10006,2]=pv at *
 generalize nx1 c (nx2 c (nx2 c σ 5) 15) 12=v5 at *
 generalize nx2 c (nx2 c (nx2 c σ 5) 15) 12=t5 at *
 generalize nx1 c (nx2 c σ 5) 15=v4 at *
 generalize nx2 c (nx2 c σ 5) 15=t4 at *
 generalize nx2 c (nx2 c σ 5) 6=t3 at *
 generalize nx1 c (nx2 c σ 5) 10007=v2 at *
 generalize nx2 c (nx2 c σ 5) 10007=t2 at *
 generalize nx1 c σ 5=v1 at *
 generalize nx2 c σ 5=t1 at *
 unfold srcA at *
 by_cases h0:v1=0
 .rw [if_pos h0]
  refine zaj Tryz.mixed ⟨3,[],[1000000+183,1000000+98],[]⟩ [0] Tryz.func184 ?_
  rw [Tryz.ntmps184]
  simp [go_sem]
  refine ⟨_,_,c1,?_⟩
  simp [go_sem]
  simp [go_sem,h0]
  refine ⟨_,_,c2,?_⟩
  simp [go_sem]
 .rw [if_neg h0]
  by_cases h1:v1=1
  .rw [if_pos h1]
   refine zaj Tryz.mixed ⟨3,[],[1000000+183,1000000+98],[]⟩ [0] Tryz.func184 ?_
   rw [Tryz.ntmps184]
   simp [go_sem]
   refine ⟨_,_,c1,?_⟩
   simp [go_sem]
   simp [go_sem,h0,h1]
   refine ⟨_,_,c3,?_⟩
   simp [go_sem]
  .rw [if_neg h1]
   refine zaj Tryz.mixed ⟨3,[],[1000000+183,1000000+98],[]⟩ [0] Tryz.func184 ?_
   rw [Tryz.ntmps184]
   simp [go_sem]
   refine ⟨_,_,c1,?_⟩
   simp [go_sem]
   simp [go_sem,h0,h1]
   refine ⟨_,_,c4,?_⟩
   simp [go_sem]
   refine ⟨⟨by omega,by omega⟩,?_⟩
   refine ⟨_,_,c5,?_⟩
   simp [go_sem]
   refine ⟨⟨by omega,by omega⟩,?_⟩
   refine CallVC.of (c6) ?_
   simp [go_sem]
def lsV (f:Src->Int × Src):Nat->Src->List Int × Src
 | 0,σ=>([],σ)
 | n+1,σ=>((f σ).1::(lsV f n (f σ).2).1,(lsV f n (f σ).2).2)
theorem zet {f:Src->Int × Src} (hf:∀ σ,SOk σ->isN (f σ).1/\SOk (f σ).2):∀ (n:Nat) (σ:Src),SOk σ->(lsV f n σ).1.length=n/\Ns (lsV f n σ).1/\SOk (lsV f n σ).2
 | 0,σ,h=>⟨rfl,by simp [lsV,Ns],h⟩
 | n+1,σ,h=>by
  have h1:=hf σ h
  have h2:=zet hf n _ h1.2
  refine ⟨by simp [lsV,h2.1],fun x hx=>?_,h2.2.2⟩
  rcases List.mem_cons.1 hx with rfl | hx
  .exact h1.1
  .exact h2.2.1 x hx
theorem zbI (c:List Int) (σ:Src) (n:Nat) (hc:Byt c) (hs:SOk σ) (hn:n<=100000) :
  GCon Tryz.prog 221 [srcA c σ,.int n] (.own 2 n (avs (lsV (nbV c) n σ).1)) [srcA c (lsV (nbV c) n σ).2,.any]:=by
 unfold srcA
 refine zaj Tryz.mixed ⟨6,[],[1000000+184],[]⟩ [0] Tryz.func221 ?_
 rw [Tryz.ntmps221]
 simp [go_sem]
 refine zac (0::1::5::List.range' 7 9) (fun x:List Int × Src × Nat=>[(0,.box 162 [.sl c.length (bys c),.int x.2.1.1,.val (.int .u64 x.2.1.2)]),(1,.int x.2.2),(5,.own 2 x.1.length (avs x.1))]) (fun x=>SOk x.2.1/\x.1.length+x.2.2=n/\x.1++(lsV (nbV c) x.2.2 x.2.1).1=(lsV (nbV c) n σ).1/\(lsV (nbV c) x.2.2 x.2.1).2=(lsV (nbV c) n σ).2) (fun x=>x.2.2) ([],σ,n) ⟨hs,by simp,rfl,rfl⟩ (by simp [go_sem,avs]) (by simp [go_sem]) ?_
 rintro ⟨acc,τ,k⟩ ⟨h1,h2,h3,h4⟩
 simp only at h1 h2 h3 h4
 simp [go_sem]
 refine ⟨fun h=>?_,fun h=>?_⟩ <;> simp at h
 .obtain ⟨j,rfl⟩:∃ j,k=j+1:=⟨k-1,by omega⟩
  have cN:=zbr c τ hc h1
  have hok:=zbW hc h1
  unfold srcA at cN
  simp only [lsV] at h3 h4
  generalize nbV c τ=r at *
  simp [go_sem]
  refine ⟨_,_,cN,?_⟩
  simp [go_sem]
  refine ⟨⟨by omega,by omega⟩,by omega,acc++[r.1],r.2.1,r.2.2,j,⟨hok.2,by simp; omega,by simpa using h3,h4⟩,by omega,zaa _ _ _ (by simp),?_⟩
  simp [avs]
 .have e:k=0:=by omega
  subst e
  simp only [lsV,List.append_nil] at h3 h4
  simp [go_sem]
  rw [<- h3,<- h4]
  simp at h2
  simp [h2]
theorem zly (c:List Int) (hc:Byt c):RCon Tryz.prog 96 [.sl c.length (bys c)] (fun r o=>o=[.any]/\∃ h,r=srcA c (0,h)):=by
 have hcl:=hc.1
 unfold srcA
 refine zaC Tryz.mixed ⟨5,[],[],[]⟩ [] Tryz.func96 ?_
 rw [Tryz.ntmps96]
 simp [go_sem]
 refine zac (3::4::List.range' 12 25) (fun x:Nat × Int=>[(3,.box 162 [.sl c.length (bys c),.int 0,.val (.int .u64 x.2)]),(4,.int x.1)]) (fun x=>x.1<=c.length) (fun x=>c.length-x.1) (0,IntKind.u64.wrap (5381+IntKind.u64.wrap c.length)) (by simp) (by simp [go_sem]) (by simp [go_sem]) ?_
 rintro ⟨i,h⟩ hi
 simp only at hi
 by_cases hic:i<c.length
 .have h4:(i:Int)<4096:=by omega
  have hne:¬ c=[]:=by rintro rfl; simp at hic
  have hD:=zjw hic
  have hb:=hc.get i
  generalize c[i]?.getD 0=b at *
  simp [go_sem,hic,h4,hD]
  refine ⟨by kernel_rfl,by intro e; exact hne (by simpa [bys] using e),?_⟩
  refine ⟨by kernel_rfl,?_⟩
  simp [go_sem]
  exact ⟨⟨by omega,by omega⟩,i+1,by omega,by omega,zaa _ _ _ (by simp),by omega⟩
 .simp [go_sem,hic]
theorem zfT (a b:List Int) (ha:a.length<=9223372036854775807):Con Tryz.prog 22 [.sl a.length (avs a),.sl b.length (avs b)] (.bool (decide (a=b))):=by
 by_cases hl:a.length=b.length
 .refine zab Tryz.mixed ⟨6,[],[],[]⟩ Tryz.func22 ?_
  rw [Tryz.ntmps22]
  simp [go_sem]
  simp [go_sem,hl]
  refine zac (4::5::List.range' 11 15) (fun i:Nat=>[(5,.int i)]) (fun i=>i<=a.length/\∀ j,j<i->a[j]?.getD 0=b[j]?.getD 0) (fun i=>a.length-i) 0 (by simp) (by simp [go_sem]) (by simp [go_sem]) ?_
  rintro i ⟨hi,hj⟩
  simp [go_sem]
  refine ⟨fun h=>?_,fun h=>?_⟩ <;> simp at h
  .have hia:i<a.length:=by omega
   have hib:i<b.length:=by omega
   have na:¬ a=[]:=by rintro rfl; simp at hia
   have nb:¬ b=[]:=by rintro rfl; simp at hib
   simp [go_sem,zap hia,zap hib]
   refine ⟨by kernel_rfl,⟨hib,na⟩,⟨hib,nb⟩,?_⟩
   refine ⟨by kernel_rfl,?_⟩
   simp [go_sem]
   refine ⟨fun h2=>?_,fun h2=>?_⟩ <;> simp at h2
   .have e:¬ a=b:=fun e=>h2 (by rw [e])
    simp [go_sem,e]
   .simp [go_sem]
    refine ⟨by omega,i+1,⟨by omega,fun j hj2=>?_⟩,by omega,zaa _ _ _ (by simp),by omega⟩
    rcases Nat.lt_or_ge j i with h3 | h3
    .exact hj j h3
    .have:j=i:=by omega
     subst this
     exact h2
  .have e:a=b:=by
    refine List.ext_getElem hl fun k h1 h2=>?_
    have:=hj k (by omega)
    simpa [h1,h2] using this
   simp [go_sem,e]
 .have e:¬ a=b:=fun e=>hl (by rw [e])
  have hl2:¬ (a.length:Int)=b.length:=by omega
  refine zab Tryz.mixed ⟨6,[],[],[]⟩ Tryz.func22 ?_
  rw [Tryz.ntmps22]
  simp [go_sem]
  simp [go_sem,hl2,e]
end Go.Proofs.YthhdollpkieknaaGreat


namespace Go.Proofs.YthhdollpkieknaaGreat
open Go.Abs
theorem zbZ (n:Nat) (hn:n<=6):Con Tryz.prog 130 [.int n] (.own 25 (trN n).length (omat (trN n))):=by
 refine zab Tryz.mixed ⟨5,[],[],[]⟩ Tryz.func130 ?_
 rw [Tryz.ntmps130]
 simp [go_sem]
 refine zac ([3,4]++List.range' 6 9) (fun i:Nat=>[(3,.own 25 (trN i).length (omat (trN i))),(4,.int (i+1))]) (fun i=>i<=n) (fun i=>n-i) 0 (by simp) (by simp [go_sem,trN,omat]) (by simp [go_sem]) ?_
 intro i hi
 have l0:=zhf i (by omega)
 by_cases hin:i<n
 .have hii:(i:Int)+1<=n:=by omega
  have cT:=zfZ (i+1) (by omega) (by omega)
  have l1:=zhf (i+1) (by omega)
  have ts:=zjF i
  have tl:=congrArg List.length ts
  rw [List.length_append] at tl
  have ot:omat (trN (i+1))=omat (trN i)++omat (genT 200 (upTo (i+1))):=by rw [ts]; simp [omat]
  have ec:((i+1:Nat):Int)=(i:Int)+1:=by omega
  rw [ec] at cT
  generalize genT 200 (upTo (i+1))=G at *
  simp [go_sem,hii]
  refine CallVC.of (cT) ?_
  simp [go_sem]
  exact ⟨⟨by omega,by omega⟩,⟨by omega,by omega⟩,i+1,by omega,by omega,zaa _ _ _ (by simp),by rw [tl,ot]; exact ⟨rfl,rfl⟩,by omega⟩
 .have e:i=n:=by omega
  subst e
  have hii:¬ (i:Int)+1<=i:=by omega
  simp [go_sem,hii]
def fdL:List (List Int)->List Int->Nat->Int
 | [],_,_ => -1
 | x::L,t,i=>if x=t then (i:Int) else fdL L t (i+1)
theorem zkA:∀ (L:List (List Int)) (t:List Int) (i:Nat),-1<=fdL L t i/\fdL L t i<=L.length+i
 | [],_,i=>by simp [fdL]
 | x::L,t,i=>by
  rw [fdL]
  split
  .simp; omega
  .have:=zkA L t (i+1)
   simp only [List.length_cons]; omega
theorem zhU (L:List (List Int)) (t:List Int) (hL:L.length<=1048576) (hr:∀ r∈L,r.length<=1048576):Con Tryz.prog 189 [.sl L.length (mat L),.sl t.length (avs t)] (.int (fdL L t 0)):=by
 refine zab Tryz.mixed ⟨6,[],[],[]⟩ Tryz.func189 ?_
 rw [Tryz.ntmps189]
 simp [go_sem]
 refine zac (4::5::List.range' 6 13) (fun i:Nat=>[(5,.int i)]) (fun i=>i<=L.length/\fdL L t 0=fdL (L.drop i) t i) (fun i=>L.length-i) 0 (by simp) (by simp [go_sem]) (by simp [go_sem]) ?_
 rintro i ⟨hi,he⟩
 by_cases h:i<L.length
 .have hii:(i:Int)<L.length:=by omega
  have ne:¬ L=[]:=by rintro rfl; simp at h
  have md:=zas h
  have cS:=zb9 (L[i]?.getD []) t (by have:=hr _ (memD [] h); omega)
  have dl:L.drop i=L[i]?.getD []::L.drop (i+1):=by rw [List.drop_eq_getElem_cons h]; simp [h]
  rw [dl,fdL] at he
  generalize L[i]?.getD []=r at *
  by_cases hrt:r=t
  .rw [if_pos hrt] at he
   subst hrt
   simp only [decide_true] at cS
   simp [go_sem,hii,md]
   refine ⟨ne,?_⟩
   refine CallVC.of (cS) ?_
   simp [go_sem]
   exact he.symm
  .rw [if_neg hrt] at he
   simp only [hrt,decide_false] at cS
   simp [go_sem,hii,md]
   refine ⟨ne,?_⟩
   refine CallVC.of (cS) ?_
   simp [go_sem]
   exact ⟨⟨by omega,by omega⟩,i+1,⟨by omega,he⟩,by omega,zaa _ _ _ (by simp),by omega⟩
 .have e:i=L.length:=by omega
  subst e
  have hii:¬ (L.length:Int)<L.length:=by omega
  rw [List.drop_length,fdL] at he
  rw [he]
  simp [go_sem,hii]
theorem zio:Con Tryz.prog 269 [] (.own 2 38 (avs zaU)):=by
 have e:avs zaU=.int 1::List.replicate 37 (.int 0):=by kernel_rfl
 rw [e]
 refine zab Tryz.mixed ⟨2,[],[],[]⟩ Tryz.func269 ?_
 rw [Tryz.ntmps269]
 simp [go_sem]
def adL (a b:List Int) (k:Int):List Int:=(List.range a.length).map fun i=>(iat a i+k*iat b i%10007)%10007
theorem zgq (a b:List Int) (k:Int):(adL a b k).length=a.length:=by simp [adL]
theorem zoZ {a b:List Int} {k:Int} {i:Nat} (h:i<a.length):(adL a b k).take (i+1)=(adL a b k).take i++[(iat a i+k*iat b i%10007)%10007]:=by
 rw [List.take_succ_eq_append_getElem (by rw [zgq]; exact h)]
 simp [adL]
theorem zo7 (a b:List Int) (k:Int) (ha:Ns a) (hb:Ns b) (hk:isN k) (hl:a.length<=1048576) (hab:a.length<=b.length) :
  Con Tryz.prog 311 [.sl a.length (avs a),.sl b.length (avs b),.int k] (.own 2 a.length (avs (adL a b k))):=by
 have tk:=fun i h=>zoZ (a:=a) (b:=b) (k:=k) (i:=i) h
 have tl:(adL a b k).take a.length=adL a b k:=List.take_of_length_le (by rw [zgq]; exact Nat.le_refl _)
 have ll:=zgq a b k
 generalize adL a b k=O at *
 refine zab Tryz.mixed ⟨9,[],[],[]⟩ Tryz.func311 ?_
 rw [Tryz.ntmps311]
 simp [go_sem]
 refine zac (7::8::List.range' 10 20) (fun i:Nat=>[(7,.own 2 i (avs (O.take i))),(8,.int i)]) (fun i=>i<=a.length) (fun i=>a.length-i) 0 (by simp) (by simp [go_sem]) (by simp [go_sem]) ?_
 intro i hi
 by_cases hil:i<a.length
 .have hii:(i:Int)<a.length:=by omega
  have da:=zae hil
  have db:=zae (a:=b) (v:=i) (by omega)
  have na:¬ a=[]:=by rintro rfl; simp at hil
  have nb:¬ b=[]:=by rintro rfl; simp at hab; rw [hab] at hil; simp at hil
  have xN:isN (iat a i):=ha.get i
  have yN:isN (iat b i):=hb.get i
  have f1:=zay hk yN
  have c1:=zaO k (iat b i) f1
  have m1:=zak (k*iat b i)
  have q1:=m1.1; have q2:=m1.2; have q3:=xN.1; have q4:=xN.2
  have c2:=zcp (iat a i) (k*iat b i%10007) ⟨by omega,by omega⟩
  have t1:=tk i hil
  generalize iat a i=x at *
  generalize iat b i=y at *
  simp [go_sem,hii,da,db]
  refine ⟨by kernel_rfl,na,⟨by omega,nb⟩,?_⟩
  refine CallD.of (c1) ?_
  simp [go_sem]
  refine CallD.of (c2) ?_
  simp [go_sem]
  refine ⟨⟨by omega,by omega,by omega⟩,?_⟩
  refine ⟨by kernel_rfl,?_⟩
  simp [go_sem]
  refine ⟨⟨by omega,by omega⟩,i+1,by omega,by omega,zaa _ _ _ (by simp),?_⟩
  have em:(x+k*y%10007)%10007=(x+k*y)%10007:=by omega
  rw [t1,zav,em]
  exact ⟨⟨rfl,rfl⟩,by omega⟩
 .have e:i=a.length:=by omega
  subst e
  have hii:¬ (a.length:Int)<a.length:=by omega
  rw [tl]
  simp [go_sem,hii]
theorem zf7 (a:List Int) (k:Int) (ha:N38 a) (hk:isN k):Con Tryz.prog 213 [.sl a.length (avs a),.int k] (.own 2 38 (avs (scS k a))):=by
 have cA:=zbZ 6 (by omega)
 have l6:=zaQ
 have e6:((6:Nat):Int)=6:=rfl
 rw [e6,l6] at cA
 have tk:=fun i (h:i<38)=>zju k a h
 have ta:=(zex k a).take
 have lo:=(zex k a).1
 have la:=ha.1
 have t1:=tk 0 (by omega)
 have na:=ha.ne
 have r0:=ha.at 0
 have e0:iat a 0*k ^ nd 0%10007=iat a 0:=by
  show iat a 0*k ^ 0%10007=iat a 0
  rw [Int.pow_zero,Int.mul_one,Int.emod_eq_of_lt r0.1 r0.2]
 rw [e0,List.take_zero,List.nil_append] at t1
 have a0:=zae (a:=a) (v:=0) (by omega)
 rw [List.drop_zero,List.drop_one] at a0
 generalize scS k a=O at *
 refine zab Tryz.mixed ⟨8,[],[],[]⟩ Tryz.func213 ?_
 rw [Tryz.ntmps213]
 simp [go_sem]
 refine ⟨by kernel_rfl,?_⟩
 refine CallD.of (cA) ?_
 simp [go_sem]
 simp [go_sem,a0]
 refine ⟨⟨by omega,na⟩,?_⟩
 refine ⟨by kernel_rfl,?_⟩
 simp [go_sem]
 refine zac (6::7::List.range' 13 22) (fun i:Nat=>[(6,.own 2 (i+1) (avs (O.take (i+1)))),(7,.int i)]) (fun i=>i<=37) (fun i=>37-i) 0 (by simp) (by simp [go_sem,t1,avs]) (by simp [go_sem]) ?_
 intro i hi
 by_cases hil:i<37
 .have hii:(i:Int)<37:=by omega
  have dr:=zae (a:=a) (v:=i+1) (by omega)
  rw [a0,List.drop_succ_cons] at dr
  have ht:i<(trN 6).length:=by omega
  have og:=zbF ht
  have e:=zhM hil
  rw [e] at og
  have n6:=zhe (i:=i+1) (by omega)
  have c2:=zeI k (nd (i+1)) hk (by omega) (by omega)
  have pN:=pw_N k (nd (i+1))
  have xN:isN (iat a (i+1)):=ha.Ns.get (i+1)
  have f1:=zay xN pN
  have c3:=zaO (iat a (i+1)) (pw k (nd (i+1))) f1
  have e2:iat a (i+1)*k ^ nd (i+1)%10007=iat a (i+1)*pw k (nd (i+1))%10007:=by
   refine zag rfl ?_
   unfold pw
   rw [Int.emod_emod_of_dvd _ (Int.dvd_refl _)]; rfl
  have t2:=tk (i+1) (by omega)
  rw [e2] at t2
  generalize iat a (i+1)=x at *
  generalize pw k (nd (i+1))=y at *
  generalize nd (i+1)=m at *
  generalize (trN 6)[i]?.getD []=t at *
  have ei:((i:Int)+1)=((i+1:Nat):Int):=by omega
  simp [go_sem,hii,og,dr]
  refine ⟨by kernel_rfl,⟨by omega,by omega⟩,⟨by omega,by omega⟩,?_⟩
  refine CallD.of (c2) ?_
  simp [go_sem]
  refine CallD.of (c3) ?_
  simp [go_sem]
  refine ⟨⟨by omega,by omega,by omega⟩,?_⟩
  refine ⟨by kernel_rfl,?_⟩
  simp [go_sem]
  refine ⟨⟨by omega,by omega⟩,i+1,by omega,by omega,zaa _ _ _ (by simp),?_⟩
  rw [t2,zav]
  exact ⟨⟨rfl,rfl⟩,by omega⟩
 .have e:i=37:=by omega
  subst e
  rw [ta]
  simp [go_sem]
end Go.Proofs.YthhdollpkieknaaGreat


namespace Go.Proofs.YthhdollpkieknaaGreat
open Go.Abs
def rtF (t:List Int):Nat->List Ctd
 | 0=>[]
 | n+1=>put4 (rtF t n) (tuF 6 t n)
def rtOk (t:List Int):Bool:=decide (1<=t.length) && (decide (t.length<=6) && ((List.range t.length).all fun k=>tuOk 6 t k && (decide ((tuF 6 t k).length<=1000) && (decide ((rtF t k).length<=1000) && (rtF t k).all fun s=>decide (s.1.length<=1000) && (decide (0<=s.2) && decide (s.2<=1000))))))
theorem zl5 {t:List Int} (h:rtOk t=true):1<=t.length/\t.length<=6/\∀ k,k<t.length->tuOk 6 t k=true/\(tuF 6 t k).length<=1000/\(rtF t k).length<=1000/\∀ s∈rtF t k,s.1.length<=1000/\0<=s.2/\s.2<=1000:=by
 unfold rtOk at h
 simp only [Bool.and_eq_true,decide_eq_true_eq,List.all_eq_true,List.mem_range] at h
 exact h
theorem zpS (L:List Ctd) (u:List Int) (hl:L.length<=1000) (hu:u.length<=1000) (hL:∀ s∈L,s.1.length<=1000/\0<=s.2/\s.2<=1000):GCon Tryz.prog 352 [.sl L.length (L.flatMap ctd),.own 2 u.length (avs u),.int 1] (.sl (put4 L u).length ((put4 L u).flatMap ctd)) [.any,.any,.any]:=by
 have h:=zoC L u hl hu hL
 refine GCon.frzA (args:=[.sl L.length (L.flatMap ctd),.own 2 u.length (avs u),.int 1]) (outs:=[.any,.any,.any]) ?_
 simpa [frzL,frz,zd5,znh] using h
theorem zli (t:List Int) (h:rtOk t=true):GCon Tryz.prog 314 [.sl t.length (avs t)] (.sl (rtF t t.length).length ((rtF t t.length).flatMap ctd)) [.any]:=by
 obtain ⟨t1,t6,hk⟩:=zl5 h
 obtain ⟨m,hm⟩:∃ m,t.length=m+1:=⟨t.length-1,by omega⟩
 have cT:=fun k (h:k<t.length)=>zdS 6 t k (hk k h).1
 have cP:∀ k,k<t.length->GCon Tryz.prog 352 [.sl (rtF t k).length ((rtF t k).flatMap ctd),.own 2 (tuF 6 t k).length (avs (tuF 6 t k)),.int 1] (.sl (rtF t (k+1)).length ((rtF t (k+1)).flatMap ctd)) [.any,.any,.any]:=fun k h=>zpS (rtF t k) (tuF 6 t k) (hk k h).2.2.1 (hk k h).2.1 (hk k h).2.2.2
 have r0:rtF t 0=[]:=rfl
 generalize rtF t=R at *
 generalize tuF 6 t=U at *
 clear hk h
 refine zaj Tryz.mixed ⟨5,[5],[1000000+352],[]⟩ [] Tryz.func314 ?_
 rw [Tryz.ntmps314]
 simp [go_sem]
 refine zac (3::4::List.range' 6 11) (fun k:Nat=>[(3,.sl (R k).length ((R k).flatMap ctd)),(4,.int k)]) (fun k=>k<=t.length) (fun k=>t.length-k) 0 (by simp) (by simp [go_sem,r0]) (by simp [go_sem]) ?_
 intro k hk
 by_cases hkl:k<t.length
 .have hki:(k:Int)<t.length:=by omega
  have cT:=cT k hkl
  have cP:=cP k hkl
  simp [go_sem,hki]
  refine CallVC.of (cT) ?_
  simp [go_sem]
  refine ⟨_,_,cP,?_⟩
  simp [go_sem]
  exact ⟨⟨by omega,by omega⟩,k+1,by omega,by omega,zaa _ _ _ (by simp),⟨rfl,rfl⟩,by omega⟩
 .have e:k=t.length:=by omega
  subst e
  have hki:¬ (t.length:Int)<t.length:=by omega
  simp [go_sem,hki]
def dbA (t:List Int) (k:Nat):Bool:=decide ((rsT t k).length=(brT t k).length) && decide (tuF 6 (rsT t k) (paT t k)=canF 6 (brT t k))
def dbT (t:List Int):Bool:=(List.range t.length).any fun k=>decide (1<=k) && dbA t k
def dbOk (t:List Int):Bool:=decide (1<=t.length) && (decide (t.length<=6) && ((t.all fun x=>decide (0<=x) && decide (x<=1000)) && (List.range t.length).all fun k=>decide (k=0) || (decide (0<=parK t (iat t k) k) && (lv0 (rsT t k) && (lv0 (brT t k) && (tuOk 6 (rsT t k) (paT t k) && decide ((tuF 6 (rsT t k) (paT t k)).length<=1000)))))))
theorem ziO (t:List Int) (h:dbOk t=true):Con Tryz.prog 376 [.sl t.length (avs t)] (.bool (dbT t)):=by
 unfold dbOk at h
 simp only [Bool.and_eq_true,Bool.or_eq_true,decide_eq_true_eq,List.all_eq_true,List.mem_range] at h
 obtain ⟨t1,t6,bt,hk⟩:=h
 have ng:¬ t=[]:=by rintro rfl; simp at t1
 have yes:∀ k,1<=k->k<t.length->dbA t k=true->dbT t=true:=fun k h1 h2 h3=>by
  unfold dbT
  rw [List.any_eq_true]
  exact ⟨k,List.mem_range.2 h2,by rw [h3,Bool.and_true]; simpa using h1⟩
 have no:(∀ k,1<=k->k<t.length->dbA t k=false)->dbT t=false:=fun h=>by
  unfold dbT
  rw [List.any_eq_false]
  intro k hk
  by_cases h1:1<=k
  .rw [h k h1 (List.mem_range.1 hk)]; simp
  .simp [h1]
 generalize dbT t=D at *
 refine zab Tryz.mixed ⟨9,[],[],[]⟩ Tryz.func376 ?_
 rw [Tryz.ntmps376]
 simp [go_sem]
 refine zac (2::3::4::5::6::7::8::List.range' 9 49) (fun k:Nat=>[(3,.int k)]) (fun k=>(1<=k/\k<=t.length)/\∀ j,1<=j->j<k->dbA t j=false) (fun k=>t.length-k) 1 ⟨by omega,fun j h1 h2=>by omega⟩ (by simp [go_sem]) (by simp [go_sem]) ?_
 rintro k ⟨⟨k1,k2⟩,hn⟩
 by_cases hkl:k<t.length
 .have hki:(k:Int)<t.length:=by omega
  obtain ⟨p0,v1,v2,o1,lu⟩:=(hk k hkl).resolve_left (by omega)
  have v1:=zkq v1
  have v2:=zkq v2
  have cC:=zpj t k hkl t6 bt v1 v2
  have cT:=zdS 6 (rsT t k) (paT t k) o1
  have cE:=zeA t k hkl (by omega)
  have cO:=zbl (t.take k) (by simp; omega)
  have lk:(t.take k).length=k:=by rw [List.length_take]; omega
  rw [lk] at cO
  have eb:=zic t (iat t k) (e:=k+1) (by omega)
  have ee:enT t k=enF t (iat t k) (k+1):=rfl
  rw [<- ee] at eb
  have lr:(rsT t k).length<=6:=by unfold rsT; simp; omega
  have lb:(brT t k).length<=6:=by unfold brT; simp; omega
  have cl1:=zaK 6 _ v1 lr
  have cl2:=zaK 6 _ v2 lb
  have cS:=zb9 (tuF 6 (rsT t k) (paT t k)) (canF 6 (brT t k)) (by omega)
  have hA:dbA t k=(decide ((rsT t k).length=(brT t k).length) && decide (tuF 6 (rsT t k) (paT t k)=canF 6 (brT t k))):=rfl
  have hyes:=yes k k1 hkl
  have hno:dbA t k=false->∀ j,1<=j->j<k+1->dbA t j=false:=fun h j h1 h2=>by
   rcases Nat.lt_or_ge j k with h3 | h3
   .exact hn j h1 h3
   .have:j=k:=by omega
    subst this; exact h
  have hRs:rsT t k=t.take k++t.drop (enT t k):=rfl
  have hpa:(paT t k:Int)=parK t (iat t k) k:=by unfold paT; omega
  have hF:=hpa.symm
  have pb:=zji t (iat t k) k
  rw [<- hpa] at pb
  have dk:=zae hkl
  have bk:0<=iat t k/\iat t k<=1000:=bt _ (memD 0 hkl)
  rw [cl1,cl2] at cC
  generalize dbA t k=dA at *
  generalize decide (tuF 6 (rsT t k) (paT t k)=canF 6 (brT t k))=bS at *
  generalize canF 6 (rsT t k)=C1 at *
  generalize canF 6 (brT t k)=C2 at *
  generalize tuF 6 (rsT t k) (paT t k)=V at *
  generalize rsT t k=R at *
  generalize brT t k=B at *
  generalize paT t k=q at *
  generalize enT t k=e at *
  generalize iat t k=x at *
  simp [go_sem,hki]
  refine CallVC.of (cC) ?_
  simp [go_sem]
  refine ⟨⟨by omega,by omega⟩,?_⟩
  refine zac (6::List.range' 23 12) (fun j:Nat=>[(6,.int ((j:Int)-1))]) (fun j=>j<=k/\parK t x j=q) (fun j=>j) k ⟨Nat.le_refl _,hF⟩ (by simp [go_sem]) (by simp [go_sem]) ?_
  rintro j ⟨h1,h2⟩
  cases j with
  | zero =>
   have e:parK t x 0 = -1:=rfl
   rw [e] at h2
   omega
  | succ j =>
   have dj:=zae (a:=t) (v:=j) (by omega)
   have bj:0<=iat t j/\iat t j<=1000:=bt _ (memD 0 (show j<t.length by omega))
   have e1:((j+1:Nat):Int)-1=j:=by omega
   rw [e1]
   rw [show parK t x (j+1)=if iat t j=x-1 then (j:Int) else parK t x j from rfl] at h2
   generalize iat t j=y at *
   by_cases hy:y=x-1
   .rw [if_pos hy] at h2
    have hjq:j=q:=by omega
    subst hjq
    refine ⟨by kernel_rfl,?_⟩
    simp [go_sem,dk,dj,hy]
    refine ⟨⟨by omega,ng⟩,⟨hkl,ng⟩,⟨by omega,by omega⟩,?_⟩
    refine ⟨by kernel_rfl,?_⟩
    simp [go_sem]
    refine CallVC.of (cE) ?_
    simp [go_sem]
    refine ⟨by kernel_rfl,by omega,?_⟩
    rw [show List.take k (avs t)=avs (t.take k) from by simp [avs,List.map_take]]
    refine CallD.of (cO) ?_
    simp [go_sem]
    refine ⟨eb.2,⟨by omega,by omega,by omega⟩,?_⟩
    refine ⟨by kernel_rfl,?_⟩
    simp [go_sem]
    have eR:avs (t.take k)++List.take (t.length-e) (List.drop e (avs t))=avs R:=by
     rw [show List.drop e (avs t)=avs (t.drop e) from by simp [avs,List.map_drop],List.take_of_length_le (l:=avs (t.drop e)) (by simp),hRs]; simp [avs]
    have lR:k+(t.length-e)=R.length:=by rw [hRs]; simp; omega
    rw [eR,lR]
    by_cases hl:R.length=B.length
    .rw [decide_eq_true hl,Bool.true_and] at hA
     simp [go_sem,hl]
     rw [hl] at cT
     rw [cl2] at cS
     refine CallVC.of (cT) ?_
     simp [go_sem]
     refine CallVC.of (cS) ?_
     simp [go_sem]
     cases bS with
     | true =>
      rw [hyes hA]
      simp [go_sem]
     | false =>
      have hA:=hno hA
      simp [go_sem]
      exact ⟨⟨by omega,by omega⟩,k+1,⟨⟨by omega,by omega⟩,hA⟩,by omega,(Off.reset (by intro x hx; simp at hx |-; omega) (by simp) (by simp [go_sem,zaa])),by omega⟩
    .rw [decide_eq_false hl,Bool.false_and] at hA
     have hli:¬ (R.length:Int)=B.length:=by omega
     have hA:=hno hA
     simp [go_sem,hli]
     exact ⟨⟨by omega,by omega⟩,k+1,⟨⟨by omega,by omega⟩,hA⟩,by omega,(Off.reset (by intro x hx; simp at hx |-; omega) (by simp) (by simp [go_sem,zaa])),by omega⟩
   .rw [if_neg hy] at h2
    refine ⟨by kernel_rfl,?_⟩
    simp [go_sem,dk,dj,hy]
    refine ⟨⟨by omega,ng⟩,⟨hkl,ng⟩,⟨by omega,by omega⟩,?_⟩
    refine ⟨by kernel_rfl,?_⟩
    simp [go_sem]
    exact ⟨⟨by omega,by omega⟩,j,⟨by omega,h2⟩,by omega,zaa _ _ _ (by simp),by omega⟩
 .have e:k=t.length:=by omega
  subst e
  have hki:¬ (t.length:Int)<t.length:=by omega
  rw [no hn]
  simp [go_sem,hki]
end Go.Proofs.YthhdollpkieknaaGreat


namespace Go.Proofs.YthhdollpkieknaaGreat
open Go.Abs
end Go.Proofs.YthhdollpkieknaaGreat


namespace Go.Proofs.YthhdollpkieknaaGreat
open Go.Abs
def rt0 (t:List Int):List Int:=((rtF t t.length)[0]?.getD ([],0)).1
def isFr (t:List Int):Bool:=decide (rt0 t=t) && !dbT t
def freT (n:Nat):List (List Int):=(genT 200 (upTo n)).filter isFr
def zgs (t:List Int):Bool:=rtOk t && (dbOk t && (decide (1<=(rtF t t.length).length) && decide ((rt0 t).length<=1000)))
theorem zrW:(List.range 6).all (fun n=>decide ((genT 200 (upTo (n+1))).length<=1000) && (genT 200 (upTo (n+1))).all zgs)=true:=by decide +kernel
theorem zrd:(trN 6).all zgs=true:=by decide +kernel
theorem zkC {t:List Int} (h:zgs t=true):rtOk t=true/\dbOk t=true/\(rt0 t).length<=1000/\∃ (m:Nat) (c:Int) (Y:List AV),(rtF t t.length).length=m+1/\(rtF t t.length).flatMap ctd=.sl (rt0 t).length (avs (rt0 t))::.int c::Y:=by
 unfold zgs at h
 simp only [Bool.and_eq_true,decide_eq_true_eq] at h
 obtain ⟨h1,h2,h3,h4⟩:=h
 refine ⟨h1,h2,h4,(rtF t t.length).length-1,((rtF t t.length)[0]?.getD ([],0)).2,((rtF t t.length).drop 1).flatMap ctd,by omega,?_⟩
 have:=zkw (L:=rtF t t.length) (i:=0) (by omega)
 rw [Nat.zero_mul,List.drop_zero] at this
 rw [this]; rfl
theorem zeh {t:List Int} (h:zgs t=true):∃ (m:Nat) (c:Int) (Y:List AV),GCon Tryz.prog 314 [.sl t.length (avs t)] (.sl (m+1) (.sl (rt0 t).length (avs (rt0 t))::.int c::Y)) [.any]:=by
 obtain ⟨h1,h2,h3,m,c,Y,h4,h5⟩:=zkC h
 have cR:=zli t h1
 rw [h4,h5] at cR
 exact ⟨m,c,Y,cR⟩
theorem zpB {L:List (List Int)} {f:List Int->Bool} {i:Nat} (h:i<L.length):(L.take (i+1)).filter f=(L.take i).filter f++if f (L[i]?.getD [])=true then [L[i]?.getD []] else []:=by
 rw [List.take_succ_eq_append_getElem h,List.filter_append,List.getElem?_eq_getElem h,Option.getD_some]
 congr 1
 simp only [List.filter_cons,List.filter_nil]
theorem zmY (n:Nat) (h1:1<=n) (h6:n<=6):GCon Tryz.prog 351 [.int n] (.own 25 (freT n).length (mat (freT n))) [.any]:=by
 have cT:=zfZ n h1 h6
 have ok:=List.all_eq_true.1 zrW (n-1) (List.mem_range.2 (by omega))
 rw [show n-1+1=n by omega,Bool.and_eq_true,decide_eq_true_eq,List.all_eq_true] at ok
 obtain ⟨lL,ok⟩:=ok
 unfold freT
 have tl:=fun i (h:i<(genT 200 (upTo n)).length)=>zpB (f:=isFr) h
 generalize genT 200 (upTo n)=L at *
 refine zaj Tryz.mixed ⟨6,[7],[1000000+314],[]⟩ [] Tryz.func351 ?_
 rw [Tryz.ntmps351]
 simp [go_sem]
 refine CallVC.of (cT) ?_
 simp [go_sem]
 refine zac (4::5::List.range' 9 34) (fun i:Nat=>[(4,.own 25 ((L.take i).filter isFr).length (mat ((L.take i).filter isFr))),(5,.int i)]) (fun i=>i<=L.length) (fun i=>L.length-i) 0 (by simp) (by simp [go_sem,mat]) (by simp [go_sem]) ?_
 intro i hi
 by_cases hil:i<L.length
 .have hii:(i:Int)<L.length:=by omega
  have ne:¬ L=[]:=by rintro rfl; simp at hil
  have md:=zas hil
  have t1:=tl i hil
  have okt:=ok _ (memD [] hil)
  obtain ⟨m,c,Y,cR⟩:=zeh okt
  obtain ⟨o1,o2,o3,_⟩:=zkC okt
  have cS:=zb9 (rt0 (L[i]?.getD [])) (L[i]?.getD []) (by omega)
  have cD:=ziO _ o2
  have eF:isFr (L[i]?.getD [])=(decide (rt0 (L[i]?.getD [])=L[i]?.getD []) && !dbT (L[i]?.getD [])):=rfl
  generalize isFr (L[i]?.getD [])=F at *
  generalize dbT (L[i]?.getD [])=D at *
  generalize decide (rt0 (L[i]?.getD [])=L[i]?.getD [])=E at *
  generalize rt0 (L[i]?.getD [])=z at *
  generalize L[i]?.getD []=t at *
  cases E with
  | false =>
   rw [Bool.false_and] at eF
   subst eF
   simp [go_sem,hii,md]
   refine ⟨by kernel_rfl,ne,?_⟩
   refine ⟨_,_,cR,?_⟩
   simp [go_sem]
   refine ⟨⟨hil,ne⟩,?_⟩
   simp [go_sem,md]
   refine CallD.of (cS) ?_
   simp [go_sem]
   refine ⟨by kernel_rfl,?_⟩
   simp [go_sem]
   rw [if_neg (by decide),List.append_nil] at t1
   exact ⟨⟨by omega,by omega⟩,i+1,by omega,by omega,zaa _ _ _ (by simp),by rw [t1]; exact ⟨rfl,rfl⟩,by omega⟩
  | true =>
   rw [Bool.true_and] at eF
   cases D with
   | true =>
    have eF:F=false:=eF
    subst eF
    simp [go_sem,hii,md]
    refine ⟨by kernel_rfl,ne,?_⟩
    refine ⟨_,_,cR,?_⟩
    simp [go_sem]
    refine ⟨⟨hil,ne⟩,?_⟩
    simp [go_sem,md]
    refine CallD.of (cS) ?_
    simp [go_sem]
    refine ⟨⟨hil,ne⟩,?_⟩
    simp [go_sem,md]
    refine CallD.of (cD) ?_
    simp [go_sem]
    refine ⟨by kernel_rfl,?_⟩
    simp [go_sem]
    rw [if_neg (by decide),List.append_nil] at t1
    exact ⟨⟨by omega,by omega⟩,i+1,by omega,by omega,zaa _ _ _ (by simp),by rw [t1]; exact ⟨rfl,rfl⟩,by omega⟩
   | false =>
    have eF:F=true:=eF
    subst eF
    simp [go_sem,hii,md]
    refine ⟨by kernel_rfl,ne,?_⟩
    refine ⟨_,_,cR,?_⟩
    simp [go_sem]
    refine ⟨⟨hil,ne⟩,?_⟩
    simp [go_sem,md]
    refine CallD.of (cS) ?_
    simp [go_sem]
    refine ⟨⟨hil,ne⟩,?_⟩
    simp [go_sem,md]
    refine CallD.of (cD) ?_
    simp [go_sem]
    refine ⟨by kernel_rfl,?_⟩
    simp [go_sem]
    refine ⟨⟨hil,ne⟩,?_⟩
    simp [go_sem,md]
    rw [if_pos rfl] at t1
    have lf:=List.length_filter_le isFr (L.take i)
    rw [List.length_take] at lf
    have tl:=congrArg List.length t1
    rw [List.length_append] at tl
    exact ⟨⟨by omega,by omega⟩,⟨by omega,by omega⟩,i+1,by omega,by omega,zaa _ _ _ (by simp),by rw [t1]; exact ⟨by simp,by simp [mat]⟩,by omega⟩
 .have e:i=L.length:=by omega
  subst e
  have hii:¬ (L.length:Int)<L.length:=by omega
  rw [List.take_length]
  simp [go_sem,hii]
end Go.Proofs.YthhdollpkieknaaGreat


namespace Go.Proofs.YthhdollpkieknaaGreat
open Go.Abs
theorem zm8 (n:Nat) (h1:1<=n) (h6:n<=6):GCon Tryz.prog 351 [.int n] (.sl (freT n).length (mat (freT n))) [.any] :=
 GCon.frzR (zmY n h1 h6) (by simp [frz,zdV])
def alF:Nat->List (List Int)
 | 0=>[]
 | n+1=>alF n++freT (n+1)
theorem zgP:(List.range 7).all (fun n=>decide ((alF n).length<=10))=true/\(alF 6).length=10/\(alF 6).all (fun r=>decide (r.length<=6))=true:=⟨by decide +kernel,by decide +kernel,by decide +kernel⟩
theorem zp0:GCon Tryz.prog 313 [] (.own 25 10 (mat (alF 6))) []:=by
 have cF:=fun i (h:i<6)=>zm8 (i+1) (by omega) (by omega)
 have hl:=fun i (h:i<=6)=>of_decide_eq_true (List.all_eq_true.1 zgP.1 i (List.mem_range.2 (by omega)))
 have st:∀ i,alF (i+1)=alF i++freT (i+1):=fun i=>rfl
 have a0:alF 0=[]:=rfl
 have l10:=zgP.2.1
 generalize alF=A at *
 generalize freT=F at *
 refine zaj Tryz.mixed ⟨3,[],[1000000+351],[]⟩ [] Tryz.func313 ?_
 rw [Tryz.ntmps313]
 simp [go_sem]
 refine zac (1::2::List.range' 4 8) (fun i:Nat=>[(1,.own 25 (A i).length (mat (A i))),(2,.int (i+1))]) (fun i=>i<=6) (fun i=>6-i) 0 (by simp) (by simp [go_sem,a0,mat]) (by simp [go_sem]) ?_
 intro i hi
 by_cases hil:i<6
 .have hii:(i:Int)+1<=6:=by omega
  have c1:=cF i hil
  have s1:=st i
  have h1:=hl i (by omega)
  have h2:=hl (i+1) (by omega)
  have tl:=congrArg List.length s1
  rw [List.length_append] at tl
  have em:mat (A (i+1))=mat (A i)++mat (F (i+1)):=by rw [s1]; simp [mat]
  have ec:((i+1:Nat):Int)=(i:Int)+1:=by omega
  rw [ec] at c1
  simp [go_sem,hii]
  refine ⟨_,_,c1,?_⟩
  simp [go_sem]
  exact ⟨⟨by omega,by omega⟩,⟨by omega,by omega⟩,i+1,by omega,by omega,zaa _ _ _ (by simp),by rw [tl,em]; exact ⟨rfl,rfl⟩,by omega⟩
 .have e:i=6:=by omega
  subst e
  simp [go_sem]
  exact l10
theorem zpX:GCon Tryz.prog 313 [] (.sl 10 (mat (alF 6))) []:=GCon.frzR zp0 (by simp [frz,zdV])
def sgA (t:List Int) (k:Nat):Bool:=decide (tuF 6 t k=rt0 t) && decide (iat t k%2=0)
def sgT (t:List Int):Int:=if (List.range t.length).any (sgA t)=true then 1 else -1
theorem znI (t:List Int) (h:zgs t=true):Con Tryz.prog 315 [.sl t.length (avs t)] (.int (sgT t)):=by
 obtain ⟨m,c,Y,cR⟩:=zeh h
 obtain ⟨o1,o2,o3,_⟩:=zkC h
 obtain ⟨t1,t6,hk⟩:=zl5 o1
 have bt:∀ x∈t,0<=x/\x<=1000:=by
  unfold dbOk at o2
  simp only [Bool.and_eq_true,Bool.or_eq_true,decide_eq_true_eq,List.all_eq_true,List.mem_range] at o2
  exact o2.2.2.1
 have ng:¬ t=[]:=by rintro rfl; simp at t1
 have yes:∀ k,k<t.length->sgA t k=true->sgT t=1:=fun k h2 h3=>by
  unfold sgT
  rw [if_pos (List.any_eq_true.2 ⟨k,List.mem_range.2 h2,h3⟩)]
 have no:(∀ k,k<t.length->sgA t k=false)->sgT t = -1:=fun h=>by
  unfold sgT
  rw [if_neg]
  intro hh
  obtain ⟨k,h1,h2⟩:=List.any_eq_true.1 hh
  rw [h k (List.mem_range.1 h1)] at h2
  cases h2
 have hA:∀ k,sgA t k=(decide (tuF 6 t k=rt0 t) && decide (iat t k%2=0)):=fun k=>rfl
 have cT:=fun k (h:k<t.length)=>zdS 6 t k (hk k h).1
 have cS:=fun k (h:k<t.length)=>zb9 (tuF 6 t k) (rt0 t) (by have:=(hk k h).2.1; omega)
 clear hk h o1 o2
 generalize sgT t=D at *
 generalize sgA t=G at *
 generalize rt0 t=z at *
 generalize tuF 6 t=U at *
 refine zab Tryz.mixed ⟨5,[],[1000000+314],[]⟩ Tryz.func315 ?_
 rw [Tryz.ntmps315]
 simp [go_sem]
 refine ⟨_,_,cR,?_⟩
 simp [go_sem]
 refine zac (2::4::List.range' 10 19) (fun k:Nat=>[(4,.int k)]) (fun k=>k<=t.length/\∀ j,j<k->G j=false) (fun k=>t.length-k) 0 ⟨by omega,fun j h=>by omega⟩ (by simp [go_sem]) (by simp [go_sem]) ?_
 rintro k ⟨k2,hn⟩
 by_cases hkl:k<t.length
 .have hki:(k:Int)<t.length:=by omega
  have cT:=cT k hkl
  have cS:=cS k hkl
  have hA:=hA k
  have dk:=zae hkl
  have bk:=bt _ (memD 0 hkl)
  have hyes:=yes k hkl
  have hno:G k=false->∀ j,j<k+1->G j=false:=fun h j h2=>by
   rcases Nat.lt_or_ge j k with h3 | h3
   .exact hn j h3
   .have:j=k:=by omega
    subst this; exact h
  have ei:iat t k=t[k]?.getD 0:=rfl
  rw [<- ei] at bk
  generalize G k=g at *
  generalize decide (U k=z)=b at *
  have eq1:iat t k%2=0->decide (iat t k%2=0)=true:=fun h=>decide_eq_true h
  have eq0:¬ iat t k%2=0->decide (iat t k%2=0)=false:=fun h=>decide_eq_false h
  generalize U k=u at *
  generalize iat t k=x at *
  cases b with
  | false =>
   rw [Bool.false_and] at hA
   have hA:=hno hA
   simp [go_sem,hki]
   refine CallVC.of (cT) ?_
   simp [go_sem]
   refine CallVC.of (cS) ?_
   simp [go_sem]
   exact ⟨⟨by omega,by omega⟩,k+1,⟨by omega,hA⟩,by omega,zaa _ _ _ (by simp),by omega⟩
  | true =>
   rw [Bool.true_and] at hA
   by_cases hx:x%2=0
   .have hm:x.tmod 2=0:=by rw [Int.tmod_eq_emod_of_nonneg bk.1]; exact hx
    rw [eq1 hx] at hA
    rw [hyes hA]
    simp [go_sem,hki]
    refine CallVC.of (cT) ?_
    simp [go_sem]
    refine CallVC.of (cS) ?_
    simp [go_sem]
    refine ⟨⟨hkl,ng⟩,?_⟩
    simp [go_sem,dk,hm]
    done
   .have hm:¬ x.tmod 2=0:=by rw [Int.tmod_eq_emod_of_nonneg bk.1]; exact hx
    rw [eq0 hx] at hA
    have hA:=hno hA
    simp [go_sem,hki]
    refine CallVC.of (cT) ?_
    simp [go_sem]
    refine CallVC.of (cS) ?_
    simp [go_sem]
    refine ⟨⟨hkl,ng⟩,?_⟩
    simp [go_sem,dk,hm]
    exact ⟨⟨by omega,by omega⟩,k+1,⟨by omega,hA⟩,by omega,zaa _ _ _ (by simp),by omega⟩
 .have e:k=t.length:=by omega
  subst e
  have hki:¬ (t.length:Int)<t.length:=by omega
  rw [no hn]
  simp [go_sem,hki]
def mkA (t:List Int):Int:=fdL (alF 6) (rt0 t) 0
def mkV (l:List Int) (t:List Int):Int:=if mkA t<0 then 0 else sgT t*iat l (mkA t).toNat%10007
def mk12 (l:List Int):List Int:=0::(trN 6).map (mkV l)
theorem ztu:(trN 6).all (fun t=>decide (mkA t<10))=true:=by decide +kernel
theorem ztp (t:List Int):sgT t=1\/sgT t = -1:=by unfold sgT; split <;> simp
theorem zqQ (l:List Int):N38 (mk12 l):=by
 have l6:=zaQ
 refine ⟨by unfold mk12; rw [List.length_cons,List.length_map,l6],fun x hx=>?_⟩
 unfold mk12 at hx
 rcases List.mem_cons.1 hx with rfl | hx
 .exact ⟨by decide,by decide⟩
 .obtain ⟨t,_,rfl⟩:=List.mem_map.1 hx
  unfold mkV
  split
  .exact ⟨by decide,by decide⟩
  .exact ⟨Int.emod_nonneg _ (by decide),Int.emod_lt_of_pos _ (by decide)⟩
theorem zfs (l:List Int) (hl:l.length=10) (hN:Ns l):Con Tryz.prog 264 [.sl l.length (avs l)] (.own 2 38 (avs (mk12 l))):=by
 have cA:=zbZ 6 (by omega)
 have l6:=zaQ
 have e6:((6:Nat):Int)=6:=rfl
 rw [e6,l6] at cA
 have cF:=zpX
 have a10:=zgP.2.1
 have aR:∀ r∈alF 6,r.length<=1048576:=fun r hr=>by have:=of_decide_eq_true (List.all_eq_true.1 zgP.2.2 r hr); omega
 have okT:=fun t h=>List.all_eq_true.1 zrd t h
 have ltT:=fun t h=>of_decide_eq_true (List.all_eq_true.1 ztu t h)
 have cD:=fun t=>zhU (alF 6) (rt0 t) (by omega) aR
 have cS:=fun t (h:zgs t=true)=>znI t h
 have ge:=fun t=>(zkA (alF 6) (rt0 t) 0).1
 have eA:∀ t,fdL (alF 6) (rt0 t) 0=mkA t:=fun t=>rfl
 have cR:=fun t (h:zgs t=true)=>zeh h
 simp only [eA,a10] at cD ge
 have hV:∀ t,mkV l t=if mkA t<0 then 0 else sgT t*iat l (mkA t).toNat%10007:=fun t=>rfl
 have sg:=ztp
 unfold mk12
 have rl:∀ t,zgs t=true->(rt0 t).length<=1000:=fun t h=>(zkC h).2.2.1
 generalize alF 6=F at *
 generalize mkA=MA at *
 generalize mkV l=V at *
 generalize sgT=SG at *
 generalize rt0=Z at *
 generalize trN 6=L at *
 clear eA
 refine zab Tryz.mixed ⟨8,[8],[1000000+313,1000000+314],[]⟩ Tryz.func264 ?_
 rw [Tryz.ntmps264]
 simp [go_sem]
 refine CallVC.of (cA) ?_
 simp [go_sem]
 refine ⟨_,_,cF,?_⟩
 simp [go_sem]
 refine zac (5::6::7::List.range' 11 35) (fun i:Nat=>[(5,.own 2 (i+1) (avs (0::(L.map V).take i))),(6,.int i)]) (fun i=>i<=37) (fun i=>37-i) 0 (by simp) (by simp [go_sem,avs]) (by simp [go_sem]) ?_
 intro i hi
 by_cases hil:i<37
 .have hii:(i:Int)<37:=by omega
  have hL:i<L.length:=by omega
  have hm:=memD [] hL
  have ok:=okT _ hm
  have lt:=ltT _ hm
  have gt:=ge (L[i]?.getD [])
  have cD:=cD (L[i]?.getD [])
  have cS:=cS _ ok
  have hV:=hV (L[i]?.getD [])
  have sg:=sg (L[i]?.getD [])
  obtain ⟨m,c,Y,cR⟩:=cR _ ok
  have md:=zas hL
  have ne:¬ L=[]:=by rintro rfl; simp at hL
  have hM:i<(L.map V).length:=by rw [List.length_map]; exact hL
  have tk:(L.map V).take (i+1)=(L.map V).take i++[V (L[i]?.getD [])]:=by
   rw [List.take_succ_eq_append_getElem hM,List.getElem_map,List.getElem?_eq_getElem hL]; rfl
  have ll:((L.map V).take i).length=i:=by rw [List.length_take]; omega
  generalize V (L[i]?.getD [])=v at *
  generalize MA (L[i]?.getD [])=q at *
  generalize SG (L[i]?.getD [])=g at *
  generalize Z (L[i]?.getD [])=z at *
  generalize L[i]?.getD []=t at *
  by_cases hq:q<0
  .rw [if_pos hq] at hV
   subst hV
   simp [go_sem,hii,md]
   refine ⟨ne,?_⟩
   refine ⟨_,_,cR,?_⟩
   simp [go_sem]
   refine CallVC.of (cD) ?_
   simp [go_sem]
   simp [go_sem,hq]
   refine ⟨⟨by omega,by omega,by omega⟩,⟨by omega,by omega⟩,i+1,by omega,by omega,zaa _ _ _ (by simp),?_,by omega⟩
   rw [tk]
   refine ⟨by omega,?_⟩
   rw [<- List.cons_append,zav]
  .rw [if_neg hq] at hV
   obtain ⟨n,rfl⟩:∃ n:Nat,q=n:=⟨q.toNat,by omega⟩
   rw [Int.toNat_natCast] at hV
   have dl:=zae (a:=l) (v:=n) (by omega)
   have nl:isN (iat l n):=hN.get n
   have cM:=fun a b=>zcm (g*iat l n) a b
   rw [<- hV] at cM
   have nN:¬ l=[]:=by rintro rfl; simp at hl
   have lx:(n:Int)<l.length:=by omega
   have fm:fits (g*iat l n):=by
    obtain ⟨x0,x1⟩:=nl
    generalize iat l n=y at *
    rcases sg with rfl | rfl
    .exact ⟨by omega,by omega⟩
    .exact ⟨by omega,by omega⟩
   generalize iat l n=y at *
   simp [go_sem,hii,md]
   refine ⟨ne,?_⟩
   refine ⟨_,_,cR,?_⟩
   simp [go_sem]
   refine CallVC.of (cD) ?_
   simp [go_sem]
   simp [go_sem,hq]
   refine ⟨by kernel_rfl,?_⟩
   simp [go_sem,md]
   refine ⟨⟨by omega,ne⟩,?_⟩
   refine CallD.of (cS) ?_
   simp [go_sem]
   refine ⟨⟨by omega,nN⟩,?_⟩
   simp [go_sem,dl]
   refine ⟨⟨fm.1,fm.2⟩,?_⟩
   refine CallD.of ((cM fm.1 fm.2)) ?_
   simp [go_sem]
   refine ⟨⟨by omega,by omega,by omega⟩,?_⟩
   refine ⟨by kernel_rfl,?_⟩
   simp [go_sem]
   refine ⟨⟨by omega,by omega⟩,i+1,by omega,by omega,zaa _ _ _ (by simp),?_,by omega⟩
   rw [tk]
   refine ⟨by omega,?_⟩
   rw [<- List.cons_append,zav]
 .have e:i=37:=by omega
  subst e
  have tk:(L.map V).take 37=L.map V:=List.take_of_length_le (by rw [List.length_map]; omega)
  rw [tk]
  simp [go_sem]
end Go.Proofs.YthhdollpkieknaaGreat


namespace Go.Proofs.YthhdollpkieknaaGreat
open Go.Abs
theorem zff (A:List (List Int)) (B:List Int) (hT:Tab A B) :
  ∀ (n:Nat) (t:List Int),Lv t->t.length<=n->t.length<=1048576->Con Tryz.prog 306 [.agg [.sl A.length (mat A),.sl B.length (avs B)],.sl t.length (avs t)] (.own 2 B.length (avs (stwF A B.length n t)))
 | 0,t,hL,hn,_=>by have:=hL.1; omega
 | n+1,t,hL,hn,hl=>by
  have hp:=hT.pos
  have hle:=hT.le
  have hAB:=hT.len
  have cO:=znv B.length (by omega)
  have cB:=zc0 t hl hL
  have ih:=fun b (hb:b∈brs t)=>zff A B hT n b (zbY hL hb).1 (by have:=(zbY hL hb).2; omega) (by have:=(zbY hL hb).2; omega)
  have hcnt:(brs t).length<t.length:=ze5 hL
  have hd:stwF A B.length (n+1) t=hadL B.length (List.replicate B.length 1) ((brs t).map fun b=>tim A (stwF A B.length n b)):=rfl
  rw [hd]
  refine zab Tryz.mixed ⟨10,[],[],[]⟩ Tryz.func306 ?_
  rw [Tryz.ntmps306]
  simp [go_sem]
  refine CallVC.of (cO) ?_
  simp [go_sem]
  refine CallVC.of (cB) ?_
  simp [go_sem]
  generalize brs t=L at *
  refine zac ([5,7,8,9]++List.range' 16 33) (fun i:Nat=>[(5,.own 2 B.length (avs (hadL B.length (List.replicate B.length 1) ((L.map fun b=>tim A (stwF A B.length n b)).take i)))),(7,.int i)]) (fun i=>i<=L.length) (fun i=>L.length-i) 0 (by simp) (by simp [go_sem,hadL]) (by simp [go_sem]) ?_
  intro i hi
  by_cases hiL:i<L.length
  .have hii:(i:Int)<L.length:=by omega
   have hb:L[i]?.getD []∈L:=by simp [hiL]
   have cS:=ih _ hb
   have ok:=zmk A B.length n (L[i]?.getD [])
   have cA:=zkU A (stwF A B.length n (L[i]?.getD [])) (by rw [ok.1]; exact hT.a) (by omega) (by omega) ok.2
   rw [ok.1] at cA
   have hm:i<(L.map fun b=>tim A (stwF A B.length n b)).length:=by simpa using hiL
   have ht:=zn9 (s:=B.length) (a:=List.replicate B.length 1) hm
   have hg:(L.map fun b=>tim A (stwF A B.length n b))[i]?.getD []=tim A (stwF A B.length n (L[i]?.getD [])):=by simp [hiL]
   rw [hg] at ht
   have o1:=zmK (ziD B.length) ((L.map fun b=>tim A (stwF A B.length n b)).take i)
   have o2:(tim A (stwF A B.length n (L[i]?.getD []))).length=B.length/\Ns (tim A (stwF A B.length n (L[i]?.getD []))):=⟨by simp [hAB],zuZ _ _⟩
   have hgt:=zbF hiL
   generalize tim A (stwF A B.length n (L[i]?.getD []))=w at *
   generalize stwF A B.length n (L[i]?.getD [])=u at *
   generalize hadL B.length (List.replicate B.length 1) ((L.map fun b=>tim A (stwF A B.length n b)).take i)=old at *
   generalize hnw:hadL B.length (List.replicate B.length 1) ((L.map fun b=>tim A (stwF A B.length n b)).take (i+1))=new at *
   have hw:w.length=A.length:=by omega
   simp [go_sem,hii,hgt]
   refine ⟨by kernel_rfl,?_⟩
   refine CallD.of (cS) ?_
   simp [go_sem]
   refine CallD.of (cA) ?_
   simp [go_sem]
   refine ⟨by kernel_rfl,?_⟩
   simp [go_sem]
   refine zac ([5,9]++List.range' 31 18) (fun j:Nat=>[(5,.own 2 B.length (avs (ovL new old B.length j))),(9,.int j)]) (fun j=>j<=B.length) (fun j=>B.length-j) 0 (by simp) (by simp [go_sem,zoj o1.1]) (by simp [go_sem]) ?_
   intro j hj
   by_cases hjs:j<B.length
   .have hji:(j:Int)<B.length:=by omega
    have hjw:j<w.length:=by omega
    have hjo:j<(ovL new old B.length j).length:=by simpa using hjs
    have g1:=zbC hjo
    have g2:=zbC hjw
    rw [zsA hjs] at g1
    have n1:=o1.2.get j
    have n2:=o2.2.get j
    have hs:=zrp (new:=new) (old:=old) hjs
    have hnew:new[j]?.getD 0=old[j]?.getD 0*w[j]?.getD 0%10007:=by rw [ht]; exact zqJ _ hjs
    have fm:=zay n1 n2
    have cN:=zaO _ _ fm
    rw [<- hnew] at cN
    have hset:=zaP (ovL new old B.length j) j (new[j]?.getD 0)
    rw [hs] at hset
    generalize old[j]?.getD 0=x at *
    generalize w[j]?.getD 0=y at *
    generalize new[j]?.getD 0=z at *
    generalize ovL new old B.length j=O at *
    simp [go_sem,hji,g1,g2]
    refine ⟨by kernel_rfl,by omega,?_⟩
    refine CallD.of (cN) ?_
    simp [go_sem]
    refine ⟨by omega,by omega,?_⟩
    refine ⟨by kernel_rfl,?_⟩
    simp [go_sem]
    exact ⟨⟨by omega,by omega⟩,j+1,by omega,by omega,zaa _ _ _ (by simp),hset,by omega⟩
   .have e:j=B.length:=by omega
    have hji:¬ (j:Int)<B.length:=by omega
    have nl:new.length=B.length:=by rw [ht]; simp
    rw [e] at hji
    rw [e,zrV nl]
    simp [go_sem,hji]
    exact ⟨⟨by omega,by omega⟩,i+1,by omega,by omega,(Off.reset (by intro x hx; simp at hx |-; omega) (by simp) (by simp [go_sem,zaa])),hnw.symm,by omega⟩
  .have e:i=L.length:=by omega
   have e2:(L.map fun b=>tim A (stwF A B.length n b)).take i=L.map fun b=>tim A (stwF A B.length n b):=List.take_of_length_le (by simp; omega)
   rw [e2]
   simp [go_sem,e]
theorem zje (A:List (List Int)) (B:List Int) (hT:Tab A B) (n:Nat) (t:List Int) (hL:Lv t) (hn:t.length<=n) (hl:t.length<=1048576) :
  Con Tryz.prog 258 [.agg [.sl A.length (mat A),.sl B.length (avs B)],.sl t.length (avs t)] (.int (dotI B (stwF A B.length n t)%10007)):=by
 have cS:=zff A B hT n t hL hn hl
 have ok:=zmk A B.length n t
 have hle:=hT.le
 have cD:=zj7 B (stwF A B.length n t) (by omega) (by omega) hT.b ok.2
 rw [ok.1] at cD
 refine zab Tryz.mixed ⟨5,[],[],[]⟩ Tryz.func258 ?_
 rw [Tryz.ntmps258]
 simp [go_sem]
 refine ⟨by kernel_rfl,?_⟩
 refine CallD.of (cS) ?_
 simp [go_sem]
 refine CallD.of (cD) ?_
 simp [go_sem]
 refine ⟨by kernel_rfl,?_⟩
 simp [go_sem]
def chr6 (A:List (List Int)) (B:List Int):List Int:=1::(trN 6).map fun t=>dotI B (stwF A B.length 6 t)%10007
theorem zqx (A:List (List Int)) (B:List Int):N38 (chr6 A B):=by
 have l6:=zaQ
 refine ⟨by unfold chr6; rw [List.length_cons,List.length_map,l6],fun x hx=>?_⟩
 unfold chr6 at hx
 rcases List.mem_cons.1 hx with rfl | hx
 .exact ⟨by decide,by decide⟩
 .obtain ⟨t,_,rfl⟩:=List.mem_map.1 hx
  have:=zak (dotI B (stwF A B.length 6 t))
  exact ⟨this.1,by have:=this.2; omega⟩
theorem zde (A:List (List Int)) (B:List Int) (hT:Tab A B):Con Tryz.prog 203 [.agg [.sl A.length (mat A),.sl B.length (avs B)]] (.own 2 38 (avs (chr6 A B))):=by
 have cT:=zbZ 6 (by omega)
 have l6:=zaQ
 have at6:=fun t h=>zim (t:=t) h
 have e6:((6:Nat):Int)=6:=rfl
 rw [e6] at cT
 unfold chr6
 generalize trN 6=L at *
 rw [l6] at cT
 refine zab Tryz.mixed ⟨6,[],[],[]⟩ Tryz.func203 ?_
 rw [Tryz.ntmps203]
 simp [go_sem]
 refine CallVC.of (cT) ?_
 simp [go_sem]
 refine zac (3::5::List.range' 8 15) (fun i:Nat=>[(3,.own 2 (i+1) (avs (1::(L.map fun t=>dotI B (stwF A B.length 6 t)%10007).take i))),(5,.int i)]) (fun i=>i<=37) (fun i=>37-i) 0 (by simp) (by simp [go_sem,avs]) (by simp [go_sem]) ?_
 intro i hi
 by_cases h:i<37
 .have hii:(i:Int)<37:=by omega
  have hL:i<L.length:=by omega
  have hm:=memD [] hL
  obtain ⟨t1,t2,_⟩:=at6 _ hm
  have cW:=zje A B hT 6 (L[i]?.getD []) t1 t2 (by omega)
  have og:=zbF hL
  have hM:i<(L.map fun t=>dotI B (stwF A B.length 6 t)%10007).length:=by rw [List.length_map]; exact hL
  have tk:(L.map fun t=>dotI B (stwF A B.length 6 t)%10007).take (i+1)=(L.map fun t=>dotI B (stwF A B.length 6 t)%10007).take i++[dotI B (stwF A B.length 6 (L[i]?.getD []))%10007]:=by
   rw [List.take_succ_eq_append_getElem hM,List.getElem_map,List.getElem?_eq_getElem hL]; rfl
  have ll:((L.map fun t=>dotI B (stwF A B.length 6 t)%10007).take i).length=i:=by rw [List.length_take]; omega
  generalize dotI B (stwF A B.length 6 (L[i]?.getD []))%10007=w at *
  generalize L[i]?.getD []=t at *
  simp [go_sem,hii,og]
  refine ⟨by kernel_rfl,?_⟩
  refine CallD.of (cW) ?_
  simp [go_sem]
  refine ⟨⟨by omega,by omega,by omega⟩,?_⟩
  refine ⟨by kernel_rfl,?_⟩
  simp [go_sem]
  refine ⟨⟨by omega,by omega⟩,i+1,by omega,by omega,zaa _ _ _ (by simp),?_,by omega⟩
  rw [tk]
  refine ⟨by omega,?_⟩
  rw [<- List.cons_append,zav]
 .have e:i=37:=by omega
  subst e
  have tk:(L.map fun t=>dotI B (stwF A B.length 6 t)%10007).take 37=L.map fun t=>dotI B (stwF A B.length 6 t)%10007:=List.take_of_length_le (by rw [List.length_map]; omega)
  rw [tk]
  simp [go_sem]
end Go.Proofs.YthhdollpkieknaaGreat


namespace Go.Proofs.YthhdollpkieknaaGreat
open Go.Abs
def o5L:List (List Int)->List (List Int)->Int
 | a::f,b::g=>if ltT a b=true then -1 else if ltT b a=true then 1 else o5L f g
 | _,_=>0
def o5C (f g:List (List Int)):Int:=if f.length=g.length then o5L f g else if f.length<g.length then -1 else 1
def o5 (a b:Spl):Int:=if sumN a.1=sumN b.1 then (if o5C a.1 b.1=0 then o5C a.2.1 b.2.1 else o5C a.1 b.1) else if sumN a.1<sumN b.1 then -1 else 1
theorem zjA:∀ (f g:List (List Int)) (i:Nat),i<=f.length->i<=g.length->(∀ j,j<i->ltT (f[j]?.getD []) (g[j]?.getD [])=false/\ltT (g[j]?.getD []) (f[j]?.getD [])=false)->o5L f g=o5L (f.drop i) (g.drop i)
 | f,g,0,_,_,_=>rfl
 | a::f,b::g,i+1,h1,h2,h=>by
  have h0:=h 0 (by omega)
  simp only [List.getElem?_cons_zero,Option.getD_some] at h0
  rw [o5L,h0.1,h0.2,if_neg (by decide),if_neg (by decide),List.drop_succ_cons,List.drop_succ_cons]
  exact zjA f g i (by simpa using h1) (by simpa using h2) (fun j hj=>by simpa using h (j+1) (by omega))
 | [],g,i+1,h1,_,_=>by simp at h1
 | a::f,[],i+1,_,h2,_=>by simp at h2
theorem zep (f g:List (List Int)) (hf:f.length<=1000) (hg:g.length<=1000) (rf:∀ r∈f,r.length<=1000) (rg:∀ r∈g,r.length<=1000) :
  Con Tryz.prog 390 [.sl f.length (mat f),.sl g.length (mat g)] (.int (o5C f g)):=by
 unfold o5C
 by_cases hl:f.length=g.length
 .rw [if_pos hl]
  have hli:(f.length:Int)=g.length:=by omega
  refine zab Tryz.mixed ⟨6,[],[],[]⟩ Tryz.func390 ?_
  rw [Tryz.ntmps390]
  simp [go_sem]
  simp [go_sem,hli]
  refine zac (4::5::List.range' 16 26) (fun i:Nat=>[(5,.int i)]) (fun i=>i<=f.length/\∀ j,j<i->ltT (f[j]?.getD []) (g[j]?.getD [])=false/\ltT (g[j]?.getD []) (f[j]?.getD [])=false) (fun i=>f.length-i) 0 (by simp) (by simp [go_sem]) (by simp [go_sem]) ?_
  rintro i ⟨hi,hz⟩
  have sk:=zjA f g i hi (by omega) hz
  by_cases h:i<f.length
  .have hii:(i:Int)<f.length:=by omega
   have hgi:i<g.length:=by omega
   have nf:¬ f=[]:=by rintro rfl; simp at h
   have ng:¬ g=[]:=by rintro rfl; simp at hgi
   have df:f.drop i=f[i]?.getD []::f.drop (i+1):=by rw [List.drop_eq_getElem_cons h]; simp [h]
   have dg:g.drop i=g[i]?.getD []::g.drop (i+1):=by rw [List.drop_eq_getElem_cons hgi]; simp [hgi]
   rw [df,dg,o5L] at sk
   have l1:=rf _ (memD [] h)
   have l2:=rg _ (memD [] hgi)
   have c1:=zci (f[i]?.getD []) (g[i]?.getD []) (by omega) (by omega)
   have c2:=zci (g[i]?.getD []) (f[i]?.getD []) (by omega) (by omega)
   have m1:=zas h
   have m2:=zas hgi
   have hs:∀ v w,ltT (f[i]?.getD []) (g[i]?.getD [])=v->ltT (g[i]?.getD []) (f[i]?.getD [])=w->v=false->w=false->∀ j,j<i+1->ltT (f[j]?.getD []) (g[j]?.getD [])=false/\ltT (g[j]?.getD []) (f[j]?.getD [])=false:=by
    rintro v w hv hw rfl rfl j hj
    rcases Nat.lt_or_ge j i with hji | hji
    .exact hz j hji
    .have:j=i:=by omega
     subst this; exact ⟨hv,hw⟩
   have hs:=hs _ _ rfl rfl
   generalize ltT (f[i]?.getD []) (g[i]?.getD [])=v at *
   generalize ltT (g[i]?.getD []) (f[i]?.getD [])=w at *
   generalize f[i]?.getD []=r at *
   generalize g[i]?.getD []=q at *
   simp [go_sem,hii,m1,m2]
   refine ⟨by kernel_rfl,nf,⟨hgi,ng⟩,?_⟩
   refine CallD.of (c1) ?_
   simp [go_sem]
   refine ⟨by kernel_rfl,?_⟩
   simp [go_sem]
   cases v with
   | true =>
    rw [sk,if_pos rfl]
    simp [go_sem]
   | false =>
    rw [if_neg (by decide)] at sk
    simp [go_sem,m1,m2]
    refine ⟨by kernel_rfl,⟨hgi,ng⟩,⟨h,nf⟩,?_⟩
    refine CallD.of (c2) ?_
    simp [go_sem]
    refine ⟨by kernel_rfl,?_⟩
    simp [go_sem]
    cases w with
    | true =>
     rw [sk,if_pos rfl]
     simp [go_sem]
    | false =>
     simp [go_sem]
     exact ⟨⟨by omega,by omega⟩,i+1,⟨by omega,hs rfl rfl⟩,by omega,zaa _ _ _ (by simp),by omega⟩
  .have e:i=f.length:=by omega
   subst e
   rw [List.drop_eq_nil_of_le (Nat.le_refl _)] at sk
   have e0:o5L f g=0:=by rw [sk]; simp [o5L]
   rw [e0]
   have hii:¬ (f.length:Int)<f.length:=by omega
   simp [go_sem,hii]
 .rw [if_neg hl]
  have hli:¬ (f.length:Int)=g.length:=by omega
  by_cases h2:f.length<g.length
  .rw [if_pos h2]
   refine zab Tryz.mixed ⟨6,[],[],[]⟩ Tryz.func390 ?_
   rw [Tryz.ntmps390]
   simp [go_sem]
   simp [go_sem,hli,h2]
  .rw [if_neg h2]
   refine zab Tryz.mixed ⟨6,[],[],[]⟩ Tryz.func390 ?_
   rw [Tryz.ntmps390]
   simp [go_sem]
   simp [go_sem,hli,h2]
theorem zf0 (F:List (List Int)) (hF:F.length<=1000) (hr:∀ r∈F,r.length<=1000):Con Tryz.prog 389 [.sl F.length (mat F)] (.int (sumN F)):=by
 have bd:∀ i,i<=F.length->(sumN (F.take i):Int)<=1000*i:=fun i hi=>by
  have:=zi2 (F:=F.take i) (b:=1000) (fun r h=>hr r (List.mem_of_mem_take h))
  rw [List.length_take] at this; omega
 refine zab Tryz.mixed ⟨4,[],[],[]⟩ Tryz.func389 ?_
 rw [Tryz.ntmps389]
 simp [go_sem]
 refine zac (3::4::List.range' 5 13) (fun i:Nat=>[(3,.int (sumN (F.take i))),(4,.int i)]) (fun i=>i<=F.length) (fun i=>F.length-i) 0 (by simp) (by simp [go_sem,sumN]) (by simp [go_sem]) ?_
 intro i hi
 by_cases h:i<F.length
 .have hii:(i:Int)<F.length:=by omega
  have nf:¬ F=[]:=by rintro rfl; simp at h
  have b1:=bd i hi
  have hr1:=hr _ (memD [] h)
  have h2:F.take (i+1)=F.take i++[F[i]?.getD []]:=by
   rw [List.take_succ_eq_append_getElem h,List.getElem?_eq_getElem h]; rfl
  have h4:sumN (F.take (i+1))=sumN (F.take i)+(F[i]?.getD []).length:=by rw [h2,zdK]; simp [sumN]
  have md:=zas h
  generalize sumN (F.take i)=s at *
  generalize F[i]?.getD []=r at *
  simp [go_sem,hii,md]
  refine ⟨nf,⟨by omega,by omega⟩,⟨by omega,by omega⟩,i+1,by omega,by omega,zaa _ _ _ (by simp),?_⟩
  rw [h4]
  exact ⟨by omega,by omega⟩
 .have e:i=F.length:=by omega
  subst e
  have hii:¬ (F.length:Int)<F.length:=by omega
  rw [List.take_length]
  simp [go_sem,hii]
theorem zkI (a b:Spl) (ha:SpOk a) (hb:SpOk b):Con Tryz.prog 380 [.agg (spF a),.agg (spF b)] (.int (o5 a b)):=by
 obtain ⟨⟨a1,a2⟩,a3,a4⟩:=ha
 obtain ⟨⟨b1,b2⟩,b3,b4⟩:=hb
 have n1:=zf0 a.1 (by omega) (fun x hx=>by have:=a2 x hx; omega)
 have n2:=zf0 b.1 (by omega) (fun x hx=>by have:=b2 x hx; omega)
 have c1:=zep a.1 b.1 (by omega) (by omega) (fun x hx=>by have:=a2 x hx; omega) (fun x hx=>by have:=b2 x hx; omega)
 have c2:=zep a.2.1 b.2.1 (by omega) (by omega) (fun x hx=>by have:=a4 x hx; omega) (fun x hx=>by have:=b4 x hx; omega)
 unfold o5 spF
 generalize o5C a.1 b.1=v at *
 generalize o5C a.2.1 b.2.1=w at *
 generalize sumN a.1=m at *
 generalize sumN b.1=n at *
 by_cases hmn:m=n
 .subst hmn
  rw [if_pos rfl]
  by_cases v0:v=0
  .rw [if_pos v0]
   refine zab Tryz.mixed ⟨8,[],[],[]⟩ Tryz.func380 ?_
   rw [Tryz.ntmps380]
   simp [go_sem]
   refine ⟨by kernel_rfl,?_⟩
   refine CallD.of (n1) ?_
   simp [go_sem]
   refine CallD.of (n2) ?_
   simp [go_sem]
   refine ⟨by kernel_rfl,?_⟩
   simp [go_sem]
   refine CallVC.of (c1) ?_
   simp [go_sem]
   simp [go_sem,v0]
   refine CallVC.of (c2) ?_
   simp [go_sem]
  .rw [if_neg v0]
   refine zab Tryz.mixed ⟨8,[],[],[]⟩ Tryz.func380 ?_
   rw [Tryz.ntmps380]
   simp [go_sem]
   refine ⟨by kernel_rfl,?_⟩
   refine CallD.of (n1) ?_
   simp [go_sem]
   refine CallD.of (n2) ?_
   simp [go_sem]
   refine ⟨by kernel_rfl,?_⟩
   simp [go_sem]
   refine CallVC.of (c1) ?_
   simp [go_sem]
   simp [go_sem,v0]
 .rw [if_neg hmn]
  have hmi:¬ (m:Int)=n:=by omega
  by_cases h2:m<n
  .rw [if_pos h2]
   refine zab Tryz.mixed ⟨8,[],[],[]⟩ Tryz.func380 ?_
   rw [Tryz.ntmps380]
   simp [go_sem]
   refine ⟨by kernel_rfl,?_⟩
   refine CallD.of (n1) ?_
   simp [go_sem]
   refine CallD.of (n2) ?_
   simp [go_sem]
   refine ⟨by kernel_rfl,?_⟩
   simp [go_sem]
   simp [go_sem,hmi,h2]
  .rw [if_neg h2]
   refine zab Tryz.mixed ⟨8,[],[],[]⟩ Tryz.func380 ?_
   rw [Tryz.ntmps380]
   simp [go_sem]
   refine ⟨by kernel_rfl,?_⟩
   refine CallD.of (n1) ?_
   simp [go_sem]
   refine CallD.of (n2) ?_
   simp [go_sem]
   refine ⟨by kernel_rfl,?_⟩
   simp [go_sem]
   simp [go_sem,hmi,h2]
def put5:List Spl->Spl->List Spl
 | [],c=>[c]
 | s::L,c=>if o5 c s<0 then c::s::L else if o5 c s=0 then (s.1,s.2.1,s.2.2+c.2.2)::L else s::put5 L c
def Sp5 (s:Spl):Prop:=SpOk s/\0<=s.2.2/\s.2.2<=1000000
theorem zjM (L:List Spl) (c:Spl) (hL:∀ s∈L,Sp5 s) (hc:Sp5 c) (hn:L.length<=10000) :
  GCon Tryz.prog 356 [.sl L.length (L.flatMap spF),.agg (spF c)] (.sl (put5 L c).length ((put5 L c).flatMap spF)) [.any,.agg (spF c)]:=by
 refine GCon.frzR (r:=.own 198 (put5 L c).length ((put5 L c).flatMap spF)) ?_ (by simp [frz,zg2])
 have cO:=fun s hs=>zkI c s hc.1 (hL s hs).1
 obtain ⟨_,hc1,hc2⟩:=hc
 obtain ⟨ca,cb,cc⟩:=c
 simp only [spF] at cO hc1 hc2 |-
 have x0:put5 L (ca,cb,cc)=L.take 0++put5 (L.drop 0) (ca,cb,cc):=rfl
 refine zaj Tryz.mixed ⟨10,[],[],[]⟩ [1] Tryz.func356 ?_
 rw [Tryz.ntmps356]
 simp [go_sem]
 refine zac (List.range' 5 5++List.range' 11 36) (fun x:Nat × Bool × List Spl=>[(5,.own 198 x.2.2.length (x.2.2.flatMap spF)),(6,.bool x.2.1),(7,.int x.1)]) (fun x=>x.1<=L.length/\x.2.2.length<=x.1+1/\(x.2.1=false->x.2.2=L.take x.1/\put5 L (ca,cb,cc)=L.take x.1++put5 (L.drop x.1) (ca,cb,cc))/\(x.2.1=true->put5 L (ca,cb,cc)=x.2.2++L.drop x.1)) (fun x=>L.length-x.1) (0,false,[]) (by simp) (by simp [go_sem]) (by simp [go_sem]) ?_
 rintro ⟨i,d,O⟩ ⟨hi,hO,hf,ht⟩
 simp only at hi hO hf ht
 by_cases hil:i<L.length
 .have hii:(i:Int)<L.length:=by omega
  have hm:=memD ([],[],0) hil
  have dr:=zbd spF (fun _=>rfl) ([],[],0) hil
  have nL:¬ L.flatMap spF=[]:=by intro e; have:=zaw spF (fun _=>rfl) L; rw [e] at this; simp at this; omega
  have lL:=zaw spF (fun _=>rfl) L
  have lO:=zaw spF (fun _=>rfl) O
  have cOs:=cO _ hm
  obtain ⟨_,s1,s2⟩:=hL _ hm
  have dl:L.drop i=L[i]?.getD ([],[],0)::L.drop (i+1):=by rw [List.drop_eq_getElem_cons hil]; simp [hil]
  have tl:L.take (i+1)=L.take i++[L[i]?.getD ([],[],0)]:=by rw [List.take_succ_eq_append_getElem hil]; simp [hil]
  generalize L[i]?.getD ([],[],0)=s at *
  obtain ⟨sa,sb,sc⟩:=s
  simp only [spF] at dr cOs s1 s2
  cases d with
  | true =>
   have hp:=ht rfl
   rw [dl] at hp
   clear hf ht
   generalize hC:O.flatMap spF=C at *
   generalize hMC:L.flatMap spF=MC at *
   simp [go_sem,hii,dr]
   refine ⟨nL,⟨by omega,by omega,by omega⟩,⟨by omega,by omega⟩,i+1,O++[(sa,sb,sc)],⟨by omega,by simp; omega,by rw [hp]; simp⟩,by omega,zaa _ _ _ (by simp),?_⟩
   rw [List.flatMap_append,hC]
   simp [spF]
  | false =>
   obtain ⟨rfl,hp⟩:=hf rfl
   rw [dl,put5] at hp
   rw [List.length_take] at lO
   clear hf ht
   generalize hC:(L.take i).flatMap spF=C at *
   generalize hMC:L.flatMap spF=MC at *
   generalize o5 (ca,cb,cc) (sa,sb,sc)=v at *
   simp [go_sem,hii,dr]
   refine ⟨by kernel_rfl,nL,?_⟩
   refine CallD.of (cOs) ?_
   simp [go_sem]
   refine ⟨by kernel_rfl,?_⟩
   simp [go_sem]
   by_cases v1:v<0
   .rw [if_pos v1] at hp
    have v0:¬ v=0:=by omega
    simp [go_sem,v1,v0,dr]
    refine ⟨⟨by omega,by omega,by omega⟩,⟨hil,nL⟩,⟨by omega,by omega,by omega⟩,⟨by omega,by omega⟩,i+1,L.take i++[(ca,cb,cc)]++[(sa,sb,sc)],⟨by omega,by simp; omega,by rw [hp]; simp⟩,by omega,zaa _ _ _ (by simp),?_⟩
    rw [List.flatMap_append,List.flatMap_append,hC]
    simp [spF]
   .rw [if_neg v1] at hp
    by_cases v0:v=0
    .rw [if_pos v0] at hp
     subst v0
     simp [go_sem,dr]
     refine ⟨⟨hil,nL⟩,⟨by omega,by omega⟩,⟨by omega,by omega,by omega⟩,⟨by omega,by omega⟩,i+1,L.take i++[(sa,sb,sc+cc)],⟨by omega,by simp; omega,by rw [hp]; simp⟩,by omega,zaa _ _ _ (by simp),?_⟩
     rw [List.flatMap_append,hC]
     simp [spF]
    .rw [if_neg v0] at hp
     simp [go_sem,v1,v0,dr]
     refine ⟨⟨hil,nL⟩,⟨by omega,by omega,by omega⟩,⟨by omega,by omega⟩,i+1,L.take (i+1),⟨by omega,by simp; omega,rfl,by rw [hp,tl]; simp⟩,by omega,zaa _ _ _ (by simp),?_⟩
     rw [tl,List.flatMap_append,hC]
     simp [spF]
 .have e:i=L.length:=by omega
  subst e
  have hii:¬ (L.length:Int)<L.length:=by omega
  have lO:=zaw spF (fun _=>rfl) O
  cases d with
  | true =>
   have hp:=ht rfl
   rw [List.drop_length,List.append_nil] at hp
   rw [hp]
   simp [go_sem,hii]
  | false =>
   obtain ⟨rfl,hp⟩:=hf rfl
   rw [List.drop_length,put5,List.take_length] at hp
   rw [List.take_length] at lO |-
   rw [hp]
   generalize hMC:L.flatMap spF=MC at *
   simp [go_sem,hii]
   refine ⟨⟨by omega,by omega,by omega⟩,?_⟩
   rw [hMC]
   simp [spF]
theorem znO (n:Nat) (f:List (List Int)) (hn:n<=1000) (hv:Lv (zaA f)) (hl:(zaA f).length<=n) (hf:f.length<=100) (hr:∀ b∈f,b.length<=100/\∀ x∈b,0<=x/\x<=100) :
  Con Tryz.prog 357 [.sl f.length (mat f)] (.own 2 (zaA f).length (avs (canF n (zaA f)))):=by
 have cC:=zbf n (zaA f) hn hv hl
 have bl:∀ i,(zaA (f.take i)).length<=1+i*100:=fun i=>by
  rw [zcK]
  have:∀ T:List (List Int),(∀ b∈T,b.length<=100)->sumL T<=T.length*100:=by
   intro T
   induction T with
   | nil=>intro _; simp [sumL]
   | cons b T ih=>intro h; have:=h b (by simp); have:=ih (fun c hc=>h c (by simp [hc])); simp only [sumL,List.length_cons]; omega
  have h1:=this (f.take i) (fun b hb=>(hr b (List.mem_of_mem_take hb)).1)
  have h2:(f.take i).length<=i:=by rw [List.length_take]; omega
  have:=Nat.mul_le_mul_right 100 h2
  omega
 generalize hCF:canF n (zaA f)=CF at *
 refine zab Tryz.mixed ⟨6,[],[],[]⟩ Tryz.func357 ?_
 rw [Tryz.ntmps357]
 simp [go_sem]
 refine zac (3::4::5::List.range' 7 26) (fun i:Nat=>[(3,.own 2 (zaA (f.take i)).length (avs (zaA (f.take i)))),(4,.int i)]) (fun i=>i<=f.length) (fun i=>f.length-i) 0 (by simp) (by simp [go_sem,zaA,avs]) (by simp [go_sem]) ?_
 intro i hi
 by_cases hiS:i<f.length
 .have hii:(i:Int)<f.length:=by omega
  have ne:¬ f=[]:=by rintro rfl; simp at hiS
  have md:=zas hiS
  obtain ⟨b1,b2⟩:=hr _ (show f[i]?.getD []∈f by simp [hiS])
  have sn:zaA (f.take (i+1))=zaA (f.take i)++(f[i]?.getD []).map (·+1):=by
   unfold zaA
   rw [List.take_add_one,List.flatMap_append,List.getElem?_eq_getElem hiS]; simp
  have bli:=bl i
  generalize f[i]?.getD []=b at *
  generalize zaA (f.take i)=R at *
  simp [go_sem,hii,md]
  refine zac (3::5::List.range' 13 20) (fun k:Nat=>[(3,.own 2 (R.length+k) (avs (R++(b.map (·+1)).take k))),(5,.int k)]) (fun k=>k<=b.length) (fun k=>b.length-k) 0 (by simp) (by simp [go_sem]) (by simp [go_sem]) ?_
  intro k hk
  by_cases hkb:k<b.length
  .have hki:(k:Int)<b.length:=by omega
   have nb:¬ b=[]:=by rintro rfl; simp at hkb
   have ad:=zap hkb
   have bx:=b2 _ (show b[k]?.getD 0∈b by simp [hkb])
   have tk:(b.map (·+1)).take (k+1)=(b.map (·+1)).take k++[b[k]?.getD 0+1]:=by
    rw [List.take_add_one]; simp [hkb]
   rw [List.getD_eq_getElem?_getD] at ad
   generalize b[k]?.getD 0=x at *
   simp [go_sem,md,hki,ad]
   refine ⟨⟨hiS,ne⟩,nb,⟨by omega,by omega⟩,⟨by omega,by omega,by omega⟩,⟨by omega,by omega⟩,k+1,by omega,by omega,zaa _ _ _ (by simp),⟨by omega,by rw [tk,<- List.append_assoc,zav]⟩,by omega⟩
  .have e:k=b.length:=by omega
   subst e
   have hki:¬ (b.length:Int)<b.length:=by omega
   have tk:(b.map (·+1)).take b.length=b.map (·+1):=List.take_of_length_le (by simp)
   simp [go_sem,md,hki,tk]
   exact ⟨⟨hiS,ne⟩,⟨by omega,by omega⟩,i+1,by omega,by omega,(Off.reset (by intro x hx; simp at hx |-; omega) (by simp) (by simp [go_sem,zaa])),⟨by rw [sn]; simp,by rw [sn]⟩,by omega⟩
 .have e:i=f.length:=by omega
  subst e
  have hii:¬ (f.length:Int)<f.length:=by omega
  rw [List.take_length]
  simp [go_sem,hii]
  refine CallVC.of (cC) ?_
  simp [go_sem]
theorem zf9 (f g:List (List Int)) (hf:f.length<=400) (hg:g.length<=400) (rf:∀ r∈f,r.length<=1000) (rg:∀ r∈g,r.length<=1000) :
  GCon Tryz.prog 388 [.sl f.length (mat f),.sl g.length (mat g)] (.sl (srtT (f++g)).length (mat (srtT (f++g)))) [.any,.any]:=by
 have c1:=zh1 f (by omega) (fun r h=>by have:=rf r h; omega)
 have c2:=ziq (f++g) (fun b hb=>by
  rcases List.mem_append.1 hb with h | h
  .have:=rf b h; omega
  .have:=rg b h; omega) (by rw [List.length_append]; omega)
 have c3:GCon Tryz.prog 252 [.own 25 (f.length+g.length) (omat f++mat g)] (.sl (f++g).length (mat (srtT (f++g)))) [.any]:=by
  refine GCon.frzA (args:=[.own 25 (f.length+g.length) (omat f++mat g)]) (outs:=[.any]) ?_
  have e:frzL [AV.own 25 (f.length+g.length) (omat f++mat g)]=[.sl (f++g).length (mat (f++g))]:=by
   show [AV.sl (f.length+g.length) (frzL (omat f++mat g))]=_
   rw [zfE,zol,List.length_append]
   have:frzL (mat g)=mat g:=by simp
   rw [this]
   simp [mat]
  rw [e]
  exact c2
 rw [zcY]
 refine zaj Tryz.mixed ⟨5,[],[1000000+252],[]⟩ [] Tryz.func388 ?_
 rw [Tryz.ntmps388]
 simp [go_sem]
 refine CallVC.of (c1) ?_
 simp [go_sem]
 refine ⟨⟨by omega,by omega⟩,?_⟩
 refine ⟨_,_,c3,?_⟩
 simp [go_sem]
def tms5 (a b:List Spl):List Spl:=a.foldl (fun o s=>b.foldl (fun o c=>put5 o (srtT (s.1++c.1),srtT (s.2.1++c.2.1),s.2.2*c.2.2)) o) []
def tmJ (o:List Spl) (s:Spl) (b:List Spl):List Spl:=b.foldl (fun o c=>put5 o (srtT (s.1++c.1),srtT (s.2.1++c.2.1),s.2.2*c.2.2)) o
theorem zjN (o:List Spl) (s:Spl) (b:List Spl) (c:Spl):tmJ o s (b++[c])=put5 (tmJ o s b) (srtT (s.1++c.1),srtT (s.2.1++c.2.1),s.2.2*c.2.2):=by simp [tmJ]
theorem zhy (a b:List Spl) (s:Spl):tms5 (a++[s]) b=tmJ (tms5 a b) s b:=by simp [tms5,tmJ]
def spB (s:Spl):Bool:=decide (s.1.length<=50) && s.1.all (fun r=>decide (r.length<=100)) && (decide (s.2.1.length<=50) && s.2.1.all (fun r=>decide (r.length<=100))) && (decide (0<=s.2.2) && decide (s.2.2<=1000))
theorem zf5 {s:Spl} (h:spB s=true):((s.1.length<=50/\∀ r∈s.1,r.length<=100)/\s.2.1.length<=50/\∀ r∈s.2.1,r.length<=100)/\0<=s.2.2/\s.2.2<=1000:=by
 unfold spB at h
 simp only [Bool.and_eq_true,decide_eq_true_eq,List.all_eq_true] at h
 exact ⟨⟨h.1.1,h.1.2⟩,h.2⟩
def tmsB (a b:List Spl):Bool:=decide (a.length<=1000) && decide (b.length<=1000) && a.all spB && b.all spB &&
 (List.range (a.length+1)).all fun i=>(List.range (b.length+1)).all fun j=>decide ((tmJ (tms5 (a.take i) b) (a[i]?.getD ([],[],0)) (b.take j)).length<=1000) && (tmJ (tms5 (a.take i) b) (a[i]?.getD ([],[],0)) (b.take j)).all fun s=>decide (0<=s.2.2) && decide (s.2.2<=1000000)
theorem zr4 {a b:List Spl} (h:tmsB a b=true):a.length<=1000/\b.length<=1000/\(∀ s∈a,spB s=true)/\(∀ s∈b,spB s=true)/\∀ i,i<=a.length->∀ j,j<=b.length->(tmJ (tms5 (a.take i) b) (a[i]?.getD ([],[],0)) (b.take j)).length<=1000/\∀ s∈tmJ (tms5 (a.take i) b) (a[i]?.getD ([],[],0)) (b.take j),0<=s.2.2/\s.2.2<=1000000:=by
 unfold tmsB at h
 simp only [Bool.and_eq_true,decide_eq_true_eq,List.all_eq_true,List.mem_range] at h
 obtain ⟨⟨⟨⟨h1,h2⟩,h3⟩,h4⟩,h5⟩:=h
 exact ⟨h1,h2,h3,h4,fun i hi j hj=>h5 i (by omega) j (by omega)⟩
theorem zrc {L:List Spl} {c:Spl} (hL:∀ s∈L,SpOk s) (hc:SpOk c):∀ s∈put5 L c,SpOk s:=by
 induction L with
 | nil=>intro s hs; rw [put5] at hs; rw [List.mem_singleton.1 hs]; exact hc
 | cons x L ih =>
  intro s hs
  rw [put5] at hs
  have h0:=hL x (by simp)
  split at hs
  .rcases List.mem_cons.1 hs with rfl | hs
   .exact hc
   .exact hL s hs
  .split at hs
   .rcases List.mem_cons.1 hs with rfl | hs
    .exact h0
    .exact hL s (by simp [hs])
   .rcases List.mem_cons.1 hs with rfl | hs
    .exact h0
    .exact ih (fun y hy=>hL y (by simp [hy])) s hs
theorem zs2 {s c:Spl} (hs:spB s=true) (hc:spB c=true):SpOk (srtT (s.1++c.1),srtT (s.2.1++c.2.1),s.2.2*c.2.2)/\0<=s.2.2*c.2.2/\s.2.2*c.2.2<=1000000:=by
 obtain ⟨⟨⟨s1,s2⟩,s3,s4⟩,s5,s6⟩:=zf5 hs
 obtain ⟨⟨⟨c1,c2⟩,c3,c4⟩,c5,c6⟩:=zf5 hc
 refine ⟨⟨⟨by rw [zcY,List.length_append]; omega,fun r hr=>?_⟩,by rw [zcY,List.length_append]; omega,fun r hr=>?_⟩,Int.mul_nonneg s5 c5,?_⟩
 .rcases List.mem_append.1 ((za4 _).mem_iff.1 hr) with h | h
  .exact s2 r h
  .exact c2 r h
 .rcases List.mem_append.1 ((za4 _).mem_iff.1 hr) with h | h
  .exact s4 r h
  .exact c4 r h
 .have:=Int.mul_le_mul s6 c6 c5 (by omega)
  omega
theorem zqn {o:List Spl} {s:Spl} (ho:∀ x∈o,SpOk x) (hs:spB s=true):∀ b:List Spl,(∀ c∈b,spB c=true)->∀ x∈tmJ o s b,SpOk x:=by
 intro b
 generalize hn:b.length=n
 induction n generalizing b with
 | zero=>intro _; rw [List.length_eq_zero_iff.1 hn]; exact ho
 | succ n ih =>
  intro hb
  rcases List.eq_nil_or_concat b with rfl | ⟨h,y,rfl⟩
  .simp at hn
  .rw [List.concat_eq_append] at hn hb |-
   rw [zjN]
   exact zrc (ih h (by simpa using hn) fun c hc=>hb c (by simp [hc])) (zs2 hs (hb y (by simp))).1
theorem zrx:∀ {a b:List Spl},(∀ s∈a,spB s=true)->(∀ s∈b,spB s=true)->∀ x∈tms5 a b,SpOk x:=by
 intro a
 generalize hn:a.length=n
 induction n generalizing a with
 | zero=>intro b _ _; rw [List.length_eq_zero_iff.1 hn]; intro x hx; simp [tms5] at hx
 | succ n ih =>
  intro b ha hb
  rcases List.eq_nil_or_concat a with rfl | ⟨h,y,rfl⟩
  .simp at hn
  .rw [List.concat_eq_append] at hn ha |-
   rw [zhy]
   exact zqn (ih (by simpa using hn) (fun c hc=>ha c (by simp [hc])) hb) (ha y (by simp)) b hb
theorem zlf (a b:List Spl) (h:tmsB a b=true) :
  GCon Tryz.prog 379 [.sl a.length (a.flatMap spF),.sl b.length (b.flatMap spF)] (.sl (tms5 a b).length ((tms5 a b).flatMap spF)) [.any,.any]:=by
 obtain ⟨a1,b1,ha,hb,hx⟩:=zr4 h
 refine zaj Tryz.mixed ⟨8,[8],[1000000+388,1000000+356],[]⟩ [] Tryz.func379 ?_
 rw [Tryz.ntmps379]
 simp [go_sem]
 refine zac (5::6::7::List.range' 9 48) (fun i:Nat=>[(5,.sl (tms5 (a.take i) b).length ((tms5 (a.take i) b).flatMap spF)),(6,.int i)]) (fun i=>i<=a.length) (fun i=>a.length-i) 0 (by simp) (by simp [go_sem,tms5]) (by simp [go_sem]) ?_
 intro i hi
 by_cases hil:i<a.length
 .have hii:(i:Int)<a.length:=by omega
  have hx1:=fun j hj=>hx i hi j hj
  have ho:=zrx (a:=a.take i) (b:=b) (fun s hs=>ha s (List.mem_of_mem_take hs)) hb
  have hm:=ha _ (memD ([],[],0) hil)
  have tl:a.take (i+1)=a.take i++[a[i]?.getD ([],[],0)]:=by rw [List.take_succ_eq_append_getElem hil]; simp [hil]
  have ts:=zhy (a.take i) b (a[i]?.getD ([],[],0))
  rw [<- tl] at ts
  have dr:=zbd spF (fun _=>rfl) ([],[],0) hil
  have nA:¬ a.flatMap spF=[]:=by intro e; have:=zaw spF (fun _=>rfl) a; rw [e] at this; simp at this; omega
  have lA:=zaw spF (fun _=>rfl) a
  generalize a[i]?.getD ([],[],0)=s at *
  generalize tms5 (a.take i) b=o at *
  have z0:tmJ o s []=o:=rfl
  simp [go_sem,hii]
  refine zac (5::7::List.range' 15 42) (fun j:Nat=>[(5,.sl (tmJ o s (b.take j)).length ((tmJ o s (b.take j)).flatMap spF)),(7,.int j)]) (fun j=>j<=b.length) (fun j=>b.length-j) 0 (by simp) (by simp [go_sem,z0]) (by simp [go_sem]) ?_
  intro j hj
  by_cases hjl:j<b.length
  .have hji:(j:Int)<b.length:=by omega
   obtain ⟨x1,x2⟩:=hx1 j hj
   have hm2:=hb _ (memD ([],[],0) hjl)
   have tj:b.take (j+1)=b.take j++[b[j]?.getD ([],[],0)]:=by rw [List.take_succ_eq_append_getElem hjl]; simp [hjl]
   have tsn:=zjN o s (b.take j) (b[j]?.getD ([],[],0))
   rw [<- tj] at tsn
   have oo:=zqn ho hm (b.take j) (fun c hc=>hb c (List.mem_of_mem_take hc))
   have dr2:=zbd spF (fun _=>rfl) ([],[],0) hjl
   have nB:¬ b.flatMap spF=[]:=by intro e; have:=zaw spF (fun _=>rfl) b; rw [e] at this; simp at this; omega
   have lB:=zaw spF (fun _=>rfl) b
   generalize b[j]?.getD ([],[],0)=c at *
   obtain ⟨p1,p2,p3⟩:=zs2 hm hm2
   obtain ⟨⟨⟨s1,s2⟩,s3,s4⟩,s5,s6⟩:=zf5 hm
   obtain ⟨⟨⟨d1,d2⟩,d3,d4⟩,d5,d6⟩:=zf5 hm2
   have cP:=zjM (tmJ o s (b.take j)) (srtT (s.1++c.1),srtT (s.2.1++c.2.1),s.2.2*c.2.2) (fun x hx=>⟨oo x hx,x2 x hx⟩) ⟨p1,p2,p3⟩ (by omega)
   have c1:=zf9 s.1 c.1 (by omega) (by omega) (fun r hr=>by have:=s2 r hr; omega) (fun r hr=>by have:=d2 r hr; omega)
   have c2:=zf9 s.2.1 c.2.1 (by omega) (by omega) (fun r hr=>by have:=s4 r hr; omega) (fun r hr=>by have:=d4 r hr; omega)
   rw [<- tsn] at cP
   obtain ⟨sa,sb,sc⟩:=s
   obtain ⟨ca,cb,cc⟩:=c
   simp only [spF] at dr dr2 cP c1 c2 p2 p3
   generalize hX1:tmJ o (sa,sb,sc) (b.take (j+1))=X1 at *
   generalize tmJ o (sa,sb,sc) (b.take j)=X0 at *
   generalize srtT (sa++ca)=w1 at *
   generalize srtT (sb++cb)=w2 at *
   generalize hMA:a.flatMap spF=MA at *
   generalize hMB:b.flatMap spF=MB at *
   simp [go_sem,hji,dr,dr2]
   refine ⟨by kernel_rfl,⟨hil,nA⟩,nB,?_⟩
   refine ⟨_,_,c1,?_⟩
   simp [go_sem]
   refine ⟨⟨hil,nA⟩,nB,?_⟩
   refine ⟨_,_,c2,?_⟩
   simp [go_sem]
   refine ⟨⟨hil,nA⟩,nB,⟨by omega,by omega⟩,?_⟩
   refine ⟨_,_,cP,?_⟩
   simp [go_sem]
   refine ⟨by kernel_rfl,?_⟩
   simp [go_sem]
   exact ⟨⟨by omega,by omega⟩,j+1,by omega,by omega,zaa _ _ _ (by simp),by rw [hX1]; exact ⟨rfl,rfl⟩,by omega⟩
  .have e:j=b.length:=by omega
   subst e
   have hji:¬ (b.length:Int)<b.length:=by omega
   rw [List.take_length]
   simp [go_sem,hji]
   exact ⟨⟨by omega,by omega⟩,i+1,by omega,by omega,(Off.reset (by intro x hx; simp at hx |-; omega) (by simp) (by simp [go_sem,zaa])),by rw [ts]; exact ⟨rfl,rfl⟩,by omega⟩
 .have e:i=a.length:=by omega
  subst e
  have hii:¬ (a.length:Int)<a.length:=by omega
  rw [List.take_length]
  simp [go_sem,hii]
end Go.Proofs.YthhdollpkieknaaGreat


namespace Go.Proofs.YthhdollpkieknaaGreat
open Go.Abs
def for5 (T:List Int->List Spl) (f:List (List Int)):List Spl:=f.foldl (fun o t=>tms5 o (T t)) [([],[],1)]
theorem zmy (T:List Int->List Spl) (f:List (List Int)) (t:List Int):for5 T (f++[t])=tms5 (for5 T f) (T t):=by simp [for5]
def ro5 (n:Nat) (s:Spl):Spl:=(s.1,[canF n (zaA s.2.1)],s.2.2)
def tr5 (n:Nat) (t:List Int) (b:List Spl):List Spl:=b.foldl (fun o s=>put5 o (ro5 n s)) [([t],[],1)]
theorem zo6 (n:Nat) (t:List Int) (b:List Spl) (s:Spl):tr5 n t (b++[s])=put5 (tr5 n t b) (ro5 n s):=by simp [tr5]
def tre5:Nat->List Int->List Spl
 | 0,_=>[]
 | n+1,t=>tr5 (n+1) t (for5 (tre5 n) (srtT (brs (canF (n+1) t))))
def bnS (n:Nat) (t:List Int):List (List Int):=srtT (brs (canF n t))
theorem zlJ (n:Nat) (t:List Int):tre5 (n+1) t=tr5 (n+1) t (for5 (tre5 n) (bnS (n+1) t)):=rfl
def foB (n:Nat) (bs:List (List Int)):Bool:=(List.range bs.length).all fun i=>tmsB (for5 (tre5 n) (bs.take i)) (tre5 n (bs[i]?.getD []))
def trB (n:Nat) (t:List Int) (b:List Spl):Bool:=decide (b.length<=1000) && b.all (fun s=>spB s && rtS n s) && (List.range (b.length+1)).all fun i=>decide ((tr5 n t (b.take i)).length<=1000) && (tr5 n t (b.take i)).all spB
def trcB:Nat->List Int->Bool
 | 0,_=>false
 | n+1,t=>decide (n+1<=100) && lvC t && decide (t.length<=n+1) && lvC (canF (n+1) t) && (decide ((bnS (n+1) t).length<=19) && (bnS (n+1) t).all (fun b=>decide (b.length<=100) && trcB n b)) && foB n (bnS (n+1) t) && trB (n+1) t (for5 (tre5 n) (bnS (n+1) t))
theorem zoq:(trN 6).all (trcB 6)=true:=by kernel_rfl
theorem zmg {n:Nat} {t:List Int} (h:trcB (n+1) t=true):n+1<=100/\Lv t/\t.length<=n+1/\Lv (canF (n+1) t)/\(bnS (n+1) t).length<=19/\(∀ b∈bnS (n+1) t,b.length<=100/\trcB n b=true)/\foB n (bnS (n+1) t)=true/\trB (n+1) t (for5 (tre5 n) (bnS (n+1) t))=true:=by
 simp only [trcB,Bool.and_eq_true,decide_eq_true_eq,List.all_eq_true] at h
 obtain ⟨⟨⟨⟨⟨⟨h1,h2⟩,h3⟩,h4⟩,h5⟩,h6⟩,h7⟩:=h
 exact ⟨h1,zii h2,h3,zii h4,h5.1,h5.2,h6,h7⟩
theorem zto {n:Nat} {bs:List (List Int)} (h:foB n bs=true) {i:Nat} (hi:i<bs.length):tmsB (for5 (tre5 n) (bs.take i)) (tre5 n (bs[i]?.getD []))=true:=List.all_eq_true.1 h i (List.mem_range.2 hi)
theorem zp3 {n:Nat} {t:List Int} {b:List Spl} (h:trB n t b=true):b.length<=1000/\(∀ s∈b,spB s=true/\rtS n s=true)/\∀ i,i<=b.length->(tr5 n t (b.take i)).length<=1000/\∀ s∈tr5 n t (b.take i),spB s=true:=by
 simp only [trB,Bool.and_eq_true,decide_eq_true_eq,List.all_eq_true,List.mem_range] at h
 exact ⟨h.1.1,h.1.2,fun i hi=>h.2 i (by omega)⟩
def c3L (n:Nat) (bs:List (List Int)) (i:Nat):List AV:=if i=0 then [.val (.slice none 0 0),.val (.slice none 0 0),.int 1] else (for5 (tre5 n) (bs.take i)).flatMap spF
theorem zqi (n:Nat) (bs:List (List Int)) (i:Nat):NXL (c3L n bs i) ((for5 (tre5 n) (bs.take i)).flatMap spF):=by
 unfold c3L
 by_cases h:i=0
 .rw [if_pos h,h]
  exact .cons .nil (.cons .nil (.cons (.same _) .nil))
 .rw [if_neg h]; exact NXL.same _
theorem zjh (n:Nat) (ih:∀ t,trcB n t=true->GCon Tryz.prog 316 [.sl t.length (avs t)] (.sl (tre5 n t).length ((tre5 n t).flatMap spF)) [.any]) (bs:List (List Int)) (h:foB n bs=true) (hb:∀ b∈bs,b.length<=100/\trcB n b=true) (hl:bs.length<=19) :
  GCon Tryz.prog 354 [.sl bs.length (mat bs)] (.sl (for5 (tre5 n) bs).length ((for5 (tre5 n) bs).flatMap spF)) [.any]:=by
 have xl:=zqi n bs bs.length
 rw [List.take_length] at xl
 refine GCon.nx (.sl _ xl) ?_
 have x0:c3L n bs 0=[.val (.slice none 0 0),.val (.slice none 0 0),.int 1]:=rfl
 have fl0:(for5 (tre5 n) []).length=1:=rfl
 refine zaj Tryz.mixed ⟨5,[6],[1000000+316,1000000+379],[]⟩ [] Tryz.func354 ?_
 rw [Tryz.ntmps354]
 simp [go_sem]
 refine zac (3::4::List.range' 7 13) (fun i:Nat=>[(3,.sl (for5 (tre5 n) (bs.take i)).length (c3L n bs i)),(4,.int i)]) (fun i=>i<=bs.length) (fun i=>bs.length-i) 0 (by simp) (by simp [go_sem,x0,fl0]) (by simp [go_sem]) ?_
 intro i hi
 by_cases hil:i<bs.length
 .have hii:(i:Int)<bs.length:=by omega
  have hm:=memD [] hil
  have md:=zas hil
  have ne:¬ bs=[]:=by rintro rfl; simp at hil
  have cT:=ih _ (hb _ hm).2
  have cM:=GCon.nxL (.cons (.sl _ (zqi n bs i)) (.cons (.same _) .nil)) (zlf _ _ (zto h hil))
  have tk:bs.take (i+1)=bs.take i++[bs[i]?.getD []]:=by rw [List.take_succ_eq_append_getElem hil]; simp [hil]
  have fs:=zmy (tre5 n) (bs.take i) (bs[i]?.getD [])
  rw [<- tk] at fs
  have x1:c3L n bs (i+1)=(for5 (tre5 n) (bs.take (i+1))).flatMap spF:=by unfold c3L; rw [if_neg (by omega)]
  rw [fs] at x1
  generalize bs[i]?.getD []=b at *
  generalize tms5 (for5 (tre5 n) (bs.take i)) (tre5 n b)=X1 at *
  generalize for5 (tre5 n) (bs.take i)=X0 at *
  generalize c3L n bs i=C at *
  simp [go_sem,hii,md]
  refine ⟨ne,?_⟩
  refine ⟨_,_,cT,?_⟩
  simp [go_sem]
  refine ⟨_,_,cM,?_⟩
  simp [go_sem]
  exact ⟨⟨by omega,by omega⟩,i+1,by omega,by omega,zaa _ _ _ (by simp),by rw [x1,fs]; exact ⟨rfl,rfl⟩,by omega⟩
 .have e:i=bs.length:=by omega
  subst e
  have hii:¬ (bs.length:Int)<bs.length:=by omega
  rw [List.take_length]
  simp [go_sem,hii]
def c4L (n:Nat) (t:List Int) (b:List Spl) (i:Nat):List AV:=if i=0 then [.sl 1 [.sl t.length (avs t)],.val (.slice none 0 0),.int 1] else (tr5 n t (b.take i)).flatMap spF
theorem zqa (n:Nat) (t:List Int) (b:List Spl) (i:Nat):NXL (c4L n t b i) ((tr5 n t (b.take i)).flatMap spF):=by
 unfold c4L
 by_cases h:i=0
 .rw [if_pos h,h]
  exact .cons (.same _) (.cons .nil (.cons (.same _) .nil))
 .rw [if_neg h]; exact NXL.same _
theorem zl0:∀ (n:Nat) (t:List Int),trcB n t=true->GCon Tryz.prog 316 [.sl t.length (avs t)] (.sl (tre5 n t).length ((tre5 n t).flatMap spF)) [.any]:=by
 intro n
 induction n with
 | zero=>intro t h; simp [trcB] at h
 | succ n ih =>
  intro t h
  obtain ⟨h1,h2,h3,h4,h5,h6,h7,h8⟩:=zmg h
  have cB:=zgJ (n+1) t (by omega) h2 h3 h4 h5 (fun m hm=>by have:=(h6 m hm).1; omega)
  have cF:=zjh n ih (bnS (n+1) t) h7 h6 h5
  have cO:=zbl t (by omega)
  rw [zlJ]
  show GCon Tryz.prog _ _ (.sl (tr5 (n+1) t (for5 (tre5 n) (bnS (n+1) t))).length _) _
  have hbn:bnS (n+1) t=srtT (brs (canF (n+1) t)):=rfl
  rw [<- hbn] at cB
  obtain ⟨g1,g2,g3⟩:=zp3 h8
  generalize for5 (tre5 n) (bnS (n+1) t)=B at *
  generalize bnS (n+1) t=bs at *
  have xl:=zqa (n+1) t B B.length
  rw [List.take_length] at xl
  refine GCon.nx (.sl _ xl) ?_
  have x0:c4L (n+1) t B 0=[.sl 1 [.sl t.length (avs t)],.val (.slice none 0 0),.int 1]:=rfl
  have fl0:(tr5 (n+1) t []).length=1:=rfl
  refine zaj Tryz.mixed ⟨6,[10,11,13,31,32],[1000000+355,1000000+354,1000000+356],[]⟩ [] Tryz.func316 ?_
  rw [Tryz.ntmps316]
  simp [go_sem]
  refine ⟨_,_,cB,?_⟩
  simp [go_sem]
  refine ⟨_,_,cF,?_⟩
  simp [go_sem]
  refine CallVC.of (cO) ?_
  simp [go_sem]
  refine zac (4::5::List.range' 14 26) (fun i:Nat=>[(4,.sl (tr5 (n+1) t (B.take i)).length (c4L (n+1) t B i)),(5,.int i)]) (fun i=>i<=B.length) (fun i=>B.length-i) 0 (by simp) (by simp [go_sem,x0,fl0]) (by simp [go_sem]) ?_
  intro i hi
  by_cases hil:i<B.length
  .have hii:(i:Int)<B.length:=by omega
   have hm:=memD ([],[],0) hil
   obtain ⟨q1,q2⟩:=g2 _ hm
   obtain ⟨y1,y2⟩:=g3 i hi
   obtain ⟨⟨⟨s1,s2⟩,s3,s4⟩,s5,s6⟩:=zf5 q1
   obtain ⟨r1,r2,r3⟩:=zkg q2
   have cR:=znO (n+1) (B[i]?.getD ([],[],0)).2.1 (by omega) r1 r2 (by omega) (fun b hb=>r3 b hb)
   have lc:(canF (n+1) (zaA (B[i]?.getD ([],[],0)).2.1)).length=(zaA (B[i]?.getD ([],[],0)).2.1).length:=zaK _ _ r1 r2
   have cP:=GCon.nxL (.cons (.sl _ (zqa (n+1) t B i)) (.cons (.same _) .nil)) (zjM (tr5 (n+1) t (B.take i)) (ro5 (n+1) (B[i]?.getD ([],[],0))) (fun s hs=>by
    obtain ⟨⟨⟨z1,z2⟩,z3,z4⟩,z5,z6⟩:=zf5 (y2 s hs)
    exact ⟨⟨⟨by omega,z2⟩,by omega,z4⟩,z5,by omega⟩) ⟨⟨⟨by show (B[i]?.getD ([],[],0)).1.length<=100; omega,s2⟩,by simp [ro5],fun r hr=>by
     have hr:r∈[canF (n+1) (zaA (B[i]?.getD ([],[],0)).2.1)]:=hr
     rw [List.mem_singleton.1 hr,lc]; omega⟩,s5,by show (B[i]?.getD ([],[],0)).2.2<=1000000; omega⟩ (by omega))
   have dr:=zbd spF (fun _=>rfl) ([],[],0) hil
   have nB:¬ B.flatMap spF=[]:=by intro e; have:=zaw spF (fun _=>rfl) B; rw [e] at this; simp at this; omega
   have lB:=zaw spF (fun _=>rfl) B
   have tk:B.take (i+1)=B.take i++[B[i]?.getD ([],[],0)]:=by rw [List.take_succ_eq_append_getElem hil]; simp [hil]
   have ts:=zo6 (n+1) t (B.take i) (B[i]?.getD ([],[],0))
   rw [<- tk] at ts
   have x1:c4L (n+1) t B (i+1)=(tr5 (n+1) t (B.take (i+1))).flatMap spF:=by unfold c4L; rw [if_neg (by omega)]
   rw [ts] at x1
   generalize B[i]?.getD ([],[],0)=s at *
   obtain ⟨sa,sb,sc⟩:=s
   simp only [ro5,spF] at dr cR lc cP ts x1
   generalize put5 (tr5 (n+1) t (B.take i)) (sa,[canF (n+1) (zaA sb)],sc)=X1 at *
   generalize tr5 (n+1) t (B.take i)=X0 at *
   generalize c4L (n+1) t B i=C at *
   rw [<- lc] at cR
   generalize canF (n+1) (zaA sb)=w at *
   generalize hMB:B.flatMap spF=MB at *
   simp [go_sem,hii,dr]
   refine ⟨by kernel_rfl,nB,?_⟩
   refine CallD.of (cR) ?_
   simp [go_sem]
   have dr2:MB.drop (i*3+2)=AV.int sc::(B.drop (i+1)).flatMap spF:=by
    have:=congrArg (List.drop 2) dr
    rw [List.drop_drop] at this
    exact this
   simp [go_sem,dr2]
   refine ⟨⟨hil,nB⟩,?_⟩
   refine ⟨_,_,cP,?_⟩
   simp [go_sem]
   refine ⟨by kernel_rfl,?_⟩
   simp [go_sem]
   exact ⟨⟨by omega,by omega⟩,i+1,by omega,by omega,zaa _ _ _ (by simp),by rw [x1,ts]; exact ⟨rfl,rfl⟩,by omega⟩
  .have e:i=B.length:=by omega
   subst e
   have hii:¬ (B.length:Int)<B.length:=by omega
   rw [List.take_length]
   simp [go_sem,hii]
def cut5 (t:List Int):List Spl:=tre5 6 t
theorem zqY:(trN 6).all (fun t=>decide ((cut5 t).length<=100) && (cut5 t).all fun s=>decide (s.1.length<=6) && (s.1.all (fun r=>decide (r.length<=6)) && (decide (s.2.1.length<=1) && (s.2.1.all (fun r=>decide (1<=r.length) && decide (r.length<=6)) && (decide (0<=s.2.2) && decide (s.2.2<=100))))))=true:=by decide +kernel
theorem zmq {t:List Int} (h:t∈trN 6):(cut5 t).length<=100/\∀ s∈cut5 t,s.1.length<=6/\(∀ r∈s.1,r.length<=6)/\s.2.1.length<=1/\(∀ r∈s.2.1,1<=r.length/\r.length<=6)/\0<=s.2.2/\s.2.2<=100:=by
 have k:=List.all_eq_true.1 zqY t h
 simp only [Bool.and_eq_true,decide_eq_true_eq,List.all_eq_true] at k
 exact k
theorem zn2 {t:List Int} (h:t∈trN 6):GCon Tryz.prog 271 [.sl t.length (avs t)] (.sl (cut5 t).length ((cut5 t).flatMap cuF)) [.any]:=by
 have cT:=zl0 6 t (List.all_eq_true.1 zoq t h)
 obtain ⟨b1,b2⟩:=zmq h
 have hc:cut5 t=tre5 6 t:=rfl
 rw [<- hc] at cT
 generalize cut5 t=L at *
 have cf:frzL (L.flatMap cuF)=L.flatMap cuF:=by
  clear cT hc b1 b2
  induction L with
  | nil=>rfl
  | cons s L ih=>rw [List.flatMap_cons,zfE,ih]; simp [cuF,frzL,frz]
 refine GCon.frzR (r:=.own 148 L.length (L.flatMap cuF)) ?_ (by show AV.sl _ (frzL _)=_; rw [cf])
 refine zaj Tryz.mixed ⟨7,[16,31,38],[1000000+316],[]⟩ [] Tryz.func271 ?_
 rw [Tryz.ntmps271]
 simp [go_sem]
 refine ⟨_,_,cT,?_⟩
 simp [go_sem]
 refine zac (4::5::6::List.range' 10 38) (fun i:Nat=>[(4,.own 148 i ((L.take i).flatMap cuF)),(5,.int i)]) (fun i=>i<=L.length) (fun i=>L.length-i) 0 (by simp) (by simp [go_sem]) (by simp [go_sem]) ?_
 intro i hi
 by_cases hil:i<L.length
 .have hii:(i:Int)<L.length:=by omega
  have hm:=memD ([],[],0) hil
  obtain ⟨c1,c2,c3,c4,c5,c6⟩:=b2 _ hm
  have dr:=zbd spF (fun _=>rfl) ([],[],0) hil
  have nL:¬ L.flatMap spF=[]:=by intro e; have:=zaw spF (fun _=>rfl) L; rw [e] at this; simp at this; omega
  have lL:=zaw spF (fun _=>rfl) L
  have cl:=zaw cuF (fun _=>rfl) (L.take i)
  rw [List.length_take,Nat.min_eq_left (by omega)] at cl
  have tk:L.take (i+1)=L.take i++[L[i]?.getD ([],[],0)]:=by rw [List.take_succ_eq_append_getElem hil]; simp [hil]
  generalize L[i]?.getD ([],[],0)=s at *
  obtain ⟨a,b,k⟩:=s
  simp only [spF] at dr
  simp only at c1 c2 c3 c4 c5 c6
  have cO2:=zh1 a (by omega) (fun r hr=>by have:=c2 r hr; omega)
  generalize hC:(L.take i).flatMap cuF=C at *
  generalize hML:L.flatMap spF=ML at *
  have dr1:ML.drop (i*3+1)=AV.sl b.length (mat b)::AV.int k::(L.drop (i+1)).flatMap spF:=by
   have:=congrArg (List.drop 1) dr
   rw [List.drop_drop] at this
   exact this
  have dr2:ML.drop (i*3+2)=AV.int k::(L.drop (i+1)).flatMap spF:=by
   have:=congrArg (List.drop 2) dr
   rw [List.drop_drop] at this
   exact this
  cases b with
  | nil =>
   simp [go_sem,hii,dr,dr1,dr2]
   refine ⟨nL,by kernel_rfl,nL,?_⟩
   refine CallD.of (cO2) ?_
   simp [go_sem]
   simp [go_sem,dr2]
   refine ⟨⟨hil,nL⟩,⟨by rw [cl],by omega,by omega⟩,?_⟩
   refine ⟨by kernel_rfl,?_⟩
   simp [go_sem]
   refine ⟨⟨by omega,by omega⟩,i+1,by omega,by omega,zaa _ _ _ (by simp),?_⟩
   rw [tk,List.flatMap_append,hC]
   refine ⟨⟨by omega,?_⟩,by omega⟩
   simp [cuF,tkL,mat]
  | cons r b =>
   have e:b=[]:=List.length_eq_zero_iff.1 (by simpa using c3)
   subst e
   have cO:=zbl r (by have:=(c4 r (by simp)).2; omega)
   simp [go_sem,hii,dr,dr1,dr2,mat]
   refine ⟨nL,?_⟩
   refine CallVC.of (cO) ?_
   simp [go_sem]
   simp [go_sem,dr,dr2]
   refine ⟨by kernel_rfl,⟨hil,nL⟩,?_⟩
   refine CallD.of (cO2) ?_
   simp [go_sem]
   simp [go_sem,dr2]
   refine ⟨⟨hil,nL⟩,⟨by rw [cl],by omega,by omega⟩,?_⟩
   refine ⟨by kernel_rfl,?_⟩
   simp [go_sem]
   refine ⟨⟨by omega,by omega⟩,i+1,by omega,by omega,zaa _ _ _ (by simp),?_⟩
   rw [tk,List.flatMap_append,hC]
   refine ⟨⟨by omega,?_⟩,by omega⟩
   simp [cuF,tkL,mat]
 .have e:i=L.length:=by omega
  subst e
  have hii:¬ (L.length:Int)<L.length:=by omega
  rw [List.take_length]
  simp [go_sem,hii]
end Go.Proofs.YthhdollpkieknaaGreat


namespace Go.Proofs.YthhdollpkieknaaGreat
open Go.Abs
def cp7 (s:Spl):List Int:=s.1.map fun c=>fdL (trN 6) c 0+1
def tp7 (s:Spl):Int:=fdL (trN 6) (tkL s) 0+1
theorem zpt:(List.range 37).all (fun i=>decide ((cut5 ((trN 6)[i]?.getD [])).map (fun s=>(s.2.2%10007,cp7 s,tp7 s))=(cutT[i]?.getD []).map fun c=>((c.1:Int),nvs c.2.1,(c.2.2:Int))))=true:=by decide +kernel
def cr7 (s:Spl) (j:Nat):AV:=if j=0 then .val (.slice none 0 0) else .own 2 j (avs ((cp7 s).take j))
def mc7 (s:Spl):List AV:=[.int (s.2.2%10007),if s.1=[] then .val (.slice none 0 0) else .own 2 s.1.length (avs (cp7 s)),.int (tp7 s)]
def rwS7 (t:List Int):AV:=.own 220 (cut5 t).length ((cut5 t).flatMap mc7)
theorem zmA:GCon Tryz.prog 212 [] (.own 218 38 (.own 220 0 []::(trN 6).map rwS7)) []:=by
 have cT:=zbZ 6 (by omega)
 have l6:=zaQ
 have at6:=fun t h=>zim (t:=t) h
 have e6:((6:Nat):Int)=6:=rfl
 rw [e6,l6] at cT
 have tl:(trN 6).take 37=trN 6:=List.take_of_length_le (by omega)
 refine zaj Tryz.mixed ⟨9,[9,22],[1000000+271],[]⟩ [] Tryz.func212 ?_
 rw [Tryz.ntmps212]
 simp [go_sem]
 refine CallVC.of (cT) ?_
 simp [go_sem]
 refine zac (List.range' 2 7++List.range' 12 67) (fun i:Nat=>[(2,.own 218 (i+1) (.own 220 0 []::((trN 6).take i).map rwS7)),(3,.int i)]) (fun i=>i<=37) (fun i=>37-i) 0 (by simp) (by simp [go_sem]) (by simp [go_sem]) ?_
 intro i hi
 by_cases hil:i<37
 .have hii:(i:Int)<37:=by omega
  have hl:i<(trN 6).length:=by omega
  have dm:=zas hl
  have hm:=memD [] hl
  have cC:=zn2 hm
  obtain ⟨b1,b2⟩:=zmq hm
  have nm:=znU
  have tki:(trN 6).take (i+1)=(trN 6).take i++[(trN 6)[i]?.getD []]:=by
   rw [List.take_succ_eq_append_getElem hl,List.getElem?_eq_getElem hl]; rfl
  have hrw:rwS7 ((trN 6)[i]?.getD [])=.own 220 (cut5 ((trN 6)[i]?.getD [])).length ((cut5 ((trN 6)[i]?.getD [])).flatMap mc7):=rfl
  have lti:(((trN 6).take i).map rwS7).length=i:=by rw [List.length_map,List.length_take]; omega
  have cFd:=fun t=>zhU (trN 6) t (by omega) (fun r hr=>by have:=(at6 r hr).2.1; omega)
  rw [l6] at cFd
  generalize (trN 6)[i]?.getD []=t at *
  generalize cut5 t=L at *
  simp [go_sem,hii,dm]
  refine ⟨nm,?_⟩
  refine ⟨_,_,cC,?_⟩
  simp [go_sem]
  refine zac (5::6::7::8::List.range' 24 51) (fun j:Nat=>[(5,.own 220 j ((L.take j).flatMap mc7)),(6,.int j)]) (fun j=>j<=L.length) (fun j=>L.length-j) 0 (by simp) (by simp [go_sem]) (by simp [go_sem]) ?_
  intro j hj
  by_cases hjl:j<L.length
  .have hji:(j:Int)<L.length:=by omega
   have dr:=zbd cuF (fun _=>rfl) ([],[],0) hjl
   have nL:¬ L.flatMap cuF=[]:=by intro e; have:=zaw cuF (fun _=>rfl) L; rw [e] at this; simp at this; omega
   have lL:=zaw cuF (fun _=>rfl) L
   have hms:=memD ([],[],0) hjl
   obtain ⟨c1,c2,c3,c4,c5,c6⟩:=b2 _ hms
   have tkj:L.take (j+1)=L.take j++[L[j]?.getD ([],[],0)]:=by
    rw [List.take_succ_eq_append_getElem hjl,List.getElem?_eq_getElem hjl]; rfl
   have clj:=zaw mc7 (fun _=>rfl) (L.take j)
   rw [List.length_take,Nat.min_eq_left (by omega)] at clj
   generalize L[j]?.getD ([],[],0)=s at *
   obtain ⟨sa,sb,sc⟩:=s
   simp only [cuF] at dr
   simp only at c1 c2 c3 c4 c5 c6
   have hMX:mc7 (sa,sb,sc)=[.int (sc%10007),if sa=[] then .val (.slice none 0 0) else .own 2 sa.length (avs (cp7 (sa,sb,sc))),.int (tp7 (sa,sb,sc))]:=rfl
   have htp:tp7 (sa,sb,sc)=fdL (trN 6) (tkL (sa,sb,sc)) 0+1:=rfl
   have hcp:cp7 (sa,sb,sc)=sa.map fun c=>fdL (trN 6) c 0+1:=rfl
   have hcr:∀ k,cr7 (sa,sb,sc) k=if k=0 then .val (.slice none 0 0) else .own 2 k (avs ((cp7 (sa,sb,sc)).take k)):=fun k=>rfl
   have hcl:(cp7 (sa,sb,sc)).length=sa.length:=by rw [hcp,List.length_map]
   have cPt:=cFd (tkL (sa,sb,sc))
   have btp:=zkA (trN 6) (tkL (sa,sb,sc)) 0
   rw [l6] at btp
   have cM:=zcm sc (by omega) (by omega)
   generalize tkL (sa,sb,sc)=tk at *
   generalize hCP:cp7 (sa,sb,sc)=cps at *
   generalize hMC:L.flatMap cuF=MC at *
   generalize hC:(L.take j).flatMap mc7=C at *
   have dr1:MC.drop (j*3+1)=AV.sl tk.length (avs tk)::AV.int sc::(L.drop (j+1)).flatMap cuF:=by
    have:=congrArg (List.drop 1) dr
    rw [List.drop_drop] at this
    exact this
   have dr2:MC.drop (j*3+2)=AV.int sc::(L.drop (j+1)).flatMap cuF:=by
    have:=congrArg (List.drop 2) dr
    rw [List.drop_drop] at this
    exact this
   simp [go_sem,hji,dr2]
   refine ⟨by kernel_rfl,nL,?_⟩
   refine CallD.of (cM) ?_
   simp [go_sem]
   simp [go_sem,dr1]
   refine ⟨⟨hjl,nL⟩,?_⟩
   refine CallD.of (cPt) ?_
   simp [go_sem]
   refine ⟨⟨by omega,by omega⟩,?_⟩
   refine ⟨by kernel_rfl,?_⟩
   simp [go_sem]
   refine zac (7::8::List.range' 45 26) (fun k:Nat=>[(7,.box 220 [.int (sc%10007),cr7 (sa,sb,sc) k,.int (tp7 (sa,sb,sc))]),(8,.int k)]) (fun k=>k<=sa.length) (fun k=>sa.length-k) 0 (by simp) (by simp [go_sem,cr7,htp]) (by simp [go_sem,cr7]) ?_
   intro k hk
   by_cases hkl:k<sa.length
   .have hki:(k:Int)<sa.length:=by omega
    have dk:=zas hkl
    have na:¬ sa=[]:=by rintro rfl; simp at hkl
    have cP:=cFd (sa[k]?.getD [])
    have bp:=zkA (trN 6) (sa[k]?.getD []) 0
    rw [l6] at bp
    have tkk:cps.take (k+1)=cps.take k++[fdL (trN 6) (sa[k]?.getD []) 0+1]:=by
     rw [List.take_succ_eq_append_getElem (by omega)]
     congr 2
     subst hcp
     rw [List.getElem_map,List.getElem?_eq_getElem hkl]; rfl
    have lk:(cps.take k).length=k:=by rw [List.length_take]; omega
    have x1:cr7 (sa,sb,sc) (k+1)=.own 2 (k+1) (avs (cps.take k++[fdL (trN 6) (sa[k]?.getD []) 0+1])):=by rw [hcr,if_neg (by omega),tkk]
    generalize sa[k]?.getD []=r at *
    generalize fdL (trN 6) r 0=v at *
    by_cases k0:k=0
    .have x0:cr7 (sa,sb,sc) k=.val (.slice none 0 0):=by rw [hcr,if_pos k0]
     rw [x0]
     simp [go_sem,dr,hki,dk]
     refine ⟨⟨hjl,nL⟩,by kernel_rfl,⟨hjl,nL⟩,na,?_⟩
     refine CallD.of (cP) ?_
     simp [go_sem]
     refine ⟨⟨by omega,by omega⟩,?_⟩
     refine ⟨by kernel_rfl,?_⟩
     simp [go_sem]
     refine ⟨⟨by omega,by omega⟩,k+1,by omega,by omega,zaa _ _ _ (by simp),?_⟩
     rw [x1]
     subst k0
     exact ⟨by simp [avs],by omega⟩
    .have x0:cr7 (sa,sb,sc) k=.own 2 k (avs (cps.take k)):=by rw [hcr,if_neg k0]
     rw [x0]
     simp [go_sem,dr,hki,dk]
     refine ⟨⟨hjl,nL⟩,by kernel_rfl,⟨hjl,nL⟩,na,?_⟩
     refine CallD.of (cP) ?_
     simp [go_sem]
     refine ⟨⟨by omega,by omega⟩,⟨by omega,by omega,by omega⟩,?_⟩
     refine ⟨by kernel_rfl,?_⟩
     simp [go_sem]
     refine ⟨⟨by omega,by omega⟩,k+1,by omega,by omega,zaa _ _ _ (by simp),?_⟩
     rw [x1,zav]
     exact ⟨rfl,by omega⟩
   .have e:k=sa.length:=by omega
    subst e
    have hki:¬ (sa.length:Int)<sa.length:=by omega
    by_cases s0:sa=[]
    .have x0:cr7 (sa,sb,sc) sa.length=.val (.slice none 0 0):=by rw [hcr,if_pos (by rw [s0]; rfl)]
     rw [x0]
     rw [if_pos s0] at hMX
     simp [go_sem,dr,hki]
     refine ⟨⟨hjl,nL⟩,⟨by rw [clj],by omega,by omega⟩,⟨by omega,by omega⟩,j+1,by omega,by omega,(Off.reset (by intro x hx; simp at hx |-; omega) (by simp) (by simp [go_sem,zaa])),?_⟩
     rw [tkj,List.flatMap_append,hC]
     refine ⟨⟨by omega,?_⟩,by omega⟩
     simp [hMX]
    .have x0:cr7 (sa,sb,sc) sa.length=.own 2 sa.length (avs cps):=by
      rw [hcr,if_neg (by intro e; exact s0 (List.length_eq_zero_iff.1 e)),List.take_of_length_le (by omega)]
     rw [x0]
     rw [if_neg s0] at hMX
     simp [go_sem,dr,hki]
     refine ⟨⟨hjl,nL⟩,⟨by rw [clj],by omega,by omega⟩,⟨by omega,by omega⟩,j+1,by omega,by omega,(Off.reset (by intro x hx; simp at hx |-; omega) (by simp) (by simp [go_sem,zaa])),?_⟩
     rw [tkj,List.flatMap_append,hC]
     refine ⟨⟨by omega,?_⟩,by omega⟩
     simp [hMX]
  .have e:j=L.length:=by omega
   subst e
   have hji:¬ (L.length:Int)<L.length:=by omega
   rw [List.take_length]
   simp [go_sem,hji]
   refine ⟨⟨by omega,by omega,by omega⟩,⟨by omega,by omega⟩,i+1,by omega,by omega,(by repeat (first | exact zaa _ _ _ (by simp) | (refine Off.reset (by intro x hx; simp at hx |-; omega) (by simp) ?_; simp -failIfUnchanged [go_sem,zaa]))),?_⟩
   rw [<- List.map_take,<- List.map_take,tki,List.map_append,<- hrw]
   exact ⟨⟨rfl,rfl⟩,by omega⟩
 .have e:i=37:=by omega
  subst e
  rw [tl]
  simp [go_sem]
theorem znb:∀ L:List Spl,NXL (frzL (L.flatMap mc7)) ((L.map fun s=>(s.2.2%10007,cp7 s,tp7 s)).flatMap fun x=>[.int x.1,.sl x.2.1.length (avs x.2.1),.int x.2.2])
 | []=>.nil
 | s::L=>by
  rw [List.map_cons,List.flatMap_cons,List.flatMap_cons,zfE]
  refine NXL.app (znb L) ?_
  by_cases h:s.1=[]
  .have e:mc7 s=[.int (s.2.2%10007),.val (.slice none 0 0),.int (tp7 s)]:=by unfold mc7; rw [if_pos h]
   have e2:cp7 s=[]:=by unfold cp7; rw [h]; rfl
   rw [e,e2]
   exact .cons (.same _) (.cons .nil (.cons (.same _) .nil))
  .have e:mc7 s=[.int (s.2.2%10007),.own 2 s.1.length (avs (cp7 s)),.int (tp7 s)]:=by unfold mc7; rw [if_neg h]
   have e2:(cp7 s).length=s.1.length:=by simp [cp7]
   rw [e]
   show NXL [.int (s.2.2%10007),.sl s.1.length (frzL (avs (cp7 s))),.int (tp7 s)] [.int (s.2.2%10007),.sl (cp7 s).length (avs (cp7 s)),.int (tp7 s)]
   rw [zd5,e2]
   exact NXL.same _
theorem zlm:∀ T:List (List Int),NXL (frzL (T.map rwS7)) (T.map fun t=>trG ((cut5 t).map fun s=>(s.2.2%10007,cp7 s,tp7 s)))
 | []=>.nil
 | t::T=>by
  rw [List.map_cons,List.map_cons]
  refine .cons ?_ (zlm T)
  show NX (.sl (cut5 t).length (frzL ((cut5 t).flatMap mc7))) (trG _)
  unfold trG
  rw [List.length_map]
  exact .sl _ (znb _)
theorem zpH:((trN 6).map fun t=>trG ((cut5 t).map fun s=>(s.2.2%10007,cp7 s,tp7 s)))=fcF:=by
 have l6:=zaQ
 have lc:=zha
 show _=cutT.map fun r=>AV.sl r.length (r.flatMap ctF)
 refine List.ext_getElem (by rw [List.length_map,List.length_map,l6,lc]) fun i h1 h2=>?_
 have hi:i<37:=by rw [List.length_map,l6] at h1; exact h1
 have e:=of_decide_eq_true (List.all_eq_true.1 zpt i (List.mem_range.2 hi))
 rw [List.getElem?_eq_getElem (show i<(trN 6).length by omega),List.getElem?_eq_getElem (show i<cutT.length by omega),Option.getD_some,Option.getD_some] at e
 rw [List.getElem_map,e]
 unfold trG
 rw [List.getElem_map,List.length_map,List.flatMap_map]
 show AV.sl _ (List.flatMap (fun c:Ctp=>[AV.int c.1,AV.sl (nvs c.2.1).length (avs (nvs c.2.1)),AV.int c.2.2]) _)=_
 simp only [zea]
 rfl
theorem zfl:GCon Tryz.prog 212 [] (.sl 38 (.sl 0 []::fcF)) []:=by
 refine GCon.nx (.sl 38 (.cons (.same _) ?_)) (GCon.frzR zmA rfl)
 rw [<- zpH]
 exact zlm _
end Go.Proofs.YthhdollpkieknaaGreat


namespace Go.Proofs.YthhdollpkieknaaGreat
open Go.Abs
theorem zfH (n:Nat) (h:n<=20):Con Tryz.prog 312 [.int n] (.int (fact n)):=by
 refine zab Tryz.mixed ⟨5,[],[],[]⟩ Tryz.func312 ?_
 rw [Tryz.ntmps312]
 simp [go_sem]
 refine zac (List.range' 2 20) (fun k:Nat=>[(3,.int (fact (k+1))),(4,.int (k+2))]) (fun k=>k<=n-1) (fun k=>n-k) 0 (by simp) (by simp [go_sem]; decide) (by simp [go_sem]) ?_
 intro k hk
 simp [go_sem]
 refine ⟨fun h=>?_,fun h=>?_⟩ <;> simp at h
 .have e:fact (k+1)*((k:Int)+2)=fact (k+1+1):=by simp only [fact]; rw [show ((k+1:Nat):Int)+1=(k:Int)+2 by omega]
  have b:=zsm (show k+1+1<=20 by omega)
  simp [go_sem,e]
  refine ⟨by omega,by omega,k+1,by omega,by omega,zaa _ _ _ (by simp),rfl,by omega⟩
 .simp [go_sem]
  rcases (show k=0/\n<=1\/k+1=n by omega) with ⟨rfl,_⟩ | hk
  .have:n=0\/n=1:=by omega
   rcases this with rfl | rfl <;> rfl
  .rw [hk]
theorem ztx {n:Nat} (h:n<=6):0<=fact n/\fact n<=720:=⟨by have:=zeO n; omega,Int.le_trans (zmt h) (by decide)⟩
end Go.Proofs.YthhdollpkieknaaGreat

