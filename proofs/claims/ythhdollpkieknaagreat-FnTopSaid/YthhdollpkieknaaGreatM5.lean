/- Texts of the own layer and contracts, part 5: P0 C0 C1 C4 C5 C6 C7 C8 C2 C9 C10 C11 C12 F0 F1 F2 F3 F4 F5 F6 P1 P2 P3 P4 P5 P6 C13 F7 Q0 G0 G1 Q1 Q2 Q29 L3 Q9 Q10 Q11 Q12 Q13 Q3 Q4 Q5 P7 Q6 Q7 Q8 Q14 Q15 Q16 Q17 Q18 Q19 Q20 Q21. -/
import Derived.Test.YthhdollpkieknaaGreatM4
set_option linter.unusedSectionVars false
set_option linter.unusedVariables false
set_option linter.unusedSimpArgs false
set_option maxHeartbeats 4000000
set_option maxRecDepth 100000
namespace Go.Proofs.YthhdollpkieknaaGreat
abbrev Key3:=Int × Int × Int
def sumI {α:Type} (f:α->Int):List α->Int
 | []=>0
 | a::l=>f a+sumI f l
theorem zvK {α:Type} (f:α->Int) (l r:List α):sumI f (l++r)=sumI f l+sumI f r:=by
 induction l with
 | nil=>simp [sumI]
 | cons a l ih=>simp [sumI,ih]; omega
theorem zoB {α:Type} (f g:α->Int):∀ l:List α,sumI (fun a=>f a+g a) l=sumI f l+sumI g l
 | []=>rfl
 | a::l=>by simp only [sumI,zoB f g l]; omega
theorem zjB {α:Type} (c:Int) (f:α->Int):∀ l:List α,sumI (fun a=>c*f a) l=c*sumI f l
 | []=>by simp [sumI]
 | a::l=>by simp only [sumI,zjB c f l,Int.mul_add]
theorem zbO {α:Type} {f:α->Int}:∀ {l:List α},(∀ a∈l,f a=0)->sumI f l=0
 | [],_=>rfl
 | a::l,h=>by simp only [sumI,h a (by simp),zbO (l:=l) (fun b hb=>h b (by simp [hb]))]; rfl
theorem zcH {α:Type} {f g:α->Int}:∀ {l:List α},(∀ a∈l,f a=g a)->sumI f l=sumI g l
 | [],_=>rfl
 | a::l,h=>by simp only [sumI,h a (by simp),zcH (l:=l) (fun b hb=>h b (by simp [hb]))]
theorem znV {α:Type} {P:Int} {f g:α->Int}:∀ {l:List α},(∀ a∈l,f a%P=g a%P)->sumI f l%P=sumI g l%P
 | [],_=>rfl
 | a::l,h=>by
  simp only [sumI]
  rw [Int.add_emod,h a (by simp),znV (l:=l) (fun b hb=>h b (by simp [hb])),<- Int.add_emod]
theorem znj {α:Type} [DecidableEq α] (e:α) (v:Int):∀ {l:List α},l.Nodup->e∈l->sumI (fun k=>if k=e then v else 0) l=v
 | a::l,hn,he=>by
  obtain ⟨h1,h2⟩:=List.nodup_cons.1 hn
  simp only [sumI]
  by_cases h:a=e
  .subst h
   rw [if_pos rfl,zbO (fun b hb=>if_neg (fun hh=>h1 (by rw [<- hh]; exact hb)))]; omega
  .have hel:e∈l:=by
    rcases List.mem_cons.1 he with he | he
    .exact (h he.symm).elim
    .exact he
   rw [if_neg h,znj e v h2 hel]; omega
def r4:List Int:=[0,1,2,3]
def box:List Key3:=r4.flatMap fun i=>r4.flatMap fun j=>r4.map fun k=>(i,j,k)
theorem zBX:box.Nodup:=by decide
theorem zfn {k:Key3}:k∈box ↔ 0<=k.1/\k.1<=3/\0<=k.2.1/\k.2.1<=3/\0<=k.2.2/\k.2.2<=3:=by
 obtain ⟨a,b,c⟩:=k
 have h4:∀ x:Int,x∈r4 ↔ 0<=x/\x<=3:=fun x=>by simp [r4]; omega
 simp only [box,List.mem_flatMap,List.mem_map,Prod.mk.injEq]
 constructor
 .rintro ⟨i,hi,j,hj,k,hk,rfl,rfl,rfl⟩
  have:=(h4 i).1 hi; have:=(h4 j).1 hj; have:=(h4 k).1 hk
  omega
 .rintro ⟨h1,h2,h3,h5,h6,h7⟩
  exact ⟨a,(h4 a).2 ⟨h1,h2⟩,b,(h4 b).2 ⟨h3,h5⟩,c,(h4 c).2 ⟨h6,h7⟩,rfl,rfl,rfl⟩
def trm (y:Nat->Int) (k:Key3):Int:=y 0 ^ k.1.toNat*(y 1 ^ k.2.1.toNat*y 2 ^ k.2.2.toNat)
def Val (y:Nat->Int) (C:Key3->Int):Int:=sumI (fun k=>C k*trm y k) box
theorem zrs (y:Nat->Int) (C D:Key3->Int):Val y (fun k=>C k+D k)=Val y C+Val y D:=by
 unfold Val; rw [<- zoB]; exact zcH (fun k _=>Int.add_mul _ _ _)
theorem zxM (y:Nat->Int) (c:Int) (C:Key3->Int):Val y (fun k=>c*C k)=c*Val y C:=by
 unfold Val; rw [<- zjB]; exact zcH (fun k _=>Int.mul_assoc _ _ _)
theorem zzJ (y:Nat->Int) (e:Key3) (v:Int) (he:e∈box):Val y (fun k=>if k=e then v else 0)=v*trm y e:=by
 unfold Val
 rw [<- znj e (v*trm y e) zBX he]
 refine zcH (fun k _=>?_)
 show (if k=e then v else 0)*trm y k=if k=e then v*trm y e else 0
 by_cases h:k=e
 .rw [if_pos h,if_pos h,h]
 .rw [if_neg h,if_neg h,Int.zero_mul]
theorem zyF (y:Nat->Int) {P:Int} {C D:Key3->Int} (h:∀ k∈box,C k%P=D k%P):Val y C%P=Val y D%P:=by
 unfold Val
 refine znV (fun k hk=>?_)
 rw [Int.mul_emod,h k hk,<- Int.mul_emod]
def coef {α:Type} (key:α->Key3) (num:α->Int) (l:List α) (k:Key3):Int:=sumI (fun a=>if k=key a then num a else 0) l
theorem zgb {α:Type} (y:Nat->Int) (key:α->Key3) (num:α->Int):∀ l:List α,(∀ a∈l,key a∈box)->Val y (coef key num l)=sumI (fun a=>num a*trm y (key a)) l
 | [],_=>by unfold Val coef; simp only [sumI]; exact zbO (fun _ _=>by simp)
 | a::l,h=>by
  have e:coef key num (a::l)=fun k=>(if k=key a then num a else 0)+coef key num l k:=rfl
  rw [e,zrs,zzJ y (key a) (num a) (h a (by simp)),zgb y key num l (fun b hb=>h b (by simp [hb]))]; rfl
def inc (i:Nat) (k:Key3):Key3:=if i=0 then (k.1+1,k.2.1,k.2.2) else if i=1 then (k.1,k.2.1+1,k.2.2) else (k.1,k.2.1,k.2.2+1)
def at3 (i:Nat) (k:Key3):Int:=if i=0 then k.1 else if i=1 then k.2.1 else k.2.2
def der (i:Nat) (C:Key3->Int) (k:Key3):Int:=(at3 i k+1)*C (inc i k)
theorem zz7 (i:Nat) (C D:Key3->Int) (k:Key3):der i (fun k=>C k+D k) k=der i C k+der i D k:=by simp only [der,Int.mul_add]
theorem zxN (i:Nat) (c:Int) (C:Key3->Int) (k:Key3):der i (fun k=>c*C k) k=c*der i C k:=by simp only [der]; rw [Int.mul_left_comm]
def alo (v:Nat->Int) (C:Key3->Int):Nat->Key3->Int
 | 0,_=>0
 | n+1,k=>alo v C n k+v n*der n C k
end Go.Proofs.YthhdollpkieknaaGreat


namespace Go.Abs
def avs (xs:List Int):List AV:=xs.map AV.int
@[simp] theorem zDw (xs:List Int):(avs xs).length=xs.length:=by simp [avs]
@[simp] theorem zDD:avs []=[]:=rfl
theorem zam (xs:List Int) (x:Int):avs (xs++[x])=avs xs++[.val (.int .i64 x)]:=by simp [avs]
theorem zc9 (xs:List Int) (x:Int):avs (x::xs)=.val (.int .i64 x)::avs xs:=by simp [avs]
theorem zae {xs:List Int} {k:Nat} (h:k<xs.length):(avs xs).drop k=.val (.int .i64 (xs.getD k 0))::avs (xs.drop (k+1)):=by
 rw [avs,<- List.map_drop,List.drop_eq_getElem_cons h,List.map_cons]; simp [h,avs]
@[simp] theorem zDB {xs ys:List Int}:(avs xs=avs ys)=(xs=ys):=by
 apply propext
 constructor
 .intro h
  induction xs generalizing ys with
  | nil=>cases ys with
   | nil=>rfl
   | cons y ys=>simp [avs] at h
  | cons x xs ih=>cases ys with
   | nil=>simp [avs] at h
   | cons y ys =>
    rw [zc9,zc9] at h
    injection h with h1 h2
    injection h1 with h1
    injection h1 with _ h1
    rw [h1,ih h2]
 .rintro rfl; rfl
theorem za0 (xs:List Int) (k:Nat) (x:Int):(avs xs).set k (.val (.int .i64 x))=avs (xs.set k x):=by
 simp [avs,List.map_set]
theorem zc5 (n:Nat) (x:Int):List.replicate n (AV.val (.int .i64 x))=avs (List.replicate n x):=by simp [avs]
@[simp] theorem zAM (xs:List Int):zan (avs xs)=true:=by
 induction xs with
 | nil=>rfl
 | cons x xs ih=>simp [zc9,zan,ih,zau]
@[simp] theorem zhG (xs:List Int):frzL (avs xs)=avs xs:=by
 induction xs with
 | nil=>rfl
 | cons x xs ih=>simp [zc9,frzL,ih,frz]
@[simp] theorem zEM (W:List Nat) (xs:List Int):klL W (avs xs)=avs xs:=by
 induction xs with
 | nil=>rfl
 | cons x xs ih=>simp [zc9,klL,ih,kl]
@[simp] theorem zDX (xs:List Int):zaR (avs xs)=false:=by
 induction xs with
 | nil=>rfl
 | cons x xs ih=>simp [zc9,zaR,ih,zbK]
@[simp] theorem zEO {xs:List Int}:(avs xs=[])=(xs=[]):=by
 cases xs <;> simp [avs]
theorem zy9 {n:Int} (h:0<=n) (m:Int):n.tmod m=n%m:=Int.tmod_eq_emod_of_nonneg h
theorem zzF {n:Int} (h:0<=n) (m:Int):n.tdiv m=n / m:=Int.tdiv_eq_ediv_of_nonneg h
theorem zsC (n:Int):(n.tmod 10007+10007).tmod 10007=n%10007:=by
 rw [Int.tmod_eq_emod,Int.tmod_eq_emod]; split <;> split <;> simp_all <;> omega
theorem ztK (n:Int) : -10007<n.tmod 10007/\n.tmod 10007<10007:=by
 constructor
 .rw [Int.tmod_eq_emod]; split <;> simp_all <;> omega
 .exact Int.tmod_lt_of_pos n (by omega)
end Go.Abs


namespace Go.Proofs.YthhdollpkieknaaGreat
open Go.Abs
theorem zeO (n a b:Int):Con Tryz.prog 103 [.int n,.int a,.int b] (.bool (decide (a<=n) && decide (n<=b))):=by
 refine zab Tryz.mixed ⟨4,[],[],[]⟩ Tryz.func103 ?_
 rw [Tryz.ntmps103]
 simp [go_sem]
 refine ⟨fun h=>?_,fun h=>?_⟩ <;> simp at h <;> simp [go_sem,h] <;> omega
theorem zda (n a b:Int):Con Tryz.prog 119 [.int n,.int a,.int b] (.bool (decide (a<=n) && decide (n<=b))):=by
 refine zab Tryz.mixed ⟨4,[],[],[]⟩ Tryz.func119 ?_
 rw [Tryz.ntmps119]
 simp [go_sem]
 refine ⟨fun h=>?_,fun h=>?_⟩ <;> simp at h <;> simp [go_sem,h] <;> omega
def upTo (k:Nat):List Int:=(List.range k).map fun (i:Nat)=>(i:Int)
theorem zqM (k:Nat):upTo (k+1)=upTo k++[(k:Int)]:=by simp [upTo,List.range_succ]
@[simp] theorem zCT (k:Nat):(upTo k).length=k:=by simp [upTo]
def held (xs:List Int) (k:Int):Int:=if xs=(List.range xs.length).map (fun (i:Nat)=>k+i) then k+xs.length else -1
end Go.Proofs.YthhdollpkieknaaGreat


namespace Go.Proofs.YthhdollpkieknaaGreat
open Go.Abs
def idxF {α:Type} (p:α->Bool):List α->Int
 | [] => -1
 | x::xs=>if p x then 0 else if idxF p xs = -1 then -1 else idxF p xs+1
theorem zl9 {α:Type} (p:α->Bool):∀ xs:List α,-1<=idxF p xs/\idxF p xs<xs.length
 | []=>by simp [idxF]
 | x::xs=>by
  have:=zl9 p xs
  simp only [idxF,List.length_cons]
  split
  .omega
  .split <;> omega
theorem zjs {α:Type} (p:α->Bool) (xs:List α):decide (0<=idxF p xs)=xs.any p:=by
 induction xs with
 | nil=>simp [idxF]
 | cons x xs ih =>
  have:=zl9 p xs
  simp only [idxF,List.any_cons,<- ih]
  by_cases hp:p x=true
  .simp [hp]
  .simp only [hp]
   simp
   split
   .rename_i e; simp [e]
   .by_cases h:0<=idxF p xs <;> simp [h] <;> omega
theorem ze1 {α:Type} (p:α->Bool):∀ (xs:List α) (i:Nat),(∀ x∈xs.take i,p x=false)->i<=xs.length->(idxF p xs=if idxF p (xs.drop i) = -1 then -1 else idxF p (xs.drop i)+i)
 | xs,0,h,hl=>by simp
 | [],i+1,h,hl=>by simp at hl
 | x::xs,i+1,h,hl=>by
  have h1:p x=false:=h x (by simp)
  have h2:=ze1 p xs i (fun y hy=>h y (by simp [hy])) (by simpa using hl)
  simp only [idxF,h1,List.drop_succ_cons]
  have:=(zl9 p (xs.drop i)).1
  simp
  rw [h2]
  split
  .simp
  .rename_i hne
   rw [if_neg (by omega)]
   omega
theorem zjX (g:FuncId) (p:Int->Bool) (xs:List Int) (hl:xs.length<=9223372036854775807) (hg:∀ x∈xs,Con Tryz.prog g [.int x] (.bool (p x))) :
  Con Tryz.prog 277 [.sl xs.length (avs xs),.val (.func (.func g) #[] #[])] (.int (idxF p xs)):=by
 refine zab Tryz.mixed ⟨6,[],[],[]⟩ Tryz.func277 ?_
 rw [Tryz.ntmps277]
 simp [go_sem]
 refine zac (5::List.range' 8 20) (fun i:Nat=>[(8,.int i)]) (fun i=>i<=xs.length/\∀ x∈xs.take i,p x=false) (fun i=>xs.length-i) 0 (by simp) (by simp [go_sem]) (by simp [go_sem]) ?_
 rintro i ⟨hi,hf⟩
 simp [go_sem]
 have sk:=ze1 p xs i hf hi
 refine ⟨fun h=>?_,fun h=>?_⟩ <;> simp at h
 .have hx:xs[i]?.getD 0∈xs:=by simp [h]
  have hd:xs.drop i=xs[i]?.getD 0::xs.drop (i+1):=by rw [List.drop_eq_getElem_cons h]; simp [h]
  simp [go_sem,zae h]
  refine ⟨⟨h,by rintro rfl; simp at h⟩,CallVC.of (hg _ hx) ?_⟩
  simp [go_sem]
  refine ⟨fun h2=>?_,fun h2=>?_⟩ <;> simp [go_sem]
  .rw [sk,hd]; simp [idxF,h2]
  .refine ⟨by omega,i+1,⟨by omega,?_⟩,by omega,zaa _ _ _ (by simp),by omega⟩
   intro x hx2
   rw [List.take_add_one,List.getElem?_eq_getElem h,Option.toList_some,List.mem_append,List.mem_singleton] at hx2
   rcases hx2 with hx2 | hx2
   .exact hf x hx2
   .rw [hx2]; simpa [h] using h2
 .simp [go_sem]
  rw [sk,List.drop_eq_nil_of_le h]; simp [idxF]
theorem zgD (g:FuncId) (p:Int->Bool) (xs:List Int) (hl:xs.length<=9223372036854775807) (hg:∀ x∈xs,Con Tryz.prog g [.int x] (.bool (p x))) :
  Con Tryz.prog 231 [.sl xs.length (avs xs),.val (.func (.func g) #[] #[])] (.bool (xs.any p)):=by
 refine zab Tryz.mixed ⟨5,[],[],[]⟩ Tryz.func231 ?_
 rw [Tryz.ntmps231]
 simp [go_sem]
 refine CallVC.of (zjX g p xs hl hg) ?_
 simp [go_sem,zjs]
theorem zfB (a:Int):Con Tryz.prog 93 [.int a] (.bool (decide (0<=a/\a<=10006))):=by
 refine zab Tryz.mixed ⟨3,[],[],[]⟩ Tryz.func93 ?_
 rw [Tryz.ntmps93]
 simp [go_sem]
 refine CallVC.of (zeO _ _ _) ?_
 simp [go_sem]
theorem zlQ (a:Int):Con Tryz.prog 232 [.int a] (.bool (!decide (0<=a/\a<=10006))):=by
 refine zab Tryz.mixed ⟨3,[],[],[]⟩ Tryz.func232 ?_
 rw [Tryz.ntmps232]
 simp [go_sem]
 refine CallVC.of (zfB _) ?_
 simp [go_sem]
def zbS (xs:List Int):Bool:=xs.all fun a=>decide (0<=a/\a<=10006)
theorem zcl (xs:List Int) (hl:xs.length<=9223372036854775807):Con Tryz.prog 156 [.sl xs.length (avs xs)] (.bool (zbS xs)):=by
 refine zab Tryz.mixed ⟨3,[],[],[]⟩ Tryz.func156 ?_
 rw [Tryz.ntmps156]
 simp [go_sem]
 refine CallVC.of (zgD _ _ xs hl (fun x _=>zlQ x)) ?_
 simp [go_sem,zbS,List.not_any_eq_all_not]
end Go.Proofs.YthhdollpkieknaaGreat


namespace Go.Proofs.YthhdollpkieknaaGreat
open Go.Abs
def mat (xss:List (List Int)):List AV:=xss.map fun r=>.sl r.length (avs r)
@[simp] theorem zDo (xss:List (List Int)):(mat xss).length=xss.length:=by simp [mat]
theorem zag {xss:List (List Int)} {k:Nat} (h:k<xss.length):(mat xss).drop k=.sl (xss[k]?.getD []).length (avs (xss[k]?.getD []))::mat (xss.drop (k+1)):=by
 rw [mat,<- List.map_drop,List.drop_eq_getElem_cons h,List.map_cons]; simp [h,mat]
@[simp] theorem zEp {xss:List (List Int)}:(mat xss=[])=(xss=[]):=by cases xss <;> simp [mat]
theorem zkT (g:FuncId) (s:Int) (p:List Int->Bool) (xss:List (List Int)) (hl:xss.length<=9223372036854775807) (hg:∀ x∈xss,Con Tryz.prog g [.sl x.length (avs x),.fptr [.int s]] (.bool (p x))) :
  Con Tryz.prog 233 [.sl xss.length (mat xss),.fn g [.fptr [.int s]]] (.int (idxF p xss)):=by
 refine zab Tryz.mixed ⟨6,[],[],[]⟩ Tryz.func233 ?_
 rw [Tryz.ntmps233]
 simp [go_sem]
 refine zac (5::List.range' 8 20) (fun i:Nat=>[(8,.int i)]) (fun i=>i<=xss.length/\∀ x∈xss.take i,p x=false) (fun i=>xss.length-i) 0 (by simp) (by simp [go_sem]) (by simp [go_sem]) ?_
 rintro i ⟨hi,hf⟩
 simp [go_sem]
 have sk:=ze1 p xss i hf hi
 refine ⟨fun h=>?_,fun h=>?_⟩ <;> simp at h
 .have hx:xss[i]?.getD []∈xss:=by simp [h]
  have hd:xss.drop i=xss[i]?.getD []::xss.drop (i+1):=by rw [List.drop_eq_getElem_cons h]; simp [h]
  simp [go_sem,zag h]
  refine ⟨⟨h,by rintro rfl; simp at h⟩,CallVC.of (hg _ hx) ?_⟩
  simp [go_sem]
  refine ⟨fun h2=>?_,fun h2=>?_⟩ <;> simp [go_sem]
  .rw [sk,hd]; simp [idxF,h2]
  .refine ⟨by omega,i+1,⟨by omega,?_⟩,by omega,zaa _ _ _ (by simp),by omega⟩
   intro x hx2
   rw [List.take_add_one,List.getElem?_eq_getElem h,Option.toList_some,List.mem_append,List.mem_singleton] at hx2
   rcases hx2 with hx2 | hx2
   .exact hf x hx2
   .rw [hx2]; simpa [h] using h2
 .simp [go_sem]
  rw [sk,List.drop_eq_nil_of_le h]; simp [idxF]
theorem zgE (g:FuncId) (s:Int) (p:List Int->Bool) (xss:List (List Int)) (hl:xss.length<=9223372036854775807) (hg:∀ x∈xss,Con Tryz.prog g [.sl x.length (avs x),.fptr [.int s]] (.bool (p x))) :
  Con Tryz.prog 157 [.sl xss.length (mat xss),.fn g [.fptr [.int s]]] (.bool (xss.any p)):=by
 refine zab Tryz.mixed ⟨5,[],[],[]⟩ Tryz.func157 ?_
 rw [Tryz.ntmps157]
 simp [go_sem]
 refine CallVC.of (zkT g s p xss hl hg) ?_
 simp [go_sem,zjs]
theorem zvo (x:List Int) (s:Int) (hl:x.length<=9223372036854775807):Con Tryz.prog 158 [.sl x.length (avs x),.fptr [.int s]] (.bool (!(decide ((x.length:Int)=s) && zbS x))):=by
 refine zab Tryz.mixed ⟨4,[],[],[]⟩ Tryz.func158 ?_
 rw [Tryz.ntmps158]
 simp [go_sem]
 by_cases h:(x.length:Int)=s
 .simp [go_sem,h]
  refine CallVC.of (zcl x hl) ?_
  simp [go_sem,h]
 .simp [go_sem,h]
theorem zdL (n:Nat) (cs:List AV) (hn:n<=9223372036854775807):Con Tryz.prog 155 [.sl n cs] (.int n):=by
 refine zab Tryz.mixed ⟨3,[],[],[]⟩ Tryz.func155 ?_
 rw [Tryz.ntmps155]
 simp [go_sem]
 try omega
theorem zDP (a b:List AV) (n m:Nat):Con Tryz.prog 279 [.agg [.sl n a,.sl m b]] (.int m):=by
 refine zab Tryz.mixed ⟨3,[],[],[]⟩ Tryz.func279 ?_
 rw [Tryz.ntmps279]
 simp [go_sem]
def tabB (A:List (List Int)) (B:List Int):Bool:=decide (1<=B.length/\B.length<=8/\A.length=B.length) && zbS B && A.all fun r=>decide (r.length=B.length) && zbS r
theorem zc0 (A:List (List Int)) (B:List Int) (hA:A.length<=9223372036854775807) (hB:B.length<=9223372036854775807) (hr:∀ r∈A,r.length<=9223372036854775807) :
  Con Tryz.prog 67 [.agg [.sl A.length (mat A),.sl B.length (avs B)]] (.bool (tabB A B)):=by
 refine zab Tryz.mixed ⟨4,[],[],[]⟩ Tryz.func67 ?_
 rw [Tryz.ntmps67]
 simp [go_sem]
 refine CallVC.of (zdL _ _ hB) ?_
 simp [go_sem]
 have cR:=zeO B.length 1 8
 by_cases h1:1<=B.length/\B.length<=8
 .have e1:(decide ((1:Int)<=B.length) && decide ((B.length:Int)<=8))=true:=by simp; omega
  rw [e1] at cR
  refine CallVC.of cR ?_
  by_cases h2:A.length=B.length
  .have h2':(A.length:Int)=B.length:=by omega
   simp [go_sem,h2,h2']
   refine CallVC.of (zcl B hB) ?_
   by_cases h3:zbS B=true
   .simp [go_sem,h3]
    have cM:=zgE 158 B.length (fun x=>!(decide ((x.length:Int)=B.length) && zbS x)) A hA (fun x hx=>zvo x B.length (hr x hx))
    rw [h2] at cM
    refine CallVC.of cM ?_
    simp [go_sem,tabB,h1,h2,h3]
    rw [List.any_eq_not_all_not]
    congr 2
    funext r
    simp [show ((r.length:Int)=B.length)=(r.length=B.length) from propext ⟨fun e=>by omega,fun e=>by omega⟩]
   .simp at h3
    simp [go_sem,h3,tabB]
  .have h2':¬ (A.length:Int)=B.length:=by omega
   simp [go_sem,h2,h2',tabB]
 .have e1:(decide ((1:Int)<=B.length) && decide ((B.length:Int)<=8))=false:=by simp; omega
  rw [e1] at cR
  refine CallVC.of cR ?_
  have e3:tabB A B=false:=by
   unfold tabB
   have:decide (1<=B.length/\B.length<=8/\A.length=B.length)=false:=by simp; omega
   rw [this]; simp
  rw [e3]
  simp [go_sem]
end Go.Proofs.YthhdollpkieknaaGreat


namespace Go.Proofs.YthhdollpkieknaaGreat
open Go.Abs
end Go.Proofs.YthhdollpkieknaaGreat


namespace Go.Proofs.YthhdollpkieknaaGreat
open Go.Abs
def omat (A:List (List Int)):List AV:=A.map fun r=>.own 2 r.length (avs r)
@[simp] theorem zCV (A:List (List Int)):(omat A).length=A.length:=by simp [omat]
@[simp] theorem zC1 (A:List (List Int)):frzL (omat A)=mat A:=by
 induction A with
 | nil=>rfl
 | cons r A ih=>simp only [omat,mat,List.map_cons,frzL] at ih |-; rw [ih]; simp [frz]
@[simp] theorem zic (A:List (List Int)):zan (omat A)=true:=by
 induction A with
 | nil=>rfl
 | cons r A ih=>simp only [omat,List.map_cons,zan] at ih |-; rw [ih]; simp [zau]
end Go.Proofs.YthhdollpkieknaaGreat


namespace Go.Proofs.YthhdollpkieknaaGreat
open Go.Abs
def sumL:List (List Int)->Nat
 | []=>0
 | r::rs=>r.length+sumL rs
theorem zgq (A C:List (List Int)):sumL (A++C)=sumL A+sumL C:=by
 induction A with
 | nil=>simp [sumL]
 | cons r A ih=>simp [sumL,ih]; omega
end Go.Proofs.YthhdollpkieknaaGreat


namespace Go.Proofs.YthhdollpkieknaaGreat
open Go.Abs
def pw (a k:Int):Int:=a ^ k.toNat%10007
theorem za3 (n:Int) (h0 : -9223372036854775808<=n) (h1:n<=9223372036854775807):Con Tryz.prog 81 [.int n] (.int (n%10007)):=by
 have e:=zsC n
 have b:=ztK n
 refine zab Tryz.mixed ⟨3,[],[],[]⟩ Tryz.func81 ?_
 rw [Tryz.ntmps81]
 simp [go_sem,e]
 omega
theorem ze9 (n:Int) (h0 : -9223372036854775808<=n) (h1:n<=9223372036854775807):Con Tryz.prog 214 [.int n] (.int (n%10007)):=by
 have e:=zsC n
 have b:=ztK n
 refine zab Tryz.mixed ⟨3,[],[],[]⟩ Tryz.func214 ?_
 rw [Tryz.ntmps214]
 simp [go_sem,e]
 omega
def fits (n:Int):Prop := -9223372036854775808<=n/\n<=9223372036854775807
theorem zcm (a b:Int) (h:fits (a*b)):Con Tryz.prog 124 [.int a,.int b] (.int (a*b%10007)):=by
 refine zab Tryz.mixed ⟨5,[],[],[]⟩ Tryz.func124 ?_
 rw [Tryz.ntmps124]
 simp [go_sem]
 refine ⟨h,CallVC.of (ze9 _ h.1 h.2) ?_⟩
 simp [go_sem]
theorem zi2 (a b:Int) (h:fits (a-b)):Con Tryz.prog 125 [.int a,.int b] (.int ((a-b)%10007)):=by
 refine zab Tryz.mixed ⟨5,[],[],[]⟩ Tryz.func125 ?_
 rw [Tryz.ntmps125]
 simp [go_sem]
 refine ⟨h,CallVC.of (ze9 _ h.1 h.2) ?_⟩
 simp [go_sem]
theorem zdO (a b:Int) (h:fits (a+b)):Con Tryz.prog 192 [.int a,.int b] (.int ((a+b)%10007)):=by
 refine zab Tryz.mixed ⟨5,[],[],[]⟩ Tryz.func192 ?_
 rw [Tryz.ntmps192]
 simp [go_sem]
 refine ⟨h,CallVC.of (ze9 _ h.1 h.2) ?_⟩
 simp [go_sem]
def isN (a:Int):Prop:=0<=a/\a<10007
theorem zaf (n:Int):isN (n%10007):=⟨Int.emod_nonneg _ (by omega),Int.emod_lt_of_pos _ (by omega)⟩
theorem zcG {a b:Int} (ha:isN a) (hb:isN b):0<=a*b/\a*b<=100120036:=by
 obtain ⟨a0,a1⟩:=ha
 obtain ⟨b0,b1⟩:=hb
 exact ⟨Int.mul_nonneg a0 b0,Int.le_trans (Int.mul_le_mul_of_nonneg_right (show a<=10006 by omega) b0) (by omega)⟩
theorem zax {a b:Int} (ha:isN a) (hb:isN b):fits (a*b):=by
 have:=zcG ha hb
 exact ⟨by omega,by omega⟩
theorem zd6 {a b:Int} (ha:isN a) (hb:isN b):fits (a+b):=by
 obtain ⟨a0,a1⟩:=ha
 obtain ⟨b0,b1⟩:=hb
 exact ⟨by omega,by omega⟩
theorem zi9 {a b:Int} (ha:isN a) (hb:isN b):fits (a-b):=by
 obtain ⟨a0,a1⟩:=ha
 obtain ⟨b0,b1⟩:=hb
 exact ⟨by omega,by omega⟩
theorem pow_mod (a:Int) (k:Nat):(a%10007) ^ k%10007=a ^ k%10007:=by
 induction k with
 | zero=>simp
 | succ k ih=>rw [Int.pow_succ,Int.pow_succ,Int.mul_emod,ih,Int.emod_emod,<- Int.mul_emod]
theorem zCu (a:Int) (q:Nat):(a*a) ^ q=a ^ (2*q):=by
 induction q with
 | zero=>simp
 | succ q ih=>rw [Int.pow_succ,ih,show 2*(q+1)=2*q+1+1 by omega,Int.pow_succ,Int.pow_succ,Int.mul_assoc]
theorem zdg (o x:Int):o*(x%10007)%10007=o*x%10007:=by
 rw [Int.mul_emod,Int.emod_emod,<- Int.mul_emod]
theorem zdi (o x:Int):(x%10007)*o%10007=x*o%10007:=by
 rw [Int.mul_emod,Int.emod_emod,<- Int.mul_emod]
theorem zl8 (o a:Int) (q:Nat):o*(a*a%10007) ^ q%10007=o*a ^ (2*q)%10007:=by
 rw [<- zdg,pow_mod,zdg,zCu]
theorem zwQ (o a:Int) (q:Nat):(o*a%10007)*(a*a%10007) ^ q%10007=o*a ^ (2*q+1)%10007:=by
 rw [zl8,zdi,Int.pow_succ,Int.mul_assoc,Int.mul_comm (a ^ (2*q)) a]
theorem zcR (j:Nat):(j:Int).tdiv 2=((j / 2:Nat):Int):=by rw [zzF (by omega)]; omega
theorem zdV (j:Nat):(j:Int).tmod 2=((j%2:Nat):Int):=by rw [zy9 (by omega)]; omega
theorem zy4 (a k:Int) (ha:isN a) (hk:0<=k) (hk2:k<=9223372036854775807):Con Tryz.prog 116 [.int a,.int k] (.int (pw a k)):=by
 refine zab Tryz.mixed ⟨6,[],[],[]⟩ Tryz.func116 ?_
 rw [Tryz.ntmps116]
 simp [go_sem]
 refine zac (0::1::List.range' 4 30) (fun x:Int × Nat × Int=>[(0,.int x.1),(1,.int x.2.1),(5,.int x.2.2)])
  (fun x=>isN x.1/\(x.2.1:Int)<=9223372036854775807/\isN x.2.2/\x.2.2*x.1 ^ x.2.1%10007=a ^ k.toNat%10007) (fun x=>x.2.1) (a,k.toNat,1) ⟨ha,by simp; omega,⟨by simp,by simp⟩,by simp⟩ (by simp [go_sem]; omega) (by simp [go_sem]) ?_
 rintro ⟨b,j,o⟩ ⟨hb,hj,ho,he⟩
 simp only at hb hj ho he
 have f1:=zax hb hb
 have f2:=zax ho hb
 simp [go_sem]
 refine ⟨fun h=>?_,fun h=>?_⟩ <;> simp at h
 .simp [go_sem,zcR,zdV]
  refine ⟨fun h2=>?_,fun h2=>?_⟩ <;> simp at h2 <;> simp [go_sem]
  .refine ⟨f2,CallVC.of (za3 _ f2.1 f2.2) ?_⟩
   simp [go_sem]
   refine ⟨f1,CallVC.of (za3 _ f1.1 f1.2) ?_⟩
   simp [go_sem,zcR,zdV]
   refine ⟨by omega,b*b%10007,j / 2,o*b%10007,⟨zaf _,by omega,zaf _,?_⟩,by omega,zaa _ _ _ (by simp),rfl,by omega,rfl⟩
   rw [zwQ,show 2*(j / 2)+1=j by omega,he]
  .refine ⟨f1,CallVC.of (za3 _ f1.1 f1.2) ?_⟩
   simp [go_sem,zcR,zdV]
   refine ⟨by omega,b*b%10007,j / 2,o,⟨zaf _,by omega,ho,?_⟩,by omega,zaa _ _ _ (by simp),rfl,by omega,rfl⟩
   rw [zl8,show 2*(j / 2)=j by omega,he]
 .simp [go_sem]
  subst h
  unfold pw
  rw [<- he]
  simp
  rw [Int.emod_eq_of_lt ho.1 ho.2]
theorem zof (a k:Int) (ha:isN a) (hk:0<=k) (hk2:k<=9223372036854775807):Con Tryz.prog 122 [.int a,.int k] (.int (pw a k)):=by
 refine zab Tryz.mixed ⟨6,[],[],[]⟩ Tryz.func122 ?_
 rw [Tryz.ntmps122]
 simp [go_sem]
 refine zac (0::1::List.range' 4 30) (fun x:Int × Nat × Int=>[(0,.int x.1),(1,.int x.2.1),(5,.int x.2.2)])
  (fun x=>isN x.1/\(x.2.1:Int)<=9223372036854775807/\isN x.2.2/\x.2.2*x.1 ^ x.2.1%10007=a ^ k.toNat%10007) (fun x=>x.2.1) (a,k.toNat,1) ⟨ha,by simp; omega,⟨by simp,by simp⟩,by simp⟩ (by simp [go_sem]; omega) (by simp [go_sem]) ?_
 rintro ⟨b,j,o⟩ ⟨hb,hj,ho,he⟩
 simp only at hb hj ho he
 have f1:=zax hb hb
 have f2:=zax ho hb
 simp [go_sem]
 refine ⟨fun h=>?_,fun h=>?_⟩ <;> simp at h
 .simp [go_sem,zcR,zdV]
  refine ⟨fun h2=>?_,fun h2=>?_⟩ <;> simp at h2 <;> simp [go_sem]
  .refine CallVC.of (zcm _ _ f2) ?_
   simp [go_sem]
   refine CallVC.of (zcm _ _ f1) ?_
   simp [go_sem,zcR,zdV]
   refine ⟨by omega,b*b%10007,j / 2,o*b%10007,⟨zaf _,by omega,zaf _,?_⟩,by omega,zaa _ _ _ (by simp),rfl,by omega,rfl⟩
   rw [zwQ,show 2*(j / 2)+1=j by omega,he]
  .refine CallVC.of (zcm _ _ f1) ?_
   simp [go_sem,zcR,zdV]
   refine ⟨by omega,b*b%10007,j / 2,o,⟨zaf _,by omega,ho,?_⟩,by omega,zaa _ _ _ (by simp),rfl,by omega,rfl⟩
   rw [zl8,show 2*(j / 2)=j by omega,he]
 .simp [go_sem]
  subst h
  unfold pw
  rw [<- he]
  simp
  rw [Int.emod_eq_of_lt ho.1 ho.2]
theorem zpp (a:Int) (ha:isN a):Con Tryz.prog 82 [.int a] (.int (pw a 10005)):=by
 refine zab Tryz.mixed ⟨3,[],[],[]⟩ Tryz.func82 ?_
 rw [Tryz.ntmps82]
 simp [go_sem]
 refine CallVC.of (zy4 _ _ ha (by omega) (by omega)) ?_
 simp [go_sem]
theorem ztW (a:Int) (ha:isN a):Con Tryz.prog 126 [.int a] (.int (pw a 10005)):=by
 refine zab Tryz.mixed ⟨3,[],[],[]⟩ Tryz.func126 ?_
 rw [Tryz.ntmps126]
 simp [go_sem]
 refine CallVC.of (zof _ _ ha (by omega) (by omega)) ?_
 simp [go_sem]
def fact:Nat->Int
 | 0=>1
 | n+1=>fact n*(n+1)
theorem zjj:∀ n,1<=fact n
 | 0=>by simp [fact]
 | n+1=>by
  have:=zjj n
  have:1*1<=fact n*(n+1:Int):=Int.mul_le_mul this (by omega) (by omega) (by omega)
  simp [fact]; omega
theorem ztF (n:Nat):fact n<=fact (n+1):=by
 have:=zjj n
 have:fact n*1<=fact n*(n+1:Int):=Int.mul_le_mul_of_nonneg_left (by omega) (by omega)
 simp [fact]; omega
theorem zz0 {n m:Nat} (h:n<=m):fact n<=fact m:=by
 induction m with
 | zero=>rw [show n=0 by omega]; omega
 | succ m ih=>rcases Nat.lt_or_ge n (m+1) with hl | hl
              .exact Int.le_trans (ih (by omega)) (ztF m)
              .rw [show n=m+1 by omega]; omega
theorem zym {n:Nat} (h:n<=20):1<=fact n/\fact n<=9223372036854775807 :=
 ⟨zjj n,Int.le_trans (zz0 h) (by decide)⟩
theorem zmf (n:Nat) (h:n<=20):Con Tryz.prog 175 [.int n] (.int (fact n)):=by
 refine zab Tryz.mixed ⟨5,[],[],[]⟩ Tryz.func175 ?_
 rw [Tryz.ntmps175]
 simp [go_sem]
 refine zac (List.range' 2 20) (fun k:Nat=>[(3,.int (fact (k+1))),(4,.int (k+2))]) (fun k=>k<=n-1) (fun k=>n-k) 0 (by simp) (by simp [go_sem]; decide) (by simp [go_sem]) ?_
 intro k hk
 simp [go_sem]
 refine ⟨fun h2=>?_,fun h2=>?_⟩ <;> simp at h2
 .have e:fact (k+1)*((k:Int)+2)=fact (k+1+1):=by simp only [fact]; rw [show ((k+1:Nat):Int)+1=(k:Int)+2 by omega]
  have b:=zym (show k+1+1<=20 by omega)
  simp [go_sem,e]
  refine ⟨by omega,by omega,k+1,by omega,by omega,zaa _ _ _ (by simp),rfl,by omega⟩
 .simp [go_sem]
  rcases (show k=0/\n<=1\/k+1=n by omega) with ⟨rfl,_⟩ | hk
  .have:n=0\/n=1:=by omega
   rcases this with rfl | rfl <;> rfl
  .rw [hk]
end Go.Proofs.YthhdollpkieknaaGreat


namespace Go.Proofs.YthhdollpkieknaaGreat
open Go.Abs
end Go.Proofs.YthhdollpkieknaaGreat


namespace Go.Proofs.YthhdollpkieknaaGreat
open Go.Abs
def dotI:List Int->List Int->Int
 | x::xs,y::ys=>x*y+dotI xs ys
 | _,_=>0
theorem zk9:∀ {xs ys:List Int} {k:Nat},k<xs.length->k<ys.length->dotI (xs.take (k+1)) (ys.take (k+1))=dotI (xs.take k) (ys.take k)+xs[k]?.getD 0*ys[k]?.getD 0
 | x::xs,y::ys,0,_,_=>by simp [dotI]
 | x::xs,y::ys,k+1,h,h2=>by
  have:=zk9 (xs:=xs) (ys:=ys) (k:=k) (by simpa using h) (by simpa using h2)
  simp only [List.take_succ_cons,dotI,this,List.getElem?_cons_succ]; omega
theorem zh1:∀ {xs ys:List Int},xs.length<=ys.length->dotI xs (ys.take xs.length)=dotI xs ys
 | [],ys,_=>by simp [dotI]
 | x::xs,[],h=>by simp at h
 | x::xs,y::ys,h=>by simp [dotI,zh1 (xs:=xs) (ys:=ys) (by simpa using h)]
def Ns (xs:List Int):Prop:=∀ x∈xs,isN x
theorem Ns.get {xs:List Int} (h:Ns xs) (k:Nat):isN (xs[k]?.getD 0):=by
 rcases Nat.lt_or_ge k xs.length with hk | hk
 .simp [hk]; exact h _ (List.getElem_mem hk)
 .simp [hk]; exact ⟨by omega,by omega⟩
theorem Ns.take {xs:List Int} (h:Ns xs) (k:Nat):Ns (xs.take k):=fun x hx=>h x (List.mem_of_mem_take hx)
theorem Ns.snoc {xs:List Int} (h:Ns xs) {x:Int} (hx:isN x):Ns (xs++[x]):=fun y hy=>by
 rcases List.mem_append.1 hy with hy | hy
 .exact h y hy
 .simp at hy; subst hy; exact hx
theorem Ns.nil:Ns []:=by intro x hx; simp at hx
theorem zfl:∀ {xs ys:List Int},Ns xs->Ns ys->0<=dotI xs ys/\dotI xs ys<=xs.length*100120036
 | [],ys,_,_=>by simp [dotI]
 | x::xs,[],_,_=>by simp [dotI]; omega
 | x::xs,y::ys,hx,hy=>by
  have h1:=zfl (xs:=xs) (ys:=ys) (fun z hz=>hx z (by simp [hz])) (fun z hz=>hy z (by simp [hz]))
  have h2:=zcG (hx x (by simp)) (hy y (by simp))
  simp only [dotI,List.length_cons]; omega
theorem zCf (xs ys:List Int) (hl:xs.length<=ys.length) (h64:xs.length<=64) (hx:Ns xs) (hy:Ns ys):Con Tryz.prog 234 [.sl xs.length (avs xs),.sl ys.length (avs ys)] (.int (dotI xs ys%10007)):=by
 refine zab Tryz.mixed ⟨8,[],[],[]⟩ Tryz.func234 ?_
 rw [Tryz.ntmps234]
 simp [go_sem]
 refine zac (5::6::7::List.range' 10 14) (fun k:Nat=>[(5,.int (dotI (xs.take k) (ys.take k))),(10,.int k)]) (fun k=>k<=xs.length) (fun k=>xs.length-k) 0 (by simp) (by simp [go_sem,dotI]) (by simp [go_sem]) ?_
 intro k hk
 have b1:=zfl (hx.take k) (hy.take k)
 have b2:=zcG (hx.get k) (hy.get k)
 simp only [List.length_take] at b1
 simp [go_sem]
 refine ⟨fun h=>?_,fun h=>?_⟩ <;> simp at h
 .have h2:k<ys.length:=by omega
  simp [go_sem,zae h,zae h2]
  refine ⟨⟨h,by rintro rfl; simp at h⟩,⟨h2,by rintro rfl; simp at h2⟩,by omega,by omega,by omega,k+1,by omega,by omega,zaa _ _ _ (by simp),(zk9 h h2).symm,by omega⟩
 .have e:k=xs.length:=by omega
  subst e
  have:=zfl hx hy
  rw [List.take_length,zh1 hl] at *
  simp [go_sem]
  refine CallVC.of (za3 _ (by omega) (by omega)) ?_
  simp [go_sem]
def tim (A:List (List Int)) (v:List Int):List Int:=A.map fun r=>dotI r v%10007
@[simp] theorem zEm (A:List (List Int)) (v:List Int):(tim A v).length=A.length:=by simp [tim]
theorem ztT {A:List (List Int)} {v:List Int} {k:Nat} (h:k<A.length):tim (A.take (k+1)) v=tim (A.take k) v++[dotI (A[k]?.getD []) v%10007]:=by
 rw [tim,tim,List.take_add_one,List.getElem?_eq_getElem h]
 simp only [List.map_append,List.map_cons,List.map_nil,Option.toList_some,Option.getD_some]
theorem zEj (A:List (List Int)) (v:List Int):Ns (tim A v):=by
 intro x hx
 simp [tim] at hx
 obtain ⟨r,_,rfl⟩:=hx
 exact zaf _
def Mat (n:Nat) (A:List (List Int)):Prop:=∀ r∈A,r.length=n/\Ns r
theorem Mat.get {n:Nat} {A:List (List Int)} (h:Mat n A) {k:Nat} (hk:k<A.length):(A[k]?.getD []).length=n/\Ns (A[k]?.getD []):=by
 rw [List.getElem?_eq_getElem hk]; exact h _ (List.getElem_mem hk)
theorem ztv (A:List (List Int)) (B v:List Int) (hA:Mat v.length A) (h64:v.length<=64) (hl:A.length<=1048576) (hv:Ns v) :
  Con Tryz.prog 280 [.agg [.sl A.length (mat A),.sl B.length (avs B)],.sl v.length (avs v)] (.own 2 A.length (avs (tim A v))):=by
 refine zab Tryz.mixed ⟨8,[],[],[]⟩ Tryz.func280 ?_
 rw [Tryz.ntmps280]
 simp [go_sem]
 refine zac (5::6::7::List.range' 12 11) (fun k:Nat=>[(5,.own 2 k (avs (tim (A.take k) v))),(12,.int k)]) (fun k=>k<=A.length) (fun k=>A.length-k) 0 (by simp) (by simp [go_sem,tim]) (by simp [go_sem]) ?_
 intro k hk
 simp [go_sem]
 refine ⟨fun h=>?_,fun h=>?_⟩ <;> simp at h
 .have g1:=(hA.get h).1
  have g2:=(hA.get h).2
  simp [go_sem,zag h]
  refine ⟨⟨h,by rintro rfl; simp at h⟩,?_⟩
  refine CallVC.of (zCf _ v (by omega) (by omega) g2 hv) ?_
  simp [go_sem]
  refine ⟨⟨by omega,by omega⟩,by omega,k+1,by omega,by omega,zaa _ _ _ (by simp),?_,by omega⟩
  simp [ztT h,zam]
 .simp [go_sem]
  have e:k=A.length:=by omega
  subst e; simp
end Go.Proofs.YthhdollpkieknaaGreat


namespace Go.Proofs.YthhdollpkieknaaGreat
open Go.Abs
abbrev u64 (n:Int):AV:=.val (.int .u64 n)
theorem zlt {x:Int} (h0:0<=x) (h1:x<4294967296):andI .u64 x 4294967295=x:=by
 obtain ⟨n,rfl⟩:=Int.eq_ofNat_of_zero_le h0
 have hn:n<2 ^ 32:=by omega
 have e1:(BitVec.ofInt 64 (n:Int)).toNat=n:=by
  rw [BitVec.toNat_ofInt]; simp; omega
 have e2:(BitVec.ofInt 64 4294967295).toNat=2 ^ 32-1:=by decide
 show IntKind.wrap .u64 ((BitVec.ofInt 64 (n:Int) &&& BitVec.ofInt 64 4294967295).toNat:Int)=n
 rw [BitVec.toNat_and,e1,e2,Nat.and_two_pow_sub_one_eq_mod,Nat.mod_eq_of_lt hn]
 exact zee (by
  have e1:IntKind.min .u64=0:=by decide
  have e2:IntKind.max .u64=18446744073709551615:=by decide
  unfold inK; rw [e1,e2]; omega)
theorem zf2 {x:Int} (h0:0<=x) (h1:x<18446744073709551616):IntKind.wrap .u64 x=x:=zee (by
 have e1:IntKind.min .u64=0:=by decide
 have e2:IntKind.max .u64=18446744073709551615:=by decide
 unfold inK; rw [e1,e2]; omega)
theorem zi0 {x:Int} (h0:0<=x) (h1:x<4294967296):shrI .u64 x 32=0:=by
 show x.fdiv (2 ^ min (32:Int).toNat 64)=0
 rw [show ((2:Int) ^ min (32:Int).toNat 64)=4294967296 from rfl,Int.fdiv_eq_ediv_of_nonneg _ (by omega)]; omega
theorem zxC (x y:Int) (hx:0<=x) (hx1:x<4294967296) (hy:0<=y) (hy1:y<4294967296) (h0:0<=x*y) (h:x*y<4294967296):Con Tryz.prog 359 [u64 x,u64 y] (.tup [u64 0,u64 (x*y)]):=by
 have a0:=zlt (Int.le_refl 0) (by omega)
 have a1:=zlt hx hx1
 have a2:=zlt hy hy1
 have s0:=zi0 (Int.le_refl 0) (by omega)
 have s1:=zi0 hx hx1
 have s2:=zi0 hy hy1
 have s3:=zi0 h0 h
 have w3:=zf2 h0 (by omega)
 have w0:=zf2 (Int.le_refl 0) (by omega)
 refine zab Tryz.mixed ⟨14,[],[],[]⟩ Tryz.func359 ?_
 rw [Tryz.ntmps359]
 simp [go_sem,a0,a1,a2,s0,s1,s2,s3,w3,w0]
theorem zDY (x y:Int) (hx:0<=x) (hx1:x<4294967296) (hy:0<=y) (hy1:y<4294967296) (h0:0<=x*y) (h:x*y<4294967296):Con Tryz.prog 323 [u64 x,u64 y] (.tup [u64 0,u64 (x*y)]):=by
 refine zab Tryz.mixed ⟨10,[],[],[]⟩ Tryz.func323 ?_
 rw [Tryz.ntmps323]
 simp [go_sem]
 refine CallVC.of (zxC x y hx hx1 hy hy1 h0 h) ?_
 simp [go_sem]
theorem zvu (x:Int) (s n:Nat) (h:n<=s):setMany (avs (List.replicate n x++List.replicate (s-n) 0)) n ((avs (List.replicate n x++List.replicate (s-n) 0)).take (min n (s-n))) =
  avs (List.replicate (n+min n (s-n)) x++List.replicate (s-(n+min n (s-n))) 0):=by
 rw [zb4 _ _ _ (by simp; omega)]
 simp only [avs,<- List.map_take,<- List.map_drop,<- List.map_append]
 congr 1
 simp only [List.take_append_of_le_length (show min n (s-n)<=(List.replicate n x).length by simp; omega),List.take_append_of_le_length (show n<=(List.replicate n x).length by simp),List.take_replicate,Nat.min_self,Nat.min_eq_left (Nat.min_le_left n (s-n))]
 rw [List.drop_append]
 simp
 omega
theorem zvz (x:Int) (s:Nat) (h1:1<=s) (h2:s<=1000):Con Tryz.prog 278 [.sl 1 [.int x],.int s] (.own 2 s (avs (List.replicate s x))):=by
 have w1:IntKind.wrap .u64 1=1:=by decide
 have w2:IntKind.wrap .u64 (s:Int)=s:=zf2 (by omega) (by omega)
 refine zab Tryz.mixed ⟨9,[],[],[]⟩ Tryz.func278 ?_
 rw [Tryz.ntmps278]
 simp [go_sem]
 refine ⟨fun h=>?_,fun _=>?_⟩
 .simp at h; omega
 simp [go_sem,w1,w2]
 refine CallVC.of (zDY 1 s (by omega) (by omega) (by omega) (by omega) (by omega) (by omega)) ?_
 have e1:(1:Int)*s=s:=by omega
 simp [go_sem,e1]
 refine ⟨fun h=>?_,fun _=>?_⟩
 .simp at h; omega
 simp [go_sem]
 refine ⟨by omega,⟨by omega,by omega⟩,⟨by omega,by omega,by omega⟩,?_⟩
 refine zac (7::8::List.range' 34 13) (fun n:Nat=>[(7,.own 2 s (avs (List.replicate n x++List.replicate (s-n) 0))),(8,.int n)]) (fun n=>1<=n/\n<=s) (fun n=>s-n) 1 ⟨by omega,h1⟩ ?_ (by simp [go_sem]) ?_
 .simp [go_sem]
  obtain ⟨m,rfl⟩:∃ m,s=m+1:=⟨s-1,by omega⟩
  simp [List.replicate_succ,zc9,setMany,zc5,go_sem]
 rintro n ⟨hn1,hn2⟩
 simp [go_sem]
 refine ⟨fun h=>?_,fun h=>?_⟩ <;> simp at h
 .have hz:¬ n=0:=by omega
  simp [go_sem,hz]
  refine ⟨by kernel_rfl,h,⟨by omega,by omega⟩,⟨by omega,by omega⟩,⟨by omega,by omega⟩,?_⟩
  refine ⟨by kernel_rfl,?_⟩
  simp [go_sem]
  refine ⟨n+min n (s-n),⟨by omega,by omega⟩,by omega,zaa _ _ _ (by simp),?_,by omega⟩
  have hc:=zvu x s n (by omega)
  simpa using hc
 .simp [go_sem]
  have e:n=s:=by omega
  subst e; simp
end Go.Proofs.YthhdollpkieknaaGreat


namespace Go.Proofs.YthhdollpkieknaaGreat
open Go.Abs
theorem zhJ (a:Int):Con Tryz.prog 266 [.int a] (.bool (decide (0<=a/\a<=10006))):=by
 refine zab Tryz.mixed ⟨3,[],[],[]⟩ Tryz.func266 ?_
 rw [Tryz.ntmps266]
 simp [go_sem]
 refine CallVC.of (zda _ _ _) ?_
 simp [go_sem]
theorem zp8 {xs:List Int} {i:Nat} (h:i<xs.length) (hb:¬ (0<=xs[i]?.getD 0/\xs[i]?.getD 0<=10006)):zbS xs=false:=by
 rw [List.getElem?_eq_getElem h] at hb
 simp only [Option.getD_some] at hb
 unfold zbS
 rw [List.all_eq_false]
 exact ⟨xs[i],List.getElem_mem h,by simpa using hb⟩
theorem zu5 {xs:List Int} (h:∀ x∈xs,0<=x/\x<=10006):zbS xs=true:=by
 unfold zbS
 rw [List.all_eq_true]
 intro x hx
 simpa using h x hx
theorem zdH {xs:List Int}:zbS xs=true ↔ Ns xs:=by
 unfold zbS Ns isN
 rw [List.all_eq_true]
 constructor
 .intro h x hx
  have:=h x hx
  simp at this; omega
 .intro h x hx
  have:=h x hx
  simp; omega
theorem zgh {α:Type} {p:α->Prop} {xs:List α} {i:Nat} (h:i<xs.length) (h1:∀ x∈xs.take i,p x) (h2:p xs[i]):∀ x∈xs.take (i+1),p x:=by
 intro x hx
 rw [List.take_add_one,List.getElem?_eq_getElem h,Option.toList_some,List.mem_append,List.mem_singleton] at hx
 rcases hx with hx | rfl
 .exact h1 x hx
 .exact h2
theorem zdt (xs:List Int) (hl:xs.length<=9223372036854775807):Con Tryz.prog 208 [.sl xs.length (avs xs)] (.bool (zbS xs)):=by
 refine zab Tryz.mixed ⟨4,[],[],[]⟩ Tryz.func208 ?_
 rw [Tryz.ntmps208]
 simp [go_sem]
 refine zac (List.range' 2 14) (fun i:Nat=>[(3,.int i)]) (fun i=>i<=xs.length/\∀ x∈xs.take i,0<=x/\x<=10006) (fun i=>xs.length-i) 0 (by simp) (by simp [go_sem]) (by simp [go_sem]) ?_
 rintro i ⟨hi,hp⟩
 simp [go_sem]
 refine ⟨fun h=>?_,fun h=>?_⟩ <;> simp at h
 .simp [go_sem,zae h]
  refine ⟨⟨h,by rintro rfl; simp at h⟩,?_⟩
  refine CallVC.of (zhJ _) ?_
  by_cases hb:0<=xs[i]?.getD 0/\xs[i]?.getD 0<=10006
  .simp [go_sem,hb]
   refine ⟨by omega,i+1,⟨by omega,?_⟩,by omega,zaa _ _ _ (by simp),by omega⟩
   rw [List.getElem?_eq_getElem h,Option.getD_some] at hb
   exact zgh h hp hb
  .have e:decide (0<=xs[i]?.getD 0/\xs[i]?.getD 0<=10006)=false:=by simpa using hb
   rw [e]
   simp [go_sem]
   exact zp8 h hb
 .simp [go_sem]
  have e:i=xs.length:=by omega
  subst e
  rw [List.take_length] at hp
  exact zu5 hp
theorem zzD (A:List (List Int)) (B:List Int) (hA:A.length<=9223372036854775807) (hB:B.length<=9223372036854775807) (hr:∀ r∈A,r.length<=9223372036854775807) :
  Con Tryz.prog 148 [.agg [.sl A.length (mat A),.sl B.length (avs B)]] (.bool (tabB A B)):=by
 have bad:¬ (1<=B.length/\B.length<=8/\A.length=B.length)->tabB A B=false:=fun h=>by
  unfold tabB
  rw [decide_eq_false h]; rfl
 refine zab Tryz.mixed ⟨5,[],[],[]⟩ Tryz.func148 ?_
 rw [Tryz.ntmps148]
 simp [go_sem]
 by_cases h1:1<=B.length
 .by_cases h2:B.length<=8
  .by_cases h3:A.length=B.length
   .have i1:¬ (B.length:Int)<1:=by omega
    have i2:¬ 8<(B.length:Int):=by omega
    have i3:(A.length:Int)=B.length:=by omega
    simp [go_sem,i1,i2,i3]
    refine CallVC.of (zdt B hB) ?_
    cases hB2:zbS B with
    | false =>
     simp [go_sem]
     unfold tabB; rw [hB2]; simp
    | true =>
     simp [go_sem]
     refine zac (2::4::List.range' 27 22) (fun i:Nat=>[(4,.int i)]) (fun i=>i<=B.length/\∀ r∈A.take i,r.length=B.length/\zbS r=true) (fun i=>B.length-i) 0 (by simp) (by simp [go_sem]) (by simp [go_sem]) ?_
     rintro i ⟨hi,hp⟩
     have fine:tabB A B=A.all (fun r=>decide (r.length=B.length) && zbS r):=by
      unfold tabB; rw [hB2,decide_eq_true ⟨h1,h2,h3⟩]; simp
     simp [go_sem]
     refine ⟨fun h=>?_,fun h=>?_⟩ <;> simp at h
     .have hA2:i<A.length:=by omega
      have wrong:¬ ((A[i]?.getD []).length=B.length/\zbS (A[i]?.getD [])=true)->tabB A B=false:=fun hb=>by
       rw [List.getElem?_eq_getElem hA2,Option.getD_some] at hb
       rw [fine,List.all_eq_false]
       exact ⟨A[i],List.getElem_mem hA2,by simpa using hb⟩
      simp [go_sem,zag hA2]
      refine ⟨⟨hA2,by rintro rfl; simp at hA2⟩,?_⟩
      by_cases g1:(A[i]?.getD []).length=B.length
      .have g1':((A[i]?.getD []).length:Int)=B.length:=by omega
       simp [go_sem,g1',zag hA2]
       refine ⟨⟨hA2,by rintro rfl; simp at hA2⟩,?_⟩
       refine CallVC.of (zdt _ (by omega)) ?_
       cases g2:zbS (A[i]?.getD []) with
       | false =>
        simp [go_sem]
        exact wrong (by rw [g2]; simp)
       | true =>
        simp [go_sem]
        refine ⟨by omega,i+1,⟨by omega,?_⟩,by omega,zaa _ _ _ (by simp),by omega⟩
        rw [List.getElem?_eq_getElem hA2,Option.getD_some] at g1 g2
        exact zgh hA2 hp ⟨g1,g2⟩
      .have g1':¬ ((A[i]?.getD []).length:Int)=B.length:=by omega
       simp [go_sem,g1']
       exact wrong (fun h=>g1 h.1)
     .simp [go_sem]
      have e:i=A.length:=by omega
      subst e
      rw [List.take_length] at hp
      rw [fine,List.all_eq_true]
      intro r hr
      simpa using hp r hr
   .have i1:¬ (B.length:Int)<1:=by omega
    have i2:¬ 8<(B.length:Int):=by omega
    have i3:¬ (A.length:Int)=B.length:=by omega
    simp [go_sem,i1,i2,i3,bad (fun h=>h3 h.2.2)]
  .have i1:¬ (B.length:Int)<1:=by omega
   have i2:8<(B.length:Int):=by omega
   simp [go_sem,i1,i2,bad (fun h=>h2 h.2.1)]
 .have i1:(B.length:Int)<1:=by omega
  simp [go_sem,i1,bad (fun h=>h1 h.1)]
structure Tab (A:List (List Int)) (B:List Int):Prop where
 pos:1<=B.length
 le:B.length<=8
 len:A.length=B.length
 b:Ns B
 a:Mat B.length A
theorem zf6 {A:List (List Int)} {B:List Int}:tabB A B=true ↔ Tab A B:=by
 unfold tabB
 simp only [Bool.and_eq_true,decide_eq_true_eq,List.all_eq_true,zdH]
 constructor
 .rintro ⟨⟨⟨h1,h2,h3⟩,h4⟩,h5⟩
  exact ⟨h1,h2,h3,h4,fun r hr=>h5 r hr⟩
 .rintro ⟨h1,h2,h3,h4,h5⟩
  exact ⟨⟨⟨h1,h2,h3⟩,h4⟩,fun r hr=>h5 r hr⟩
end Go.Proofs.YthhdollpkieknaaGreat


namespace Go.Proofs.YthhdollpkieknaaGreat
open Go.Abs
abbrev Mon:=Int × List Int
def mons (p:List Mon):List AV:=p.flatMap fun m=>[.int m.1,.sl m.2.length (avs m.2)]
def zcN (p:List Mon):List AV:=p.flatMap fun m=>[.int m.1,.own 2 m.2.length (avs m.2)]
def prt (f:List (List Mon)):List AV:=f.map fun p=>.sl p.length (mons p)
def oprt (f:List (List Mon)):List AV:=f.map fun p=>.own 62 p.length (zcN p)
theorem zbM (m:Mon) (p:List Mon):mons (m::p)=.int m.1::.sl m.2.length (avs m.2)::mons p:=rfl
theorem zdP (m:Mon) (p:List Mon):zcN (m::p)=.int m.1::.own 2 m.2.length (avs m.2)::zcN p:=rfl
@[simp] theorem zCO:mons []=[]:=rfl
@[simp] theorem zCc:zcN []=[]:=rfl
@[simp] theorem zuD:∀ p:List Mon,(mons p).length=p.length*2
 | []=>rfl
 | m::p=>by rw [zbM]; simp [zuD p]; omega
@[simp] theorem ztx:∀ p:List Mon,(zcN p).length=p.length*2
 | []=>rfl
 | m::p=>by rw [zdP]; simp [ztx p]; omega
@[simp] theorem zD4 {p:List Mon}:(mons p=[])=(p=[]):=by cases p <;> simp [zbM]
@[simp] theorem zEc (f:List (List Mon)):(prt f).length=f.length:=by simp [prt]
@[simp] theorem zCM (f:List (List Mon)):(oprt f).length=f.length:=by simp [oprt]
@[simp] theorem zEw {f:List (List Mon)}:(prt f=[])=(f=[]):=by cases f <;> simp [prt]
@[simp] theorem zrI:∀ p:List Mon,frzL (zcN p)=mons p
 | []=>rfl
 | m::p=>by rw [zdP,zbM]; simp [frzL,frz,zrI p]
@[simp] theorem zm9:∀ p:List Mon,frzL (mons p)=mons p
 | []=>rfl
 | m::p=>by rw [zbM]; simp [frzL,frz,zm9 p]
@[simp] theorem zlA:∀ p:List Mon,zan (zcN p)=true
 | []=>rfl
 | m::p=>by rw [zdP]; simp [zan,zau,zlA p]
@[simp] theorem zuw:∀ f:List (List Mon),frzL (oprt f)=prt f
 | []=>rfl
 | p::f=>by have:=zuw f; simp only [oprt,prt,List.map_cons,frzL] at this |-; rw [this]; simp [frz]
@[simp] theorem zpM:∀ f:List (List Mon),zan (oprt f)=true
 | []=>rfl
 | p::f=>by have:=zpM f; simp only [oprt,List.map_cons,zan] at this |-; rw [this]; simp [zau]
theorem zbu:∀ {p:List Mon} {k:Nat},k<p.length->(mons p).drop (k*2)=.val (.int .i64 (p[k]?.getD (0,[])).1)::.sl (p[k]?.getD (0,[])).2.length (avs (p[k]?.getD (0,[])).2)::mons (p.drop (k+1))
 | m::p,0,_=>rfl
 | m::p,k+1,h=>by
  have:=zbu (p:=p) (k:=k) (by simpa using h)
  rw [zbM,show (k+1)*2=k*2+1+1 by omega]
  simpa using this
theorem zd0 {f:List (List Mon)} {k:Nat} (h:k<f.length):(prt f).drop k=.sl (f[k]?.getD []).length (mons (f[k]?.getD []))::prt (f.drop (k+1)):=by
 rw [prt,<- List.map_drop,List.drop_eq_getElem_cons h,List.map_cons]; simp [h,prt]
def sumC {α:Type} (c:α->Nat):List α->Nat
 | []=>0
 | a::l=>c a+sumC c l
structure SzOk {α:Type} (g:Int->α->Int) (c:α->Nat):Prop where
 lo:∀ l a,-1<=g l a
 hi:∀ l a,0<=l->g l a<=l
 ok:∀ l a,0<=l->0<=g l a->(c a:Int)<=l-g l a
def cM (m:Mon):Nat:=m.2.length
def cP (p:List Mon):Nat:=p.length+sumC cM p
def cF (f:List (List Mon)):Nat:=f.length+sumC cP f
end Go.Proofs.YthhdollpkieknaaGreat


namespace Go.Proofs.YthhdollpkieknaaGreat
open Go.Abs
theorem zcQ (p q:List Mon):zcN (p++q)=zcN p++zcN q:=by simp [zcN]
theorem znR (f g:List (List Mon)):oprt (f++g)=oprt f++oprt g:=by simp [oprt]
end Go.Proofs.YthhdollpkieknaaGreat


namespace Go.Proofs.YthhdollpkieknaaGreat
open Go.Abs
theorem zpW {xs:List Int} {k:Nat} (h:k<xs.length):(avs xs)[k]?=some (AV.val (.int .i64 (xs[k]?.getD 0))):=by simp [avs,h]
def ltL:List Int->List Int->Bool
 | _,[]=>false
 | [],_::_=>true
 | x::xs,y::ys=>if x=y then ltL xs ys else decide (x<y)
theorem zwL:∀ {a b:List Int} {i:Nat},i<a.length->i<b.length->a.take i=b.take i->a[i]?.getD 0≠b[i]?.getD 0->ltL a b=decide (a[i]?.getD 0<b[i]?.getD 0)
 | x::a,y::b,0,_,_,_,h=>by
  simp at h
  simp [ltL,h]
 | x::a,y::b,i+1,h1,h2,h3,h4=>by
  simp at h3
  simp only [ltL,if_pos h3.1]
  simpa using zwL (a:=a) (b:=b) (i:=i) (by simpa using h1) (by simpa using h2) h3.2 (by simpa using h4)
theorem zld:∀ {a b:List Int} {i:Nat},a.take i=b.take i->i<=a.length->i<=b.length->(a.length<=i\/b.length<=i)->ltL a b=decide (a.length<b.length)
 | _,[],i,_,_,_,_=>by simp [ltL]
 | [],_::_,i,_,_,_,_=>by simp [ltL]
 | x::a,y::b,0,_,h1,h2,h3=>by simp at h3
 | x::a,y::b,i+1,h,h1,h2,h3=>by
  simp at h
  simp only [ltL,if_pos h.1]
  have:=zld (a:=a) (b:=b) (i:=i) h.2 (by simpa using h1) (by simpa using h2) (by simpa using h3)
  rw [this]; simp
theorem zmH {a b:List Int} {i:Nat} (h1:i<a.length) (h2:i<b.length) (h:a.take i=b.take i) (e:a[i]?.getD 0=b[i]?.getD 0):a.take (i+1)=b.take (i+1):=by
 rw [List.getElem?_eq_getElem h1,List.getElem?_eq_getElem h2] at e
 simp at e
 rw [List.take_add_one,List.take_add_one,h,List.getElem?_eq_getElem h1,List.getElem?_eq_getElem h2,e]
theorem zkx (a b:List Int) (ha:a.length<=9223372036854775807) (hb:b.length<=9223372036854775807):Con Tryz.prog 225 [.sl a.length (avs a),.sl b.length (avs b)] (.bool (ltL a b)):=by
 refine zab Tryz.mixed ⟨6,[],[],[]⟩ Tryz.func225 ?_
 rw [Tryz.ntmps225]
 simp [go_sem]
 refine zac (4::5::List.range' 6 30) (fun i:Nat=>[(5,.int i)]) (fun i=>i<=a.length/\i<=b.length/\a.take i=b.take i) (fun i=>a.length-i) 0 (by simp) (by simp [go_sem]) (by simp [go_sem]) ?_
 rintro i ⟨hi,hj,he⟩
 by_cases h1:i<a.length
 .by_cases h2:i<b.length
  .have h1':(i:Int)<a.length:=by omega
   have h2':(i:Int)<b.length:=by omega
   by_cases hd:a[i]?.getD 0=b[i]?.getD 0
   .simp [go_sem,h1,h2,h1',h2',zae h1,zae h2,hd]
    refine ⟨by kernel_rfl,by rintro rfl; simp at h1,by rintro rfl; simp at h2,?_⟩
    have hd2:a[i]=b[i]:=by simpa [h1,h2] using hd
    refine ⟨by kernel_rfl,?_⟩
    simp [go_sem]
    simp [go_sem,hd2]
    refine ⟨by omega,i+1,⟨by omega,by omega,zmH h1 h2 he hd⟩,by omega,zaa _ _ _ (by simp),by omega⟩
   .simp [go_sem,h1,h2,h1',h2',zae h1,zae h2,hd]
    refine ⟨by kernel_rfl,by rintro rfl; simp at h1,by rintro rfl; simp at h2,?_⟩
    have hd2:¬ a[i]=b[i]:=by simpa [h1,h2] using hd
    refine ⟨by kernel_rfl,?_⟩
    simp [go_sem]
    simp [go_sem,hd2,zae h1,zae h2]
    refine ⟨by kernel_rfl,⟨h1,by rintro rfl; simp at h1⟩,⟨h2,by rintro rfl; simp at h2⟩,?_⟩
    refine ⟨by kernel_rfl,?_⟩
    simp [go_sem]
    rw [zwL h1 h2 he hd]
  .have h2':¬ (i:Int)<b.length:=by omega
   simp [go_sem,h1,h2,h2']
   rw [zld he hi hj (.inr (by omega))]
 .simp [go_sem,h1]
  rw [zld he hi hj (.inl (by omega))]
def degL:List Int->Int->Int
 | [],s=>s
 | x::xs,s=>if x<0\/100<x then 1000 else degL xs (s+x)
theorem zmt (a:List Int) (ha:a.length<=1048576):Con Tryz.prog 224 [.sl a.length (avs a)] (.int (degL a 0)):=by
 refine zab Tryz.mixed ⟨5,[],[],[]⟩ Tryz.func224 ?_
 rw [Tryz.ntmps224]
 simp [go_sem]
 refine zac (2::3::4::List.range' 5 24) (fun x:Nat × Int=>[(3,.int x.2),(4,.int x.1)]) (fun x=>x.1<=a.length/\0<=x.2/\x.2<=100*x.1/\degL (a.drop x.1) x.2=degL a 0) (fun x=>a.length-x.1) (0,0) (by simp) (by simp [go_sem]) (by simp [go_sem]) ?_
 rintro ⟨i,s⟩ ⟨hi,hs0,hs1,he⟩
 simp only at hi hs0 hs1 he
 simp [go_sem]
 refine ⟨fun h=>?_,fun h=>?_⟩ <;> simp at h
 .have hd:a.drop i=a[i]?.getD 0::a.drop (i+1):=by rw [List.drop_eq_getElem_cons h]; simp [h]
  rw [hd,degL] at he
  by_cases b1:a[i]?.getD 0<0
  .simp [go_sem,zae h,b1]
   rw [if_pos (.inl b1)] at he
   exact ⟨⟨h,by rintro rfl; simp at h⟩,he⟩
  .by_cases b2:100<a[i]?.getD 0
   .simp [go_sem,zae h,b1,b2]
    rw [if_pos (.inr b2)] at he
    exact ⟨⟨h,by rintro rfl; simp at h⟩,he⟩
   .simp [go_sem,zae h,b1,b2]
    rw [if_neg (by omega)] at he
    refine ⟨⟨h,by rintro rfl; simp at h⟩,by omega,by omega,i+1,_,⟨by omega,by omega,by omega,he⟩,by omega,zaa _ _ _ (by simp),rfl,by omega⟩
 .simp [go_sem]
  rw [List.drop_eq_nil_of_le h] at he
  exact he
def monB (z:Int) (m:Mon):Bool:=decide (1<=m.1/\m.1<=10006) && decide ((m.2.length:Int)=z) && decide (degL m.2 0<=3)
def atB (z:Int) (p:List Mon) (j:Nat):Bool:=monB z (p[j]?.getD (0,[])) && (decide (j=0) || ltL (p[j-1]?.getD (0,[])).2 (p[j]?.getD (0,[])).2)
def zbr (z:Int) (p:List Mon):Bool:=(List.range p.length).all (atB z p)
def zaM (z:Int) (f:List (List Mon)):Bool:=decide (1<=z/\z<=3) && decide ((f.length:Int)=z) && f.all (zbr z)
theorem zmW {z:Int} {p:List Mon} {j:Nat} (hj:j<p.length) (h:atB z p j=false):zbr z p=false:=by
 unfold zbr; rw [List.all_eq_false]; exact ⟨j,by simpa using hj,by simp [h]⟩
theorem zkR {z:Int} {p:List Mon} (h:∀ j,j<p.length->atB z p j=true):zbr z p=true:=by
 unfold zbr; rw [List.all_eq_true]; intro j hj; exact h j (by simpa using hj)
theorem zjQ {z:Int} {f:List (List Mon)} {i:Nat} (hi:i<f.length) (h:zbr z (f[i]?.getD [])=false):zaM z f=false:=by
 unfold zaM
 have:f.all (zbr z)=false:=by rw [List.all_eq_false]; exact ⟨f[i]?.getD [],by simp [hi],by simp [h]⟩
 rw [this]; simp
def zcj (f:List (List Mon)):Prop:=f.length<=1048576/\∀ p∈f,p.length<=1048576/\∀ q∈p,q.2.length<=1048576
theorem zsN (z:Int) (f:List (List Mon)) (hf:zcj f):Con Tryz.prog 149 [.agg [.int z,.sl f.length (prt f)]] (.bool (zaM z f)):=by
 have fl:=hf.1
 refine zab Tryz.mixed ⟨6,[],[],[]⟩ Tryz.func149 ?_
 rw [Tryz.ntmps149]
 simp [go_sem]
 refine CallVC.of (zda z 1 3) ?_
 simp [go_sem]
 by_cases hz:1<=z/\z<=3
 .by_cases hl:(f.length:Int)=z
  .have fine:zaM z f=f.all (zbr z):=by unfold zaM; simp [hz,hl]
   simp [go_sem,hz.1,hz.2,hl]
   refine zac (2::3::4::5::List.range' 18 61) (fun i:Nat=>[(3,.int i)]) (fun i=>i<=f.length/\∀ p∈f.take i,zbr z p=true) (fun i=>f.length-i) 0 (by simp) (by simp [go_sem]) (by simp [go_sem]) ?_
   rintro i ⟨hi,hp⟩
   simp [go_sem]
   refine ⟨fun h=>?_,fun h=>?_⟩ <;> simp at h
   .have hx:f[i]?.getD []∈f:=by simp [h]
    obtain ⟨hm1,hm2⟩:=hf.2 _ hx
    simp [go_sem]
    refine zac (2::4::5::List.range' 25 54) (fun j:Nat=>[(4,.int j)]) (fun j=>j<=(f[i]?.getD []).length/\∀ k,k<j->atB z (f[i]?.getD []) k=true) (fun j=>(f[i]?.getD []).length-j) 0 (by simp) (by simp [go_sem]) (by simp [go_sem]) ?_
    rintro j ⟨hj,hq⟩
    have hif:=h
    simp [go_sem,zd0 hif]
    refine ⟨⟨hif,by rintro rfl; simp at hif⟩,?_⟩
    generalize hP:f[i]?.getD []=P at *
    refine ⟨fun h=>?_,fun h=>?_⟩ <;> simp at h
    .have hy:P[j]?.getD (0,[])∈P:=by simp [h]
     have hm:=hm2 _ hy
     have hno:atB z P j=false->zaM z f=false:=fun hh=>zjQ hif (by rw [hP]; exact zmW h hh)
     simp [go_sem,zd0 hif,hP,zbu h]
     refine ⟨⟨hif,by rintro rfl; simp at hif⟩,⟨h,by rintro rfl; simp at h⟩,?_⟩
     generalize hM:P[j]?.getD (0,[])=m at *
     have cD:=zmt m.2 hm
     refine CallVC.of (zda _ _ _) ?_
     by_cases c1:1<=m.1/\m.1<=10006
     .by_cases c2:(m.2.length:Int)=z
      .simp [go_sem,c1.1,c1.2,c2]
       refine CallVC.of (cD) ?_
       by_cases c3:degL m.2 0<=3
       .have c3':¬ 3<degL m.2 0:=by omega
        have hmb:monB z m=true:=by unfold monB; simp [c1,c2,c3]
        simp [go_sem,c3']
        refine ⟨by kernel_rfl,?_⟩
        by_cases j0:0<j
        .have hk:j-1<P.length:=by omega
         have ek:(j:Int)-1=((j-1:Nat):Int):=by omega
         have hyk:P[j-1]?.getD (0,[])∈P:=by simp [hk]
         have hmk:=hm2 _ hyk
         have cL:=zkx (P[j-1]?.getD (0,[])).2 m.2 (by omega) (by omega)
         have hat:atB z P j=ltL (P[j-1]?.getD (0,[])).2 m.2:=by unfold atB; rw [hM,hmb,decide_eq_false (by omega:¬ j=0)]; simp
         simp [go_sem,j0,ek,zd0 hif,hP,zbu hk]
         generalize (P[j-1]?.getD (0,[])).2=pw0 at *
         refine ⟨⟨hif,by rintro rfl; simp at hif⟩,by omega,⟨hk,by rintro rfl; simp at h⟩,?_⟩
         generalize hL:ltL pw0 m.2=bb at *
         refine CallD.of (cL) ?_
         simp [go_sem]
         cases bb with
         | false =>
          simp [go_sem]
          refine ⟨by kernel_rfl,?_⟩
          simp [go_sem]
          rw [hno hat]
         | true =>
          simp [go_sem]
          refine ⟨by kernel_rfl,?_⟩
          simp [go_sem]
          refine ⟨by omega,j+1,⟨by omega,fun k hk2=>?_⟩,by omega,zaa _ _ _ (by simp),by omega⟩
          by_cases e:k=j
          .rw [e]; exact hat
          .exact hq k (by omega)
        .simp [go_sem,j0]
         refine ⟨by kernel_rfl,?_⟩
         simp [go_sem]
         have hat:atB z P j=true:=by unfold atB; rw [hM,hmb,decide_eq_true (by omega:j=0)]; rfl
         refine ⟨by omega,j+1,⟨by omega,fun k hk2=>?_⟩,by omega,zaa _ _ _ (by simp),by omega⟩
         by_cases e:k=j
         .rw [e]; exact hat
         .exact hq k (by omega)
       .have c3':3<degL m.2 0:=by omega
        simp [go_sem,c3']
        rw [hno (by unfold atB monB; rw [hM,decide_eq_false c3]; simp)]
      .simp [go_sem,c1.1,c1.2,c2]
       rw [hno (by unfold atB monB; simp [hM,c2])]
     .have c1':(decide (1<=m.1) && decide (m.1<=10006))=false:=by simpa using c1
      rw [c1']
      simp [go_sem]
      rw [hno (by unfold atB monB; rw [hM,decide_eq_false c1]; simp)]
    .simp [go_sem]
     have hpb:zbr z P=true:=zkR (fun k hk=>hq k (by omega))
     refine ⟨by omega,i+1,⟨by omega,zgh hif hp (by rw [<- hP] at hpb; simpa [hif] using hpb)⟩,by omega,(Off.reset (by intro x hx; simp at hx |-; omega) (by simp) (by simp [go_sem,zaa])),by omega⟩
   .simp [go_sem]
    rw [List.take_of_length_le h] at hp
    rw [fine,List.all_eq_true.2 hp]
  .simp [go_sem,hz.1,hz.2,hl]
   unfold zaM; simp [hl]
 .have hz':(decide (1<=z) && decide (z<=3))=false:=by simpa using hz
  rw [hz']
  simp [go_sem]
  unfold zaM; rw [decide_eq_false hz]; simp
end Go.Proofs.YthhdollpkieknaaGreat


namespace Go.Proofs.YthhdollpkieknaaGreat
open Go.Abs
theorem zlF:∀ {xs:List Int} {s:Int},0<=s->degL xs s<=3->(∀ x∈xs,0<=x/\x<=3)/\s+xs.sum<=3
 | [],s,h0,h=>by simpa [degL] using h
 | x::xs,s,h0,h=>by
  rw [degL] at h
  split at h
  .omega
  .rename_i hx
   have hd:=zlF (xs:=xs) (s:=s+x) (by omega) h
   have pos:∀ (l:List Int),(∀ x∈l,0<=x/\x<=3)->0<=l.sum:=by
    intro l
    induction l with
    | nil=>simp
    | cons a l ih=>intro h; have h1:=h a (by simp); have h2:=ih (fun x hx=>h x (by simp [hx])); simp; omega
   have hs:=pos xs hd.1
   have hd2:=hd.2
   refine ⟨fun y hy=>?_,by simp; omega⟩
   rcases List.mem_cons.1 hy with rfl | hy
   .omega
   .exact hd.1 y hy
structure MonOk (z:Int) (m:Mon):Prop where
 lo:1<=m.1
 hi:m.1<=10006
 len:(m.2.length:Int)=z
 pw:∀ x∈m.2,0<=x/\x<=3
 deg:m.2.sum<=3
theorem zxU {z:Int} {m:Mon} (h:monB z m=true):MonOk z m:=by
 unfold monB at h
 simp only [Bool.and_eq_true,decide_eq_true_eq] at h
 have:=zlF (by omega:(0:Int)<=0) h.2
 exact ⟨h.1.1.1,h.1.1.2,h.1.2,this.1,by omega⟩
theorem MonOk.get {z:Int} {m:Mon} (h:MonOk z m) (k:Nat):0<=m.2[k]?.getD 0/\m.2[k]?.getD 0<=3:=by
 rcases Nat.lt_or_ge k m.2.length with hk | hk
 .simp [hk]; exact h.pw _ (List.getElem_mem hk)
 .simp [hk]
structure FieldOk (z:Int) (f:List (List Mon)):Prop where
 lo:1<=z
 hi:z<=3
 len:(f.length:Int)=z
 part:∀ p∈f,zbr z p=true
theorem zdX {z:Int} {f:List (List Mon)}:zaM z f=true ↔ FieldOk z f:=by
 unfold zaM
 simp only [Bool.and_eq_true,decide_eq_true_eq,List.all_eq_true]
 exact ⟨fun ⟨⟨⟨a,b⟩,c⟩,d⟩=>⟨a,b,c,d⟩,fun ⟨a,b,c,d⟩=>⟨⟨⟨a,b⟩,c⟩,d⟩⟩
theorem zgc {z:Int} {p:List Mon} (h:zbr z p=true) {j:Nat} (hj:j<p.length):MonOk z (p[j]?.getD (0,[]))/\(0<j->ltL (p[j-1]?.getD (0,[])).2 (p[j]?.getD (0,[])).2=true):=by
 unfold zbr at h
 have:=(List.all_eq_true.1 h) j (by simpa using hj)
 unfold atB at this
 simp only [Bool.and_eq_true,Bool.or_eq_true,decide_eq_true_eq] at this
 exact ⟨zxU this.1,fun h0=>this.2.resolve_left (by omega)⟩
theorem zbQ {z:Int} {p:List Mon} (h:zbr z p=true) {m:Mon} (hm:m∈p):MonOk z m:=by
 obtain ⟨j,hj,rfl⟩:=List.getElem_of_mem hm
 have:=(zgc h hj).1
 simpa [hj] using this
def tmF (y e:List Int) (x:Int):Nat->Int
 | 0=>x
 | i+1=>tmF y e x i*Go.Proofs.YthhdollpkieknaaGreat.pw (y[i]?.getD 0) (e[i]?.getD 0)%10007
theorem zuH {y e:List Int} {x:Int} (h:isN x):∀ i,isN (tmF y e x i)
 | 0=>h
 | i+1=>zaf _
def vsum (y:List Int):List Mon->Int
 | []=>0
 | m::p=>tmF y m.2 m.1 y.length+vsum y p
theorem zpt (z:Int) (y:List Int) (hl:y.length<=9223372036854775807):Con Tryz.prog 150 [.int z,.sl y.length (avs y)] (.bool (decide ((y.length:Int)=z) && zbS y)):=by
 refine zab Tryz.mixed ⟨5,[],[],[]⟩ Tryz.func150 ?_
 rw [Tryz.ntmps150]
 simp [go_sem]
 by_cases h:(y.length:Int)=z
 .simp [go_sem,h]
  refine CallVC.of (zdt y hl) ?_
  simp [go_sem]
 .simp [go_sem,h]
end Go.Proofs.YthhdollpkieknaaGreat


namespace Go.Proofs.YthhdollpkieknaaGreat
open Go.Abs
def cmpI (x y:Int):Int:=if x<y then -1 else if y<x then 1 else 0
theorem zrT [DrawK] (x:Int):Con Tryz.prog 286 [.int x] (.bool false):=by
 refine zab Tryz.mixed ⟨3,[],[],[]⟩ Tryz.func286 ?_
 rw [Tryz.ntmps286]
 simp [go_sem]
theorem zoU [DrawK] (x y:Int):Con Tryz.prog 238 [.int x,.int y] (.int (cmpI x y)):=by
 refine zab Tryz.mixed ⟨7,[],[],[]⟩ Tryz.func238 ?_
 rw [Tryz.ntmps238]
 simp [go_sem]
 refine CallVC.of (zrT _) ?_
 simp [go_sem]
 refine CallVC.of (zrT _) ?_
 simp [go_sem]
 unfold cmpI
 by_cases h1:x<y
 .simp [go_sem,h1]
 .by_cases h2:y<x
  .simp [go_sem,h1,h2]
  .simp [go_sem,h1,h2]
def cmpL:List Int->List Int->Int
 | [],[]=>0
 | [],_::_ => -1
 | _::_,[]=>1
 | x::xs,y::ys=>if x=y then cmpL xs ys else cmpI x y
theorem zqK {x y:Int} (h:x≠y):cmpI x y≠0:=by unfold cmpI; split; omega; split <;> omega
theorem zlC:∀ a b:List Int,decide (0<=cmpL a b)=!ltL a b
 | [],[]=>by simp [cmpL,ltL]
 | [],_::_=>by simp [cmpL,ltL]
 | _::_,[]=>by simp [cmpL,ltL]
 | x::xs,y::ys=>by
  rw [cmpL,ltL]
  by_cases h:x=y
  .rw [if_pos h,if_pos h]; exact zlC xs ys
  .rw [if_neg h,if_neg h]
   unfold cmpI
   by_cases h1:x<y
   .simp [h1]
   .have:y<x:=by omega
    simp [h1,this]
theorem zre:∀ {a b:List Int} {i:Nat},i<a.length->i<b.length->a.take i=b.take i->a[i]?.getD 0≠b[i]?.getD 0->cmpL a b=cmpI (a[i]?.getD 0) (b[i]?.getD 0)
 | x::a,y::b,0,_,_,_,h=>by
  simp at h
  simp [cmpL,h]
 | x::a,y::b,i+1,h1,h2,h3,h4=>by
  simp at h3
  simp only [cmpL,if_pos h3.1]
  simpa using zre (a:=a) (b:=b) (i:=i) (by simpa using h1) (by simpa using h2) h3.2 (by simpa using h4)
theorem zjJ:∀ {a b:List Int} {i:Nat},i<a.length->b.length<=i->a.take b.length=b->cmpL a b=1
 | x::a,[],_,_,_,_=>by simp [cmpL]
 | x::a,y::b,0,_,h,_=>by simp at h
 | x::a,y::b,i+1,h1,h2,h3=>by
  simp at h3
  simp only [cmpL,if_pos h3.1]
  exact zjJ (a:=a) (b:=b) (i:=i) (by simpa using h1) (by simpa using h2) h3.2
theorem zog:∀ {a b:List Int},a=b.take a.length->cmpL a b=if a.length<b.length then -1 else 0
 | [],[],_=>by simp [cmpL]
 | [],_::_,_=>by simp [cmpL]
 | x::a,[],h=>by simp at h
 | x::a,y::b,h=>by
  simp at h
  simp only [cmpL,if_pos h.1]
  rw [zog h.2]; simp
theorem zgX [DrawK] (a b:List Int) (ha:a.length<=9223372036854775807) (hb:b.length<=9223372036854775807):Con Tryz.prog 167 [.sl a.length (avs a),.sl b.length (avs b)] (.int (cmpL a b)):=by
 refine zab Tryz.mixed ⟨9,[],[],[]⟩ Tryz.func167 ?_
 rw [Tryz.ntmps167]
 simp [go_sem]
 refine zac (4::5::6::7::8::List.range' 11 20) (fun i:Nat=>[(11,.int i)]) (fun i=>i<=a.length/\i<=b.length/\a.take i=b.take i) (fun i=>a.length-i) 0 (by simp) (by simp [go_sem]) (by simp [go_sem]) ?_
 rintro i ⟨hi,hj,he⟩
 simp [go_sem]
 refine ⟨fun h=>?_,fun h=>?_⟩ <;> simp at h
 .have h1:=h
  simp [go_sem,zae h1]
  refine ⟨⟨h1,by rintro rfl; simp at h1⟩,?_⟩
  by_cases h2:i<b.length
  .have h2':¬ (b.length<=i):=by omega
   simp [go_sem,h2',zae h2]
   refine ⟨⟨h2,by rintro rfl; simp at h2⟩,?_⟩
   refine CallVC.of (zoU _ _) ?_
   simp [go_sem]
   by_cases hd:a[i]?.getD 0=b[i]?.getD 0
   .have hc:cmpI (a[i]?.getD 0) (b[i]?.getD 0)=0:=by unfold cmpI; rw [if_neg (by omega),if_neg (by omega)]
    simp [go_sem,hc]
    refine ⟨by omega,i+1,⟨by omega,by omega,zmH h1 h2 he hd⟩,by omega,zaa _ _ _ (by simp),by omega⟩
   .have hc:=zqK hd
    simp [go_sem,hc]
    rw [zre h1 h2 he hd]
  .have h2':b.length<=i:=by omega
   have e:i=b.length:=by omega
   simp [go_sem,h2']
   rw [zjJ h1 h2' (by rw [<- e,he,e,List.take_length])]
 .simp [go_sem]
  have e:i=a.length:=by omega
  subst e
  rw [List.take_length] at he
  rw [zog he]
  by_cases h3:a.length<b.length
  .simp [go_sem,h3]
  .simp [go_sem,h3]
theorem zwf {xs:List Int} {s:Int} (h:3<s):¬ degL xs s<=3:=by
 intro hd
 have:=zlF (by omega:0<=s) hd
 have pos:∀ (l:List Int),(∀ x∈l,0<=x/\x<=3)->0<=l.sum:=by
  intro l
  induction l with
  | nil=>simp
  | cons a l ih=>intro h; have h1:=h a (by simp); have h2:=ih (fun x hx=>h x (by simp [hx])); simp; omega
 have:=pos xs this.1
 omega
theorem zj7 (z:Int) (m:Mon) (hl:m.2.length<=1048576):Con Tryz.prog 166 [.agg [.int m.1,.sl m.2.length (avs m.2)],.int z] (.bool (monB z m)):=by
 refine zab Tryz.mixed ⟨8,[],[],[]⟩ Tryz.func166 ?_
 rw [Tryz.ntmps166]
 simp [go_sem]
 refine zac (4::5::7::List.range' 11 11) (fun x:Nat × Int=>[(5,.int x.2),(11,.int x.1)]) (fun x=>x.1<=m.2.length/\0<=x.2/\x.2<=3*x.1/\degL (m.2.drop x.1) x.2=degL m.2 0) (fun x=>m.2.length-x.1) (0,0) (by simp) (by simp [go_sem]) (by simp [go_sem]) ?_
 rintro ⟨i,s⟩ ⟨hi,hs0,hs1,he⟩
 simp only at hi hs0 hs1 he
 simp [go_sem]
 refine ⟨fun h=>?_,fun h=>?_⟩ <;> simp at h
 .have hd:m.2.drop i=m.2[i]?.getD 0::m.2.drop (i+1):=by rw [List.drop_eq_getElem_cons h]; simp [h]
  simp [go_sem,zae h]
  refine ⟨⟨h,fun e=>by rw [e] at h; simp at h⟩,?_⟩
  refine CallVC.of (zeO _ _ _) ?_
  by_cases hx:0<=m.2[i]?.getD 0/\m.2[i]?.getD 0<=3
  .simp [go_sem,hx.1,hx.2]
   rw [hd,degL,if_neg (by omega)] at he
   refine ⟨by omega,by omega,i+1,_,⟨by omega,by omega,by omega,he⟩,by omega,zaa _ _ _ (by simp),rfl,by omega⟩
  .have hx':(decide (0<=m.2[i]?.getD 0) && decide (m.2[i]?.getD 0<=3))=false:=by simpa using hx
   have hm:monB z m=false:=by
    have:¬ degL m.2 0<=3:=by
     rw [<- he,hd,degL]
     split
     .omega
     .exact zwf (by omega)
    unfold monB; rw [decide_eq_false this]; simp
   rw [hx']
   simp [go_sem]
   rw [hm]
 .simp [go_sem]
  rw [List.drop_eq_nil_of_le h,degL] at he
  subst he
  by_cases c0:m.1=0
  .simp [go_sem,c0]
   unfold monB; simp [c0]
  .simp [go_sem,c0]
   refine CallVC.of (zfB _) ?_
   simp [go_sem]
   by_cases c1:0<=m.1/\m.1<=10006
   .simp [go_sem,c1.1,c1.2]
    refine CallVC.of (zdL _ _ (by omega)) ?_
    simp [go_sem]
    by_cases c2:(m.2.length:Int)=z
    .simp [go_sem,c2]
     unfold monB
     have:1<=m.1:=by omega
     simp [this,c1.2,c2]
    .simp [go_sem,c2]
     unfold monB; simp [c2]
   .have c1':(decide (0<=m.1) && decide (m.1<=10006))=false:=by simpa using c1
    rw [c1']
    simp [go_sem]
    have:¬ (1<=m.1/\m.1<=10006):=by omega
    unfold monB; rw [decide_eq_false this]; simp
theorem zsR (n:Nat) (cs:List AV) (hn:n<=9223372036854775807):Con Tryz.prog 165 [.sl n cs] (.int n):=by
 refine zab Tryz.mixed ⟨3,[],[],[]⟩ Tryz.func165 ?_
 rw [Tryz.ntmps165]
 simp [go_sem]
 try omega
theorem zgz (z:Int) (f:List (List Mon)) (hf:zcj f):Con Tryz.prog 76 [.agg [.int z,.sl f.length (prt f)]] (.bool (zaM z f)):=by
 have fl:=hf.1
 refine zab Tryz.mixed ⟨7,[],[],[]⟩ Tryz.func76 ?_
 rw [Tryz.ntmps76]
 simp [go_sem]
 refine ⟨by kernel_rfl,?_⟩
 refine CallD.of (zeO z 1 3) ?_
 simp [go_sem]
 by_cases hz:1<=z/\z<=3
 .have cl:=zsR f.length (prt f) (by omega)
  by_cases hl:(f.length:Int)=z
  .have fine:zaM z f=f.all (zbr z):=by unfold zaM; simp [hz,hl]
   simp [go_sem,hz.1,hz.2]
   refine CallD.of (cl) ?_
   simp [go_sem]
   simp [go_sem,hl]
   refine ⟨by kernel_rfl,?_⟩
   simp [go_sem]
   refine zac (2::4::5::6::List.range' 22 34) (fun i:Nat=>[(22,.int i)]) (fun i=>i<=f.length/\∀ p∈f.take i,zbr z p=true) (fun i=>f.length-i) 0 (by simp) (by simp [go_sem]) (by simp [go_sem]) ?_
   rintro i ⟨hi,hp⟩
   simp [go_sem]
   refine ⟨fun h=>?_,fun h=>?_⟩ <;> simp at h
   .have hif:=h
    have hx:f[i]?.getD []∈f:=by simp [h]
    obtain ⟨hm1,hm2⟩:=hf.2 _ hx
    simp [go_sem,zd0 hif]
    refine ⟨⟨hif,by rintro rfl; simp at hif⟩,?_⟩
    generalize hP:f[i]?.getD []=P at *
    refine zac (2::5::6::List.range' 28 27) (fun j:Nat=>[(28,.int j)]) (fun j=>j<=P.length/\∀ k,k<j->atB z P k=true) (fun j=>P.length-j) 0 (by simp) (by simp [go_sem]) (by simp [go_sem]) ?_
    rintro j ⟨hj,hq⟩
    simp [go_sem]
    refine ⟨fun h=>?_,fun h=>?_⟩ <;> simp at h
    .have hy:P[j]?.getD (0,[])∈P:=by simp [h]
     have hm:=hm2 _ hy
     have hno:atB z P j=false->zaM z f=false:=fun hh=>zjQ hif (by rw [hP]; exact zmW h hh)
     simp [go_sem,zbu h]
     refine ⟨⟨h,by rintro rfl; simp at h⟩,by kernel_rfl,?_⟩
     generalize hM:P[j]?.getD (0,[])=m at *
     have cM:=zj7 z m hm
     generalize hmb:monB z m=mb at *
     refine CallD.of (cM) ?_
     simp [go_sem]
     cases mb with
     | false =>
      simp [go_sem]
      refine ⟨by kernel_rfl,?_⟩
      simp [go_sem]
      rw [hno (by unfold atB; rw [hM,hmb]; rfl)]
     | true =>
      by_cases j0:0<j
      .have hk:j-1<P.length:=by omega
       have ek:(j:Int)-1=((j-1:Nat):Int):=by omega
       have hyk:P[j-1]?.getD (0,[])∈P:=by simp [hk]
       have hmk:=hm2 _ hyk
       have cC:=zgX (P[j-1]?.getD (0,[])).2 m.2 (by omega) (by omega)
       have hat:atB z P j=ltL (P[j-1]?.getD (0,[])).2 m.2:=by unfold atB; rw [hM,hmb,decide_eq_false (by omega:¬ j=0)]; simp
       have hlt:=zlC (P[j-1]?.getD (0,[])).2 m.2
       simp [go_sem,j0,ek,zbu hk]
       refine ⟨by omega,⟨hk,by rintro rfl; simp at h⟩,?_⟩
       generalize (P[j-1]?.getD (0,[])).2=pw0 at *
       generalize hc:cmpL pw0 m.2=c at *
       refine CallD.of (cC) ?_
       simp [go_sem]
       cases hL:ltL pw0 m.2 with
       | false =>
        rw [hL] at hlt hat
        have hc0:0<=c:=by simpa using hlt
        simp [go_sem,hc0]
        refine ⟨by kernel_rfl,?_⟩
        simp [go_sem]
        rw [hno hat]
       | true =>
        rw [hL] at hlt hat
        have hc0:¬ 0<=c:=by simpa using hlt
        simp [go_sem,hc0]
        refine ⟨by kernel_rfl,?_⟩
        simp [go_sem]
        refine ⟨by omega,j+1,⟨by omega,fun k hk2=>?_⟩,by omega,zaa _ _ _ (by simp),by omega⟩
        by_cases e:k=j
        .rw [e]; exact hat
        .exact hq k (by omega)
      .simp [go_sem,j0]
       refine ⟨by kernel_rfl,?_⟩
       simp [go_sem]
       have hat:atB z P j=true:=by unfold atB; rw [hM,hmb,decide_eq_true (by omega:j=0)]; rfl
       refine ⟨by omega,j+1,⟨by omega,fun k hk2=>?_⟩,by omega,zaa _ _ _ (by simp),by omega⟩
       by_cases e:k=j
       .rw [e]; exact hat
       .exact hq k (by omega)
    .simp [go_sem]
     have hpb:zbr z P=true:=zkR (fun k hk=>hq k (by omega))
     refine ⟨by omega,i+1,⟨by omega,zgh hif hp (by rw [<- hP] at hpb; simpa [hif] using hpb)⟩,by omega,(Off.reset (by intro x hx; simp at hx |-; omega) (by simp) (by simp [go_sem,zaa])),by omega⟩
   .simp [go_sem]
    rw [List.take_of_length_le h] at hp
    rw [fine,List.all_eq_true.2 hp]
  .simp [go_sem,hz.1,hz.2]
   refine CallD.of (cl) ?_
   simp [go_sem]
   simp [go_sem,hl]
   refine ⟨by kernel_rfl,?_⟩
   simp [go_sem]
   unfold zaM; simp [hl]
 .by_cases z1:1<=z
  .have z3:¬ z<=3:=fun h=>hz ⟨z1,h⟩
   simp [go_sem,z1,z3]
   refine ⟨by kernel_rfl,?_⟩
   simp [go_sem]
   unfold zaM; rw [decide_eq_false hz]; simp
  .simp [go_sem,z1]
   refine ⟨by kernel_rfl,?_⟩
   simp [go_sem]
   unfold zaM; rw [decide_eq_false hz]; simp
def vecB (z:Int) (y:List Int):Bool:=decide ((y.length:Int)=z) && zbS y
theorem zfu (z:Int) (n:Nat) (cs:List AV) (y:List Int) (hl:y.length<=9223372036854775807) :
  Con Tryz.prog 78 [.agg [.int z,.sl n cs],.sl y.length (avs y)] (.bool (vecB z y)):=by
 refine zab Tryz.mixed ⟨5,[],[],[]⟩ Tryz.func78 ?_
 rw [Tryz.ntmps78]
 simp [go_sem]
 refine ⟨by kernel_rfl,?_⟩
 refine CallD.of (zdL _ _ hl) ?_
 simp [go_sem]
 unfold vecB
 by_cases h:(y.length:Int)=z
 .simp [go_sem,h]
  refine CallD.of (zcl y hl) ?_
  simp [go_sem]
  refine ⟨by kernel_rfl,?_⟩
  simp [go_sem]
 .simp [go_sem,h]
  refine ⟨by kernel_rfl,?_⟩
  simp [go_sem]
theorem zlf (z:Int) (n:Nat) (cs:List AV) (y:List Int) (hl:y.length<=9223372036854775807) :
  Con Tryz.prog 172 [.sl y.length (avs y),.fptr [.int z,.sl n cs]] (.bool (!vecB z y)):=by
 refine zab Tryz.mixed ⟨4,[],[],[]⟩ Tryz.func172 ?_
 rw [Tryz.ntmps172]
 simp [go_sem]
 refine CallVC.of (zfu z n cs y hl) ?_
 simp [go_sem]
theorem zkN (g:FuncId) (cs:List AV) (p:List Int->Bool) (xss:List (List Int)) (hl:xss.length<=9223372036854775807) (hg:∀ x∈xss,Con Tryz.prog g [.sl x.length (avs x),.fptr cs] (.bool (p x))) :
  Con Tryz.prog 233 [.sl xss.length (mat xss),.fn g [.fptr cs]] (.int (idxF p xss)):=by
 refine zab Tryz.mixed ⟨6,[],[],[]⟩ Tryz.func233 ?_
 rw [Tryz.ntmps233]
 simp [go_sem]
 refine zac (5::List.range' 8 20) (fun i:Nat=>[(8,.int i)]) (fun i=>i<=xss.length/\∀ x∈xss.take i,p x=false) (fun i=>xss.length-i) 0 (by simp) (by simp [go_sem]) (by simp [go_sem]) ?_
 rintro i ⟨hi,hf⟩
 simp [go_sem]
 have sk:=ze1 p xss i hf hi
 refine ⟨fun h=>?_,fun h=>?_⟩ <;> simp at h
 .have hx:xss[i]?.getD []∈xss:=by simp [h]
  have hd:xss.drop i=xss[i]?.getD []::xss.drop (i+1):=by rw [List.drop_eq_getElem_cons h]; simp [h]
  simp [go_sem,zag h]
  refine ⟨⟨h,by rintro rfl; simp at h⟩,CallVC.of (hg _ hx) ?_⟩
  simp [go_sem]
  refine ⟨fun h2=>?_,fun h2=>?_⟩ <;> simp [go_sem]
  .rw [sk,hd]; simp [idxF,h2]
  .refine ⟨by omega,i+1,⟨by omega,?_⟩,by omega,zaa _ _ _ (by simp),by omega⟩
   intro x hx2
   rw [List.take_add_one,List.getElem?_eq_getElem h,Option.toList_some,List.mem_append,List.mem_singleton] at hx2
   rcases hx2 with hx2 | hx2
   .exact hf x hx2
   .rw [hx2]; simpa [h] using h2
 .simp [go_sem]
  rw [sk,List.drop_eq_nil_of_le h]; simp [idxF]
theorem zhy (g:FuncId) (cs:List AV) (p:List Int->Bool) (xss:List (List Int)) (hl:xss.length<=9223372036854775807) (hg:∀ x∈xss,Con Tryz.prog g [.sl x.length (avs x),.fptr cs] (.bool (p x))) :
  Con Tryz.prog 157 [.sl xss.length (mat xss),.fn g [.fptr cs]] (.bool (xss.any p)):=by
 refine zab Tryz.mixed ⟨5,[],[],[]⟩ Tryz.func157 ?_
 rw [Tryz.ntmps157]
 simp [go_sem]
 refine CallVC.of (zkN g cs p xss hl hg) ?_
 simp [go_sem]
 simp [zjs]
def chk (z:Int) (f:List (List Mon)) (ys:List (List Int)):Int:=if zaM z f=true then if ys.any (fun y=>!vecB z y)=true then 2 else 0 else 1
theorem zhQ (z:Int) (f:List (List Mon)) (ys:List (List Int)) (hs:zcj f) (hl:ys.length<=9223372036854775807) (hr:∀ y∈ys,y.length<=9223372036854775807) :
  Con Tryz.prog 86 [.agg [.int z,.sl f.length (prt f)],.sl ys.length (mat ys)] (.int (chk z f ys)):=by
 have cI:=zgz z f hs
 have cC:=zhy 172 [.int z,.sl f.length (prt f)] (fun y=>!vecB z y) ys hl (fun y hy=>zlf z _ _ y (hr y hy))
 unfold chk
 generalize zaM z f=b at *
 generalize ys.any (fun y=>!vecB z y)=c at *
 refine zab Tryz.mixed ⟨5,[],[],[]⟩ Tryz.func86 ?_
 rw [Tryz.ntmps86]
 simp [go_sem]
 refine CallVC.of (cI) ?_
 simp [go_sem]
 cases b with
 | false =>
  simp [go_sem]
 | true =>
  simp [go_sem]
  refine CallVC.of (cC) ?_
  simp [go_sem]
  cases c with
  | false =>
   simp [go_sem]
  | true =>
   simp [go_sem]
end Go.Proofs.YthhdollpkieknaaGreat


namespace Go.Proofs.YthhdollpkieknaaGreat
open Go.Abs
def zaw (e:List Int):Key:=(e[0]?.getD 0,e[1]?.getD 0,e[2]?.getD 0)
def polG (c:Key->Option Int):List Mon->Key->Option Int
 | []=>c
 | m::p=>polG (mset c (zaw m.2) m.1) p
def polF (p:List Mon):Key->Option Int:=polG ziU p
theorem zt1 (c:Key->Option Int) (p q:List Mon):polG c (p++q)=polG (polG c p) q:=by
 induction p generalizing c with
 | nil=>rfl
 | cons m p ih=>exact ih _
theorem zq8 {p:List Mon} {i:Nat} (h:i<p.length):polF (p.take (i+1))=mset (polF (p.take i)) (zaw (p[i]?.getD (0,[])).2) (p[i]?.getD (0,[])).1:=by
 rw [List.take_add_one,List.getElem?_eq_getElem h,polF,zt1]; rfl
theorem zhR (p:List Mon) (hp:p.length<=1048576) (hm:∀ m∈p,m.2.length<=3) :
  Con Tryz.prog 147 [.sl p.length (mons p)] (.mp (polF p)):=by
 refine zab Tryz.mixed ⟨7,[],[],[]⟩ Tryz.func147 ?_
 rw [Tryz.ntmps147]
 simp [go_sem]
 refine zac (3::5::6::List.range' 10 14) (fun i:Nat=>[(3,.mp (polF (p.take i))),(10,.int i)]) (fun i=>i<=p.length) (fun i=>p.length-i) 0 (by simp) (by simp [go_sem,polF,polG]) (by simp [go_sem]) ?_
 intro i hi
 simp [go_sem]
 refine ⟨fun h=>?_,fun h=>?_⟩ <;> simp at h
 .have hif:=h
  have hx:p[i]?.getD (0,[])∈p:=by simp [h]
  have hl:=hm _ hx
  have hv:=zq8 h
  simp [go_sem,zbu hif]
  generalize p[i]?.getD (0,[])=m at *
  obtain ⟨x,e⟩:=m
  simp only at hl hv
  refine ⟨⟨hif,by rintro rfl; simp at hif⟩,by kernel_rfl,⟨by omega,by omega⟩,?_⟩
  refine ⟨by kernel_rfl,?_⟩
  simp [go_sem]
  rcases e with _ | ⟨a,_ | ⟨b,_ | ⟨c,_ | ⟨d,e⟩⟩⟩⟩
  .simp [go_sem,avs]
   refine ⟨by omega,i+1,by omega,by omega,zaa _ _ _ (by simp),hv.symm,by omega⟩
  .simp [go_sem,avs]
   refine ⟨by omega,i+1,by omega,by omega,zaa _ _ _ (by simp),hv.symm,by omega⟩
  .simp [go_sem,avs]
   refine ⟨by omega,i+1,by omega,by omega,zaa _ _ _ (by simp),hv.symm,by omega⟩
  .simp [go_sem,avs]
   refine ⟨by omega,i+1,by omega,by omega,zaa _ _ _ (by simp),hv.symm,by omega⟩
  .simp at hl
 .simp [go_sem]
  rw [List.take_of_length_le h]
def pols (f:List (List Mon)):List AV:=f.map fun p=>.mp (polF p)
def zd7 (f:List (List Mon)):List AV:=f.map fun p=>.fmp (polF p)
@[simp] theorem zC3 (f:List (List Mon)):(pols f).length=f.length:=by simp [pols]
@[simp] theorem zBY (f:List (List Mon)):(zd7 f).length=f.length:=by simp [zd7]
@[simp] theorem zCR {f:List (List Mon)}:(zd7 f=[])=(f=[]):=by cases f <;> simp [zd7]
@[simp] theorem zuc:∀ f:List (List Mon),frzL (pols f)=zd7 f
 | []=>rfl
 | p::f=>by have:=zuc f; simp only [pols,zd7,List.map_cons,frzL] at this |-; rw [this]; simp [frz]
@[simp] theorem zpw:∀ f:List (List Mon),zan (pols f)=true
 | []=>rfl
 | p::f=>by have:=zpw f; simp only [pols,List.map_cons,zan] at this |-; rw [this]; simp [zau]
theorem zij {f:List (List Mon)} {k:Nat} (h:k<f.length):(zd7 f).drop k=.fmp (polF (f[k]?.getD []))::zd7 (f.drop (k+1)):=by
 rw [zd7,<- List.map_drop,List.drop_eq_getElem_cons h,List.map_cons]; simp [h,zd7]
theorem zb3 (z:Int) (f:List (List Mon)) (hf:FieldOk z f) (hs:zcj f) :
  Con Tryz.prog 62 [.agg [.int z,.sl f.length (prt f)]] (.own 120 f.length (pols f)):=by
 have fl:=hs.1
 have z3:=hf.hi
 have zl:=hf.len
 refine zab Tryz.mixed ⟨6,[],[],[]⟩ Tryz.func62 ?_
 rw [Tryz.ntmps62]
 simp [go_sem]
 refine zac (3::5::List.range' 10 10) (fun i:Nat=>[(3,.own 120 i (pols (f.take i))),(10,.int i)]) (fun i=>i<=f.length) (fun i=>f.length-i) 0 (by simp) (by simp [go_sem,pols]) (by simp [go_sem]) ?_
 intro i hi
 simp [go_sem]
 refine ⟨fun h=>?_,fun h=>?_⟩ <;> simp at h
 .have hif:=h
  have hx:f[i]?.getD []∈f:=by simp [h]
  have hm:=hs.2 _ hx
  simp [go_sem,zd0 hif]
  refine ⟨⟨hif,by rintro rfl; simp at hif⟩,?_⟩
  refine CallVC.of (zhR _ hm.1 (fun m hm=>by have:=(zbQ (hf.part _ hx) hm).len; omega)) ?_
  simp [go_sem]
  have e1:f.take (i+1)=f.take i++[f[i]?.getD []]:=by rw [List.take_add_one]; simp [hif]
  refine ⟨⟨by omega,by omega,by omega⟩,by omega,i+1,by omega,by omega,zaa _ _ _ (by simp),⟨rfl,?_⟩,by omega⟩
  rw [e1]; simp [pols]
 .simp [go_sem]
  rw [List.take_of_length_le h]
  exact ⟨by omega,rfl⟩
def tmK (y:List Int) (k:Key) (x:Int):Int:=tmF y [k.1,k.2.1,k.2.2] x y.length
def rest (y:List Int):List (Key × Int)->Int
 | []=>0
 | e::es=>tmK y e.1 e.2+rest y es
theorem znN (y:List Int) (a b:List (Key × Int)):rest y (a++b)=rest y a+rest y b:=by
 induction a with
 | nil=>simp [rest]
 | cons e a ih=>simp [rest,ih]; omega
theorem zm3 (y:List Int):∀ {es:List (Key × Int)},(∀ e∈es,isN e.2)->0<=rest y es
 | [],_=>by simp [rest]
 | e::es,h=>by
  have h1:=zm3 y (es:=es) (fun a ha=>h a (by simp [ha]))
  have h2:=(zuH (y:=y) (e:=[e.1.1,e.1.2.1,e.1.2.2]) (h e (by simp)) y.length).1
  simp only [rest,tmK]; omega
def EOk (e:Key × Int):Prop:=isN e.2/\0<=e.1.1/\e.1.1<=1000/\0<=e.1.2.1/\e.1.2.1<=1000/\0<=e.1.2.2/\e.1.2.2<=1000
theorem zrf (c:Key->Option Int) (y:List Int) (T:Int) (hy:Ns y) (hl:y.length<=3) (hc:∀ k x,c k=some x->EOk (k,x)) (hT:T<=1000000000000000000) (hE:∀ es,Enum c es->rest y es=T) :
  Con Tryz.prog 242 [.fmp c,.sl y.length (avs y)] (.int (T%10007)):=by
 refine zab Tryz.mixed ⟨10,[],[],[]⟩ Tryz.func242 ?_
 rw [Tryz.ntmps242]
 simp [go_sem]
 intro es hes
 have hok:∀ e∈es,EOk e:=fun e he=>hc e.1 e.2 (hes.val e he)
 have hsum:=hE es hes
 refine zac (5::6::7::8::9::11::List.range' 12 24) (fun x:Int × Option (Key × Int) × List (Key × Int)=>[(5,.int x.1),(11,.it x.2.1 x.2.2)]) (fun x=>0<=x.1/\x.1+rest y x.2.2=T/\∀ e∈x.2.2,EOk e) (fun x=>x.2.2.length) (0,none,es) ⟨by simp,by simpa using hsum,hok⟩ (by simp [go_sem]) (by simp [go_sem]) ?_
 rintro ⟨s,l,rem⟩ ⟨hs0,hsT,hrem⟩
 simp only at hs0 hsT hrem
 simp [go_sem,zdm]
 refine ⟨fun hr=>?_,fun l1 k0 k1 k2 x l2 hr=>?_⟩
 .subst hr
  have:s=T:=by simpa [rest] using hsT
  subst this
  refine CallVC.of (za3 _ (by omega) (by omega)) ?_
  simp [go_sem]
 .subst hr
  have hek:=hrem ((k0,k1,k2),x) (by simp)
  have hx:isN x:=hek.1
  have hg:∀ i:Nat,0<=([k0,k1,k2]:List Int)[i]?.getD 0/\([k0,k1,k2]:List Int)[i]?.getD 0<=1000:=by
   intro i
   obtain ⟨_,a1,a2,a3,a4,a5,a6⟩:=hek
   match i with
   | 0=>exact ⟨a1,a2⟩
   | 1=>exact ⟨a3,a4⟩
   | 2=>exact ⟨a5,a6⟩
   | i+3=>simp
  refine zac (7::8::9::List.range' 19 14) (fun i:Nat=>[(7,.int (tmF y [k0,k1,k2] x i)),(19,.int i)]) (fun i=>i<=y.length) (fun i=>y.length-i) 0 (by simp) (by simp [go_sem,tmF]) (by simp [go_sem]) ?_
  intro i hi
  simp [go_sem]
  refine ⟨fun h=>?_,fun h=>?_⟩ <;> simp at h
  .have h3:i<([k0,k1,k2]:List Int).length:=by simp; omega
   have e3:([.val (.int .i64 k0),.val (.int .i64 k1),.val (.int .i64 k2)]:List AV)[i]?=some (.val (.int .i64 (([k0,k1,k2]:List Int)[i]?.getD 0))):=zpW (xs:=[k0,k1,k2]) h3
   have g:=hg i
   have m1:=zax (zuH (y:=y) (e:=[k0,k1,k2]) hx i) (zaf ((y[i]?.getD 0) ^ (([k0,k1,k2]:List Int)[i]?.getD 0).toNat))
   have m2:fits (tmF y [k0,k1,k2] x i*pw (y[i]?.getD 0) (([k0,k1,k2]:List Int)[i]?.getD 0)):=m1
   have hs:tmF y [k0,k1,k2] x (i+1)=tmF y [k0,k1,k2] x i*pw (y[i]?.getD 0) (([k0,k1,k2]:List Int)[i]?.getD 0)%10007:=rfl
   simp [go_sem,zae h,e3]
   generalize ([k0,k1,k2]:List Int)[i]?.getD 0=ki at *
   refine ⟨⟨h,by rintro rfl; simp at h⟩,by omega,?_⟩
   refine CallVC.of (zy4 _ _ (hy.get i) g.1 (by omega)) ?_
   simp [go_sem]
   refine ⟨m2,?_⟩
   refine CallVC.of (za3 _ m2.1 m2.2) ?_
   simp [go_sem]
   refine ⟨by omega,i+1,by omega,by omega,zaa _ _ _ (by simp),hs.symm,by omega⟩
  .have e:i=y.length:=by omega
   subst e
   have hr0:0<=rest y (l1++l2):=zm3 y (fun e he=>(hrem e (by
    rcases List.mem_append.1 he with he | he <;> simp [he])).1)
   have ht:=zuH (y:=y) (e:=[k0,k1,k2]) hx y.length
   have hsT2:s+tmF y [k0,k1,k2] x y.length+rest y (l1++l2)=T:=by
    rw [<- hsT,znN,znN,rest]
    show _=s+(rest y l1+(tmF y [k0,k1,k2] x y.length+rest y l2))
    omega
   have ht1:=ht.1
   simp [go_sem]
   refine ⟨⟨by omega,by omega⟩,_,_,_,⟨?_,hsT2,fun a b c d he=>hrem _ ?_⟩,?_,(Off.reset (by intro x hx; simp at hx |-; omega) (by simp) (by simp [go_sem,zaa])),rfl,rfl,rfl⟩
   .omega
   .rcases List.mem_append.1 he with he | he <;> simp [he]
   .simp
end Go.Proofs.YthhdollpkieknaaGreat


namespace Go.Proofs.YthhdollpkieknaaGreat
open Go.Abs
theorem zg2:∀ a:List Int,ltL a a=false
 | []=>rfl
 | x::a=>by simp [ltL,zg2 a]
theorem zbN:∀ {a b c:List Int},ltL a b=true->ltL b c=true->ltL a c=true
 | _,[],_,h,_=>by simp [ltL] at h
 | _,_::_,[],_,h=>by simp [ltL] at h
 | [],_::_,_::_,_,_=>rfl
 | x::a,y::b,z::c,h1,h2=>by
  simp only [ltL] at h1 h2 |-
  split at h1
  .rename_i e; subst e
   split at h2
   .rename_i e; subst e; rw [if_pos rfl]; exact zbN h1 h2
   .rename_i e; rw [if_neg e]; exact h2
  .rename_i e1
   simp only [decide_eq_true_eq] at h1
   split at h2
   .rename_i e; subst e; rw [if_neg e1]; simpa using h1
   .rename_i e
    simp only [decide_eq_true_eq] at h2
    rw [if_neg (by omega)]; simp; omega
theorem zno {z:Int} {p:List Mon} (h:zbr z p=true) {i:Nat}:∀ {j:Nat},i<j->j<p.length->ltL (p[i]?.getD (0,[])).2 (p[j]?.getD (0,[])).2=true
 | 0,h1,_=>by omega
 | j+1,h1,h2=>by
  have hs:=(zgc h h2).2 (by omega)
  rw [Nat.add_sub_cancel] at hs
  rcases Nat.lt_or_ge i j with hl | hg
  .exact zbN (zno h hl (by omega)) hs
  .have:i=j:=by omega
   subst this; exact hs
theorem zrk {a b:List Int} (hl:a.length=b.length) (h3:a.length<=3) (h:zaw a=zaw b):a=b:=by
 match a,b,hl,h3 with
 | [],[],_,_=>rfl
 | [x],[y],_,_=>simp [zaw] at h; rw [h]
 | [x,x'],[y,y'],_,_=>simp [zaw] at h; rw [h.1,h.2]
 | [x,x',x''],[y,y',y''],_,_=>simp [zaw] at h; rw [h.1,h.2.1,h.2.2]
def keyM (m:Mon):Key × Int:=(zaw m.2,m.1)
theorem zfm {z:Int} {p:List Mon} (hz:z<=3) (h:zbr z p=true):p.Pairwise (fun a b=>zaw a.2≠zaw b.2):=by
 rw [List.pairwise_iff_getElem]
 intro i j hi hj hij he
 have hl:=zno h hij hj
 have m1:=(zgc h hi).1.len
 have m2:=(zgc h hj).1.len
 simp only [List.getElem?_eq_getElem hi,List.getElem?_eq_getElem hj,Option.getD_some] at hl m1 m2
 have:=zrk (by omega) (by omega) he
 rw [this,zg2] at hl
 simp at hl
theorem zjv:∀ (p:List Mon) (c:Key->Option Int) (k:Key),(∀ m∈p,zaw m.2≠k)->polG c p k=c k
 | [],c,k,_=>rfl
 | m::p,c,k,h=>by
  rw [polG,zjv p _ k (fun a ha=>h a (by simp [ha]))]
  have:=h m (by simp)
  simp [mset,Ne.symm this]
theorem zll:∀ (p:List Mon) (c:Key->Option Int),p.Pairwise (fun a b=>zaw a.2≠zaw b.2)->∀ m∈p,polG c p (zaw m.2)=some m.1
 | [],_,_,m,hm=>by simp at hm
 | a::p,c,h,m,hm=>by
  obtain ⟨h1,h2⟩:=List.pairwise_cons.1 h
  rw [polG]
  rcases List.mem_cons.1 hm with rfl | hm
  .rw [zjv p _ _ (fun b hb=>Ne.symm (h1 b hb))]; simp [mset]
  .exact zll p _ h2 m hm
theorem zdC {p:List Mon} (h:p.Pairwise (fun a b=>zaw a.2≠zaw b.2)) {k:Key} {x:Int}:polF p k=some x ↔ (k,x)∈p.map keyM:=by
 constructor
 .intro hk
  by_cases hin:∃ m∈p,zaw m.2=k
  .obtain ⟨m,hm,rfl⟩:=hin
   rw [polF,zll p _ h m hm] at hk
   injection hk with hk; subst hk
   exact List.mem_map.2 ⟨m,hm,rfl⟩
  .rw [polF,zjv p _ k (fun m hm he=>hin ⟨m,hm,he⟩)] at hk
   simp [ziU] at hk
 .intro hm
  obtain ⟨m,hm,he⟩:=List.mem_map.1 hm
  simp only [keyM,Prod.mk.injEq] at he
  rw [<- he.1,<- he.2]
  exact zll p _ h m hm
theorem zq2 (y:List Int) {a b:List (Key × Int)} (h:a.Perm b):rest y a=rest y b:=by
 induction h with
 | nil=>rfl
 | cons x _ ih=>simp [rest,ih]
 | swap x z l=>simp [rest]; omega
 | trans _ _ i1 i2=>rw [i1,i2]
theorem zdI {α β:Type} {f:α->β} {l:List α} (h:l.Pairwise (fun a b=>f a≠f b)):l.Nodup:=h.imp (fun hn e=>hn (by rw [e]))
theorem zqA {p:List Mon} (h:p.Pairwise (fun a b=>zaw a.2≠zaw b.2)) {es:List (Key × Int)} (he:Enum (polF p) es):es.Perm (p.map keyM):=by
 refine (List.perm_ext_iff_of_nodup (zdI (f:=Prod.fst) he.nd) ?_).2 (fun e=>?_)
 .rw [List.Nodup,List.pairwise_map]
  exact h.imp (fun hn e=>hn (congrArg Prod.fst e))
 .obtain ⟨k,x⟩:=e
  rw [<- zdC h]
  constructor
  .intro hm; exact he.val _ hm
  .intro hk
   by_cases hin:∃ q∈es,q.1=k
   .obtain ⟨⟨k',x'⟩,hq,hqk⟩:=hin
    simp only at hqk; subst hqk
    have:=he.val _ hq
    simp only at this
    rw [hk] at this
    injection this with this; subst this
    exact hq
   .have:=he.out k (fun q hq e=>hin ⟨q,hq,e⟩)
    rw [hk] at this; simp at this
theorem zkl {y e e':List Int} {x:Int}:∀ {n:Nat},(∀ i,i<n->e[i]?.getD 0=e'[i]?.getD 0)->tmF y e x n=tmF y e' x n
 | 0,_=>rfl
 | n+1,h=>by rw [tmF,tmF,zkl (fun i hi=>h i (by omega)),h n (by omega)]
theorem zBq {y:List Int} (hl:y.length<=3) (m:Mon):tmK y (zaw m.2) m.1=tmF y m.2 m.1 y.length:=by
 refine zkl (fun i hi=>?_)
 have:i=0\/i=1\/i=2:=by omega
 rcases this with rfl | rfl | rfl <;> simp [zaw]
theorem zkm {z:Int} {p:List Mon} (hz:z<=3) (h:zbr z p=true) {k:Key} {x:Int} (hk:polF p k=some x):EOk (k,x):=by
 obtain ⟨m,hm,he⟩:=List.mem_map.1 ((zdC (zfm hz h)).1 hk)
 simp only [keyM,Prod.mk.injEq] at he
 obtain ⟨rfl,rfl⟩:=he
 have ho:=zbQ h hm
 have g0:=ho.get 0
 have g1:=ho.get 1
 have g2:=ho.get 2
 have l1:=ho.lo
 have l2:=ho.hi
 unfold EOk isN zaw
 simp only
 refine ⟨⟨by omega,by omega⟩,by omega,by omega,by omega,by omega,by omega,by omega⟩
end Go.Proofs.YthhdollpkieknaaGreat


namespace Go.Proofs.YthhdollpkieknaaGreat
open Go.Abs
theorem zjr {c:Key->Option Int} {es:List (Key × Int)} (he:Enum c es) {k:Key} {x:Int}:(k,x)∈es ↔ c k=some x:=by
 constructor
 .intro hm; exact he.val _ hm
 .intro hk
  by_cases hin:∃ q∈es,q.1=k
  .obtain ⟨⟨k',x'⟩,hq,hqk⟩:=hin
   simp only at hqk; subst hqk
   have:=he.val _ hq
   simp only at this
   rw [hk] at this
   injection this with this; subst this
   exact hq
  .have:=he.out k (fun q hq e=>hin ⟨q,hq,e⟩)
   rw [hk] at this; simp at this
theorem zmp {c:Key->Option Int} {a b:List (Key × Int)} (ha:Enum c a) (hb:Enum c b):a.Perm b :=
 (List.perm_ext_iff_of_nodup (zdI (f:=Prod.fst) ha.nd) (zdI (f:=Prod.fst) hb.nd)).2 (fun e=>by
  obtain ⟨k,x⟩:=e
  rw [zjr ha,zjr hb])
def yat (y:List Int) (i:Nat):Int:=y[i]?.getD 0
def KOk (n:Nat) (k:Key):Prop:=k∈box/\∀ i,n<=i->i<3->at3 i k=0
theorem zpQ {y:List Int} {k:Key} {x:Int} (hl:y.length<=3) (hk:KOk y.length k):tmK y k x%10007=x*trm (yat y) k%10007:=by
 obtain ⟨a,b,c⟩:=k
 obtain ⟨h1,h2⟩:=hk
 unfold tmK trm
 match y,hl with
 | [],_ =>
  have e0:=h2 0 (by simp) (by omega)
  have e1:=h2 1 (by simp) (by omega)
  have e2:=h2 2 (by simp) (by omega)
  simp [at3] at e0 e1 e2
  subst e0; subst e1; subst e2
  simp [tmF]
 | [u],_ =>
  have e1:=h2 1 (by simp) (by omega)
  have e2:=h2 2 (by simp) (by omega)
  simp [at3] at e1 e2
  subst e1; subst e2
  simp [tmF,yat,pw,zdi,zdg]
 | [u,v],_ =>
  have e2:=h2 2 (by simp) (by omega)
  simp [at3] at e2
  subst e2
  simp [tmF,yat,pw,zdi,zdg,Int.mul_assoc]
 | [u,v,w],_ =>
  simp [tmF,yat,pw,zdi,zdg,Int.mul_assoc]
theorem zop {y:List Int} (hl:y.length<=3):∀ {es:List (Key × Int)},(∀ e∈es,KOk y.length e.1)->rest y es%10007=sumI (fun e=>e.2*trm (yat y) e.1) es%10007
 | [],_=>rfl
 | e::es,h=>by
  simp only [rest,sumI]
  rw [Int.add_emod,zpQ hl (h e (by simp)),zop hl (es:=es) (fun a ha=>h a (by simp [ha])),<- Int.add_emod]
theorem zla {c:Key->Option Int} {es:List (Key × Int)} (he:Enum c es) (k:Key):coef Prod.fst Prod.snd es k=(c k).getD 0:=by
 have gen:∀ (l:List (Key × Int)),l.Pairwise (fun a b=>a.1≠b.1)->∀ x,(k,x)∈l->coef Prod.fst Prod.snd l k=x:=by
  intro l
  induction l with
  | nil=>intro _ x hx; simp at hx
  | cons a l ih =>
   intro hp x hx
   obtain ⟨h1,h2⟩:=List.pairwise_cons.1 hp
   unfold coef at ih |-
   simp only [sumI]
   rcases List.mem_cons.1 hx with rfl | hx
   .rw [if_pos rfl,zbO (fun b hb=>if_neg (h1 b hb))]; simp
   .rw [if_neg (fun e=>h1 _ hx e.symm),ih h2 x hx]; simp
 cases hc:c k with
 | some x=>exact gen es he.nd x ((zjr he).2 hc)
 | none =>
  unfold coef
  refine zbO (fun e hm=>if_neg (fun e1=>?_))
  have:=he.val e hm
  rw [<- e1,hc] at this
  simp at this
def gv (c:Key->Option Int) (k:Key):Int:=(c k).getD 0
theorem zuY {y:List Int} (hl:y.length<=3) {c:Key->Option Int} (hc:∀ k x,c k=some x->KOk y.length k) {es:List (Key × Int)} (he:Enum c es):rest y es%10007=Val (yat y) (gv c)%10007:=by
 rw [zop hl (fun e hm=>hc e.1 e.2 (he.val e hm)),<- zgb (yat y) Prod.fst Prod.snd es (fun e hm=>(hc e.1 e.2 (he.val e hm)).1)]
 have:coef Prod.fst Prod.snd es=gv c:=funext (fun k=>zla he k)
 rw [this]
end Go.Proofs.YthhdollpkieknaaGreat


namespace Go.Proofs.YthhdollpkieknaaGreat
open Go.Abs
theorem zrx {α:Type} [DecidableEq α]:∀ {l b:List α},l.Nodup->(∀ a∈l,a∈b)->l.length<=b.length
 | [],b,_,_=>by simp
 | a::l,b,hn,hs=>by
  obtain ⟨h1,h2⟩:=List.nodup_cons.1 hn
  have ha:=hs a (by simp)
  have:=zrx (l:=l) (b:=b.erase a) h2 (fun x hx=>(List.mem_erase_of_ne (fun e=>h1 (by rw [<- e]; exact hx))).2 (hs x (by simp [hx])))
  rw [List.length_erase_of_mem ha] at this
  have:=List.length_pos_of_mem ha
  simp only [List.length_cons]; omega
theorem ztk (y:List Int):∀ {es:List (Key × Int)},(∀ e∈es,isN e.2)->rest y es<=10006*es.length
 | [],_=>by simp [rest]
 | e::es,h=>by
  have h1:=ztk y (es:=es) (fun a ha=>h a (by simp [ha]))
  have h2:=(zuH (y:=y) (e:=[e.1.1,e.1.2.1,e.1.2.2]) (h e (by simp)) y.length).2
  simp only [rest,tmK,List.length_cons]; omega
theorem KOk.eok {n:Nat} {k:Key} {x:Int} (h:KOk n k) (hx:isN x):EOk (k,x):=by
 have:=zfn.1 h.1
 show isN x/\0<=k.1/\k.1<=1000/\0<=k.2.1/\k.2.1<=1000/\0<=k.2.2/\k.2.2<=1000
 exact ⟨hx,by omega,by omega,by omega,by omega,by omega,by omega⟩
theorem zum (c:Key->Option Int) (y:List Int) (hy:Ns y) (hl:y.length<=3) (hc:∀ k x,c k=some x->isN x/\KOk y.length k) :
  Con Tryz.prog 242 [.fmp c,.sl y.length (avs y)] (.int (Val (yat y) (gv c)%10007)):=by
 have hok:∀ k x,c k=some x->EOk (k,x):=fun k x hk=>(hc k x hk).2.eok (hc k x hk).1
 by_cases hx:∃ es,Enum c es
 .obtain ⟨es,he⟩:=hx
  rw [<- zuY hl (fun k x hk=>(hc k x hk).2) he]
  have hb:rest y es<=10006*es.length:=ztk y (fun e hm=>(hc e.1 e.2 (he.val e hm)).1)
  have hlen:es.length<=64:=by
   have:=zrx (l:=es.map Prod.fst) (b:=box) (by rw [List.Nodup,List.pairwise_map]; exact he.nd) (fun k hk=>by
    obtain ⟨e,hm,rfl⟩:=List.mem_map.1 hk
    exact (hc e.1 e.2 (he.val e hm)).2.1)
   simpa [box,r4] using this
  exact zrf c y (rest y es) hy hl hok (by omega) (fun es' he'=>zq2 y (zmp he' he))
 .have:=zrf c y (Val (yat y) (gv c)%10007) hy hl hok (by omega) (fun es he=>(hx ⟨es,he⟩).elim)
  rwa [Int.emod_emod_of_dvd _ (Int.dvd_refl _)] at this
structure VOk (n:Nat) (m:Mon):Prop where
 num:isN m.1
 len:m.2.length=n
 pw:∀ x∈m.2,0<=x/\x<=3
theorem MonOk.vok {n:Nat} {m:Mon} (h:MonOk (n:Int) m):VOk n m:=⟨⟨by have:=h.lo; omega,by have:=h.hi; omega⟩,by have:=h.len; omega,h.pw⟩
theorem VOk.kok {n:Nat} {m:Mon} (hn:n<=3) (h:VOk n m):KOk n (zaw m.2):=by
 have g:∀ k:Nat,0<=m.2[k]?.getD 0/\m.2[k]?.getD 0<=3:=fun k=>by
  rcases Nat.lt_or_ge k m.2.length with hk | hk
  .simp [hk]; exact h.pw _ (List.getElem_mem hk)
  .simp [hk]
 refine ⟨zfn.2 ⟨(g 0).1,(g 0).2,(g 1).1,(g 1).2,(g 2).1,(g 2).2⟩,fun i h1 h2=>?_⟩
 have hz:m.2[i]?.getD 0=0:=by rw [List.getElem?_eq_none (by rw [h.len]; exact h1)]; rfl
 have:i=0\/i=1\/i=2:=by omega
 rcases this with rfl | rfl | rfl <;> simpa [at3,zaw] using hz
def cfL (L:List Mon):Key->Int:=coef (fun m:Mon=>zaw m.2) (fun m=>m.1) L
theorem zuA {y:List Int} (hl:y.length<=3) {L:List Mon} (h:∀ m∈L,VOk y.length m):vsum y L%10007=Val (yat y) (cfL L)%10007:=by
 unfold cfL
 rw [zgb (yat y) _ _ L (fun m hm=>((h m hm).kok hl).1)]
 have h':=h
 clear h
 induction L with
 | nil=>rfl
 | cons m L ih =>
  simp only [vsum,sumI]
  rw [Int.add_emod,<- zBq hl m,zpQ hl ((h' m (by simp)).kok hl),ih (fun a ha=>h' a (by simp [ha])),<- Int.add_emod]
def zaL (c:Int) (e:List Int):List Mon->Bool->List Mon
 | [],done=>if done then [] else [(c,e)]
 | m::l,done =>
  if done=false/\m.2=e then (if (m.1+c)%10007=0 then [] else [((m.1+c)%10007,m.2)])++zaL c e l true
  else if done=false/\ltL e m.2=true then (c,e)::((if m.1=0 then [] else [m])++zaL c e l true)
  else (if m.1=0 then [] else [m])++zaL c e l done
def putL (L:List Mon) (c:Int) (e:List Int):List Mon:=zaL c e L (decide (c=0))
theorem zlx (a b:List Mon) (k:Key):cfL (a++b) k=cfL a k+cfL b k:=zvK _ a b
theorem zgt (m:Mon) (b:List Mon) (k:Key):cfL (m::b) k=(if k=zaw m.2 then m.1 else 0)+cfL b k:=rfl
theorem zpU (m:Mon) (k:Key):cfL (if m.1=0 then [] else [m]) k=if k=zaw m.2 then m.1 else 0:=by
 split
 .rename_i h; simp [cfL,coef,sumI,h]
 .simp [cfL,coef,sumI]
theorem zgi (c:Int) (e:List Int) (k:Key):∀ (l:List Mon) (done:Bool),cfL (zaL c e l done) k%10007=(cfL l k+if done=true then 0 else if k=zaw e then c else 0)%10007
 | [],true=>by simp [zaL,cfL,coef,sumI]
 | [],false=>by simp [zaL,cfL,coef,sumI]
 | m::l,done=>by
  rw [zaL,zgt]
  by_cases h1:done=false/\m.2=e
  .rw [if_pos h1,zlx,h1.1,<- h1.2]
   have:=zpU ((m.1+c)%10007,m.2) k
   simp only at this
   rw [this,Int.add_emod,zgi c m.2 k l true]
   by_cases hk:k=zaw m.2
   .simp [hk]; omega
   .simp [hk]
  .rw [if_neg h1]
   by_cases h2:done=false/\ltL e m.2=true
   .rw [if_pos h2,zgt,zlx,zpU,h2.1]
    have:=zgi c e k l true
    simp only [if_true,Int.add_zero] at this
    simp only [Bool.false_eq_true,if_false]
    generalize (if k=zaw e then c else 0)=B
    generalize (if k=zaw m.2 then m.1 else 0)=A
    omega
   .rw [if_neg h2,zlx,zpU]
    have:=zgi c e k l done
    omega
theorem zmw (L:List Mon) (c:Int) (e:List Int) (k:Key):cfL (putL L c e) k%10007=(cfL L k+if k=zaw e then c else 0)%10007:=by
 unfold putL
 rw [zgi]
 by_cases h:c=0 <;> simp [h]
end Go.Proofs.YthhdollpkieknaaGreat


namespace Go.Proofs.YthhdollpkieknaaGreat
open Go.Abs
def derM (i:Nat) (c:Key->Option Int) (k:Key):Option Int:=match c (inc i k) with
 | some a=>if 0<at3 i k+1 then some ((at3 i k+1)*a%10007) else none
 | none=>none
def addM (o q:Key->Option Int) (x:Int) (k:Key):Option Int:=match q k with
 | some a=>some (((o k).getD 0+x%10007*a)%10007)
 | none=>o k
theorem zyj (i:Nat) (c:Key->Option Int) {k:Key} (hk:0<=at3 i k):gv (derM i c) k%10007=der i (gv c) k%10007:=by
 show (derM i c k).getD 0%10007=(at3 i k+1)*(c (inc i k)).getD 0%10007
 unfold derM
 cases c (inc i k) with
 | none=>simp
 | some a =>
  simp only
  rw [if_pos (by omega)]
  simp
theorem zz1 (o q:Key->Option Int) (x:Int) (k:Key):gv (addM o q x) k%10007=(gv o k+x*gv q k)%10007:=by
 unfold gv addM
 cases q k with
 | none=>simp
 | some a =>
  simp only [Option.getD_some]
  rw [Int.emod_emod_of_dvd _ (Int.dvd_refl _),Int.add_emod,zdi,<- Int.add_emod]
def dec (i:Nat) (k:Key):Key:=if i=0 then (k.1-1,k.2.1,k.2.2) else if i=1 then (k.1,k.2.1-1,k.2.2) else (k.1,k.2.1,k.2.2-1)
theorem zet {i:Nat} {k q:Key}:inc i k=q ↔ k=dec i q:=by
 obtain ⟨a,b,c⟩:=k
 obtain ⟨x,y,z⟩:=q
 unfold inc dec
 split
 .simp; omega
 .split <;> (simp; omega)
theorem ziH (i:Nat) (k:Key):at3 i (dec i k)=at3 i k-1:=by
 unfold at3 dec
 split
 .rfl
 .split <;> rfl
theorem zr6 {e:List Int} {i:Nat} (h3:i<3) (hi:i<e.length):zaw (e.set i (e[i]?.getD 0-1))=dec i (zaw e):=by
 have:i=0\/i=1\/i=2:=by omega
 match e,hi with
 | [a],hi =>
  simp at hi; subst hi; simp [zaw,dec]
 | [a,b],hi =>
  rcases this with rfl | rfl | rfl
  .simp [zaw,dec]
  .simp [zaw,dec]
  .simp at hi
 | a::b::c::e,hi=>rcases this with rfl | rfl | rfl <;> simp [zaw,dec]
theorem zkQ {e:List Int} {i:Nat} (h3:i<3):at3 i (zaw e)=e[i]?.getD 0:=by
 have:i=0\/i=1\/i=2:=by omega
 rcases this with rfl | rfl | rfl <;> rfl
def zfG (i:Nat):List Mon->List Mon->List Mon
 | acc,[]=>acc
 | acc,m::p=>zfG i (if 0<m.2[i]?.getD 0 then putL acc (m.1*m.2[i]?.getD 0%10007) (m.2.set i (m.2[i]?.getD 0-1)) else acc) p
def derL (i:Nat) (p:List Mon):List Mon:=zfG i [] p
theorem znh {n i:Nat} (hi:i<n) (hn:n<=3) {k:Key} (hk:0<=at3 i k):∀ (p acc:List Mon),(∀ m∈p,VOk n m)->cfL (zfG i acc p) k%10007=(cfL acc k+der i (cfL p) k)%10007
 | [],acc,_=>by simp [zfG,der,cfL,coef,sumI]
 | m::p,acc,h=>by
  have hm:=h m (by simp)
  have hlen:=hm.len
  have hd:der i (cfL (m::p)) k=(at3 i k+1)*(if inc i k=zaw m.2 then m.1 else 0)+der i (cfL p) k:=by
   unfold der; rw [zgt,Int.mul_add]
  rw [zfG,znh hi hn hk p _ (fun a ha=>h a (by simp [ha])),hd]
  by_cases hpos:0<m.2[i]?.getD 0
  .rw [if_pos hpos,Int.add_emod,zmw,zr6 (by omega) (by omega)]
   have e:(if k=dec i (zaw m.2) then m.1*m.2[i]?.getD 0%10007 else 0)%10007=(at3 i k+1)*(if inc i k=zaw m.2 then m.1 else 0)%10007:=by
    by_cases hkk:k=dec i (zaw m.2)
    .rw [if_pos hkk,if_pos (zet.2 hkk)]
     have:=ziH i (zaw m.2)
     rw [<- hkk,zkQ (by omega)] at this
     rw [this,Int.emod_emod_of_dvd _ (Int.dvd_refl _),Int.mul_comm]
     congr 2; omega
    .rw [if_neg hkk,if_neg (fun e=>hkk (zet.1 e))]; simp
   generalize (if k=dec i (zaw m.2) then m.1*m.2[i]?.getD 0%10007 else 0)=A at *
   generalize (at3 i k+1)*(if inc i k=zaw m.2 then m.1 else 0)=B at *
   omega
  .rw [if_neg hpos]
   have e:(at3 i k+1)*(if inc i k=zaw m.2 then m.1 else 0)=0:=by
    by_cases hkk:inc i k=zaw m.2
    .have h0:0<=m.2[i]?.getD 0:=by
      rw [List.getElem?_eq_getElem (by omega),Option.getD_some]; exact (hm.pw _ (List.getElem_mem _)).1
     have:=ziH i (zaw m.2)
     rw [<- zet.1 hkk,zkQ (by omega)] at this
     rw [show at3 i k+1=0 by omega,Int.zero_mul]
    .rw [if_neg hkk,Int.mul_zero]
   rw [e]; simp
end Go.Proofs.YthhdollpkieknaaGreat


namespace Go.Proofs.YthhdollpkieknaaGreat
open Go.Abs
def hasK (rem:List (Key × Int)) (k:Key):Bool:=rem.any fun e=>decide (e.1=k)
theorem ziT {rem:List (Key × Int)} {k:Key}:hasK rem k=true ↔ ∃ e∈rem,e.1=k:=by simp [hasK]
theorem zev (l1 l2:List (Key × Int)) (k0:Key) (x:Int) (k:Key):hasK (l1++(k0,x)::l2) k=(decide (k0=k) || hasK (l1++l2) k):=by
 simp only [hasK,List.any_append,List.any_cons]
 cases List.any l1 (fun e=>decide (e.1=k)) <;> cases decide (k0=k) <;> simp
theorem zoy {l1 l2:List (Key × Int)} {k0:Key} {x:Int} (h:(l1++(k0,x)::l2).Pairwise (fun a b=>a.1≠b.1)):hasK (l1++l2) k0=false:=by
 cases hb:hasK (l1++l2) k0 with
 | false=>rfl
 | true =>
  obtain ⟨e,he,hk⟩:=ziT.1 hb
  obtain ⟨h1,h2,h3⟩:=List.pairwise_append.1 h
  rcases List.mem_append.1 he with he | he
  .exact (h3 e he (k0,x) (by simp) hk).elim
  .exact ((List.pairwise_cons.1 h2).1 e he hk.symm).elim
def remD (i:Nat) (c:Key->Option Int) (rem:List (Key × Int)) (k:Key):Option Int:=if hasK rem (inc i k)=true then none else derM i c k
theorem zoS {i:Nat} {c:Key->Option Int} {es:List (Key × Int)} (he:Enum c es):remD i c es=ziU:=by
 funext k
 unfold remD ziU
 split
 .rfl
 .rename_i h
  have:c (inc i k)=none:=he.out _ (fun p hp e=>h (ziT.2 ⟨p,hp,e⟩))
  simp [derM,this]
theorem zvp (i:Nat) (c:Key->Option Int):remD i c []=derM i c:=by
 funext k; simp [remD,hasK]
theorem zl1 {i:Nat} {c:Key->Option Int} {l1 l2:List (Key × Int)} {k0:Key} {x:Int}:remD i c (l1++(k0,x)::l2) (dec i k0)=none:=by
 unfold remD
 rw [zet.2 rfl,zev]
 simp
theorem zhC {i:Nat} {c:Key->Option Int} {l1 l2:List (Key × Int)} {k0:Key} {x:Int} (h:(l1++(k0,x)::l2).Pairwise (fun a b=>a.1≠b.1)) (hc:c k0=some x) (h0:¬ 0<at3 i k0) :
  remD i c (l1++(k0,x)::l2)=remD i c (l1++l2):=by
 funext k
 unfold remD
 rw [zev]
 by_cases hk:k0=inc i k
 .have hd:k=dec i k0:=zet.1 hk.symm
  have ha:=ziH i k0
  rw [<- hd] at ha
  have:derM i c k=none:=by
   unfold derM
   rw [<- hk,hc]
   simp only
   rw [if_neg (by omega)]
  rw [this]; simp
 .simp [hk]
theorem zhd {i:Nat} {c:Key->Option Int} {l1 l2:List (Key × Int)} {k0:Key} {x:Int} (h:(l1++(k0,x)::l2).Pairwise (fun a b=>a.1≠b.1)) (hc:c k0=some x) (h0:0<at3 i k0) :
  mset (remD i c (l1++(k0,x)::l2)) (dec i k0) (at3 i k0*x%10007)=remD i c (l1++l2):=by
 funext k
 unfold mset
 by_cases hk:k=dec i k0
 .have hi:inc i k=k0:=zet.2 hk
  rw [if_pos hk]
  unfold remD
  rw [hi,zoy h]
  have ha:=ziH i k0
  rw [<- hk] at ha
  simp only [Bool.false_eq_true,if_false]
  unfold derM
  rw [hi,hc]
  simp only
  rw [if_pos (by omega),show at3 i k+1=at3 i k0 by omega]
 .rw [if_neg hk]
  unfold remD
  rw [zev]
  have:¬ k0=inc i k:=fun e=>hk (zet.1 e.symm)
  simp [this]
def remA (o q:Key->Option Int) (x:Int) (rem:List (Key × Int)) (k:Key):Option Int:=if hasK rem k=true then o k else addM o q x k
theorem zoW {o q:Key->Option Int} {x:Int} {es:List (Key × Int)} (he:Enum q es):remA o q x es=o:=by
 funext k
 unfold remA
 split
 .rfl
 .rename_i h
  have:q k=none:=he.out _ (fun p hp e=>h (ziT.2 ⟨p,hp,e⟩))
  simp [addM,this]
theorem zwb (o q:Key->Option Int) (x:Int):remA o q x []=addM o q x:=by
 funext k; simp [remA,hasK]
theorem zxF {o q:Key->Option Int} {x:Int} {l1 l2:List (Key × Int)} {k0:Key} {a:Int}:remA o q x (l1++(k0,a)::l2) k0=o k0:=by
 unfold remA
 rw [zev]
 simp
theorem zs3 {o q:Key->Option Int} {x:Int} {l1 l2:List (Key × Int)} {k0:Key} {a:Int} (h:(l1++(k0,a)::l2).Pairwise (fun a b=>a.1≠b.1)) (hc:q k0=some a) :
  mset (remA o q x (l1++(k0,a)::l2)) k0 (((o k0).getD 0+x%10007*a)%10007)=remA o q x (l1++l2):=by
 funext k
 unfold mset
 by_cases hk:k=k0
 .subst hk
  rw [if_pos rfl]
  unfold remA
  rw [zoy h]
  simp [addM,hc]
 .rw [if_neg hk]
  unfold remA
  rw [zev]
  have:¬ k0=k:=fun e=>hk e.symm
  simp [this]
end Go.Proofs.YthhdollpkieknaaGreat


namespace Go.Proofs.YthhdollpkieknaaGreat
open Go.Abs
theorem znQ {n:Nat} {c:Int} {e:List Int} (h:VOk n (c,e)):∀ (l:List Mon) (done:Bool),(∀ m∈l,VOk n m)->∀ m∈zaL c e l done,VOk n m
 | [],true,_,m,hm=>by simp [zaL] at hm
 | [],false,_,m,hm=>by simp [zaL] at hm; rw [hm]; exact h
 | a::l,done,hl,m,hm=>by
  have ha:=hl a (by simp)
  have ih:=fun d=>znQ h l d (fun b hb=>hl b (by simp [hb]))
  have one:∀ b:Mon,VOk n b->m∈(if b.1=0 then [] else [b])->VOk n m:=fun b hb hmm=>by
   split at hmm
   .simp at hmm
   .simp at hmm; rw [hmm]; exact hb
  rw [zaL] at hm
  split at hm
  .rcases List.mem_append.1 hm with hm | hm
   .exact one ((a.1+c)%10007,a.2) ⟨zaf _,ha.len,ha.pw⟩ hm
   .exact ih _ m hm
  .split at hm
   .rcases List.mem_cons.1 hm with hm | hm
    .rw [hm]; exact h
    .rcases List.mem_append.1 hm with hm | hm
     .exact one a ha hm
     .exact ih _ m hm
   .rcases List.mem_append.1 hm with hm | hm
    .exact one a ha hm
    .exact ih _ m hm
theorem VOk.low {n i:Nat} {m:Mon} (h:VOk n m) (hi:i<n) (hp:0<m.2[i]?.getD 0):VOk n (m.1*m.2[i]?.getD 0%10007,m.2.set i (m.2[i]?.getD 0-1)):=by
 have hl:=h.len
 refine ⟨zaf _,by simpa using hl,fun x hx=>?_⟩
 rcases List.mem_or_eq_of_mem_set hx with hx | rfl
 .exact h.pw x hx
 .have hm:m.2[i]?.getD 0∈m.2:=by
   rw [List.getElem?_eq_getElem (by omega),Option.getD_some]; exact List.getElem_mem _
  have:=h.pw _ hm
  omega
theorem zoH {n i:Nat} (hi:i<n):∀ (p acc:List Mon),(∀ m∈p,VOk n m)->(∀ m∈acc,VOk n m)->∀ m∈zfG i acc p,VOk n m
 | [],acc,_,ha,m,hm=>ha m hm
 | a::p,acc,hp,ha,m,hm=>by
  rw [zfG] at hm
  have hav:=hp a (by simp)
  refine zoH hi p _ (fun b hb=>hp b (by simp [hb])) ?_ m hm
  split
  .rename_i hpos
   exact fun b hb=>znQ (hav.low hi hpos) acc _ ha b hb
  .exact ha
theorem zzX {n i:Nat} (hi:i<n) {p:List Mon} (hp:∀ m∈p,VOk n m):∀ m∈derL i p,VOk n m:=zoH hi p [] hp (by simp)
theorem zyq {n i:Nat} (hi:i<n) (hn:n<=3) {k:Key} (hk:0<=at3 i k) {p:List Mon} (hp:∀ m∈p,VOk n m):cfL (derL i p) k%10007=der i (cfL p) k%10007:=by
 unfold derL
 rw [znh hi hn hk p [] hp]
 simp [cfL,coef,sumI]
theorem znG {α β:Type} (g:α->β) (f:β->Int):∀ l:List α,sumI f (l.map g)=sumI (fun a=>f (g a)) l
 | []=>rfl
 | a::l=>by rw [List.map_cons,sumI,sumI,znG g f l]
theorem zqd {p:List Mon} (h:p.Pairwise (fun a b=>zaw a.2≠zaw b.2)):Enum (polF p) (p.map keyM):=by
 refine ⟨?_,fun e he=>?_,fun k hk=>?_⟩
 .rw [List.pairwise_map]; exact h
 .obtain ⟨k,x⟩:=e
  exact (zdC h).2 he
 .cases hc:polF p k with
  | none=>rfl
  | some x=>exact (hk _ ((zdC h).1 hc) rfl).elim
theorem zlR {p:List Mon} (h:p.Pairwise (fun a b=>zaw a.2≠zaw b.2)) (k:Key):gv (polF p) k=cfL p k:=by
 unfold gv
 rw [<- zla (zqd h) k]
 unfold coef cfL coef
 rw [znG]
 rfl
theorem zzb {n i:Nat} {c:Key->Option Int} (hi:i<n) (hn:n<=3) (hc:∀ k x,c k=some x->isN x/\KOk n k):∀ k x,derM i c k=some x->isN x/\KOk n k:=by
 intro k x hx
 unfold derM at hx
 cases hcc:c (inc i k) with
 | none=>rw [hcc] at hx; simp at hx
 | some a =>
  rw [hcc] at hx
  simp only at hx
  split at hx
  .rename_i hpos
   injection hx with hx
   obtain ⟨_,hb,hz⟩:=hc _ _ hcc
   refine ⟨by rw [<- hx]; exact zaf _,?_,fun j h1 h2=>?_⟩
   .have hb:=zfn.1 hb
    refine zfn.2 ?_
    clear hz hcc hc
    obtain ⟨a,b,c⟩:=k
    have hi3:i=0\/i=1\/i=2:=by omega
    rcases hi3 with rfl | rfl | rfl <;> simp [at3,inc] at hb hpos |- <;> omega
   .have:=hz j h1 h2
    have hne:j≠i:=by omega
    have:j=0\/j=1\/j=2:=by omega
    have hi3:i=0\/i=1\/i=2:=by omega
    rcases this with rfl | rfl | rfl <;> rcases hi3 with rfl | rfl | rfl <;> simp [at3,inc] at*<;> omega
  .simp at hx
end Go.Proofs.YthhdollpkieknaaGreat


namespace Go.Proofs.YthhdollpkieknaaGreat
open Go.Abs
def NN (k:Key):Prop:=0<=k.1/\0<=k.2.1/\0<=k.2.2
def Eqv (C D:Key->Int):Prop:=∀ k,NN k->C k%10007=D k%10007
theorem NN.box {k:Key} (h:k∈box):NN k:=by have:=zfn.1 h; exact ⟨by omega,by omega,by omega⟩
theorem NN.at3 {k:Key} (h:NN k) (i:Nat):0<=at3 i k:=by
 obtain ⟨a,b,c⟩:=h
 unfold Go.Proofs.YthhdollpkieknaaGreat.at3
 split
 .omega
 .split <;> omega
theorem NN.inc {k:Key} (h:NN k) (i:Nat):NN (inc i k):=by
 obtain ⟨a,b,c⟩:=h
 unfold Go.Proofs.YthhdollpkieknaaGreat.inc NN
 split
 .exact ⟨by simp; omega,b,c⟩
 .split
  .exact ⟨a,by simp; omega,c⟩
  .exact ⟨a,b,by simp; omega⟩
theorem Eqv.refl (C:Key->Int):Eqv C C:=fun _ _=>rfl
theorem Eqv.symm {C D:Key->Int} (h:Eqv C D):Eqv D C:=fun k hk=>(h k hk).symm
theorem Eqv.trans {C D E:Key->Int} (h:Eqv C D) (h2:Eqv D E):Eqv C E:=fun k hk=>(h k hk).trans (h2 k hk)
theorem zi4 {a b:Int} (c:Int) (h:a%10007=b%10007):c*a%10007=c*b%10007:=by rw [Int.mul_emod,h,<- Int.mul_emod]
theorem zmj {a b c d:Int} (h:a%10007=b%10007) (h2:c%10007=d%10007):(a+c)%10007=(b+d)%10007:=by omega
theorem zyo {C D:Key->Int} (h:Eqv C D) (i:Nat):Eqv (der i C) (der i D):=fun k hk=>zi4 _ (h _ (hk.inc i))
theorem zrL {C D:Key->Int} (h:Eqv C D) (v:Nat->Int):∀ n,Eqv (alo v C n) (alo v D n)
 | 0,k,hk=>rfl
 | n+1,k,hk=>zmj (zrL h v n k hk) (zi4 _ (zyo h n k hk))
theorem ztr (v:Nat->Int) (C D:Key->Int) (k:Key):∀ n,alo v (fun k=>C k+D k) n k=alo v C n k+alo v D n k
 | 0=>rfl
 | n+1=>by simp only [alo,ztr v C D k n,zz7,Int.mul_add]; omega
theorem zr7 (v:Nat->Int) (c:Int) (C:Key->Int) (k:Key):∀ n,alo v (fun k=>c*C k) n k=c*alo v C n k
 | 0=>by simp [alo]
 | n+1=>by simp only [alo,zr7 v c C k n,zxN,Int.mul_add]; rw [Int.mul_left_comm]
def Dv (n:Nat):List (List Int)->(Key->Int)->Key->Int
 | [],C=>C
 | v::vs,C=>Dv n vs (alo (yat v) C n)
theorem znM (n:Nat):∀ (vs:List (List Int)) {C D:Key->Int},Eqv C D->Eqv (Dv n vs C) (Dv n vs D)
 | [],_,_,h=>h
 | v::vs,_,_,h=>znM n vs (zrL h (yat v) n)
theorem zxf (n:Nat):∀ (vs:List (List Int)) (C D:Key->Int),Dv n vs (fun k=>C k+D k)=fun k=>Dv n vs C k+Dv n vs D k
 | [],_,_=>rfl
 | v::vs,C,D=>by
  have:alo (yat v) (fun k=>C k+D k) n=fun k=>alo (yat v) C n k+alo (yat v) D n k:=funext (fun k=>ztr (yat v) C D k n)
  rw [Dv,this,zxf n vs]; rfl
theorem zwN (n:Nat):∀ (vs:List (List Int)) (c:Int) (C:Key->Int),Dv n vs (fun k=>c*C k)=fun k=>c*Dv n vs C k
 | [],_,_=>rfl
 | v::vs,c,C=>by
  have:alo (yat v) (fun k=>c*C k) n=fun k=>c*alo (yat v) C n k:=funext (fun k=>zr7 (yat v) c C k n)
  rw [Dv,this,zwN n vs]; rfl
theorem zrK (n:Nat):∀ (vs:List (List Int)),Dv n vs (fun _=>0)=fun _=>0
 | []=>rfl
 | v::vs=>by
  have h0:∀ m (k:Key),alo (yat v) (fun _=>0) m k=0:=by
   intro m
   induction m with
   | zero=>intro k; rfl
   | succ m ih=>intro k; simp [alo,ih,der]
  have:alo (yat v) (fun _=>0) n=fun _=>0:=funext (h0 n)
  rw [Dv,this,zrK n vs]
theorem zgF (y:Nat->Int) {C D:Key->Int} (h:Eqv C D):Val y C%10007=Val y D%10007:=zyF y (fun k hk=>h k (NN.box hk))
def zzh (f:Nat->Int):Nat->Int
 | 0=>0
 | m+1=>zzh f m+f m
def zkn (y:List Int) (n:Nat):List (List Int)->List Mon->Int
 | [],p=>vsum y p
 | v::vs,p=>zzh (fun k=>yat v k*zkn y n vs (derL k p)) n
theorem zon {n i:Nat} (hi:i<n) (hn:n<=3) {p:List Mon} (hp:∀ m∈p,VOk n m):Eqv (cfL (derL i p)) (der i (cfL p)):=fun k hk=>zyq hi hn (hk.at3 i) hp
theorem zjV {y:List Int} {n:Nat} (hn:n<=3) (hl:y.length=n):∀ (vs:List (List Int)) (p:List Mon),(∀ m∈p,VOk n m)->zkn y n vs p%10007=Val (yat y) (Dv n vs (cfL p))%10007
 | [],p,hp=>zuA (by omega) (by rw [hl]; exact hp)
 | v::vs,p,hp=>by
  have gen:∀ m,m<=n->zzh (fun k=>yat v k*zkn y n vs (derL k p)) m%10007=Val (yat y) (Dv n vs (alo (yat v) (cfL p) m))%10007:=by
   intro m
   induction m with
   | zero =>
    intro _
    have:alo (yat v) (cfL p) 0=fun _=>0:=rfl
    rw [this,zrK]
    have:Val (yat y) (fun _=>0)=0:=zbO (fun _ _=>by simp)
    rw [this]; rfl
   | succ m ih =>
    intro hm
    have e:alo (yat v) (cfL p) (m+1)=fun k=>alo (yat v) (cfL p) m k+yat v m*der m (cfL p) k:=rfl
    rw [e,zxf n vs (alo (yat v) (cfL p) m) (fun k=>yat v m*der m (cfL p) k),zwN n vs (yat v m) (der m (cfL p)),zrs,zxM]
    refine zmj (ih (by omega)) (zi4 _ ?_)
    rw [zjV hn hl vs (derL m p) (zzX (by omega) hp)]
    exact zgF _ (znM n vs (zon (by omega) hn hp))
  exact gen n (Nat.le_refl n)
def aloM (v:List Int) (c:Key->Option Int):Nat->Key->Option Int
 | 0=>ziU
 | n+1=>addM (aloM v c n) (derM n c) (yat v n)
theorem zqf (v:List Int) (c:Key->Option Int):∀ n,Eqv (gv (aloM v c n)) (alo (yat v) (gv c) n)
 | 0,k,hk=>rfl
 | n+1,k,hk=>by
  rw [aloM,zz1]
  exact zmj (zqf v c n k hk) (zi4 _ (zyj n c (hk.at3 n)))
def DvM (n:Nat):List (List Int)->(Key->Option Int)->Key->Option Int
 | [],c=>c
 | v::vs,c=>DvM n vs (aloM v c n)
theorem zoa (n:Nat):∀ (vs:List (List Int)) (c:Key->Option Int),Eqv (gv (DvM n vs c)) (Dv n vs (gv c))
 | [],c=>Eqv.refl _
 | v::vs,c=>(zoa n vs (aloM v c n)).trans (znM n vs (zqf v c n))
theorem zvj {n:Nat} {p:List Mon} {y:List Int} (hn:n<=3) (hl:y.length=n) (hp:zbr (n:Int) p=true) (vs:List (List Int)) :
  zkn y n vs p%10007=Val (yat y) (gv (DvM n vs (polF p)))%10007:=by
 have hv:∀ m∈p,VOk n m:=fun m hm=>(zbQ hp hm).vok
 have:gv (polF p)=cfL p:=funext (zlR (zfm (by omega) hp))
 rw [zjV hn hl vs p hv,zgF _ (zoa n vs (polF p)),this]
end Go.Proofs.YthhdollpkieknaaGreat


namespace Go.Proofs.YthhdollpkieknaaGreat
open Go.Abs
def tb (f:Nat->Int) (k:Nat):List Int:=(List.range k).map f
@[simp] theorem zwC (f:Nat->Int) (k:Nat):(tb f k).length=k:=by simp [tb]
@[simp] theorem zDa (f:Nat->Int):tb f 0=[]:=rfl
theorem zbD (f:Nat->Int) (k:Nat):tb f (k+1)=tb f k++[f k]:=by simp [tb,List.range_succ]
theorem zaP (f:Nat->Int) {k i:Nat} (h:i<k):(tb f k)[i]?.getD 0=f i:=by simp [tb,h]
theorem tb_N {f:Nat->Int} {k:Nat} (h:∀ i,i<k->isN (f i)):Ns (tb f k):=by
 intro x hx
 simp [tb] at hx
 obtain ⟨i,hi,rfl⟩:=hx
 exact h i hi
theorem zbL {xs:List Int} {k:Nat} (h:k<xs.length):(avs xs)[k]?=some (AV.val (.int .i64 (xs[k]?.getD 0))):=by simp [avs,h]
theorem zo5 (a:List Int) (k:Int) (ha:Ns a) (hk:isN k) (hl:a.length<=1048576) :
  Con Tryz.prog 320 [.sl a.length (avs a),.int k] (.own 2 a.length (avs (tb (fun i=>a[i]?.getD 0*k%10007) a.length))):=by
 refine zab Tryz.mixed ⟨7,[],[],[]⟩ Tryz.func320 ?_
 rw [Tryz.ntmps320]
 simp [go_sem]
 refine zac (5::6::List.range' 8 15) (fun i:Nat=>[(5,.own 2 i (avs (tb (fun i=>a[i]?.getD 0*k%10007) i))),(6,.int i)]) (fun i=>i<=a.length) (fun i=>a.length-i) 0 (by simp) (by simp [go_sem]) (by simp [go_sem]) ?_
 intro i hi
 simp [go_sem]
 refine ⟨fun h=>?_,fun h=>?_⟩ <;> simp at h
 .simp [go_sem,zae h]
  refine ⟨⟨h,by rintro rfl; simp at h⟩,?_⟩
  refine CallVC.of (zcm _ _ (zax (ha.get i) hk)) ?_
  simp [go_sem]
  refine ⟨⟨by omega,by omega⟩,by omega,i+1,by omega,by omega,zaa _ _ _ (by simp),?_,by omega⟩
  simp [zbD,zam]
 .have e:i=a.length:=by omega
  subst e
  simp [go_sem]
theorem znu (a b:List Int) (ha:Ns a) (hb:Ns b) (hl:a.length<=1048576) (hab:a.length<=b.length) :
  Con Tryz.prog 228 [.sl a.length (avs a),.sl b.length (avs b)] (.own 2 a.length (avs (tb (fun i=>(a[i]?.getD 0+b[i]?.getD 0)%10007) a.length))):=by
 refine zab Tryz.mixed ⟨7,[],[],[]⟩ Tryz.func228 ?_
 rw [Tryz.ntmps228]
 simp [go_sem]
 refine zac (5::6::List.range' 8 18) (fun i:Nat=>[(5,.own 2 i (avs (tb (fun i=>(a[i]?.getD 0+b[i]?.getD 0)%10007) i))),(6,.int i)]) (fun i=>i<=a.length) (fun i=>a.length-i) 0 (by simp) (by simp [go_sem]) (by simp [go_sem]) ?_
 intro i hi
 simp [go_sem]
 refine ⟨fun h=>?_,fun h=>?_⟩ <;> simp at h
 .have h2:i<b.length:=by omega
  simp [go_sem,zae h,zae h2]
  refine ⟨by kernel_rfl,⟨h,by rintro rfl; simp at h⟩,⟨h2,by rintro rfl; simp at h2⟩,?_⟩
  refine CallD.of (zdO _ _ (zd6 (ha.get i) (hb.get i))) ?_
  simp [go_sem]
  refine ⟨by omega,?_⟩
  refine ⟨by kernel_rfl,?_⟩
  simp [go_sem]
  refine ⟨by omega,i+1,by omega,by omega,zaa _ _ _ (by simp),?_,by omega⟩
  simp [zbD,zam]
 .have e:i=a.length:=by omega
  subst e
  simp [go_sem]
def cv (a b:List Int) (n:Nat):Nat->Int
 | 0=>0
 | m+1=>cv a b n m+a[m]?.getD 0*b[n-m]?.getD 0
def mulS (a b:List Int):List Int:=tb (fun n=>cv a b n (n+1)%10007) a.length
@[simp] theorem zvR (a b:List Int):(mulS a b).length=a.length:=by simp [mulS]
theorem zAA (a b:List Int):Ns (mulS a b):=tb_N fun i _=>zaf _
theorem zt8 (a b:List Int) (ha:Ns a) (hb:Ns b) (hl:a.length<=1048576) (hab:a.length<=b.length) :
  Con Tryz.prog 322 [.sl a.length (avs a),.sl b.length (avs b)] (.own 2 a.length (avs (mulS a b))):=by
 refine zab Tryz.mixed ⟨9,[],[],[]⟩ Tryz.func322 ?_
 rw [Tryz.ntmps322]
 simp [go_sem]
 refine zac (5::6::7::8::List.range' 10 28) (fun i:Nat=>[(5,.own 2 i (avs (tb (fun n=>cv a b n (n+1)%10007) i))),(6,.int i)]) (fun i=>i<=a.length) (fun i=>a.length-i) 0 (by simp) (by simp [go_sem]) (by simp [go_sem]) ?_
 intro i hi
 simp [go_sem]
 refine ⟨fun h=>?_,fun h=>?_⟩ <;> simp at h
 .simp [go_sem]
  refine zac (7::8::List.range' 16 18) (fun k:Nat=>[(7,.int (cv a b i k%10007)),(8,.int k)]) (fun k=>k<=i+1) (fun k=>i+1-k) 0 (by simp) (by simp [go_sem,cv]) (by simp [go_sem]) ?_
  intro k hk
  simp [go_sem]
  refine ⟨fun h=>?_,fun h=>?_⟩ <;> simp at h
  .have k1:k<a.length:=by omega
   have k2:i-k<b.length:=by omega
   have k3:((i:Int)-k)=((i-k:Nat):Int):=by omega
   simp [go_sem,zae k1,zae k2,k3]
   refine ⟨by kernel_rfl,⟨k1,by rintro rfl; simp at k1⟩,by omega,⟨k2,by rintro rfl; simp at k2⟩,?_⟩
   refine CallD.of (zcm _ _ (zax (ha.get k) (hb.get (i-k)))) ?_
   simp [go_sem]
   refine CallD.of (zdO _ _ (zd6 (zaf _) (zaf _))) ?_
   simp [go_sem]
   refine ⟨by kernel_rfl,?_⟩
   simp [go_sem]
   refine ⟨by omega,k+1,by omega,by omega,zaa _ _ _ (by simp),?_,by omega⟩
   simp [cv]
  .have e:k=i+1:=by omega
   subst e
   simp [go_sem]
   refine ⟨by omega,by omega,i+1,by omega,by omega,(Off.reset (by intro x hx; simp at hx |-; omega) (by simp) (by simp [go_sem,zaa])),⟨rfl,?_⟩,by omega⟩
   simp [zbD,zam]
 .have e:i=a.length:=by omega
  subst e
  simp [go_sem]
  rfl
theorem zsa (n j:Nat) (hn:n<=1048576) (hj:j<=1048576):Con Tryz.prog 321 [.int n,.int j] (.own 2 n (avs (tb (fun i=>if i=j then 1 else 0) n))):=by
 refine zab Tryz.mixed ⟨6,[],[],[]⟩ Tryz.func321 ?_
 rw [Tryz.ntmps321]
 simp [go_sem]
 refine ⟨⟨by omega,by omega⟩,?_⟩
 refine ⟨fun h=>?_,fun h=>?_⟩ <;> simp at h
 .simp [go_sem]
  refine ⟨h,List.ext_getElem (by simp) fun k h1 h2=>?_⟩
  simp [avs,tb,List.getElem_set]
  by_cases e:j=k
  .simp [e]
  .have e2:¬ k=j:=fun h=>e h.symm
   simp [e,e2]
 .simp [go_sem]
  refine List.ext_getElem (by simp) fun k h1 h2=>?_
  simp at h1
  have e2:¬ k=j:=by omega
  simp [avs,tb,e2]
def es (b o:List Int) (n:Nat):Nat->Int
 | 0=>0
 | m+1=>es b o n m+(m+1)*(b[m+1]?.getD 0*o[n-(m+1)]?.getD 0%10007)
end Go.Proofs.YthhdollpkieknaaGreat


namespace Go.Proofs.YthhdollpkieknaaGreat
open Go.Abs
end Go.Proofs.YthhdollpkieknaaGreat


namespace Go.Proofs.YthhdollpkieknaaGreat
open Go.Abs
theorem zew (xs:List Int) (hl:xs.length<=17592186044416):Con Tryz.prog 154 [.sl xs.length (avs xs)] (.own 2 xs.length (avs xs)):=by
 refine zab Tryz.mixed ⟨3,[],[],[]⟩ Tryz.func154 ?_
 rw [Tryz.ntmps154]
 simp [go_sem]
 try omega
theorem zkj (a b:List Int) (ha:a.length<=9223372036854775807):Con Tryz.prog 248 [.sl a.length (avs a),.sl b.length (avs b)] (.bool (decide (a=b))):=by
 refine zab Tryz.mixed ⟨6,[],[],[]⟩ Tryz.func248 ?_
 rw [Tryz.ntmps248]
 simp [go_sem]
 refine ⟨fun h=>?_,fun h=>?_⟩ <;> simp at h <;> simp [go_sem]
 .rintro rfl; omega
 have hl:a.length=b.length:=by omega
 refine zac (4::5::List.range' 11 16) (fun i:Nat=>[(5,.int i)]) (fun i=>i<=a.length/\a.take i=b.take i) (fun i=>a.length-i) 0 (by simp) (by simp [go_sem]) (by simp [go_sem]) ?_
 intro i hi
 simp [go_sem]
 refine ⟨fun h=>?_,fun h=>?_⟩ <;> simp at h
 .have h2:i<b.length:=by omega
  simp [go_sem,zae h,zae h2]
  refine ⟨by kernel_rfl,⟨h,by rintro rfl; simp at h⟩,⟨h2,by rintro rfl; simp at h2⟩,?_⟩
  refine ⟨by kernel_rfl,?_⟩
  simp [go_sem]
  refine ⟨fun h3=>?_,fun h3=>?_⟩ <;> simp at h3 <;> simp [go_sem]
  .rintro rfl; exact h3 rfl
  .refine ⟨by omega,i+1,⟨by omega,?_⟩,by omega,zaa _ _ _ (by simp),by omega⟩
   rw [List.take_add_one,List.take_add_one,hi.2]
   rw [List.getElem?_eq_getElem h,List.getElem?_eq_getElem h2] at h3 |-
   simp only [Option.getD_some] at h3
   rw [h3]
 .simp [go_sem]
  have e:i=a.length:=by omega
  subst e
  have:=hi.2
  rw [List.take_length,hl,List.take_length] at this
  exact this
theorem zdp (m:Mon):zcN [m]=[.int m.1,.own 2 m.2.length (avs m.2)]:=rfl
theorem zra (c:Int) (e:List Int) (m:Mon) (l:List Mon):zaL c e (m::l) true=(if m.1=0 then [] else [m])++zaL c e l true:=by
 rw [zaL,if_neg (by simp),if_neg (by simp)]
theorem zx2 (c:Int) (m:Mon) (l:List Mon):zaL c m.2 (m::l) false=(if (m.1+c)%10007=0 then [] else [((m.1+c)%10007,m.2)])++zaL c m.2 l true:=by
 rw [zaL,if_pos (by simp)]
theorem zzi {c:Int} {e:List Int} {m:Mon} (l:List Mon) (h:¬ m.2=e) (h2:ltL e m.2=true):zaL c e (m::l) false=(c,e)::((if m.1=0 then [] else [m])++zaL c e l true):=by
 rw [zaL,if_neg (by simp [h]),if_pos (by simp [h2])]
theorem zy7 {c:Int} {e:List Int} {m:Mon} (l:List Mon) (h:¬ m.2=e) (h2:ltL e m.2=false):zaL c e (m::l) false=(if m.1=0 then [] else [m])++zaL c e l false:=by
 rw [zaL,if_neg (by simp [h]),if_neg (by simp [h2])]
theorem zuK (L:List Mon) (c:Int) (e:List Int) (hc:isN c) (hL:∀ m∈L,isN m.1/\m.2.length<=1048576) (hl:L.length<=1000000000000) (he:e.length<=1048576) :
  Con Tryz.prog 319 [.sl L.length (mons L),.int c,.sl e.length (avs e)] (.own 62 (putL L c e).length (zcN (putL L c e))):=by
 refine zab Tryz.mixed ⟨11,[],[],[]⟩ Tryz.func319 ?_
 rw [Tryz.ntmps319]
 simp [go_sem]
 refine zac (List.range' 7 61) (fun x:Nat × Bool × List Mon=>[(7,.own 62 x.2.2.length (zcN x.2.2)),(8,.bool x.2.1),(9,.int x.1)]) (fun x=>x.1<=L.length/\x.2.2.length<=x.1+(if x.2.1=true then 1 else 0)/\x.2.2++zaL c e (L.drop x.1) x.2.1=putL L c e) (fun x=>L.length-x.1) (0,decide (c=0),[]) ⟨by simp,by simp,by simp [putL]⟩ (by simp [go_sem]) (by simp [go_sem]) ?_
 rintro ⟨i,done,O⟩ ⟨hi,hO,he2⟩
 simp only at hi hO he2
 simp [go_sem]
 refine ⟨fun h=>?_,fun h=>?_⟩ <;> simp at h
 .have hif:=h
  have hx:L[i]?.getD (0,[])∈L:=by simp [h]
  have hd:L.drop i=L[i]?.getD (0,[])::L.drop (i+1):=by rw [List.drop_eq_getElem_cons h]; simp [h]
  obtain ⟨hm1,hm2⟩:=hL _ hx
  simp [go_sem,zbu hif]
  generalize hM:L[i]?.getD (0,[])=m at *
  refine ⟨by kernel_rfl,⟨hif,by rintro rfl; simp at hif⟩,?_⟩
  refine CallD.of (zew m.2 (by omega)) ?_
  simp [go_sem]
  refine ⟨by kernel_rfl,?_⟩
  simp [go_sem]
  rw [hd] at he2
  cases done with
  | true =>
   rw [zra] at he2
   simp only [if_true] at hO
   simp [go_sem]
   by_cases h0:m.1=0
   .simp [go_sem,h0]
    rw [if_pos h0] at he2
    exact ⟨by omega,i+1,O,⟨by omega,by omega,he2⟩,by omega,zaa _ _ _ (by simp),⟨rfl,rfl⟩,by omega⟩
   .simp [go_sem,h0]
    rw [if_neg h0] at he2
    exact ⟨⟨by omega,by omega⟩,by omega,i+1,O++[m],⟨by omega,by simp; omega,by simpa using he2⟩,by omega,zaa _ _ _ (by simp),⟨by simp,by simp [zcQ,zdp]⟩,by omega⟩
  | false =>
   simp only [Bool.false_eq_true,if_false] at hO
   by_cases hme:m.2=e
   .subst hme
    rw [zx2] at he2
    simp [go_sem]
    refine CallVC.of (zkj m.2 m.2 (by omega)) ?_
    simp [go_sem]
    refine CallVC.of (zdO _ _ (zd6 hm1 hc)) ?_
    simp [go_sem]
    by_cases h0:(m.1+c)%10007=0
    .simp [go_sem,h0]
     rw [if_pos h0] at he2
     exact ⟨by omega,i+1,O,⟨by omega,by omega,he2⟩,by omega,zaa _ _ _ (by simp),⟨rfl,rfl⟩,by omega⟩
    .simp [go_sem,h0]
     rw [if_neg h0] at he2
     exact ⟨⟨by omega,by omega⟩,by omega,i+1,O++[((m.1+c)%10007,m.2)],⟨by omega,by simp; omega,by simpa using he2⟩,by omega,zaa _ _ _ (by simp),⟨by simp,by simp [zcQ,zdp]⟩,by omega⟩
   .simp [go_sem]
    refine CallVC.of (zkj m.2 e (by omega)) ?_
    simp [go_sem]
    simp [go_sem,hme]
    refine CallVC.of (zkx e m.2 (by omega) (by omega)) ?_
    simp [go_sem]
    cases hlt:ltL e m.2 with
    | true =>
     rw [zzi _ hme hlt] at he2
     simp [go_sem]
     refine CallVC.of (zew e (by omega)) ?_
     simp [go_sem]
     by_cases h0:m.1=0
     .simp [go_sem,h0]
      rw [if_pos h0] at he2
      exact ⟨⟨by omega,by omega⟩,by omega,i+1,O++[(c,e)],⟨by omega,by simp; omega,by simpa using he2⟩,by omega,zaa _ _ _ (by simp),⟨by simp,by simp [zcQ,zdp]⟩,by omega⟩
     .simp [go_sem,h0]
      rw [if_neg h0] at he2
      exact ⟨⟨by omega,by omega⟩,⟨by omega,by omega,by omega⟩,by omega,i+1,O++[(c,e),m],⟨by omega,by simp; omega,by simpa using he2⟩,by omega,zaa _ _ _ (by simp),⟨by simp,by simp [zcN]⟩,by omega⟩
    | false =>
     rw [zy7 _ hme hlt] at he2
     simp [go_sem]
     by_cases h0:m.1=0
     .simp [go_sem,h0]
      rw [if_pos h0] at he2
      exact ⟨by omega,i+1,O,⟨by omega,by omega,he2⟩,by omega,zaa _ _ _ (by simp),⟨rfl,rfl⟩,by omega⟩
     .simp [go_sem,h0]
      rw [if_neg h0] at he2
      exact ⟨⟨by omega,by omega⟩,by omega,i+1,O++[m],⟨by omega,by simp; omega,by simpa using he2⟩,by omega,zaa _ _ _ (by simp),⟨by simp,by simp [zcQ,zdp]⟩,by omega⟩
 .simp [go_sem]
  rw [List.drop_eq_nil_of_le h] at he2
  cases done with
  | true =>
   simp [go_sem]
   rw [<- he2]; simp [zaL]
  | false =>
   simp only [Bool.false_eq_true,if_false] at hO
   simp [go_sem]
   refine CallVC.of (zew e (by omega)) ?_
   simp [go_sem]
   rw [<- he2]
   exact ⟨⟨by omega,by omega⟩,by simp [zaL],by simp [zaL,zcQ,zdp]⟩
end Go.Proofs.YthhdollpkieknaaGreat


namespace Go.Proofs.YthhdollpkieknaaGreat
class CR (α:Type) extends Add α,Mul α where
 ofI:Int->α
 addC:∀ a b:α,a+b=b+a
 addA:∀ a b c:α,a+b+c=a+(b+c)
 add0:∀ a:α,a+ofI 0=a
 mulC:∀ a b:α,a*b=b*a
 mulA:∀ a b c:α,a*b*c=a*(b*c)
 mul1:∀ a:α,a*ofI 1=a
 mulD:∀ a b c:α,a*(b+c)=a*b+a*c
 mul0:∀ a:α,a*ofI 0=ofI 0
 ofAdd:∀ a b:Int,ofI (a+b)=ofI a+ofI b
 ofMul:∀ a b:Int,ofI (a*b)=ofI a*ofI b
namespace CR
section
variable {α:Type} [CR α]
instance:Std.Associative (α:=α) (·+·):=⟨addA⟩
instance:Std.Commutative (α:=α) (·+·):=⟨addC⟩
instance:Std.Associative (α:=α) (·*·):=⟨mulA⟩
instance:Std.Commutative (α:=α) (·*·):=⟨mulC⟩
theorem zadd (a:α):ofI 0+a=a:=by rw [addC,add0]
theorem omul (a:α):ofI 1*a=a:=by rw [mulC,mul1]
theorem zmul (a:α):ofI 0*a=ofI 0:=by rw [mulC,mul0]
theorem Dmul (a b c:α):(a+b)*c=a*c+b*c:=by rw [mulC,mulD,mulC c,mulC c]
end
end CR
open CR
instance:CR Int where
 ofI:=id
 addC:=Int.add_comm
 addA:=Int.add_assoc
 add0:=Int.add_zero
 mulC:=Int.mul_comm
 mulA:=Int.mul_assoc
 mul1:=Int.mul_one
 mulD:=Int.mul_add
 mul0:=Int.mul_zero
 ofAdd:=fun _ _=>rfl
 ofMul:=fun _ _=>rfl
abbrev Ser (α:Type):=Nat->α
def sh {α:Type} (a:Ser α):Ser α:=fun n=>a (n+1)
def cmul {α:Type} [CR α]:Nat->Ser α->Ser α->α
 | 0,a,b=>a 0*b 0
 | n+1,a,b=>a 0*b (n+1)+cmul n (sh a) b
section
variable {α:Type} [CR α]
theorem zoc (n:Nat):∀ (a b c:Ser α),cmul n a (fun i=>b i+c i)=cmul n a b+cmul n a c:=by
 induction n with
 | zero=>intro a b c; exact mulD _ _ _
 | succ n ih=>intro a b c; simp only [cmul,ih,mulD]; ac_rfl
theorem zjU (n:Nat):∀ (a b:Ser α),cmul (n+1) a b=cmul n a (sh b)+a (n+1)*b 0:=by
 induction n with
 | zero=>intro a b; rfl
 | succ n ih =>
  intro a b
  rw [cmul,ih,cmul]
  show a 0*b (n+1+1)+(cmul n (sh a) (sh b)+a (n+1+1)*b 0)=a 0*b (n+1+1)+cmul n (sh a) (sh b)+a (n+1+1)*b 0
  ac_rfl
theorem zcM (n:Nat):∀ (a b:Ser α),cmul n a b=cmul n b a:=by
 induction n with
 | zero=>intro a b; exact mulC _ _
 | succ n ih=>intro a b; rw [cmul,zjU,ih,mulC,addC]
theorem zs0 (c:α) (n:Nat):∀ (a b:Ser α),cmul n (fun i=>c*a i) b=c*cmul n a b:=by
 induction n with
 | zero=>intro a b; exact mulA _ _ _
 | succ n ih =>
  intro a b
  have:=ih (sh a) b
  simp only [cmul,mulD]
  rw [<- this,mulA]; rfl
theorem zjR (n:Nat) (a b c:Ser α):cmul n (fun i=>a i+b i) c=cmul n a c+cmul n b c:=by
 rw [zcM n (fun i=>a i+b i) c,zoc,zcM n c a,zcM n c b]
theorem zo2 (n:Nat):∀ (a b c:Ser α),cmul n (fun i=>cmul i a b) c=cmul n a (fun i=>cmul i b c):=by
 induction n with
 | zero=>intro a b c; exact mulA _ _ _
 | succ n ih =>
  intro a b c
  have e:sh (fun i=>cmul i a b)=fun i=>a 0*sh b i+cmul i (sh a) b:=rfl
  simp only [cmul]
  rw [e,zjR,zs0,ih,mulD]
  show a 0*b 0*c (n+1)+_=_
  rw [mulA]; ac_rfl
def sOf (k:Int):Ser α:=fun n=>if n=0 then ofI k else ofI 0
theorem zfy (k:Int):∀ (n:Nat) (a:Ser α),cmul n a (sOf k)=a n*ofI k:=by
 intro n
 induction n with
 | zero=>intro a; rfl
 | succ n ih =>
  intro a
  rw [cmul,ih]
  show a 0*ofI 0+a (n+1)*ofI k=_
  rw [mul0,zadd]
instance:CR (Ser α) where
 add:=fun a b n=>a n+b n
 mul:=fun a b n=>cmul n a b
 ofI:=sOf
 addC:=fun a b=>funext fun n=>addC _ _
 addA:=fun a b c=>funext fun n=>addA _ _ _
 add0:=fun a=>funext fun n=>by show a n+(if n=0 then ofI 0 else ofI 0)=a n; rw [ite_self,add0]
 mulC:=fun a b=>funext fun n=>zcM n a b
 mulA:=fun a b c=>funext fun n=>zo2 n a b c
 mul1:=fun a=>funext fun n=>by show cmul n a (sOf 1)=a n; rw [zfy,mul1]
 mulD:=fun a b c=>funext fun n=>zoc n a b c
 mul0:=fun a=>funext fun n=>by show cmul n a (sOf 0)=if n=0 then ofI 0 else ofI 0; rw [zfy,mul0,ite_self]
 ofAdd:=fun a b=>funext fun n=>by
  show (if n=0 then (ofI (a+b):α) else ofI 0)=(if n=0 then ofI a else ofI 0)+(if n=0 then ofI b else ofI 0)
  split
  .exact ofAdd _ _
  .rw [add0]
 ofMul:=fun a b=>funext fun n=>by
  show (if n=0 then (ofI (a*b):α) else ofI 0)=cmul n (sOf a) (sOf b)
  rw [zfy]
  show (if n=0 then (ofI (a*b):α) else ofI 0)=(if n=0 then ofI a else ofI 0)*ofI b
  split
  .exact ofMul _ _
  .rw [zmul]
theorem zfz (a b:Ser α) (n:Nat):(a+b) n=a n+b n:=rfl
theorem zqB (k:Int):(ofI k:Ser α) 0=ofI k:=rfl
theorem zxR (k:Int) (n:Nat):(ofI k:Ser α) (n+1)=ofI 0:=rfl
theorem zmm (a b:Ser α):(a*b:Ser α) 0=a 0*b 0:=rfl
def th (a:Ser α):Ser α:=fun n=>ofI (n:Int)*a n
theorem ztu (a b:Ser α):th (a*b)=th a*b+a*th b:=by
 have gen:∀ (n:Nat) (a b:Ser α),ofI (n:Int)*cmul n a b=cmul n (th a) b+cmul n a (th b):=by
  intro n
  induction n with
  | zero=>intro a b; simp [cmul,th,zmul,mul0,add0]
  | succ n ih =>
   intro a b
   have e1:sh (th a)=fun i=>th (sh a) i+sh a i:=funext fun i=>by
    show ofI ((i+1:Nat):Int)*a (i+1)=ofI (i:Int)*a (i+1)+a (i+1)
    rw [show ((i+1:Nat):Int)=(i:Int)+1 by omega,ofAdd,Dmul,omul]
   have e2:th a 0=ofI 0:=by show ofI ((0:Nat):Int)*a 0=_; exact zmul _
   have e3:th b (n+1)=ofI ((n+1:Nat):Int)*b (n+1):=rfl
   simp only [cmul]
   rw [e1,e2,e3,zmul,zadd,zjR,mulD,show ((n+1:Nat):Int)=(n:Int)+1 by omega,ofAdd,Dmul (ofI (n:Int)) (ofI 1) (cmul n (sh a) b),ih,omul]
   have:(ofI (n:Int)+ofI 1)*(a 0*b (n+1))=a 0*((ofI (n:Int)+ofI 1)*b (n+1)):=by ac_rfl
   rw [this]; ac_rfl
 exact funext fun n=>gen n a b
theorem zAX (a b:Ser α):th (a+b)=th a+th b:=funext fun n=>mulD _ _ _
theorem zv2 (k:Int):th (ofI k:Ser α)=ofI 0:=funext fun n=>by
 cases n with
 | zero=>exact zmul _
 | succ n=>show ofI _*ofI 0=ofI 0; exact mul0 _
def pwr (a:α):Nat->α
 | 0=>ofI 1
 | n+1=>pwr a n*a
theorem zwX (a:Ser α):∀ n:Nat,th (pwr a n)=ofI (n:Int)*(pwr a (n-1)*th a)
 | 0=>by rw [pwr,zv2]; exact (zmul _).symm
 | n+1=>by
  rw [pwr,ztu,zwX a n,show ((n+1:Nat):Int)=(n:Int)+1 by omega,ofAdd,Dmul,omul,Nat.add_sub_cancel]
  cases n with
  | zero =>
   have z:(ofI ((0:Nat):Int):Ser α)=ofI 0:=rfl
   rw [z,zmul,zmul,zadd]
  | succ n =>
   rw [Nat.add_sub_cancel,pwr]; ac_rfl
def sL {β:Type} (f:β->α):List β->α
 | []=>ofI 0
 | b::l=>f b+sL f l
def sT (f:Nat->α):Nat->α
 | 0=>ofI 0
 | n+1=>sT f n+f n
def dx (k:Nat) (e:Nat->Nat):Nat->Nat:=fun j=>if j=k then e j-1 else e j
def mon (U:Nat->α) (e:Nat->Nat):Nat->α
 | 0=>ofI 1
 | d+1=>mon U e d*pwr (U d) (e d)
theorem zex (U:Nat->α) {e e':Nat->Nat}:∀ {d:Nat},(∀ j,j<d->e j=e' j)->mon U e d=mon U e' d
 | 0,_=>rfl
 | d+1,h=>by rw [mon,mon,zex U (fun j hj=>h j (by omega)),h d (by omega)]
theorem zbp {f g:Nat->α}:∀ {n:Nat},(∀ j,j<n->f j=g j)->sT f n=sT g n
 | 0,_=>rfl
 | n+1,h=>by rw [sT,sT,zbp (fun j hj=>h j (by omega)),h n (by omega)]
theorem zfJ (c:α) (f:Nat->α):∀ n,sT (fun k=>c*f k) n=c*sT f n
 | 0=>(mul0 _).symm
 | n+1=>by rw [sT,sT,zfJ c f n,mulD]
theorem zoI (f g:Nat->α):∀ n,sT (fun k=>f k+g k) n=sT f n+sT g n
 | 0=>(add0 _).symm
 | n+1=>by simp only [sT,zoI f g n]; ac_rfl
theorem zgT:∀ n,sT (fun _=>(ofI 0:α)) n=ofI 0
 | 0=>rfl
 | n+1=>by rw [sT,zgT n,add0]
theorem zCl {β:Type} (f:β->α) (l r:List β):sL f (l++r)=sL f l+sL f r:=by
 induction l with
 | nil=>exact (zadd _).symm
 | cons a l ih=>simp only [List.cons_append,sL,ih]; ac_rfl
theorem zwK {β:Type} (c:α) (f:β->α):∀ l:List β,sL (fun b=>c*f b) l=c*sL f l
 | []=>(mul0 _).symm
 | b::l=>by rw [sL,sL,zwK c f l,mulD]
theorem znd {β:Type} {f g:β->α}:∀ {l:List β},(∀ b∈l,f b=g b)->sL f l=sL g l
 | [],_=>rfl
 | b::l,h=>by rw [sL,sL,h b (by simp),znd (fun c hc=>h c (by simp [hc]))]
theorem zCy {β:Type} (f:β->Nat->α) (n:Nat):∀ l:List β,sL (fun b=>sT (f b) n) l=sT (fun k=>sL (fun b=>f b k) l) n
 | []=>(zgT n).symm
 | b::l=>by
  simp only [sL]
  rw [zCy f n l,<- zoI]
theorem zwJ (U:Nat->Ser α) (e:Nat->Nat):∀ d,th (mon U e d)=sT (fun k=>ofI (e k:Int)*(mon U (dx k e) d*th (U k))) d
 | 0=>zv2 1
 | d+1=>by
  rw [mon,ztu,zwJ U e d,zwX,sT]
  have e1:sT (fun k=>ofI (e k:Int)*(mon U (dx k e) (d+1)*th (U k))) d=sT (fun k=>pwr (U d) (e d)*(ofI (e k:Int)*(mon U (dx k e) d*th (U k)))) d:=by
   refine zbp (fun k hk=>?_)
   rw [mon]
   have:dx k e d=e d:=by unfold dx; rw [if_neg (by omega)]
   rw [this]; ac_rfl
  have e2:mon U (dx d e) (d+1)=mon U e d*pwr (U d) (e d-1):=by
   rw [mon,zex U (e:=dx d e) (e':=e) (fun j hj=>by unfold dx; rw [if_neg (by omega)])]
   have:dx d e d=e d-1:=by unfold dx; rw [if_pos rfl]
   rw [this]
  rw [e1,e2,zfJ]
  ac_rfl
abbrev Trm:=Int × (Nat->Nat)
def ev (d:Nat) (U:Nat->α) (L:List Trm):α:=sL (fun m=>ofI m.1*mon U m.2 d) L
def ev1 (d k:Nat) (U:Nat->α) (L:List Trm):α:=sL (fun m=>ofI (m.1*(m.2 k:Int))*mon U (dx k m.2) d) L
theorem zDj (d:Nat) (U:Nat->Ser α):∀ L:List Trm,th (ev d U L)=sT (fun k=>ev1 d k U L*th (U k)) d:=by
 intro L
 have h1:∀ L:List Trm,th (ev d U L)=sL (fun m=>sT (fun k=>ofI (m.1*(m.2 k:Int))*mon U (dx k m.2) d*th (U k)) d) L:=by
  intro L
  induction L with
  | nil=>exact zv2 0
  | cons m L ih =>
   have:ev d U (m::L)=ofI m.1*mon U m.2 d+ev d U L:=rfl
   rw [this,zAX,ih,sL,ztu,zv2,zmul,zadd,zwJ,<- zfJ]
   congr 1
   refine zbp (fun k hk=>?_)
   rw [ofMul]; ac_rfl
 rw [h1,zCy]
 refine zbp (fun k hk=>?_)
 unfold ev1
 rw [mulC,<- zwK]
 exact znd (fun m hm=>mulC _ _)
theorem zsw (a:Ser α):∀ n,(pwr a n) 0=pwr (a 0) n
 | 0=>rfl
 | n+1=>by rw [pwr,zmm,zsw a n]; rfl
theorem zqp (U:Nat->Ser α) (e:Nat->Nat):∀ d,(mon U e d) 0=mon (fun k=>U k 0) e d
 | 0=>rfl
 | d+1=>by rw [mon,zmm,zqp U e d,zsw]; rfl
theorem zw1 (d:Nat) (U:Nat->Ser α):∀ L:List Trm,(ev d U L) 0=ev d (fun k=>U k 0) L
 | []=>rfl
 | m::L=>by
  have:ev d U (m::L)=ofI m.1*mon U m.2 d+ev d U L:=rfl
  rw [this,zfz,zmm,zqB,zqp,zw1 d U L]; rfl
theorem zBB (a b:Ser α) (h:b 0=ofI 0):sh (a*b)=a*sh b:=funext fun n=>by
 show cmul (n+1) a b=cmul n a (sh b)
 rw [zjU,h,mul0,add0]
theorem zAv (a b:Ser α):sh (a+b)=sh a+sh b:=rfl
theorem th_0 (a:Ser α):th a 0=ofI 0:=zmul _
theorem zAY (f:Nat->Ser α):∀ n,sh (sT f n)=sT (fun k=>sh (f k)) n
 | 0=>funext fun n=>by cases n <;> rfl
 | n+1=>by rw [sT,zAv,zAY f n,sT]
theorem zwd (d:Nat) (U:Nat->Ser α) (L:List Trm):sh (th (ev d U L))=sT (fun k=>ev1 d k U L*sh (th (U k))) d:=by
 rw [zDj,zAY]
 exact zbp (fun k _=>zBB _ _ (th_0 _))
end
structure Cg (α:Type) [CR α] where
 r:α->α->Prop
 refl:∀ a,r a a
 symm:∀ {a b},r a b->r b a
 trans:∀ {a b c},r a b->r b c->r a c
 add:∀ {a b c d},r a b->r c d->r (a+c) (b+d)
 mul:∀ {a b c d},r a b->r c d->r (a*c) (b*d)
 of:∀ {a b:Int},a%10007=b%10007->r (ofI a) (ofI b)
def cgI:Cg Int where
 r:=fun a b=>a%10007=b%10007
 refl:=fun _=>rfl
 symm:=fun h=>h.symm
 trans:=fun h k=>h.trans k
 add:=fun h k=>by omega
 mul:=fun {a b c d} h k=>by rw [Int.mul_emod,h,k,<- Int.mul_emod]
 of:=fun h=>h
section
variable {α:Type} [CR α]
theorem zxG (c:Cg α) {N:Nat}:∀ {n:Nat} {a b a' b':Ser α},n<N->(∀ i,i<N->c.r (a i) (a' i))->(∀ i,i<N->c.r (b i) (b' i))->c.r (cmul n a b) (cmul n a' b')
 | n,a,b,a',b',hn,ha,hb=>by
  have gen:∀ (n:Nat) (a b a' b':Ser α),(∀ i,i<=n->c.r (a i) (a' i))->(∀ i,i<=n->c.r (b i) (b' i))->c.r (cmul n a b) (cmul n a' b'):=by
   intro n
   induction n with
   | zero=>intro a b a' b' ha hb; exact c.mul (ha 0 (by omega)) (hb 0 (by omega))
   | succ n ih =>
    intro a b a' b' ha hb
    exact c.add (c.mul (ha 0 (by omega)) (hb (n+1) (by omega))) (ih _ _ _ _ (fun i hi=>ha (i+1) (by omega)) (fun i hi=>hb i (by omega)))
  exact gen n a b a' b' (fun i hi=>ha i (by omega)) (fun i hi=>hb i (by omega))
def cgS (c:Cg α) (N:Nat):Cg (Ser α) where
 r:=fun a b=>∀ n,n<N->c.r (a n) (b n)
 refl:=fun a n _=>c.refl _
 symm:=fun h n hn=>c.symm (h n hn)
 trans:=fun h k n hn=>c.trans (h n hn) (k n hn)
 add:=fun h k n hn=>c.add (h n hn) (k n hn)
 mul:=fun h k n hn=>zxG c hn h k
 of:=fun {a b} h n hn=>by
  show c.r (if n=0 then ofI a else ofI 0) (if n=0 then ofI b else ofI 0)
  split
  .exact c.of h
  .exact c.refl _
theorem Cg.sT (c:Cg α) {f g:Nat->α}:∀ {n:Nat},(∀ k,k<n->c.r (f k) (g k))->c.r (sT f n) (sT g n)
 | 0,_=>c.refl _
 | n+1,h=>c.add (Cg.sT c (fun k hk=>h k (by omega))) (h n (by omega))
theorem Cg.sL (c:Cg α) {β:Type} {f g:β->α}:∀ {l:List β},(∀ b∈l,c.r (f b) (g b))->c.r (sL f l) (sL g l)
 | [],_=>c.refl _
 | b::l,h=>c.add (h b (by simp)) (Cg.sL c (fun x hx=>h x (by simp [hx])))
theorem Cg.pwr (c:Cg α) {a b:α} (h:c.r a b):∀ n,c.r (pwr a n) (pwr b n)
 | 0=>c.refl _
 | n+1=>c.mul (Cg.pwr c h n) h
theorem Cg.mon (c:Cg α) {U V:Nat->α} (e:Nat->Nat):∀ {d:Nat},(∀ k,k<d->c.r (U k) (V k))->c.r (mon U e d) (mon V e d)
 | 0,_=>c.refl _
 | d+1,h=>c.mul (Cg.mon c e (fun k hk=>h k (by omega))) (Cg.pwr c (h d (by omega)) _)
theorem Cg.ev (c:Cg α) {d:Nat} {U V:Nat->α} (h:∀ k,k<d->c.r (U k) (V k)) (L:List Trm):c.r (ev d U L) (ev d V L) :=
 c.sL (fun m _=>c.mul (c.refl _) (c.mon m.2 h))
def fct:Nat->Int
 | 0=>1
 | n+1=>fct n*((n:Int)+1)
theorem zzd (c:Cg α) {π:Type} (T:π->List Trm) {d N:Nat} {U:Nat->Ser α} {F:Nat->π} {A:π->π} {Ok:π->Prop}
  (hA:∀ L,Ok L->Ok (A L)/\(cgS c N).r (ev d U (T (A L))) (sT (fun k=>ev1 d k U (T L)*ev d U (T (F k))) d))
  (hU:∀ k,k<d->∀ n,n<N->c.r (ofI ((n+1:Nat):Int)*U k (n+1)) (ev d U (T (F k)) n)) :
  ∀ (n:Nat) (L:π),n<=N->Ok L->c.r (ofI (fct n)*ev d U (T L) n) (ev d (fun k=>U k 0) (T (Nat.repeat A n L))):=by
 have step:∀ L,Ok L->∀ n,n<N->c.r (ofI ((n+1:Nat):Int)*ev d U (T L) (n+1)) (ev d U (T (A L)) n):=by
  intro L hL n hn
  refine c.trans ?_ (c.symm ((hA L hL).2 n hn))
  have:ofI ((n+1:Nat):Int)*ev d U (T L) (n+1)=sh (th (ev d U (T L))) n:=rfl
  rw [this,zwd]
  exact (cgS c N).sT (fun k hk=>(cgS c N).mul ((cgS c N).refl _) (fun n hn=>hU k hk n hn)) n hn
 have rep:∀ (n:Nat) (L:π),Nat.repeat A (n+1) L=Nat.repeat A n (A L):=by
  intro n
  induction n with
  | zero=>intro L; rfl
  | succ n ih=>intro L; rw [Nat.repeat,ih]; rfl
 intro n
 induction n with
 | zero =>
  intro L _ _
  show c.r (ofI 1*ev d U (T L) 0) (ev d (fun k=>U k 0) (T L))
  rw [omul,zw1]; exact c.refl _
 | succ n ih =>
  intro L hn hL
  have h1:=ih (A L) (by omega) (hA L hL).1
  rw [rep]
  refine c.trans ?_ h1
  have:ofI (fct (n+1))*ev d U (T L) (n+1)=ofI (fct n)*(ofI ((n+1:Nat):Int)*ev d U (T L) (n+1)):=by
   rw [fct,ofMul,mulA]; rfl
  rw [this]
  exact c.mul (c.refl _) (step L hL n (by omega))
end
end Go.Proofs.YthhdollpkieknaaGreat


namespace Go.Proofs.YthhdollpkieknaaGreat
open CR
def ex (e:List Int):Nat->Nat:=fun k=>(e[k]?.getD 0).toNat
def tr (m:Mon):Trm:=(m.1,ex m.2)
structure WOk (n:Nat) (B:Int) (m:Mon):Prop where
 num:isN m.1
 len:m.2.length=n
 pw:∀ x∈m.2,0<=x/\x<=B
theorem VOk.wok {n:Nat} {m:Mon} (h:VOk n m):WOk n 3 m:=⟨h.num,h.len,h.pw⟩
theorem WOk.le {n:Nat} {B C:Int} {m:Mon} (h:WOk n B m) (hBC:B<=C):WOk n C m:=⟨h.num,h.len,fun x hx=>⟨(h.pw x hx).1,Int.le_trans (h.pw x hx).2 hBC⟩⟩
theorem WOk.get {n:Nat} {B:Int} {m:Mon} (h:WOk n B m) (hB:0<=B) (k:Nat):0<=m.2[k]?.getD 0/\m.2[k]?.getD 0<=B:=by
 rcases Nat.lt_or_ge k m.2.length with hk | hk
 .simp [hk]; exact h.pw _ (List.getElem_mem hk)
 .simp [hk]; exact hB
section
variable {α:Type} [CR α]
def evM (d:Nat) (U:Nat->α) (L:List Mon):α:=ev d U (L.map tr)
def evM1 (d k:Nat) (U:Nat->α) (L:List Mon):α:=ev1 d k U (L.map tr)
theorem zdr (d:Nat) (U:Nat->α):evM d U []=ofI 0:=rfl
theorem zaU (d:Nat) (U:Nat->α) (m:Mon) (L:List Mon):evM d U (m::L)=ofI m.1*mon U (ex m.2) d+evM d U L:=rfl
theorem zmr (d:Nat) (U:Nat->α) (L R:List Mon):evM d U (L++R)=evM d U L+evM d U R:=by
 unfold evM ev; rw [List.map_append,zCl]
theorem zs6 (d k:Nat) (U:Nat->α) (m:Mon) (L:List Mon):evM1 d k U (m::L)=ofI (m.1*(ex m.2 k:Int))*mon U (dx k (ex m.2)) d+evM1 d k U L:=rfl
theorem zsq (d:Nat) (U:Nat->α) (m:Mon):evM d U (if m.1=0 then [] else [m])=ofI m.1*mon U (ex m.2) d:=by
 split
 .rename_i h; rw [h,zmul]; rfl
 .rw [zaU,zdr,add0]
theorem Cg.eq (c:Cg α) {a b:α} (h:a=b):c.r a b:=by rw [h]; exact c.refl _
theorem zgs (c:Cg α) (d:Nat) (U:Nat->α) (k:Int) (e:List Int):∀ (l:List Mon) (done:Bool),
  c.r (evM d U (zaL k e l done)) (evM d U l+if done=true then ofI 0 else ofI k*mon U (ex e) d)
 | [],true=>c.eq (by simp [zaL]; rw [add0])
 | [],false=>c.eq (by simp [zaL]; rw [zaU,zdr,addC])
 | m::l,done=>by
  rw [zaL]
  by_cases h1:done=false/\m.2=e
  .rw [if_pos h1,zmr,h1.1,<- h1.2]
   have e1:=zsq d U ((m.1+k)%10007,m.2)
   simp only at e1
   rw [e1]
   refine c.trans (c.add (c.mul (c.of (a:=(m.1+k)%10007) (b:=m.1+k) (by omega)) (c.refl _)) (zgs c d U k m.2 l true)) (c.eq ?_)
   simp only [if_true,Bool.false_eq_true,if_false]
   rw [zaU,ofAdd,Dmul,add0]; ac_rfl
  .rw [if_neg h1]
   by_cases h2:done=false/\ltL e m.2=true
   .rw [if_pos h2,zaU,zmr,zsq,h2.1]
    refine c.trans (c.add (c.refl _) (c.add (c.refl _) (zgs c d U k e l true))) (c.eq ?_)
    simp only [if_true,Bool.false_eq_true,if_false]
    rw [zaU,add0]; ac_rfl
   .rw [if_neg h2,zmr,zsq]
    refine c.trans (c.add (c.refl _) (zgs c d U k e l done)) (c.eq ?_)
    rw [zaU,addA]
theorem zlv (c:Cg α) (d:Nat) (U:Nat->α) (L:List Mon) (k:Int) (e:List Int):c.r (evM d U (putL L k e)) (evM d U L+ofI k*mon U (ex e) d):=by
 unfold putL
 refine c.trans (zgs c d U k e L _) (c.eq ?_)
 by_cases h:k=0
 .simp [h]; rw [zmul]
 .simp [h]
def zhO (p:List Mon) (k:Int):List Mon->List Mon
 | []=>p
 | m::q=>zhO (putL p (k*m.1%10007) m.2) k q
theorem znr (c:Cg α) (d:Nat) (U:Nat->α) (k:Int):∀ (q p:List Mon),c.r (evM d U (zhO p k q)) (evM d U p+ofI k*evM d U q)
 | [],p=>c.eq (by rw [zdr,mul0,add0]; rfl)
 | m::q,p=>by
  rw [zhO]
  refine c.trans (znr c d U k q _) ?_
  refine c.trans (c.add (zlv c d U p _ m.2) (c.refl _)) ?_
  refine c.trans (c.add (c.add (c.refl _) (c.mul (c.of (a:=k*m.1%10007) (b:=k*m.1) (by omega)) (c.refl _))) (c.refl _)) (c.eq ?_)
  rw [zaU,mulD,ofMul]; ac_rfl
def addE (a b:List Int):List Int:=List.zipWith (·+·) a b
def zc3 (a:Mon) (acc:List Mon):List Mon->List Mon
 | []=>acc
 | b::q=>zc3 a (putL acc (a.1*b.1%10007) (addE a.2 b.2)) q
def zeA (acc:List Mon) (q:List Mon):List Mon->List Mon
 | []=>acc
 | a::p=>zeA (zc3 a acc q) q p
def zln (p q:List Mon):List Mon:=zeA [] q p
theorem zhg (a:α) (n:Nat):∀ m:Nat,pwr a (n+m)=pwr a n*pwr a m
 | 0=>(mul1 _).symm
 | m+1=>by rw [<- Nat.add_assoc,pwr,pwr,zhg a n m,mulA]
theorem zsB (U:Nat->α) (e f:Nat->Nat):∀ d,mon U (fun k=>e k+f k) d=mon U e d*mon U f d
 | 0=>(mul1 _).symm
 | d+1=>by rw [mon,mon,mon,zsB U e f d,zhg]; ac_rfl
theorem zBi {a b:List Int} {n:Nat} (ha:a.length=n) (hb:b.length=n) (h1:∀ x∈a,0<=x) (h2:∀ x∈b,0<=x) (k:Nat):ex (addE a b) k=ex a k+ex b k:=by
 unfold ex addE
 rcases Nat.lt_or_ge k n with hk | hk
 .rw [List.getElem?_eq_getElem (by simp; omega),List.getElem?_eq_getElem (by omega),List.getElem?_eq_getElem (by omega)]
  have:=h1 _ (List.getElem_mem (show k<a.length by omega))
  have:=h2 _ (List.getElem_mem (show k<b.length by omega))
  simp; omega
 .rw [List.getElem?_eq_none (by simp; omega),List.getElem?_eq_none (by omega),List.getElem?_eq_none (by omega)]; rfl
def LOk (n:Nat) (L:List Mon):Prop:=∀ m∈L,m.2.length=n/\∀ x∈m.2,0<=x
theorem LOk.tl {n:Nat} {m:Mon} {L:List Mon} (h:LOk n (m::L)):LOk n L:=fun a ha=>h a (by simp [ha])
theorem LOk.hd {n:Nat} {m:Mon} {L:List Mon} (h:LOk n (m::L)):m.2.length=n/\∀ x∈m.2,0<=x:=h m (by simp)
theorem ziz (c:Cg α) (d:Nat) (U:Nat->α) {n:Nat} {a:Mon} (ha:a.2.length=n/\∀ x∈a.2,0<=x):∀ (q acc:List Mon),LOk n q->c.r (evM d U (zc3 a acc q)) (evM d U acc+ofI a.1*mon U (ex a.2) d*evM d U q)
 | [],acc,_=>c.eq (by rw [zdr,mul0,add0]; rfl)
 | b::q,acc,hq=>by
  have hb:=hq.hd
  rw [zc3]
  refine c.trans (ziz c d U ha q _ hq.tl) ?_
  refine c.trans (c.add (zlv c d U acc _ _) (c.refl _)) ?_
  refine c.trans (c.add (c.add (c.refl _) (c.mul (c.of (a:=a.1*b.1%10007) (b:=a.1*b.1) (by omega)) (c.refl _))) (c.refl _)) (c.eq ?_)
  have:mon U (ex (addE a.2 b.2)) d=mon U (ex a.2) d*mon U (ex b.2) d:=by
   rw [<- zsB]; exact zex U (fun k _=>zBi ha.1 hb.1 ha.2 hb.2 k)
  rw [this,zaU,mulD,ofMul]; ac_rfl
theorem zk2 (c:Cg α) (d:Nat) (U:Nat->α) {n:Nat} {q:List Mon} (hq:LOk n q):∀ (p acc:List Mon),LOk n p->c.r (evM d U (zeA acc q p)) (evM d U acc+evM d U p*evM d U q)
 | [],acc,_=>c.eq (by rw [zdr,zmul,add0]; rfl)
 | a::p,acc,hp=>by
  rw [zeA]
  refine c.trans (zk2 c d U hq p _ hp.tl) ?_
  refine c.trans (c.add (ziz c d U hp.hd q acc hq) (c.refl _)) (c.eq ?_)
  rw [zaU,Dmul]; ac_rfl
theorem zvU (c:Cg α) (d:Nat) (U:Nat->α) {n:Nat} {p q:List Mon} (hp:LOk n p) (hq:LOk n q):c.r (evM d U (zln p q)) (evM d U p*evM d U q) :=
 c.trans (zk2 c d U hq p [] hp) (c.eq (zadd _))
theorem zBG {e:List Int} {i n:Nat} (hi:i<n) (hl:e.length=n) (k:Nat):ex (e.set i (e[i]?.getD 0-1)) k=dx i (ex e) k:=by
 unfold ex dx
 rw [List.getElem?_set]
 by_cases h:i=k
 .subst h
  rw [if_pos rfl,if_pos (by omega),if_pos rfl]
  simp
 .rw [if_neg h,if_neg (Ne.symm h)]
theorem zn7 (c:Cg α) (d:Nat) (U:Nat->α) {n i:Nat} (hi:i<n):∀ (p acc:List Mon),LOk n p->c.r (evM d U (zfG i acc p)) (evM d U acc+evM1 d i U p)
 | [],acc,_=>c.eq (add0 _).symm
 | m::p,acc,h=>by
  have hm:=h.hd
  rw [zfG,zs6]
  refine c.trans (zn7 c d U hi p _ h.tl) ?_
  have h0:0<=m.2[i]?.getD 0:=by
   rw [List.getElem?_eq_getElem (by omega),Option.getD_some]; exact hm.2 _ (List.getElem_mem _)
  by_cases hpos:0<m.2[i]?.getD 0
  .rw [if_pos hpos]
   refine c.trans (c.add (zlv c d U acc _ _) (c.refl _)) ?_
   refine c.trans (c.add (c.add (c.refl _) (c.mul (c.of (a:=m.1*m.2[i]?.getD 0%10007) (b:=m.1*(ex m.2 i:Int)) ?_) (c.refl _))) (c.refl _)) (c.eq ?_)
   .unfold ex; rw [Int.toNat_of_nonneg h0,Int.emod_emod_of_dvd _ (Int.dvd_refl _)]
   .rw [zex U (fun k _=>zBG hi hm.1 k),addA]
  .rw [if_neg hpos]
   have:ex m.2 i=0:=by unfold ex; omega
   rw [this]
   have z:ofI (m.1*((0:Nat):Int))=(ofI 0:α):=by simp
   rw [z,zmul,zadd]
   exact c.refl _
theorem zz9 (c:Cg α) (d:Nat) (U:Nat->α) {n i:Nat} (hi:i<n) {p:List Mon} (hp:LOk n p):c.r (evM d U (derL i p)) (evM1 d i U p) :=
 c.trans (zn7 c d U hi p [] hp) (c.eq (zadd _))
def zbC (acc p:List Mon) (k:Nat):List (List Mon)->List Mon
 | []=>acc
 | F::f=>zbC (zhO acc 1 (zln F (derL k p))) p (k+1) f
def zca (f:List (List Mon)) (p:List Mon):List Mon:=zbC [] p 0 f
theorem zlU (acc p:List Mon) (k:Nat) (f g:List (List Mon)):zbC acc p k (f++g)=zbC (zbC acc p k f) p (k+f.length) g:=by
 induction f generalizing acc k with
 | nil=>rfl
 | cons F f ih=>simp only [List.cons_append,zbC,ih,List.length_cons]; congr 1; omega
theorem zeE {n:Nat} {k:Int} {e:List Int} (h:e.length=n/\∀ x∈e,0<=x):∀ (l:List Mon) (done:Bool),LOk n l->LOk n (zaL k e l done)
 | [],true,_,m,hm=>by simp [zaL] at hm
 | [],false,_,m,hm=>by simp [zaL] at hm; rw [hm]; exact h
 | a::l,done,hl,m,hm=>by
  have ha:=hl.hd
  have ih:=fun d=>zeE (k:=k) h l d hl.tl
  have one:∀ b:Mon,(b.2.length=n/\∀ x∈b.2,0<=x)->m∈(if b.1=0 then [] else [b])->(m.2.length=n/\∀ x∈m.2,0<=x):=fun b hb hmm=>by
   split at hmm
   .simp at hmm
   .simp at hmm; rw [hmm]; exact hb
  rw [zaL] at hm
  split at hm
  .rcases List.mem_append.1 hm with hm | hm
   .exact one ((a.1+k)%10007,a.2) ha hm
   .exact ih _ m hm
  .split at hm
   .rcases List.mem_cons.1 hm with hm | hm
    .rw [hm]; exact h
    .rcases List.mem_append.1 hm with hm | hm
     .exact one a ha hm
     .exact ih _ m hm
   .rcases List.mem_append.1 hm with hm | hm
    .exact one a ha hm
    .exact ih _ m hm
theorem zj8 {n:Nat} {k:Int}:∀ (q p:List Mon),LOk n q->LOk n p->LOk n (zhO p k q)
 | [],p,_,hp=>hp
 | m::q,p,hq,hp=>zj8 q _ hq.tl (zeE hq.hd p _ hp)
theorem zzP {n:Nat} {a b:List Int} (ha:a.length=n/\∀ x∈a,0<=x) (hb:b.length=n/\∀ x∈b,0<=x):(addE a b).length=n/\∀ x∈addE a b,0<=x:=by
 refine ⟨by unfold addE; simp; omega,fun x hx=>?_⟩
 obtain ⟨i,hi,rfl⟩:=List.getElem_of_mem hx
 unfold addE at hi |-
 simp at hi |-
 have h1:=ha.2 _ (List.getElem_mem (show i<a.length by omega))
 have h2:=hb.2 _ (List.getElem_mem (show i<b.length by omega))
 omega
theorem zgK {n:Nat} {a:Mon} (ha:a.2.length=n/\∀ x∈a.2,0<=x):∀ (q acc:List Mon),LOk n q->LOk n acc->LOk n (zc3 a acc q)
 | [],_,_,h=>h
 | b::q,acc,hq,h=>zgK ha q _ hq.tl (zeE (zzP ha hq.hd) acc _ h)
theorem ziu {n:Nat} {q:List Mon} (hq:LOk n q):∀ (p acc:List Mon),LOk n p->LOk n acc->LOk n (zeA acc q p)
 | [],_,_,h=>h
 | a::p,acc,hp,h=>ziu hq p _ hp.tl (zgK hp.hd q acc hq h)
theorem zgC {n i:Nat} (hi:i<n):∀ (p acc:List Mon),LOk n p->LOk n acc->LOk n (zfG i acc p)
 | [],acc,_,ha=>ha
 | a::p,acc,hp,ha=>by
  rw [zfG]
  have hav:=hp.hd
  refine zgC hi p _ hp.tl ?_
  split
  .rename_i hpos
   refine zeE ⟨by simpa using hav.1,fun x hx=>?_⟩ acc _ ha
   rcases List.mem_or_eq_of_mem_set hx with hx | rfl
   .exact hav.2 x hx
   .omega
  .exact ha
theorem zhx {n:Nat} {p:List Mon} (hp:LOk n p):∀ (f:List (List Mon)) (k:Nat) (acc:List Mon),k+f.length<=n->(∀ F∈f,LOk n F)->LOk n acc->LOk n (zbC acc p k f)
 | [],_,_,_,_,h=>h
 | F::f,k,acc,hk,hf,h=>by
  rw [List.length_cons] at hk
  exact zhx hp f (k+1) _ (by omega) (fun G hG=>hf G (by simp [hG])) (zj8 _ _ (ziu (zgC (by omega) p [] hp (by intro m hm; simp at hm)) F [] (hf F (by simp)) (by intro m hm; simp at hm)) h)
theorem zhZ {n:Nat} {f:List (List Mon)} {p:List Mon} (hp:LOk n p) (hf:∀ F∈f,LOk n F) (hl:f.length<=n):LOk n (zca f p):=zhx hp f 0 [] (by omega) hf (by intro m hm; simp at hm)
theorem zcr (f:Nat->α):∀ n,sT f (n+1)=f 0+sT (fun k=>f (k+1)) n
 | 0=>by simp only [sT]; rw [addC]
 | n+1=>by rw [sT,zcr f n,sT,addA]
theorem zis (c:Cg α) (d:Nat) (U:Nat->α) {n:Nat} {p:List Mon} (hp:LOk n p):∀ (f:List (List Mon)) (k:Nat) (acc:List Mon),k+f.length<=n->(∀ F∈f,LOk n F) ->
  c.r (evM d U (zbC acc p k f)) (evM d U acc+sT (fun j=>evM1 d (k+j) U p*evM d U (f[j]?.getD [])) f.length)
 | [],k,acc,_,_=>c.eq (add0 _).symm
 | F::f,k,acc,hk,hf=>by
  rw [List.length_cons] at hk
  rw [zbC,List.length_cons,zcr]
  have hD:LOk n (derL k p):=zgC (by omega) p [] hp (by intro m hm; simp at hm)
  refine c.trans (zis c d U hp f (k+1) _ (by omega) (fun G hG=>hf G (by simp [hG]))) ?_
  refine c.trans (c.add (c.trans (znr c d U 1 _ acc) (c.add (c.refl _) (c.mul (c.refl _) (c.trans (zvU c d U (hf F (by simp)) hD) (c.mul (c.refl _) (zz9 c d U (by omega) hp)))))) (c.refl _)) (c.eq ?_)
  have e1:sT (fun j=>evM1 d (k+1+j) U p*evM d U (f[j]?.getD [])) f.length=sT (fun j=>evM1 d (k+(j+1)) U p*evM d U ((F::f)[j+1]?.getD [])) f.length :=
   zbp (fun j _=>by simp [Nat.add_assoc,Nat.add_comm 1 j])
  rw [e1,omul,addA]
  simp only [Nat.add_zero,List.getElem?_cons_zero,Option.getD_some]
  rw [mulC (evM d U F)]
theorem zs7 (c:Cg α) (d:Nat) (U:Nat->α) {n:Nat} {p:List Mon} (hp:LOk n p) {f:List (List Mon)} (hl:f.length<=n) (hf:∀ F∈f,LOk n F) :
  c.r (evM d U (zca f p)) (sT (fun j=>evM1 d j U p*evM d U (f[j]?.getD [])) f.length):=by
 refine c.trans (zis c d U hp f 0 [] (by omega) hf) (c.eq ?_)
 rw [zdr,zadd]
 exact zbp (fun j _=>by rw [Nat.zero_add])
theorem zz8 (c:Cg α) {d N:Nat} {U:Nat->Ser α} {f:List (List Mon)} (hl:f.length=d) (hf:∀ F∈f,LOk d F)
  (hU:∀ k,k<d->∀ n,n<N->c.r (ofI ((n+1:Nat):Int)*U k (n+1)) (evM d U (f[k]?.getD []) n)) :
  ∀ (n:Nat) (L:List Mon),n<=N->LOk d L->c.r (ofI (fct n)*evM d U L n) (evM d (fun k=>U k 0) (Nat.repeat (zca f) n L)):=by
 refine zzd c (π:=List Mon) (fun L=>L.map tr) (F:=fun k=>f[k]?.getD []) (A:=zca f) (Ok:=LOk d) (fun L hL=>⟨zhZ hL hf (by omega),?_⟩) hU
 have:=zs7 (cgS c N) d U hL (f:=f) (by omega) hf
 rw [hl] at this
 exact this
end
end Go.Proofs.YthhdollpkieknaaGreat


namespace Go.Proofs.YthhdollpkieknaaGreat
open Go.Abs
theorem zky (c:Int) (e:List Int):∀ (l:List Mon) (done:Bool),(zaL c e l done).length<=l.length+1
 | [],true=>by simp [zaL]
 | [],false=>by simp [zaL]
 | m::l,done=>by
  have one:∀ b:Mon,(if b.1=0 then [] else [b]).length<=1:=fun b=>by split <;> simp
  have ht:∀ l:List Mon,(zaL c e l true).length<=l.length:=by
   intro l
   induction l with
   | nil=>simp [zaL]
   | cons m l ih=>rw [zra]; have:=one m; simp; omega
  have h1:=zky c e l done
  have h2:=ht l
  have h3:=one m
  have h4:=one ((m.1+c)%10007,m.2)
  simp only at h4
  rw [zaL]
  split
  .simp only [List.length_append,List.length_cons]; omega
  .split
   .simp only [List.length_append,List.length_cons]; omega
   .simp only [List.length_append,List.length_cons]; omega
theorem zt9 (L:List Mon) (c:Int) (e:List Int):(putL L c e).length<=L.length+1:=zky c e L _
theorem zdD {n:Nat} {B c:Int} {e:List Int} (h:WOk n B (c,e)):∀ (l:List Mon) (done:Bool),(∀ m∈l,WOk n B m)->∀ m∈zaL c e l done,WOk n B m
 | [],true,_,m,hm=>by simp [zaL] at hm
 | [],false,_,m,hm=>by simp [zaL] at hm; rw [hm]; exact h
 | a::l,done,hl,m,hm=>by
  have ha:=hl a (by simp)
  have ih:=fun d=>zdD h l d (fun b hb=>hl b (by simp [hb]))
  have one:∀ b:Mon,WOk n B b->m∈(if b.1=0 then [] else [b])->WOk n B m:=fun b hb hmm=>by
   split at hmm
   .simp at hmm
   .simp at hmm; rw [hmm]; exact hb
  rw [zaL] at hm
  split at hm
  .rcases List.mem_append.1 hm with hm | hm
   .exact one ((a.1+c)%10007,a.2) ⟨zaf _,ha.len,ha.pw⟩ hm
   .exact ih _ m hm
  .split at hm
   .rcases List.mem_cons.1 hm with hm | hm
    .rw [hm]; exact h
    .rcases List.mem_append.1 hm with hm | hm
     .exact one a ha hm
     .exact ih _ m hm
   .rcases List.mem_append.1 hm with hm | hm
    .exact one a ha hm
    .exact ih _ m hm
theorem WOk.low {n i:Nat} {B:Int} {m:Mon} (h:WOk n B m) (hi:i<n) (hp:0<m.2[i]?.getD 0):WOk n B (m.1*m.2[i]?.getD 0%10007,m.2.set i (m.2[i]?.getD 0-1)):=by
 have hl:=h.len
 refine ⟨zaf _,by simpa using hl,fun x hx=>?_⟩
 rcases List.mem_or_eq_of_mem_set hx with hx | rfl
 .exact h.pw x hx
 .have hm:m.2[i]?.getD 0∈m.2:=by
   rw [List.getElem?_eq_getElem (by omega),Option.getD_some]; exact List.getElem_mem _
  have:=h.pw _ hm
  omega
theorem zkd {n i:Nat} {B:Int} (hi:i<n):∀ (p acc:List Mon),(∀ m∈p,WOk n B m)->(∀ m∈acc,WOk n B m)->∀ m∈zfG i acc p,WOk n B m
 | [],acc,_,ha,m,hm=>ha m hm
 | a::p,acc,hp,ha,m,hm=>by
  rw [zfG] at hm
  have hav:=hp a (by simp)
  refine zkd hi p _ (fun b hb=>hp b (by simp [hb])) ?_ m hm
  split
  .rename_i hpos
   exact fun b hb=>zdD (hav.low hi hpos) acc _ ha b hb
  .exact ha
theorem zgO {a b:Int} (ha:isN a) (h0:0<=b) (h1:b<=1000000):fits (a*b):=by
 obtain ⟨a0,a1⟩:=ha
 have:=Int.mul_nonneg a0 h0
 have:a*b<=10006*1000000:=Int.mul_le_mul (by omega) h1 h0 (by omega)
 exact ⟨by omega,by omega⟩
theorem zk5 {n:Nat} (c:Key->Option Int) (i:Nat) (hi:i<n) (hn:n<=3) (hc:∀ k x,c k=some x->isN x/\KOk n k) :
  Con Tryz.prog 289 [.fmp c,.int i] (.mp (derM i c)):=by
 refine zab Tryz.mixed ⟨9,[],[],[]⟩ Tryz.func289 ?_
 rw [Tryz.ntmps289]
 simp [go_sem]
 intro es hes
 have hok:∀ e∈es,c e.1=some e.2:=fun e he=>hes.val e he
 refine zac (List.range' 5 34) (fun x:Option (Key × Int) × List (Key × Int)=>[(5,.mp (remD i c x.2)),(11,.it x.1 x.2)]) (fun x=>x.2.Pairwise (fun a b=>a.1≠b.1)/\∀ e∈x.2,c e.1=some e.2) (fun x=>x.2.length) (none,es) ⟨hes.nd,hok⟩ (by simp [go_sem,zoS hes]) (by simp [go_sem]) ?_
 rintro ⟨l,rem⟩ ⟨hnd,hrem⟩
 simp only at hnd hrem
 simp [go_sem,zdm]
 refine ⟨fun hr=>?_,fun l1 k0 k1 k2 x l2 hr=>?_⟩
 .subst hr
  exact zvp i c
 .subst hr
  have h3:i=0\/i=1\/i=2:=by omega
  have hcx:=hrem ((k0,k1,k2),x) (by simp)
  have hx:=hc _ _ hcx
  have hbx:=zfn.1 hx.2.1
  simp only at hcx hbx
  have hnum:=hx.1
  have hnd2:(l1++l2).Pairwise (fun a b=>a.1≠b.1):=hnd.sublist (List.Sublist.append (List.Sublist.refl _) (List.sublist_cons_self _ _))
  have hrem2:∀ a b c' y,((a,b,c'),y)∈l1++l2->c (a,b,c')=some y:=fun a b c' y hm=>hrem ((a,b,c'),y) (by
   rcases List.mem_append.1 hm with hm | hm <;> simp [hm])
  rcases h3 with rfl | rfl | rfl
  .have hz:remD 0 c (l1++((k0,k1,k2),x)::l2) (k0-1,k1,k2)=none:=zl1 (i:=0) (c:=c) (l1:=l1) (l2:=l2) (k0:=(k0,k1,k2)) (x:=x)
   simp [go_sem]
   by_cases hp:0<k0
   .have hs:mset (remD 0 c (l1++((k0,k1,k2),x)::l2)) (k0-1,k1,k2) (k0*x%10007)=remD 0 c (l1++l2):=zhd (i:=0) hnd hcx hp
    have hf:fits (k0*x):=by rw [Int.mul_comm]; exact zgO hnum (by omega) (by omega)
    simp [go_sem,hp,hz]
    refine ⟨⟨by omega,by omega⟩,by kernel_rfl,hf,?_⟩
    refine CallD.of (za3 _ hf.1 hf.2) ?_
    simp [go_sem]
    refine ⟨by kernel_rfl,?_⟩
    simp [go_sem]
    exact ⟨_,_,⟨hnd2,hrem2⟩,by simp; try omega,zaa _ _ _ (by simp),hs,rfl,rfl⟩
   .have hs:remD 0 c (l1++((k0,k1,k2),x)::l2)=remD 0 c (l1++l2):=zhC (i:=0) hnd hcx hp
    simp [go_sem,hp]
    exact ⟨_,_,⟨hnd2,hrem2⟩,by simp; try omega,zaa _ _ _ (by simp),hs,rfl,rfl⟩
  .have hz:remD 1 c (l1++((k0,k1,k2),x)::l2) (k0,k1-1,k2)=none:=zl1 (i:=1) (c:=c) (l1:=l1) (l2:=l2) (k0:=(k0,k1,k2)) (x:=x)
   simp [go_sem]
   by_cases hp:0<k1
   .have hs:mset (remD 1 c (l1++((k0,k1,k2),x)::l2)) (k0,k1-1,k2) (k1*x%10007)=remD 1 c (l1++l2):=zhd (i:=1) hnd hcx hp
    have hf:fits (k1*x):=by rw [Int.mul_comm]; exact zgO hnum (by omega) (by omega)
    simp [go_sem,hp,hz]
    refine ⟨⟨by omega,by omega⟩,by kernel_rfl,hf,?_⟩
    refine CallD.of (za3 _ hf.1 hf.2) ?_
    simp [go_sem]
    refine ⟨by kernel_rfl,?_⟩
    simp [go_sem]
    exact ⟨_,_,⟨hnd2,hrem2⟩,by simp; try omega,zaa _ _ _ (by simp),hs,rfl,rfl⟩
   .have hs:remD 1 c (l1++((k0,k1,k2),x)::l2)=remD 1 c (l1++l2):=zhC (i:=1) hnd hcx hp
    simp [go_sem,hp]
    exact ⟨_,_,⟨hnd2,hrem2⟩,by simp; try omega,zaa _ _ _ (by simp),hs,rfl,rfl⟩
  .have hz:remD 2 c (l1++((k0,k1,k2),x)::l2) (k0,k1,k2-1)=none:=zl1 (i:=2) (c:=c) (l1:=l1) (l2:=l2) (k0:=(k0,k1,k2)) (x:=x)
   simp [go_sem]
   by_cases hp:0<k2
   .have hs:mset (remD 2 c (l1++((k0,k1,k2),x)::l2)) (k0,k1,k2-1) (k2*x%10007)=remD 2 c (l1++l2):=zhd (i:=2) hnd hcx hp
    have hf:fits (k2*x):=by rw [Int.mul_comm]; exact zgO hnum (by omega) (by omega)
    simp [go_sem,hp,hz]
    refine ⟨⟨by omega,by omega⟩,by kernel_rfl,hf,?_⟩
    refine CallD.of (za3 _ hf.1 hf.2) ?_
    simp [go_sem]
    refine ⟨by kernel_rfl,?_⟩
    simp [go_sem]
    exact ⟨_,_,⟨hnd2,hrem2⟩,by simp; try omega,zaa _ _ _ (by simp),hs,rfl,rfl⟩
   .have hs:remD 2 c (l1++((k0,k1,k2),x)::l2)=remD 2 c (l1++l2):=zhC (i:=2) hnd hcx hp
    simp [go_sem,hp]
    exact ⟨_,_,⟨hnd2,hrem2⟩,by simp; try omega,zaa _ _ _ (by simp),hs,rfl,rfl⟩
end Go.Proofs.YthhdollpkieknaaGreat


namespace Go.Proofs.YthhdollpkieknaaGreat
open Go.Abs
theorem zaZ (A C:List (List Int)):omat (A++C)=omat A++omat C:=by simp [omat]
theorem zbq (r:List Int):omat [r]=[.own 2 r.length (avs r)]:=rfl
theorem zba:omat []=[]:=rfl
theorem zuf {n:Nat} {p:List Mon} (hn:n<=3) (hp:zbr (n:Int) p=true) {k:Key} {x:Int} (hk:polF p k=some x):isN x/\KOk n k:=by
 obtain ⟨m,hm,he⟩:=List.mem_map.1 ((zdC (zfm (by omega) hp)).1 hk)
 simp only [keyM,Prod.mk.injEq] at he
 obtain ⟨rfl,rfl⟩:=he
 have:=(zbQ hp hm).vok
 exact ⟨this.num,this.kok hn⟩
end Go.Proofs.YthhdollpkieknaaGreat


namespace Go.Proofs.YthhdollpkieknaaGreat
open Go.Abs
theorem memD {α:Type} {l:List α} {i:Nat} (d:α) (h:i<l.length):l[i]?.getD d∈l:=by simp [h]
theorem WOk.prod {n:Nat} {B C:Int} {a b:Mon} (ha:WOk n B a) (hb:WOk n C b):WOk n (B+C) (a.1*b.1%10007,addE a.2 b.2):=by
 have h1:=ha.len
 have h2:=hb.len
 refine ⟨zaf _,by simp [addE]; omega,fun x hx=>?_⟩
 obtain ⟨i,hi,rfl⟩:=List.getElem_of_mem hx
 unfold addE at hi |-
 simp at hi |-
 have p1:=ha.pw _ (List.getElem_mem (show i<a.2.length by omega))
 have p2:=hb.pw _ (List.getElem_mem (show i<b.2.length by omega))
 omega
theorem zgG {n:Nat} {B C:Int} {a:Mon} (ha:WOk n B a):∀ (q acc:List Mon),(∀ m∈q,WOk n C m)->(∀ m∈acc,WOk n (B+C) m)->∀ m∈zc3 a acc q,WOk n (B+C) m
 | [],_,_,h=>h
 | b::q,acc,hq,h=>zgG ha q _ (fun m hm=>hq m (by simp [hm])) (zdD (ha.prod (hq b (by simp))) acc _ h)
theorem zit {n:Nat} {B C:Int} {q:List Mon} (hq:∀ m∈q,WOk n C m):∀ (p acc:List Mon),(∀ m∈p,WOk n B m)->(∀ m∈acc,WOk n (B+C) m)->∀ m∈zeA acc q p,WOk n (B+C) m
 | [],_,_,h=>h
 | a::p,acc,hp,h=>zit hq p _ (fun m hm=>hp m (by simp [hm])) (zgG (hp a (by simp)) q acc hq h)
theorem zkI {n:Nat} {B k:Int}:∀ (q p:List Mon),(∀ m∈q,WOk n B m)->(∀ m∈p,WOk n B m)->∀ m∈zhO p k q,WOk n B m
 | [],p,_,hp=>hp
 | m::q,p,hq,hp=>zkI q _ (fun a ha=>hq a (by simp [ha])) (zdD ⟨zaf _,(hq m (by simp)).len,(hq m (by simp)).pw⟩ p _ hp)
def oneE (n k:Nat):List Int:=(List.replicate n 0).set k 1
@[simp] theorem zCN (n k:Nat):(oneE n k).length=n:=by simp [oneE]
theorem zux (n k:Nat) (hn:n<=1048576) (hk:k<n):Con Tryz.prog 275 [.int n,.int k] (.own 2 n (avs (oneE n k))):=by
 refine zab Tryz.mixed ⟨6,[],[],[]⟩ Tryz.func275 ?_
 rw [Tryz.ntmps275]
 simp [go_sem]
 refine ⟨⟨by omega,by omega⟩,hk,?_⟩
 rw [zc5,za0]; rfl
theorem zn1 {n i:Nat} {B:Int} (hi:i<n) {p:List Mon} (hp:∀ m∈p,WOk n B m):∀ m∈derL i p,WOk n B m:=zkd hi p [] hp (by simp)
theorem zth {n:Nat} {B C:Int} {p q:List Mon} (hp:∀ m∈p,WOk n B m) (hq:∀ m∈q,WOk n C m):∀ m∈zln p q,WOk n (B+C) m:=zit hq p [] hp (by simp)
end Go.Proofs.YthhdollpkieknaaGreat


namespace Go.Proofs.YthhdollpkieknaaGreat
open Go.Abs
end Go.Proofs.YthhdollpkieknaaGreat


namespace Go.Proofs.YthhdollpkieknaaGreat
open Go.Abs
def za6 (a b:List Int) (k:Int):List Int:=tb (fun i=>(a[i]?.getD 0+k%10007*b[i]?.getD 0)%10007) a.length
@[simp] theorem zbv (a b:List Int) (k:Int):(za6 a b k).length=a.length:=by simp [za6]
theorem zfh (a b:List Int) (k:Int):Ns (za6 a b k):=tb_N fun i _=>zaf _
def zbA (a:List Int) (k:Int):List Int:=tb (fun i=>a[i]?.getD 0*(k%10007)%10007) a.length
@[simp] theorem zaV (a:List Int) (k:Int):(zbA a k).length=a.length:=by simp [zbA]
theorem zfI (a:List Int) (k:Int):Ns (zbA a k):=tb_N fun i _=>zaf _
theorem ziv (a b:List Int) (k:Int) (ha:Ns a) (hb:Ns b) (hk:fits k) (hl:a.length<=1048576) (hab:a.length<=b.length) :
  Con Tryz.prog 84 [.sl a.length (avs a),.sl b.length (avs b),.int k] (.own 2 a.length (avs (za6 a b k))):=by
 refine zab Tryz.mixed ⟨10,[],[],[]⟩ Tryz.func84 ?_
 rw [Tryz.ntmps84]
 simp [go_sem]
 refine zac (7::8::9::List.range' 13 19) (fun i:Nat=>[(7,.own 2 i (avs (tb (fun i=>(a[i]?.getD 0+k%10007*b[i]?.getD 0)%10007) i))),(13,.int i)]) (fun i=>i<=a.length) (fun i=>a.length-i) 0 (by simp) (by simp [go_sem]) (by simp [go_sem]) ?_
 intro i hi
 simp [go_sem]
 refine ⟨fun h=>?_,fun h=>?_⟩ <;> simp at h
 .have h2:i<b.length:=by omega
  have m1:=zcG (zaf k) (hb.get i)
  have m2:=ha.get i
  have f1:fits (k%10007*b[i]?.getD 0):=⟨by omega,by omega⟩
  have f2:fits (a[i]?.getD 0+k%10007*b[i]?.getD 0):=by obtain ⟨x0,x1⟩:=m2; exact ⟨by omega,by omega⟩
  simp [go_sem,zae h,zae h2]
  refine ⟨⟨h,by rintro rfl; simp at h⟩,by kernel_rfl,?_⟩
  refine CallD.of (za3 _ hk.1 hk.2) ?_
  simp [go_sem]
  simp [go_sem,zae h,zae h2]
  refine ⟨⟨h2,by rintro rfl; simp at h2⟩,f1,f2,?_⟩
  refine CallD.of (za3 _ f2.1 f2.2) ?_
  simp [go_sem]
  refine ⟨by omega,?_⟩
  refine ⟨by kernel_rfl,?_⟩
  simp [go_sem]
  exact ⟨by omega,i+1,by omega,by omega,zaa _ _ _ (by simp),by simp [zbD,zam],by omega⟩
 .have e:i=a.length:=by omega
  subst e
  simp [go_sem]
  rfl
theorem zga (a:List Int) (k:Int) (ha:Ns a) (hk:fits k) (hl:a.length<=1048576) :
  Con Tryz.prog 79 [.sl a.length (avs a),.int k] (.own 2 a.length (avs (zbA a k))):=by
 refine zab Tryz.mixed ⟨8,[],[],[]⟩ Tryz.func79 ?_
 rw [Tryz.ntmps79]
 simp [go_sem]
 refine zac (5::7::List.range' 11 13) (fun i:Nat=>[(5,.own 2 i (avs (tb (fun i=>a[i]?.getD 0*(k%10007)%10007) i))),(11,.int i)]) (fun i=>i<=a.length) (fun i=>a.length-i) 0 (by simp) (by simp [go_sem]) (by simp [go_sem]) ?_
 intro i hi
 simp [go_sem]
 refine ⟨fun h=>?_,fun h=>?_⟩ <;> simp at h
 .have f1:=zax (ha.get i) (zaf k)
  simp [go_sem,zae h]
  refine ⟨⟨h,by rintro rfl; simp at h⟩,?_⟩
  refine CallVC.of (za3 _ hk.1 hk.2) ?_
  simp [go_sem]
  refine ⟨f1,?_⟩
  refine CallVC.of (za3 _ f1.1 f1.2) ?_
  simp [go_sem]
  exact ⟨by omega,by omega,i+1,by omega,by omega,zaa _ _ _ (by simp),by simp [zbD,zam],by omega⟩
 .have e:i=a.length:=by omega
  subst e
  simp [go_sem]
  rfl
theorem zr1 (xs:List Int) (hl:xs.length<=1048576):Con Tryz.prog 239 [.sl xs.length (avs xs)] (.own 2 xs.length (avs xs)):=by
 refine zoN Tryz.mixed ⟨3,[],[],[]⟩ Tryz.func239 ?_
 rw [Tryz.ntmps239]
 simp [go_sem]
 exact ⟨by omega,by omega⟩
end Go.Proofs.YthhdollpkieknaaGreat


namespace Go.Proofs.YthhdollpkieknaaGreat
open Go.Abs
@[go_sem] theorem zDh (W:List Nat) (s:Nat) (p:List Nat):kl W (.bor s p)=if W.contains s then .any else .bor s p:=by rw [kl]
@[go_sem] theorem zD9 (W:List Nat) (s:Nat) (p:List Nat) (o:Nat):kl W (.ptr s p o)=if W.contains s then .any else .ptr s p o:=by rw [kl]
theorem zbz {A:List (List Int)} {k:Nat} (h:k<A.length):(omat A)[k]?=some (.own 2 (A[k]?.getD []).length (avs (A[k]?.getD []))):=by simp [omat,h]
end Go.Proofs.YthhdollpkieknaaGreat


namespace Go.Proofs.YthhdollpkieknaaGreat
open Go.Abs
def stE (A:List (List Int)) (B:List Int) (z:Int) (f:List (List Mon)) (y:List Int):Int:=if (tabB A B && zaM z f)=false then 1 else if vecB z y=false then 2 else 0
theorem zs4 (A:List (List Int)) (B:List Int) (z:Int) (f:List (List Mon)) (y:List Int) (hA:A.length<=1048576) (hB:B.length<=1048576) (hr:∀ r∈A,r.length<=1048576) (hs:zcj f) (hy:y.length<=1048576) :
  Con Tryz.prog 64 [.agg [.sl A.length (mat A),.sl B.length (avs B)],.agg [.int z,.sl f.length (prt f)],.sl y.length (avs y)] (.int (stE A B z f y)):=by
 have cA:=zzD A B (by omega) (by omega) (fun r h=>by have:=hr r h; omega)
 have cT:=zsN z f hs
 have cR:=zpt z y (by omega)
 have hvb:(decide ((y.length:Int)=z) && zbS y)=vecB z y:=rfl
 rw [hvb] at cR
 unfold stE
 generalize tabB A B=a at *
 generalize zaM z f=b at *
 generalize vecB z y=c at *
 cases a <;> cases b <;> cases c
 all_goals simp only [Bool.and_self,Bool.and_false,Bool.false_and,Bool.true_and,Bool.false_eq_true,if_true,if_false,reduceCtorEq]
 .refine zab Tryz.mixed ⟨7,[],[],[]⟩ Tryz.func64 ?_
  rw [Tryz.ntmps64]
  simp [go_sem]
  refine CallVC.of (cA) ?_
  simp [go_sem]
 .refine zab Tryz.mixed ⟨7,[],[],[]⟩ Tryz.func64 ?_
  rw [Tryz.ntmps64]
  simp [go_sem]
  refine CallVC.of (cA) ?_
  simp [go_sem]
 .refine zab Tryz.mixed ⟨7,[],[],[]⟩ Tryz.func64 ?_
  rw [Tryz.ntmps64]
  simp [go_sem]
  refine CallVC.of (cA) ?_
  simp [go_sem]
 .refine zab Tryz.mixed ⟨7,[],[],[]⟩ Tryz.func64 ?_
  rw [Tryz.ntmps64]
  simp [go_sem]
  refine CallVC.of (cA) ?_
  simp [go_sem]
 .refine zab Tryz.mixed ⟨7,[],[],[]⟩ Tryz.func64 ?_
  rw [Tryz.ntmps64]
  simp [go_sem]
  refine CallVC.of (cA) ?_
  simp [go_sem]
  refine CallVC.of (cT) ?_
  simp [go_sem]
 .refine zab Tryz.mixed ⟨7,[],[],[]⟩ Tryz.func64 ?_
  rw [Tryz.ntmps64]
  simp [go_sem]
  refine CallVC.of (cA) ?_
  simp [go_sem]
  refine CallVC.of (cT) ?_
  simp [go_sem]
 .refine zab Tryz.mixed ⟨7,[],[],[]⟩ Tryz.func64 ?_
  rw [Tryz.ntmps64]
  simp [go_sem]
  refine CallVC.of (cA) ?_
  simp [go_sem]
  refine CallVC.of (cT) ?_
  simp [go_sem]
  refine CallVC.of (cR) ?_
  simp [go_sem]
 .refine zab Tryz.mixed ⟨7,[],[],[]⟩ Tryz.func64 ?_
  rw [Tryz.ntmps64]
  simp [go_sem]
  refine CallVC.of (cA) ?_
  simp [go_sem]
  refine CallVC.of (cT) ?_
  simp [go_sem]
  refine CallVC.of (cR) ?_
  simp [go_sem]
theorem zg9 (A:List (List Int)) (B:List Int) (z:Int) (f:List (List Mon)) (y:List Int) (hA:A.length<=1048576) (hB:B.length<=1048576) (hr:∀ r∈A,r.length<=1048576) (hs:zcj f) (hy:y.length<=1048576) :
  Con Tryz.prog 59 [.agg [.sl A.length (mat A),.sl B.length (avs B)],.agg [.int z,.sl f.length (prt f)],.sl y.length (avs y)] (.int (stE A B z f y)):=by
 have cA:=zc0 A B (by omega) (by omega) (fun r h=>by have:=hr r h; omega)
 have cT:=zgz z f hs
 have cR:=zfu z f.length (prt f) y (by omega)
 unfold stE
 generalize tabB A B=a at *
 generalize zaM z f=b at *
 generalize vecB z y=c at *
 cases a <;> cases b <;> cases c
 all_goals simp only [Bool.and_self,Bool.and_false,Bool.false_and,Bool.true_and,Bool.false_eq_true,if_true,if_false,reduceCtorEq]
 .refine zab Tryz.mixed ⟨7,[],[],[]⟩ Tryz.func59 ?_
  rw [Tryz.ntmps59]
  simp [go_sem]
  refine CallVC.of (cA) ?_
  simp [go_sem]
 .refine zab Tryz.mixed ⟨7,[],[],[]⟩ Tryz.func59 ?_
  rw [Tryz.ntmps59]
  simp [go_sem]
  refine CallVC.of (cA) ?_
  simp [go_sem]
 .refine zab Tryz.mixed ⟨7,[],[],[]⟩ Tryz.func59 ?_
  rw [Tryz.ntmps59]
  simp [go_sem]
  refine CallVC.of (cA) ?_
  simp [go_sem]
 .refine zab Tryz.mixed ⟨7,[],[],[]⟩ Tryz.func59 ?_
  rw [Tryz.ntmps59]
  simp [go_sem]
  refine CallVC.of (cA) ?_
  simp [go_sem]
 .refine zab Tryz.mixed ⟨7,[],[],[]⟩ Tryz.func59 ?_
  rw [Tryz.ntmps59]
  simp [go_sem]
  refine CallVC.of (cA) ?_
  simp [go_sem]
  refine CallVC.of (cT) ?_
  simp [go_sem]
 .refine zab Tryz.mixed ⟨7,[],[],[]⟩ Tryz.func59 ?_
  rw [Tryz.ntmps59]
  simp [go_sem]
  refine CallVC.of (cA) ?_
  simp [go_sem]
  refine CallVC.of (cT) ?_
  simp [go_sem]
 .refine zab Tryz.mixed ⟨7,[],[],[]⟩ Tryz.func59 ?_
  rw [Tryz.ntmps59]
  simp [go_sem]
  refine CallVC.of (cA) ?_
  simp [go_sem]
  refine CallVC.of (cT) ?_
  simp [go_sem]
  refine CallVC.of (cR) ?_
  simp [go_sem]
 .refine zab Tryz.mixed ⟨7,[],[],[]⟩ Tryz.func59 ?_
  rw [Tryz.ntmps59]
  simp [go_sem]
  refine CallVC.of (cA) ?_
  simp [go_sem]
  refine CallVC.of (cT) ?_
  simp [go_sem]
  refine CallVC.of (cR) ?_
  simp [go_sem]
theorem zt0 {A:List (List Int)} {B:List Int} {z:Int} {f:List (List Mon)} {y:List Int} (h:stE A B z f y=0):tabB A B=true/\zaM z f=true/\vecB z y=true:=by
 unfold stE at h
 generalize tabB A B=a at *
 generalize zaM z f=b at *
 generalize vecB z y=c at *
 cases a <;> cases b <;> cases c <;> simp_all
end Go.Proofs.YthhdollpkieknaaGreat


namespace Go.Proofs.YthhdollpkieknaaGreat
open Go.Abs
end Go.Proofs.YthhdollpkieknaaGreat


namespace Go.Proofs.YthhdollpkieknaaGreat
open Go.Abs
end Go.Proofs.YthhdollpkieknaaGreat


namespace Go.Proofs.YthhdollpkieknaaGreat
open Go.Abs
def MapN (c:Key->Option Int):Prop:=∀ k x,c k=some x->isN x
theorem zD1 (o q:Key->Option Int) (x:Int) (ho:MapN o) (hq:MapN q) (hx:fits x) :
  MCon Tryz.prog 288 [.mp o,.fmp q,.int x] (.tup []) [.mp (addM o q x),.any,.any]:=by
 refine zdU Tryz.mixed ⟨8,[],[],[]⟩ [0] Tryz.func288 ?_
 rw [Tryz.ntmps288]
 simp [go_sem]
 intro es hes
 have hval:∀ e∈es,q e.1=some e.2:=fun e he=>hes.val e he
 refine zac (0::6::7::List.range' 9 17) (fun y:Option (Key × Int) × List (Key × Int)=>[(0,.mp (remA o q x y.2)),(9,.it y.1 y.2)]) (fun y=>y.2.Pairwise (fun a b=>a.1≠b.1)/\∀ e∈y.2,q e.1=some e.2) (fun y=>y.2.length) (none,es) ⟨hes.nd,hval⟩ (by simp [go_sem,zoW hes]) (by simp [go_sem]) ?_
 rintro ⟨l,rem⟩ ⟨hnd,hrem⟩
 simp only at hnd hrem
 simp [go_sem,zdm]
 refine ⟨fun hr=>?_,fun l1 k0 k1 k2 b l2 hr=>?_⟩
 .subst hr
  exact zwb o q x
 .subst hr
  have hcx:=hrem ((k0,k1,k2),b) (by simp)
  have hb:isN b:=hq _ _ hcx
  have hnd2:(l1++l2).Pairwise (fun a b=>a.1≠b.1):=hnd.sublist (List.Sublist.append (List.Sublist.refl _) (List.sublist_cons_self _ _))
  have hrem2:∀ a b c' y,((a,b,c'),y)∈l1++l2->q (a,b,c')=some y:=fun a b c' y hm=>hrem ((a,b,c'),y) (by
   rcases List.mem_append.1 hm with hm | hm <;> simp [hm])
  have hz:remA o q x (l1++((k0,k1,k2),b)::l2) (k0,k1,k2)=o (k0,k1,k2):=zxF
  have hs:mset (remA o q x (l1++((k0,k1,k2),b)::l2)) (k0,k1,k2) (((o (k0,k1,k2)).getD 0+x%10007*b)%10007)=remA o q x (l1++l2):=zs3 hnd hcx
  have ho0:isN ((o (k0,k1,k2)).getD 0):=by
   cases hh:o (k0,k1,k2) with
   | none=>simp [isN]
   | some v=>exact ho _ _ hh
  simp [go_sem,hz]
  refine ⟨by kernel_rfl,?_⟩
  refine CallD.of (za3 _ hx.1 hx.2) ?_
  simp [go_sem]
  generalize (o (k0,k1,k2)).getD 0=w at *
  have hm:=zcG (zaf x) hb
  have hf1:fits (x%10007*b):=⟨by omega,by omega⟩
  have hf2:fits (w+x%10007*b):=by obtain ⟨w0,w1⟩:=ho0; exact ⟨by omega,by omega⟩
  refine ⟨hf1,hf2,?_⟩
  refine CallD.of (za3 _ hf2.1 hf2.2) ?_
  simp [go_sem]
  refine ⟨by kernel_rfl,?_⟩
  simp [go_sem]
  exact ⟨_,_,⟨hnd2,hrem2⟩,by simp; try omega,zaa _ _ _ (by simp),hs,rfl,rfl⟩
theorem zBQ {i:Nat} {c:Key->Option Int}:MapN (derM i c):=by
 intro k x hx
 unfold derM at hx
 split at hx
 .split at hx
  .injection hx with hx; rw [<- hx]; exact zaf _
  .simp at hx
 .simp at hx
theorem zAS {o q:Key->Option Int} {x:Int} (ho:MapN o):MapN (addM o q x):=by
 intro k a ha
 unfold addM at ha
 split at ha
 .injection ha with ha; rw [<- ha]; exact zaf _
 .exact ho k a ha
theorem zwW (v:List Int) (c:Key->Option Int):∀ n,MapN (aloM v c n)
 | 0=>by intro k a ha; simp [aloM,ziU] at ha
 | n+1=>zAS (zwW v c n)
theorem ztU {n:Nat} {o q:Key->Option Int} {x:Int} (ho:∀ k a,o k=some a->isN a/\KOk n k) (hq:∀ k a,q k=some a->isN a/\KOk n k):∀ k a,addM o q x k=some a->isN a/\KOk n k:=by
 intro k a ha
 unfold addM at ha
 split at ha
 .rename_i b hb
  injection ha with ha; rw [<- ha]; exact ⟨zaf _,(hq k b hb).2⟩
 .exact ho k a ha
theorem zmN {n:Nat} {v:List Int} {c:Key->Option Int} (hn:n<=3) (hc:∀ k x,c k=some x->isN x/\KOk n k):∀ m,m<=n->∀ k x,aloM v c m k=some x->isN x/\KOk n k
 | 0,_=>by intro k x hx; simp [aloM,ziU] at hx
 | m+1,hm=>ztU (zmN hn hc m (by omega)) (zzb (by omega) hn hc)
theorem zyd {n:Nat} (c:Key->Option Int) (v:List Int) (hv:Ns v) (hl:v.length=n) (hn:n<=3) (hc:∀ k x,c k=some x->isN x/\KOk n k) :
  Con Tryz.prog 241 [.fmp c,.sl v.length (avs v)] (.mp (aloM v c n)):=by
 refine zab Tryz.mixed ⟨8,[19],[288],[]⟩ Tryz.func241 ?_
 rw [Tryz.ntmps241]
 simp [go_sem]
 refine zac (5::6::7::List.range' 11 12) (fun i:Nat=>[(5,.mp (aloM v c i)),(11,.int i)]) (fun i=>i<=n) (fun i=>n-i) 0 (by simp) (by simp [go_sem,aloM]) (by simp [go_sem]) ?_
 intro i hi
 simp [go_sem]
 refine ⟨fun h=>?_,fun h=>?_⟩ <;> simp at h
 .have hy:yat v i=v[i]?.getD 0:=rfl
  have cD:=zk5 (n:=n) c i (by omega) hn hc
  have cA:=zD1 (aloM v c i) (derM i c) (v[i]?.getD 0) (zwW v c i) zBQ (by have:=hv.get i; exact ⟨by obtain ⟨a,b⟩:=this; omega,by obtain ⟨a,b⟩:=this; omega⟩)
  simp [go_sem,zae h]
  refine ⟨⟨h,by rintro rfl; simp at h⟩,?_⟩
  refine CallVC.of (cD) ?_
  simp [go_sem]
  refine ⟨_,_,cA,?_⟩
  simp [go_sem]
  exact ⟨by omega,i+1,by omega,by omega,zaa _ _ _ (by simp),rfl,by omega⟩
 .simp [go_sem]
  have e:i=n:=by omega
  subst e; rfl
end Go.Proofs.YthhdollpkieknaaGreat


namespace Go.Proofs.YthhdollpkieknaaGreat
open Go.Abs
def sum3 (k:Key):Int:=k.1+k.2.1+k.2.2
def DegLe (C:Key->Int) (D:Int):Prop:=∀ k,NN k->D<sum3 k->C k=0
theorem zuZ (i:Nat) (k:Key):sum3 (inc i k)=sum3 k+1:=by
 obtain ⟨a,b,c⟩:=k
 unfold inc sum3
 split
 .simp; omega
 .split <;> (simp; omega)
theorem DegLe.der {C:Key->Int} {D:Int} (h:DegLe C D) (i:Nat):DegLe (der i C) (D-1):=by
 intro k hk hd
 unfold Go.Proofs.YthhdollpkieknaaGreat.der
 rw [h (inc i k) (hk.inc i) (by rw [zuZ]; omega),Int.mul_zero]
theorem DegLe.alo {C:Key->Int} {D:Int} (h:DegLe C D) (v:Nat->Int):∀ n,DegLe (alo v C n) (D-1)
 | 0=>fun _ _ _=>rfl
 | n+1=>fun k hk hd=>by
  show Go.Proofs.YthhdollpkieknaaGreat.alo v C n k+v n*Go.Proofs.YthhdollpkieknaaGreat.der n C k=0
  rw [DegLe.alo h v n k hk hd,h.der n k hk hd]; simp
theorem DegLe.dv {n:Nat}:∀ (vs:List (List Int)) {C:Key->Int} {D:Int},DegLe C D->DegLe (Dv n vs C) (D-vs.length)
 | [],C,D,h=>by simpa [Dv] using h
 | v::vs,C,D,h=>by
  have:=DegLe.dv (n:=n) vs (h.alo (yat v) n)
  rw [Dv]
  intro k hk hd
  exact this k hk (by simp at hd; omega)
theorem zwj {e:List Int} (h:e.length<=3):sum3 (zaw e)=e.sum:=by
 match e,h with
 | [],_=>rfl
 | [a],_=>simp [sum3,zaw]
 | [a,b],_=>simp [sum3,zaw]
 | [a,b,c],_=>simp [sum3,zaw]; omega
theorem zuL {n:Nat} {p:List Mon} (hn:n<=3) (hp:zbr (n:Int) p=true):DegLe (cfL p) 3:=by
 intro k hk hd
 unfold cfL coef
 refine zbO (fun m hm=>if_neg (fun e=>?_))
 have ho:=zbQ hp hm
 have:=ho.deg
 rw [e,zwj (by have:=ho.len; omega)] at hd
 omega
theorem zoR {n:Nat} {p:List Mon} {y:List Int} (hn:n<=3) (hp:zbr (n:Int) p=true) (vs:List (List Int)) (hv:3<vs.length) :
  Val (yat y) (gv (DvM n vs (polF p)))%10007=0:=by
 rw [zgF _ (zoa n vs (polF p))]
 have e:gv (polF p)=cfL p:=funext (zlR (zfm (by omega) hp))
 rw [e]
 have hd:=(zuL hn hp).dv (n:=n) vs
 have:Val (yat y) (Dv n vs (cfL p))=0:=by
  unfold Val
  refine zbO (fun k hk=>?_)
  have hN:=NN.box hk
  obtain ⟨a,b,c⟩:=hN
  rw [hd k (NN.box hk) (by unfold sum3; omega),Int.zero_mul]
 rw [this]; rfl
theorem znb (n:Nat) (v:List Int):∀ (vs:List (List Int)) (c:Key->Option Int),DvM n (vs++[v]) c=aloM v (DvM n vs c) n
 | [],c=>rfl
 | u::vs,c=>by rw [List.cons_append,DvM,znb n v vs,DvM]
theorem zvW {n:Nat} {vs:List (List Int)} {i:Nat} (h:i<vs.length) (c:Key->Option Int):DvM n (vs.take (i+1)) c=aloM (vs[i]?.getD []) (DvM n (vs.take i) c) n:=by
 rw [List.take_add_one,List.getElem?_eq_getElem h,Option.toList_some,znb]; rfl
theorem zmx {n:Nat} (hn:n<=3):∀ (vs:List (List Int)) {c:Key->Option Int},(∀ k x,c k=some x->isN x/\KOk n k)->∀ k x,DvM n vs c k=some x->isN x/\KOk n k
 | [],c,h=>h
 | v::vs,c,h=>zmx hn vs (zmN hn h n (Nat.le_refl n))
def drvP (y:List Int) (n:Nat) (vs:List (List Int)) (p:List Mon):Int:=if 3<vs.length then 0 else zkn y n vs p%10007
def drvL (y:List Int) (n:Nat) (vs:List (List Int)) (f:List (List Mon)):List Int:=f.map (drvP y n vs)
@[simp] theorem zCZ (y:List Int) (n:Nat) (vs:List (List Int)) (f:List (List Mon)):(drvL y n vs f).length=f.length:=by simp [drvL]
theorem zsD {y:List Int} {n:Nat} {vs:List (List Int)} {f:List (List Mon)} {i:Nat} (h:i<f.length):drvL y n vs (f.take (i+1))=drvL y n vs (f.take i)++[drvP y n vs (f[i]?.getD [])]:=by
 rw [drvL,drvL,List.take_add_one,List.map_append,List.getElem?_eq_getElem h]; rfl
theorem zsc {n:Nat} {p:List Mon} {y:List Int} (hn:n<=3) (hl:y.length=n) (hp:zbr (n:Int) p=true) (vs:List (List Int)) :
  Val (yat y) (gv (DvM n vs (polF p)))%10007=drvP y n vs p:=by
 unfold drvP
 by_cases h:3<vs.length
 .rw [if_pos h,zoR hn hp vs h]
 .rw [if_neg h,zvj hn hl hp vs]
@[simp] theorem zDC (A:List (List Int)):frzL (mat A)=mat A:=by
 induction A with
 | nil=>rfl
 | cons r A ih=>simp only [mat,List.map_cons,frzL] at ih |-; rw [ih]; rfl
def Vecs (n:Nat) (vs:List (List Int)):Prop:=∀ v∈vs,v.length=n/\Ns v
theorem zhN (z:Int) (f:List (List Mon)) (y:List Int) (vs:List (List Int)) (hf:FieldOk z f) (hs:zcj f) (hy:Ns y) (hl:(y.length:Int)=z) (hv:Vecs y.length vs) (hvl:vs.length<=1048576) :
  Con Tryz.prog 171 [.sl f.length (zd7 f),.sl y.length (avs y),.sl vs.length (mat vs)] (.own 2 f.length (avs (drvL y y.length vs f))):=by
 have fl:=hs.1
 have z3:=hf.hi
 refine zab Tryz.mixed ⟨12,[27],[],[]⟩ Tryz.func171 ?_
 rw [Tryz.ntmps171]
 simp [go_sem]
 refine zac (7::9::11::List.range' 15 21) (fun i:Nat=>[(7,.own 2 i (avs (drvL y y.length vs (f.take i)))),(15,.int i)]) (fun i=>i<=f.length) (fun i=>f.length-i) 0 (by simp) (by simp [go_sem,drvL]) (by simp [go_sem]) ?_
 intro i hi
 simp [go_sem]
 refine ⟨fun h=>?_,fun h=>?_⟩ <;> simp at h
 .have hif:=h
  have hx:f[i]?.getD []∈f:=by simp [h]
  have hdl:=zsD (y:=y) (n:=y.length) (vs:=vs) h
  have hpp:zbr (y.length:Int) (f[i]?.getD [])=true:=by rw [hl]; exact hf.part _ hx
  have hq:∀ kk x,polF (f[i]?.getD []) kk=some x->isN x/\KOk y.length kk:=fun kk x hkx=>zuf (by omega) hpp hkx
  simp [go_sem,zij hif]
  refine ⟨⟨hif,by rintro rfl; simp at hif⟩,?_⟩
  refine zac (9::11::List.range' 21 8) (fun j:Nat=>[(9,.fmp (DvM y.length (vs.take j) (polF (f[i]?.getD [])))),(21,.int j)]) (fun j=>j<=vs.length) (fun j=>vs.length-j) 0 (by simp) (by simp [go_sem,DvM]) (by simp [go_sem]) ?_
  intro j hj
  simp [go_sem]
  refine ⟨fun h=>?_,fun h=>?_⟩ <;> simp at h
  .have hvm:vs[j]?.getD []∈vs:=by simp [h]
   have hvj:=hv _ hvm
   have cA:=zyd (n:=y.length) (DvM y.length (vs.take j) (polF (f[i]?.getD []))) (vs[j]?.getD []) hvj.2 hvj.1 (by omega) (zmx (by omega) _ hq)
   have ht:=zvW (n:=y.length) h (polF (f[i]?.getD []))
   simp [go_sem,zag h]
   refine ⟨⟨h,by rintro rfl; simp at h⟩,?_⟩
   refine CallVC.of (cA) ?_
   simp [go_sem]
   exact ⟨by omega,j+1,by omega,by omega,zaa _ _ _ (by simp),ht.symm,by omega⟩
  .have e:j=vs.length:=by omega
   subst e
   have cV:=zum (DvM y.length vs (polF (f[i]?.getD []))) y hy (by omega) (zmx (by omega) _ hq)
   rw [zsc (by omega) rfl hpp] at cV
   rw [List.take_length]
   simp [go_sem]
   refine CallVC.of (cV) ?_
   simp [go_sem]
   exact ⟨by omega,by omega,i+1,by omega,by omega,(Off.reset (by intro x hx; simp at hx |-; omega) (by simp) (by simp [go_sem,zaa])),by rw [hdl]; simp [zam],by omega⟩
 .simp [go_sem]
  have e:i=f.length:=by omega
  subst e; simp
theorem zjy {z:Int} {y:List Int}:vecB z y=true ↔ (y.length:Int)=z/\Ns y:=by
 unfold vecB; simp [zdH]
end Go.Proofs.YthhdollpkieknaaGreat


namespace Go.Proofs.YthhdollpkieknaaGreat
open Go.Abs
end Go.Proofs.YthhdollpkieknaaGreat


namespace Go.Proofs.YthhdollpkieknaaGreat
def okB (t:List Int) (j:Nat):Bool:=decide (1<=t[j]?.getD 0) && decide (t[j]?.getD 0<=t[j-1]?.getD 0+1)
def lv0 (t:List Int):Bool:=decide (0<t.length) && decide (t[0]?.getD 0=0) && (List.range t.length).all (fun j=>decide (j=0) || okB t j)
def lvB (t:List Int):Bool:=lv0 t && decide (t.length<=8)
def zcU (out:List (List Int)) (x:Int):List (List Int) :=
 let o:=if x=1 then out++[[]] else out
 o.set (o.length-1) (o[o.length-1]?.getD []++[x-1])
def brGo (out:List (List Int)):List Int->List (List Int)
 | []=>out
 | x::l=>brGo (zcU out x) l
def brs (t:List Int):List (List Int):=brGo [] (t.drop 1)
theorem ztS (out:List (List Int)) (l r:List Int):brGo out (l++r)=brGo (brGo out l) r:=by
 induction l generalizing out with
 | nil=>rfl
 | cons x l ih=>exact ih _
theorem ziX {t:List Int} {i:Nat} (h1:1<=i) (h:i<t.length):brs (t.take (i+1))=zcU (brs (t.take i)) (t[i]?.getD 0):=by
 unfold brs
 have e:(t.take (i+1)).drop 1=(t.take i).drop 1++[t[i]?.getD 0]:=by
  rw [List.take_add_one,List.getElem?_eq_getElem h,Option.toList_some,List.drop_append_of_le_length (by simp; omega)]; rfl
 rw [e,ztS]; rfl
def Lv (t:List Int):Prop:=0<t.length/\t[0]?.getD 0=0/\∀ j,0<j->j<t.length->1<=t[j]?.getD 0/\t[j]?.getD 0<=t[j-1]?.getD 0+1
theorem zxc {t:List Int} (h:lv0 t=true):Lv t:=by
 unfold lv0 at h
 simp only [Bool.and_eq_true,decide_eq_true_eq,List.all_eq_true] at h
 refine ⟨h.1.1,h.1.2,fun j h1 h2=>?_⟩
 have:=h.2 j (by simpa using h2)
 rw [decide_eq_false (by omega)] at this
 unfold okB at this
 simpa using this
theorem Lv.le {t:List Int} (h:Lv t):∀ j,j<t.length->0<=t[j]?.getD 0/\t[j]?.getD 0<=j
 | 0,_=>by rw [h.2.1]; omega
 | j+1,hj=>by
  have h1:=h.le j (by omega)
  have h2:=h.2.2 (j+1) (by omega) hj
  rw [Nat.add_sub_cancel] at h2
  omega
theorem Lv.snoc {t:List Int} {x:Int} (h:Lv t) (h1:1<=x) (h2:x<=t[t.length-1]?.getD 0+1):Lv (t++[x]):=by
 obtain ⟨k1,k2,k3⟩:=h
 refine ⟨by simp,by rw [List.getElem?_append_left k1]; exact k2,fun j hj hl=>?_⟩
 simp at hl
 by_cases e:j=t.length
 .subst e
  rw [List.getElem?_append_right (by omega),List.getElem?_append_left (by omega)]
  simp; exact ⟨h1,h2⟩
 .rw [List.getElem?_append_left (by omega),List.getElem?_append_left (by omega)]
  exact k3 j hj (by omega)
theorem zmb:Lv [0]:=⟨by simp,rfl,fun j h1 h2=>by simp at h2; omega⟩
def sumN:List (List Int)->Nat
 | []=>0
 | b::l=>b.length+sumN l
theorem zgn (a b:List (List Int)):sumN (a++b)=sumN a+sumN b:=by
 induction a with
 | nil=>simp [sumN]
 | cons x a ih=>simp [sumN,ih]; omega
theorem zoC {l:List (List Int)} {b:List Int} (h:b∈l):b.length<=sumN l:=by
 induction l with
 | nil=>simp at h
 | cons x l ih =>
  rw [sumN]
  rcases List.mem_cons.1 h with rfl | h
  .omega
  .have:=ih h; omega
theorem zvI {l:List (List Int)} (h:∀ b∈l,0<b.length):l.length<=sumN l:=by
 induction l with
 | nil=>simp
 | cons x l ih =>
  have h1:=h x (by simp)
  have h2:=ih (fun b hb=>h b (by simp [hb]))
  rw [sumN]; simp; omega
def BrI (out:List (List Int)) (p:Int) (n:Nat):Prop :=
 (∀ b∈out,Lv b)/\sumN out=n/\((out=[]/\p=0)\/∃ i l,out=i++[l]/\l[l.length-1]?.getD 0=p-1)
theorem zmO {out:List (List Int)} {p x:Int} {n:Nat} (h:BrI out p n) (h1:1<=x) (h2:x<=p+1):BrI (zcU out x) x (n+1)/\(x≠1->out≠[]):=by
 obtain ⟨k1,k2,k3⟩:=h
 by_cases hx:x=1
 .subst hx
  have e:zcU out 1=out++[[0]]:=by
   unfold zcU
   simp only [if_true]
   rw [List.set_append_right _ _ (by simp),List.getElem?_append_right (by simp)]
   simp
  rw [e]
  refine ⟨⟨fun b hb=>?_,by rw [zgn,k2]; rfl,.inr ⟨out,[0],rfl,rfl⟩⟩,by simp⟩
  rcases List.mem_append.1 hb with hb | hb
  .exact k1 b hb
  .simp at hb; subst hb; exact zmb
 .rcases k3 with ⟨rfl,rfl⟩ | ⟨i,l,rfl,hl⟩
  .omega
  .have e:zcU (i++[l]) x=i++[l++[x-1]]:=by
    unfold zcU
    simp only [if_neg hx]
    rw [List.set_append_right _ _ (by simp),List.getElem?_append_right (by simp)]
    simp
   rw [e]
   have hLl:=k1 l (by simp)
   refine ⟨⟨fun b hb=>?_,?_,.inr ⟨i,_,rfl,by simp⟩⟩,by simp⟩
   .rcases List.mem_append.1 hb with hb | hb
    .exact k1 b (by simp [hb])
    .simp at hb; subst hb
     exact hLl.snoc (by omega) (by rw [hl]; omega)
   .rw [zgn] at k2 |-
    simp [sumN] at k2 |-; omega
theorem zq6 {t:List Int} (h:Lv t):∀ i,1<=i->i<=t.length->BrI (brs (t.take i)) (t[i-1]?.getD 0) (i-1)
 | 1,_,_=>by
  have e:brs (t.take 1)=[]:=by
   unfold brs
   cases t with
   | nil=>rfl
   | cons a t=>rfl
  rw [e]
  refine ⟨by simp,rfl,.inl ⟨rfl,?_⟩⟩
  simpa using h.2.1
 | i+2,_,hl=>by
  have ih:=zq6 h (i+1) (by omega) (by omega)
  have hb:=h.2.2 (i+1) (by omega) (by omega)
  rw [ziX (by omega) (by omega)]
  exact (zmO ih hb.1 hb.2).1
theorem zBr {t:List Int} (h:Lv t) {i:Nat} (h1:1<=i) (hl:i<t.length) (hx:t[i]?.getD 0≠1):brs (t.take i)≠[]:=by
 have ih:=zq6 h i h1 (by omega)
 have hb:=h.2.2 i (by omega) hl
 exact (zmO ih hb.1 hb.2).2 hx
theorem zcO {t:List Int} (h:Lv t) {b:List Int} (hb:b∈brs t):Lv b/\b.length<t.length:=by
 have hl:=h.1
 have:=zq6 h t.length (by omega) (by omega)
 rw [List.take_length] at this
 obtain ⟨k1,k2,_⟩:=this
 have:=zoC hb
 exact ⟨k1 b hb,by omega⟩
theorem zjg {t:List Int} (h:Lv t) {i:Nat} (h1:1<=i) (hl:i<=t.length):(brs (t.take i)).length<i:=by
 obtain ⟨k1,k2,_⟩:=zq6 h i h1 hl
 have:=zvI (fun b hb=>(k1 b hb).1)
 omega
end Go.Proofs.YthhdollpkieknaaGreat


namespace Go.Proofs.YthhdollpkieknaaGreat
open Go.Abs
end Go.Proofs.YthhdollpkieknaaGreat


namespace Go.Proofs.YthhdollpkieknaaGreat
open Go.Abs
theorem zdK (A:List (List Int)) (k:Nat) (l:List Int):(omat A).set k (.own 2 l.length (avs l))=omat (A.set k l):=by
 simp [omat,List.map_set]
theorem zrj {A:List (List Int)} (h:A≠[]):(omat A)[A.length-1]?=some (.own 2 (A[A.length-1]?.getD []).length (avs (A[A.length-1]?.getD []))):=by
 have hl:A.length-1<A.length:=by have:=List.length_pos_iff.2 h; omega
 simp [omat,hl]
theorem zpi (A:List (List Int)):zcU A 1=A++[[0]]:=by
 unfold zcU
 simp only [if_true]
 rw [List.set_append_right _ _ (by simp),List.getElem?_append_right (by simp)]
 simp
theorem zmz {A:List (List Int)} {x:Int} (h:x≠1):zcU A x=A.set (A.length-1) (A[A.length-1]?.getD []++[x-1]):=by
 unfold zcU; simp only [if_neg h]
theorem zbe (t:List Int) (hl:t.length<=1048576) (ht:Lv t):Con Tryz.prog 170 [.sl t.length (avs t)] (.own 25 (brs t).length (omat (brs t))):=by
 have ht1:=ht.1
 have ed:List.take (t.length-1) (List.drop 1 (avs t))=avs (t.drop 1):=by
  rw [List.take_of_length_le (by simp)]; simp [avs]
 refine zab Tryz.mixed ⟨6,[],[],[]⟩ Tryz.func170 ?_
 rw [Tryz.ntmps170]
 simp [go_sem]
 refine ⟨by omega,?_⟩
 refine zac (3::5::List.range' 10 25) (fun i:Nat=>[(3,.own 25 (brs (t.take (i+1))).length (omat (brs (t.take (i+1))))),(10,.int i)]) (fun i=>i+1<=t.length) (fun i=>t.length-i) 0 (by omega) (by simp [go_sem]; cases t <;> simp [brs,brGo,zba]) (by simp [go_sem]) ?_
 rintro i hi
 simp [go_sem]
 refine ⟨fun h=>?_,fun h=>?_⟩ <;> simp at h
 .have hif:i+1<t.length:=by omega
  have hda:List.drop i (List.take (t.length-1) (avs t).tail)=.val (.int .i64 (t[i+1]?.getD 0))::avs (t.drop (i+2)):=by
   rw [List.take_of_length_le (by simp),<- List.drop_one,List.drop_drop,Nat.add_comm 1 i,zae hif]; simp
  have hnn:¬ (avs t).tail=[]:=fun e=>by have:=congrArg List.length e; simp at this; omega
  have hn1:¬ t.length-1=0:=by omega
  have hn2:i<t.length-1:=by omega
  have hb:=ziX (i:=i+1) (by omega) hif
  have hm:=zjg ht (i:=i+1) (by omega) (by omega)
  have hi2:=zq6 ht (i+1) (by omega) (by omega)
  have hok:=ht.2.2 (i+1) (by omega) hif
  have hle:=ht.le (i+1) hif
  by_cases hx:t[i+1]?.getD 0=1
  .rw [hx,zpi] at hb
   have e1:(brs (t.take (i+1))).length+1=(brs (t.take (i+1+1))).length:=by rw [hb]; simp
   have e2:omat (brs (t.take (i+1)))++[AV.own 2 1 [AV.val (Value.int IntKind.i64 0)]]=omat (brs (t.take (i+1+1))):=by rw [hb,zaZ,zbq]; rfl
   simp [go_sem,hda,hnn,hn1,hn2,hx]
   exact ⟨⟨by omega,by omega⟩,by omega,by omega,by omega,i+1,by omega,by omega,zaa _ _ _ (by simp),⟨e1,e2⟩,by omega⟩
  .have hne:=zBr ht (i:=i+1) (by omega) hif hx
   have hla:=zrj hne
   rw [zmz hx] at hb
   generalize hO:brs (t.take (i+1))=O at *
   have hOl:1<=O.length:=List.length_pos_iff.2 hne
   have hlen:(O[O.length-1]?.getD []).length<=1048576:=by
    have:=zoC (l:=O) (b:=O[O.length-1]?.getD []) (by simp [show O.length-1<O.length by omega])
    have:=hi2.2.1
    omega
   have hsn:=zdK O (O.length-1) (O[O.length-1]?.getD []++[t[i+1]?.getD 0-1])
   rw [<- hb] at hsn
   generalize O[O.length-1]?.getD []=l at *
   have e1:O.length=(brs (t.take (i+1+1))).length:=by rw [hb]; simp
   rw [zam,List.length_append,List.length_singleton] at hsn
   simp [go_sem,hda,hnn,hn1,hn2,hx,hla]
   repeat' apply And.intro
   all_goals first
    | omega
    | exact ⟨i+1,by omega,by omega,zaa _ _ _ (by simp),⟨e1,hsn⟩,by omega⟩
 .simp [go_sem]
  have e:t.take (i+1)=t:=List.take_of_length_le (by omega)
  rw [e]
  simp
end Go.Proofs.YthhdollpkieknaaGreat


namespace Go.Proofs.YthhdollpkieknaaGreat
open Go.Abs
def edF (f:List (List Mon)) (y:List Int):Nat->List Int->List Int
 | 0,_=>[]
 | n+1,t=>drvL y y.length ((brs t).map (edF f y n)) f
theorem zl7 {f:List (List Mon)} {y:List Int} {n:Nat} (h:0<n) (t:List Int):(edF f y n t).length=f.length:=by
 cases n with
 | zero=>omega
 | succ n=>simp [edF]
theorem zBp (y:List Int) (n:Nat) (vs:List (List Int)) (f:List (List Mon)):Ns (drvL y n vs f):=by
 intro x hx
 obtain ⟨p,_,rfl⟩:=List.mem_map.1 hx
 unfold drvP
 split
 .exact ⟨by omega,by omega⟩
 .exact zaf _
theorem zy1 {f:List (List Mon)} {y:List Int} {n:Nat} (t:List Int):Ns (edF f y n t):=by
 cases n with
 | zero=>intro x hx; simp [edF] at hx
 | succ n=>exact zBp _ _ _ _
theorem zvf {f:List (List Mon)} {y:List Int} {m:Nat} {t:List Int} (ht:Lv t) (hm:t.length<=m+1) (hl:f.length=y.length):Vecs y.length ((brs t).map (edF f y m)):=by
 intro v hv
 obtain ⟨b,hb,rfl⟩:=List.mem_map.1 hv
 obtain ⟨h1,h2⟩:=zcO ht hb
 have h3:=h1.1
 exact ⟨by rw [zl7 (by omega),hl],zy1 b⟩
theorem zi7 {t:List Int} (h:Lv t):(brs t).length<t.length:=by
 have h1:=h.1
 have:=zjg h (i:=t.length) (by omega) (by omega)
 rwa [List.take_length] at this
theorem zeU (A:List (List Int)) (i:Nat) (h:i<A.length):omat (A.take (i+1))=omat (A.take i)++[.own 2 (A[i]?.getD []).length (avs (A[i]?.getD []))]:=by
 rw [List.take_add_one,zaZ]; simp [h,omat]
theorem zhS (z:Int) (f:List (List Mon)) (y:List Int) (hf:FieldOk z f) (hs:zcj f) (hy:Ns y) (hl:(y.length:Int)=z) :
  ∀ (n:Nat) (t:List Int),Lv t->t.length<=n->t.length<=1048576->Con Tryz.prog 85 [.sl f.length (zd7 f),.sl t.length (avs t),.sl y.length (avs y)] (.own 2 f.length (avs (edF f y n t))):=by
 intro n
 induction n with
 | zero=>intro t ht hn; have:=ht.1; omega
 | succ m ih =>
  intro t ht hn ht2
  have fl:=hs.1
  have z3:=hf.hi
  have hfl:=hf.len
  have hcnt:=zi7 ht
  have hV:=zvf (f:=f) (y:=y) ht hn (by omega)
  have cD:=zhN z f y ((brs t).map (edF f y m)) hf hs hy hl hV (by simp; omega)
  rw [List.length_map] at cD
  refine zab Tryz.mixed ⟨10,[12],[],[]⟩ Tryz.func85 ?_
  rw [Tryz.ntmps85]
  simp [go_sem]
  refine CallVC.of (zbe t ht2 ht) ?_
  simp [go_sem]
  refine zac (7::9::List.range' 14 12) (fun i:Nat=>[(7,.own 25 i (omat (((brs t).map (edF f y m)).take i))),(14,.int i)]) (fun i=>i<=(brs t).length) (fun i=>(brs t).length-i) 0 (by simp) (by simp [go_sem,zba]) (by simp [go_sem]) ?_
  intro i hi
  simp [go_sem]
  refine ⟨fun h=>?_,fun h=>?_⟩ <;> simp at h
  .have hb:(brs t)[i]?.getD []∈brs t:=by simp [h]
   obtain ⟨h1,h2⟩:=zcO ht hb
   have h3:=h1.1
   have cI:=ih ((brs t)[i]?.getD []) h1 (by omega) (by omega)
   have hlen:=zl7 (f:=f) (y:=y) (n:=m) (by omega) ((brs t)[i]?.getD [])
   have ho:=zeU ((brs t).map (edF f y m)) i (by simpa using h)
   have he:((brs t).map (edF f y m))[i]?.getD []=edF f y m ((brs t)[i]?.getD []):=by simp [h]
   rw [he,hlen] at ho
   simp [go_sem,zag h]
   refine ⟨⟨h,fun e=>by rw [e] at h; simp at h⟩,?_⟩
   refine CallVC.of (cI) ?_
   simp [go_sem]
   exact ⟨⟨by omega,by omega⟩,by omega,i+1,by omega,by omega,zaa _ _ _ (by simp),⟨rfl,ho.symm⟩,by omega⟩
  .have e:i=(brs t).length:=by omega
   subst e
   rw [List.take_of_length_le (by simp)]
   simp [go_sem]
   refine CallVC.of (cD) ?_
   simp [go_sem]
   rfl
end Go.Proofs.YthhdollpkieknaaGreat


namespace Go.Proofs.YthhdollpkieknaaGreat
open Go.Abs
def colS (a:List (List Int)) (k:Nat):List Int:=tb (fun i=>(a[i]?.getD [])[k]?.getD 0) a.length
@[simp] theorem zje (a:List (List Int)) (k:Nat):(colS a k).length=a.length:=by simp [colS]
def zay (a:List (List Int)):List (List Int):=(List.range (a[0]?.getD []).length).map (colS a)
@[simp] theorem za5 (a:List (List Int)):(zay a).length=(a[0]?.getD []).length:=by simp [zay]
theorem zmi (a:List (List Int)) (k:Nat) (hl:a.length<=1048576) (hr:∀ r∈a,k<r.length) (hk:k<=1048576) :
  Con Tryz.prog 226 [.sl a.length (mat a),.int k] (.own 2 a.length (avs (colS a k))):=by
 refine zab Tryz.mixed ⟨7,[],[],[]⟩ Tryz.func226 ?_
 rw [Tryz.ntmps226]
 simp [go_sem]
 refine zac (5::6::List.range' 8 16) (fun i:Nat=>[(5,.own 2 i (avs (tb (fun i=>(a[i]?.getD [])[k]?.getD 0) i))),(6,.int i)]) (fun i=>i<=a.length) (fun i=>a.length-i) 0 (by simp) (by simp [go_sem]) (by simp [go_sem]) ?_
 intro i hi
 simp [go_sem]
 refine ⟨fun h=>?_,fun h=>?_⟩ <;> simp at h
 .have hx:k<(a[i]?.getD []).length:=hr _ (by simp [h])
  simp [go_sem,zag h,zae hx]
  refine ⟨⟨h,by rintro rfl; simp at h⟩,⟨hx,by intro e; simp [e] at hx⟩,?_⟩
  exact ⟨⟨by omega,by omega⟩,by omega,i+1,by omega,by omega,zaa _ _ _ (by simp),by simp [zbD,zam],by omega⟩
 .have e:i=a.length:=by omega
  subst e
  simp [go_sem]
  rfl
theorem zwe (a:List (List Int)) (k:Nat) (hl:a.length<=1048576) (hr:∀ r∈a,k<r.length) (hk:k<=1048576) :
  Con Tryz.prog 144 [.sl a.length (mat a),.int k] (.own 2 a.length (avs (colS a k))):=by
 refine zab Tryz.mixed ⟨8,[],[],[]⟩ Tryz.func144 ?_
 rw [Tryz.ntmps144]
 simp [go_sem]
 refine zac (5::7::List.range' 11 12) (fun i:Nat=>[(5,.own 2 i (avs (tb (fun i=>(a[i]?.getD [])[k]?.getD 0) i))),(11,.int i)]) (fun i=>i<=a.length) (fun i=>a.length-i) 0 (by simp) (by simp [go_sem]) (by simp [go_sem]) ?_
 intro i hi
 simp [go_sem]
 refine ⟨fun h=>?_,fun h=>?_⟩ <;> simp at h
 .have hx:k<(a[i]?.getD []).length:=hr _ (by simp [h])
  simp [go_sem,zag h,zae hx]
  refine ⟨⟨h,by rintro rfl; simp at h⟩,⟨hx,by intro e; simp [e] at hx⟩,?_⟩
  exact ⟨⟨by omega,by omega⟩,by omega,i+1,by omega,by omega,zaa _ _ _ (by simp),by simp [zbD,zam],by omega⟩
 .have e:i=a.length:=by omega
  subst e
  simp [go_sem]
  rfl
theorem zaW (g:Nat->List Int) (i:Nat):omat ((List.range (i+1)).map g)=omat ((List.range i).map g)++[.own 2 (g i).length (avs (g i))]:=by
 rw [List.range_succ,List.map_append,zaZ]; rfl
theorem zkP (a:List (List Int)) (hl:a.length<=1048576) (h0:0<a.length) (hr:∀ r∈a,r.length=(a[0]?.getD []).length) (hn:(a[0]?.getD []).length<=1048576) :
  Con Tryz.prog 151 [.sl a.length (mat a)] (.own 25 (zay a).length (omat (zay a))):=by
 rw [za5]
 refine zab Tryz.mixed ⟨5,[],[],[]⟩ Tryz.func151 ?_
 rw [Tryz.ntmps151]
 simp [go_sem]
 refine zac (3::4::List.range' 6 14) (fun i:Nat=>[(3,.own 25 i (omat ((List.range i).map (colS a)))),(4,.int i)]) (fun i=>i<=(a[0]?.getD []).length) (fun i=>(a[0]?.getD []).length-i) 0 (by simp) (by simp [go_sem,zba]) (by simp [go_sem]) ?_
 intro i hi
 have m0:=zag h0
 simp only [List.drop_zero] at m0
 simp [go_sem,m0]
 have m1:AV.sl (a[0]?.getD []).length (avs (a[0]?.getD []))::mat a.tail=mat a:=by cases a with | nil=>simp at h0 | cons x l=>simp [mat]
 simp only [m1]
 refine ⟨h0,?_⟩
 refine ⟨fun h=>?_,fun h=>?_⟩ <;> simp at h
 .simp [go_sem]
  refine CallVC.of (zmi a i hl (fun r h2=>by rw [hr r h2]; exact h) (by omega)) ?_
  simp [go_sem]
  have ho:=zaW (colS a) i
  rw [zje] at ho
  exact ⟨⟨by omega,by omega⟩,by omega,i+1,by omega,by omega,zaa _ _ _ (by simp),by rw [ho]; exact ⟨rfl,rfl⟩,by omega⟩
 .have e:i=(a[0]?.getD []).length:=by omega
  subst e
  simp [go_sem]
  rfl
theorem zjl (a:List (List Int)) (hl:a.length<=1048576) (h0:0<a.length) (hr:∀ r∈a,r.length=(a[0]?.getD []).length) (hn:(a[0]?.getD []).length<=1048576) :
  Con Tryz.prog 60 [.sl a.length (mat a)] (.own 25 (zay a).length (omat (zay a))):=by
 rw [za5]
 have m0:=zag h0
 simp only [List.drop_zero] at m0
 refine zab Tryz.mixed ⟨5,[],[],[]⟩ Tryz.func60 ?_
 rw [Tryz.ntmps60]
 simp [go_sem]
 simp [go_sem,m0]
 have m1:AV.sl (a[0]?.getD []).length (avs (a[0]?.getD []))::mat a.tail=mat a:=by cases a with | nil=>simp at h0 | cons x l=>simp [mat]
 simp only [m1]
 refine ⟨⟨h0,by rintro rfl; simp at h0⟩,?_⟩
 refine zac (3::4::List.range' 10 10) (fun i:Nat=>[(3,.own 25 i (omat ((List.range i).map (colS a)))),(10,.int i)]) (fun i=>i<=(a[0]?.getD []).length) (fun i=>(a[0]?.getD []).length-i) 0 (by simp) (by simp [go_sem,zba]) (by simp [go_sem]) ?_
 intro i hi
 simp [go_sem]
 refine ⟨fun h=>?_,fun h=>?_⟩ <;> simp at h
 .simp [go_sem]
  refine CallVC.of (zwe a i hl (fun r h2=>by rw [hr r h2]; exact h) (by omega)) ?_
  simp [go_sem]
  have ho:=zaW (colS a) i
  rw [zje] at ho
  exact ⟨⟨by omega,by omega⟩,by omega,i+1,by omega,by omega,zaa _ _ _ (by simp),by rw [ho]; exact ⟨rfl,rfl⟩,by omega⟩
 .have e:i=(a[0]?.getD []).length:=by omega
  subst e
  simp [go_sem]
  rfl
theorem zgS (a:List (List Int)) (hl:a.length<=1048576) (hr:∀ r∈a,r.length<=1048576) :
  Con Tryz.prog 222 [.sl a.length (mat a)] (.own 25 a.length (omat a)):=by
 refine zab Tryz.mixed ⟨6,[],[],[]⟩ Tryz.func222 ?_
 rw [Tryz.ntmps222]
 simp [go_sem]
 refine zac (3::5::List.range' 9 10) (fun i:Nat=>[(3,.own 25 i (omat (a.take i))),(9,.int i)]) (fun i=>i<=a.length) (fun i=>a.length-i) 0 (by simp) (by simp [go_sem,zba]) (by simp [go_sem]) ?_
 intro i hi
 simp [go_sem]
 refine ⟨fun h=>?_,fun h=>?_⟩ <;> simp at h
 .simp [go_sem,zag h]
  refine ⟨⟨h,by rintro rfl; simp at h⟩,?_⟩
  refine CallVC.of (zr1 (a[i]?.getD []) (hr _ (by simp [h]))) ?_
  simp [go_sem]
  have ht:=zeU a i h
  refine ⟨⟨by omega,by omega,by omega⟩,by omega,i+1,by omega,by omega,zaa _ _ _ (by simp),by rw [ht]; exact ⟨rfl,rfl⟩,by omega⟩
 .have e:i=a.length:=by omega
  subst e
  simp [go_sem]
theorem zrA (a:List (List Int)) (hl:a.length<=1048576) (hr:∀ r∈a,r.length<=1048576) :
  Con Tryz.prog 227 [.sl a.length (mat a)] (.own 25 a.length (omat a)):=by
 refine zab Tryz.mixed ⟨5,[],[],[]⟩ Tryz.func227 ?_
 rw [Tryz.ntmps227]
 simp [go_sem]
 refine zac (3::4::List.range' 6 14) (fun i:Nat=>[(3,.own 25 i (omat (a.take i))),(4,.int i)]) (fun i=>i<=a.length) (fun i=>a.length-i) 0 (by simp) (by simp [go_sem,zba]) (by simp [go_sem]) ?_
 intro i hi
 simp [go_sem]
 refine ⟨fun h=>?_,fun h=>?_⟩ <;> simp at h
 .simp [go_sem,zag h]
  refine ⟨⟨h,by rintro rfl; simp at h⟩,?_⟩
  refine CallVC.of (zew (a[i]?.getD []) (by have:=hr _ (show a[i]?.getD []∈a by simp [h]); omega)) ?_
  simp [go_sem]
  have ht:=zeU a i h
  refine ⟨⟨by omega,by omega,by omega⟩,by omega,i+1,by omega,by omega,zaa _ _ _ (by simp),by rw [ht]; exact ⟨rfl,rfl⟩,by omega⟩
 .have e:i=a.length:=by omega
  subst e
  simp [go_sem]
end Go.Proofs.YthhdollpkieknaaGreat


namespace Go.Proofs.YthhdollpkieknaaGreat
open Go.Abs
def raiS (a:List Int):List Int:=tb (fun i=>if i=0 then 0 else a[i-1]?.getD 0) a.length
@[simp] theorem zwk (a:List Int):(raiS a).length=a.length:=by simp [raiS]
theorem zCo {a:List Int} (h:Ns a):Ns (raiS a):=tb_N fun i _=>by split; exact ⟨by omega,by omega⟩; exact h.get _
def rakS (a:List Int) (k:Int):List Int:=tb (fun i=>if i=0 then 0 else a[i-1]?.getD 0*k%10007) a.length
@[simp] theorem zwc (a:List Int) (k:Int):(rakS a k).length=a.length:=by simp [rakS]
theorem zB8 (a:List Int) (k:Int):Ns (rakS a k):=tb_N fun i _=>by split; exact ⟨by omega,by omega⟩; exact zaf _
theorem zzB {a:List Int} (h:0<a.length):raiS a=0::a.take (a.length-1):=by
 refine List.ext_getElem (by simp; omega) fun i h1 h2=>?_
 cases i with
 | zero=>simp [raiS,tb]
 | succ j =>
  simp only [raiS,tb,List.getElem_map,List.getElem_range,List.getElem_cons_succ,List.getElem_take]
  simp at h2
  have:j<a.length:=by omega
  simp [this]
theorem zuC (a:List Int) (hl:a.length<=1048576) (h0:0<a.length) :
  Con Tryz.prog 223 [.sl a.length (avs a)] (.own 2 a.length (avs (raiS a))):=by
 rw [zzB h0]
 refine zab Tryz.mixed ⟨3,[],[],[]⟩ Tryz.func223 ?_
 rw [Tryz.ntmps223]
 simp [go_sem]
 exact ⟨⟨by omega,by omega⟩,⟨by omega,by omega⟩,⟨by omega,by omega⟩,by omega,by simp [avs,List.map_take]⟩
theorem zoQ (a:List Int) (k:Int) (ha:Ns a) (hk:isN k) (hl:a.length<=1048576) (h0:0<a.length) :
  Con Tryz.prog 229 [.sl a.length (avs a),.int k] (.own 2 a.length (avs (rakS a k))):=by
 refine zab Tryz.mixed ⟨7,[],[],[]⟩ Tryz.func229 ?_
 rw [Tryz.ntmps229]
 simp [go_sem]
 refine zac (5::6::List.range' 8 16) (fun i:Nat=>[(5,.own 2 (i+1) (avs (tb (fun i=>if i=0 then 0 else a[i-1]?.getD 0*k%10007) (i+1)))),(6,.int i)]) (fun i=>i+1<=a.length) (fun i=>a.length-i) 0 (by simp; omega) (by simp [go_sem,tb,avs]) (by simp [go_sem]) ?_
 intro i hi
 simp [go_sem]
 refine ⟨by omega,?_⟩
 refine ⟨fun h=>?_,fun h=>?_⟩ <;> simp at h
 .have hi2:i<a.length:=by omega
  simp [go_sem,zae hi2]
  refine ⟨⟨hi2,by rintro rfl; simp at hi2⟩,?_⟩
  refine CallVC.of (zcm _ _ (zax (ha.get i) hk)) ?_
  simp [go_sem]
  refine ⟨⟨by omega,by omega⟩,by omega,i+1,by omega,by omega,zaa _ _ _ (by simp),?_,by omega⟩
  simp [zbD,avs]
 .have e:i+1=a.length:=by omega
  simp [go_sem]
  exact ⟨e,by rw [e]; rfl⟩
def zb2 (X:List (List (List Int))):List AV:=X.map fun m=>.own 25 m.length (omat m)
def cube (X:List (List (List Int))):List AV:=X.map fun m=>.sl m.length (mat m)
@[simp] theorem zA0 (X:List (List (List Int))):(zb2 X).length=X.length:=by simp [zb2]
@[simp] theorem zCY (X:List (List (List Int))):(cube X).length=X.length:=by simp [cube]
@[simp] theorem zDg {X:List (List (List Int))}:(cube X=[])=(X=[]):=by cases X <;> simp [cube]
@[simp] theorem zsY:∀ X:List (List (List Int)),frzL (zb2 X)=cube X
 | []=>rfl
 | m::X=>by
  have:=zsY X
  simp only [zb2,cube,List.map_cons] at this |-
  rw [frzL,this]
  simp [frz]
@[simp] theorem zlS:∀ X:List (List (List Int)),zan (zb2 X)=true
 | []=>rfl
 | m::X=>by
  have:=zlS X
  simp only [zb2,List.map_cons] at this |-
  rw [zan,this]
  simp [zau]
theorem zkh {X:List (List (List Int))} {k:Nat} (h:k<X.length):(cube X).drop k=.sl (X[k]?.getD []).length (mat (X[k]?.getD []))::cube (X.drop (k+1)):=by
 rw [cube,<- List.map_drop,List.drop_eq_getElem_cons h,List.map_cons]; simp [h,cube]
theorem zjZ (A C:List (List (List Int))):zb2 (A++C)=zb2 A++zb2 C:=by simp [zb2]
theorem zsh (r:List (List Int)):zb2 [r]=[.own 25 r.length (omat r)]:=rfl
end Go.Proofs.YthhdollpkieknaaGreat


namespace Go.Proofs.YthhdollpkieknaaGreat
open Go.Abs
def mvS (start:List (List Int)) (c:List Int) (L:List (List (List Int))):Nat->List (List Int)
 | 0=>start
 | i+1=>(List.range start.length).map fun k=>za6 ((mvS start c L i)[k]?.getD []) (raiS ((L[i]?.getD [])[k]?.getD [])) (c[i]?.getD 0)
theorem za9 (start:List (List Int)) (c:List Int) (L:List (List (List Int))):∀ i,(mvS start c L i).length=start.length
 | 0=>rfl
 | i+1=>by simp [mvS]
theorem zdl {start:List (List Int)} {c:List Int} {L:List (List (List Int))} {n:Nat} (h:∀ r∈start,r.length=n/\Ns r):∀ i,∀ r∈mvS start c L i,r.length=n/\Ns r
 | 0=>h
 | i+1=>by
  intro r hr
  rw [mvS] at hr
  obtain ⟨k,hk,rfl⟩:=List.mem_map.1 hr
  have hk:k<start.length:=by simpa using hk
  have hm:(mvS start c L i)[k]?.getD []∈mvS start c L i:=by simp [za9,hk]
  exact ⟨by rw [zbv]; exact (zdl h i _ hm).1,zfh _ _ _⟩
def mxS (A C:List (List Int)) (j:Nat):List (List Int):=(List.range A.length).map fun k=>if k<j then C[k]?.getD [] else A[k]?.getD []
theorem zi1 (A C:List (List Int)):mxS A C 0=A:=by
 refine List.ext_getElem (by simp [mxS]) fun i h1 h2=>?_
 simp [mxS,h2]
theorem zli {A C:List (List Int)} (h:C.length=A.length):mxS A C A.length=C:=by
 refine List.ext_getElem (by simp [mxS,h]) fun i h1 h2=>?_
 simp [mxS,show i<A.length by omega,h2]
@[simp] theorem zmh (A C:List (List Int)) (j:Nat):(mxS A C j).length=A.length:=by simp [mxS]
theorem zmn {A C:List (List Int)} {j:Nat} (h:j<A.length):(mxS A C j)[j]?.getD []=A[j]?.getD []:=by simp [mxS,h]
theorem zlM {A C:List (List Int)} {j:Nat} (h:j<A.length):(mxS A C j).set j (C[j]?.getD [])=mxS A C (j+1):=by
 refine List.ext_getElem (by simp) fun i h1 h2=>?_
 simp at h1
 rw [List.getElem_set]
 by_cases e:j=i
 .subst e; simp [mxS]
 .simp only [e,if_false,mxS,List.getElem_map,List.getElem_range]
  by_cases h3:i<j
  .simp [h3,show i<j+1 by omega]
  .simp [h3,show ¬ i<j+1 by omega]
theorem zqv (start:List (List Int)) (c:List Int) (L:List (List (List Int))) (n:Nat) (hn:0<n) (hn8:n<=8) (hs:∀ r∈start,r.length=n/\Ns r) (hl:start.length<=1048576) (hc:c.length<=8) (hcL:c.length<=L.length) (hcN:Ns c) (hL:∀ m∈L,m.length=start.length/\∀ r∈m,r.length=n/\Ns r) (hLl:L.length<=1048576) :
  Con Tryz.prog 145 [.sl start.length (mat start),.sl c.length (avs c),.sl L.length (cube L)] (.own 25 start.length (omat (mvS start c L c.length))):=by
 refine zab Tryz.mixed ⟨11,[],[],[]⟩ Tryz.func145 ?_
 rw [Tryz.ntmps145]
 simp [go_sem]
 refine CallVC.of (zgS start hl (fun r hr=>by have:=(hs r hr).1; omega)) ?_
 simp [go_sem]
 refine zac (7::8::9::10::List.range' 15 29) (fun i:Nat=>[(7,.own 25 start.length (omat (mvS start c L i))),(15,.int i)]) (fun i=>i<=c.length) (fun i=>c.length-i) 0 (by simp) (by simp [go_sem,mvS]) (by simp [go_sem]) ?_
 intro i hi
 simp [go_sem]
 refine ⟨fun h=>?_,fun h=>?_⟩ <;> simp at h
 .have hic:=h
  have hiL:i<L.length:=by omega
  simp [go_sem,zae hic]
  refine ⟨⟨hic,by rintro rfl; simp at hic⟩,?_⟩
  refine zac (7::10::List.range' 22 21) (fun j:Nat=>[(7,.own 25 start.length (omat (mxS (mvS start c L i) (mvS start c L (i+1)) j))),(22,.int j)]) (fun j=>j<=start.length) (fun j=>start.length-j) 0 (by simp) (by simp [go_sem,zi1]) (by simp [go_sem]) ?_
  intro j hj
  simp [go_sem]
  refine ⟨fun h=>?_,fun h=>?_⟩ <;> simp at h
  .have hjs:=h
   have hM:j<(mxS (mvS start c L i) (mvS start c L (i+1)) j).length:=by rw [zmh,za9]; exact hjs
   have hg:=zbz hM
   have hj2:j<(mvS start c L i).length:=by rw [za9]; exact hjs
   rw [zmn hj2] at hg
   have hx:=hL (L[i]?.getD []) (by simp [hiL])
   have hjL:j<(L[i]?.getD []).length:=by omega
   have hy:=hx.2 ((L[i]?.getD [])[j]?.getD []) (by simp [hjL])
   have hz:=zdl (c:=c) (L:=L) hs i ((mvS start c L i)[j]?.getD []) (by simp [hj2])
   have hset:=zdK (mxS (mvS start c L i) (mvS start c L (i+1)) j) j ((mvS start c L (i+1))[j]?.getD [])
   have hnext:(mvS start c L (i+1))[j]?.getD []=za6 ((mvS start c L i)[j]?.getD []) (raiS ((L[i]?.getD [])[j]?.getD [])) (c[i]?.getD 0):=by simp [mvS,hjs]
   rw [zlM hj2] at hset
   have cR:=zuC ((L[i]?.getD [])[j]?.getD []) (by omega) (by omega)
   have ck:=hcN.get i
   have cP:=ziv ((mvS start c L i)[j]?.getD []) (raiS ((L[i]?.getD [])[j]?.getD [])) (c[i]?.getD 0) hz.2 (zCo hy.2) (by obtain ⟨x0,x1⟩:=ck; exact ⟨by omega,by omega⟩) (by omega) (by simp; omega)
   rw [zwk] at cP
   rw [<- hnext] at cP
   rw [hnext,zbv,<- hnext] at hset
   generalize mxS (mvS start c L i) (mvS start c L (i+1)) j=M at *
   generalize (mvS start c L (i+1))[j]?.getD []=new at *
   generalize (mvS start c L i)[j]?.getD []=old at *
   simp [go_sem,hg,zkh hiL,zag hjL]
   refine ⟨by kernel_rfl,hjs,⟨hiL,by rintro rfl; simp at hiL⟩,⟨hjL,by intro e; simp [e] at hjL⟩,?_⟩
   refine CallD.of (cR) ?_
   simp [go_sem]
   simp [go_sem,hg]
   refine CallD.of (cP) ?_
   simp [go_sem]
   refine ⟨hjs,hM,?_⟩
   refine ⟨by kernel_rfl,?_⟩
   simp [go_sem]
   refine ⟨by omega,j+1,by omega,by omega,zaa _ _ _ (by simp),?_⟩
   rw [<- hset]
   exact ⟨rfl,by omega⟩
  .have e:j=start.length:=by omega
   have hall:=zli (A:=mvS start c L i) (C:=mvS start c L (i+1)) (by rw [za9,za9])
   rw [za9] at hall
   subst e
   simp [go_sem]
   exact ⟨by omega,i+1,by omega,by omega,(Off.reset (by intro x hx; simp at hx |-; omega) (by simp) (by simp [go_sem,zaa])),by rw [hall],by omega⟩
 .have e:i=c.length:=by omega
  subst e
  simp [go_sem]
end Go.Proofs.YthhdollpkieknaaGreat


namespace Go.Proofs.YthhdollpkieknaaGreat
open Go.Abs
theorem zyZ {a b:List Int} {k:Int} (hk:isN k) (h:a.length<=b.length) :
  tb (fun i=>(a[i]?.getD 0+(rakS b k)[i]?.getD 0)%10007) a.length=za6 a (raiS b) k:=by
 unfold za6 tb
 refine List.map_congr_left fun i hi=>?_
 have hi2:i<b.length:=by simp at hi; omega
 have e:=zaP (fun i=>if i=0 then 0 else b[i-1]?.getD 0*k%10007) hi2
 have e2:=zaP (fun i=>if i=0 then 0 else b[i-1]?.getD 0) hi2
 have e3:(rakS b k)[i]?.getD 0=if i=0 then 0 else b[i-1]?.getD 0*k%10007:=e
 have e4:(raiS b)[i]?.getD 0=if i=0 then 0 else b[i-1]?.getD 0:=e2
 rw [e3,e4,Int.emod_eq_of_lt hk.1 (by have:=hk.2; omega),Int.mul_comm k]
 split
 .simp
 .omega
theorem zoi (start:List (List Int)) (c:List Int) (L:List (List (List Int))) (n:Nat) (hn:0<n) (hn8:n<=8) (hs:∀ r∈start,r.length=n/\Ns r) (hl:start.length<=1048576) (hc:c.length<=8) (hcL:L.length<=c.length) (hcN:Ns c) (hL:∀ m∈L,m.length=start.length/\∀ r∈m,r.length=n/\Ns r) (hLl:L.length<=1048576) :
  Con Tryz.prog 152 [.sl start.length (mat start),.sl L.length (cube L),.sl c.length (avs c)] (.own 25 start.length (omat (mvS start c L L.length))):=by
 refine zab Tryz.mixed ⟨10,[],[],[]⟩ Tryz.func152 ?_
 rw [Tryz.ntmps152]
 simp [go_sem]
 refine CallVC.of (zrA start hl (fun r hr=>by have:=(hs r hr).1; omega)) ?_
 simp [go_sem]
 refine zac (7::8::9::List.range' 12 32) (fun i:Nat=>[(7,.own 25 start.length (omat (mvS start c L i))),(8,.int i)]) (fun i=>i<=L.length) (fun i=>L.length-i) 0 (by simp) (by simp [go_sem,mvS]) (by simp [go_sem]) ?_
 intro i hi
 simp [go_sem]
 refine ⟨fun h=>?_,fun h=>?_⟩ <;> simp at h
 .have hiL:i<L.length:=by omega
  have hic:i<c.length:=by omega
  simp [go_sem]
  refine zac (7::9::List.range' 18 26) (fun j:Nat=>[(7,.own 25 start.length (omat (mxS (mvS start c L i) (mvS start c L (i+1)) j))),(9,.int j)]) (fun j=>j<=start.length) (fun j=>start.length-j) 0 (by simp) (by simp [go_sem,zi1]) (by simp [go_sem]) ?_
  intro j hj
  simp [go_sem]
  refine ⟨fun h=>?_,fun h=>?_⟩ <;> simp at h
  .have hjs:=h
   have hM:j<(mxS (mvS start c L i) (mvS start c L (i+1)) j).length:=by rw [zmh,za9]; exact hjs
   have hg:=zbz hM
   have hj2:j<(mvS start c L i).length:=by rw [za9]; exact hjs
   rw [zmn hj2] at hg
   have hx:=hL (L[i]?.getD []) (by simp [hiL])
   have hjL:j<(L[i]?.getD []).length:=by omega
   have hy:=hx.2 ((L[i]?.getD [])[j]?.getD []) (by simp [hjL])
   have hz:=zdl (c:=c) (L:=L) hs i ((mvS start c L i)[j]?.getD []) (by simp [hj2])
   have hset:=zdK (mxS (mvS start c L i) (mvS start c L (i+1)) j) j ((mvS start c L (i+1))[j]?.getD [])
   have hnext:(mvS start c L (i+1))[j]?.getD []=za6 ((mvS start c L i)[j]?.getD []) (raiS ((L[i]?.getD [])[j]?.getD [])) (c[i]?.getD 0):=by simp [mvS,hjs]
   rw [zlM hj2] at hset
   have ck:=hcN.get i
   have cR:=zoQ ((L[i]?.getD [])[j]?.getD []) (c[i]?.getD 0) hy.2 ck (by omega) (by omega)
   have cP:=znu ((mvS start c L i)[j]?.getD []) (rakS ((L[i]?.getD [])[j]?.getD []) (c[i]?.getD 0)) hz.2 (zB8 _ _) (by omega) (by simp; omega)
   rw [zwc,zyZ ck (by omega)] at cP
   rw [<- hnext] at cP
   rw [hnext,zbv,<- hnext] at hset
   generalize mxS (mvS start c L i) (mvS start c L (i+1)) j=M at *
   generalize (mvS start c L (i+1))[j]?.getD []=new at *
   generalize (mvS start c L i)[j]?.getD []=old at *
   simp [go_sem,hg,zkh hiL,zag hjL,zae hic]
   refine ⟨by kernel_rfl,hjs,⟨hiL,by rintro rfl; simp at hiL⟩,⟨hjL,by intro e; simp [e] at hjL⟩,⟨hic,by rintro rfl; simp at hic⟩,?_⟩
   refine CallD.of (cR) ?_
   simp [go_sem]
   simp [go_sem,hg]
   refine CallD.of (cP) ?_
   simp [go_sem]
   refine ⟨hjs,hM,?_⟩
   refine ⟨by kernel_rfl,?_⟩
   simp [go_sem]
   refine ⟨by omega,j+1,by omega,by omega,zaa _ _ _ (by simp),?_⟩
   rw [<- hset]
   exact ⟨rfl,by omega⟩
  .have e:j=start.length:=by omega
   have hall:=zli (A:=mvS start c L i) (C:=mvS start c L (i+1)) (by rw [za9,za9])
   rw [za9] at hall
   subst e
   simp [go_sem]
   exact ⟨by omega,i+1,by omega,by omega,(Off.reset (by intro x hx; simp at hx |-; omega) (by simp) (by simp [go_sem,zaa])),by rw [hall],by omega⟩
 .have e:i=L.length:=by omega
  subst e
  simp [go_sem]
end Go.Proofs.YthhdollpkieknaaGreat


namespace Go.Proofs.YthhdollpkieknaaGreat
open Go.Abs
def tmN (i j n:Nat):Nat:=if i<=n then (if n<i+j then i+1 else i) else n+1
def tmS (a b:List Int) (i j:Nat):List Int:=tb (fun n=>cv a b n (tmN i j n)%10007) a.length
@[simp] theorem zyO (a b:List Int) (i j:Nat):(tmS a b i j).length=a.length:=by simp [tmS]
theorem zDT (a b:List Int) (i j:Nat):Ns (tmS a b i j):=tb_N fun i _=>zaf _
theorem zu8 (a b:List Int):tmS a b 0 0=List.replicate a.length 0:=by
 refine List.ext_getElem (by simp) fun n h1 h2=>?_
 simp [tmS,tb,tmN,cv]
theorem zuz (a b:List Int) (i j:Nat) (h:a.length<=i+j):tmS a b i j=tmS a b (i+1) 0:=by
 unfold tmS tb
 refine List.map_congr_left fun n hn=>?_
 have hn:n<a.length:=by simpa using hn
 have e:tmN i j n=tmN (i+1) 0 n:=by unfold tmN; (repeat' split) <;> omega
 rw [e]
theorem zyK (a b:List Int):tmS a b a.length 0=mulS a b:=by
 unfold tmS mulS tb
 refine List.map_congr_left fun n hn=>?_
 have hn:n<a.length:=by simpa using hn
 have e:tmN a.length 0 n=n+1:=by unfold tmN; split <;> omega
 rw [e]
theorem zyQ (a b:List Int) (i j:Nat) (h:i+j<a.length):(tmS a b i j).set (i+j) (((tmS a b i j)[i+j]?.getD 0+a[i]?.getD 0*b[j]?.getD 0)%10007)=tmS a b i (j+1):=by
 refine List.ext_getElem (by simp) fun n h1 h2=>?_
 simp at h1
 rw [List.getElem_set]
 by_cases e:i+j=n
 .subst e
  have e1:tmN i j (i+j)=i:=by unfold tmN; (repeat' split) <;> omega
  have e2:tmN i (j+1) (i+j)=i+1:=by unfold tmN; (repeat' split) <;> omega
  have e3:i+j-i=j:=by omega
  have g:=zaP (fun n=>cv a b n (tmN i j n)%10007) h
  have g2:(tmS a b i j)[i+j]?.getD 0=cv a b (i+j) (tmN i j (i+j))%10007:=g
  simp only [if_true,g2,e1]
  simp only [tmS,tb,List.getElem_map,List.getElem_range,e2,cv,e3]
  omega
 .have e1:tmN i j n=tmN i (j+1) n:=by unfold tmN; (repeat' split) <;> omega
  simp only [e,if_false,tmS,tb,List.getElem_map,List.getElem_range,e1]
theorem zjp (a b:List Int) (ha:Ns a) (hb:Ns b) (hl:a.length<=1048576) (hab:a.length<=b.length) :
  Con Tryz.prog 201 [.sl a.length (avs a),.sl b.length (avs b)] (.own 2 a.length (avs (mulS a b))):=by
 refine zab Tryz.mixed ⟨9,[],[],[]⟩ Tryz.func201 ?_
 rw [Tryz.ntmps201]
 simp [go_sem]
 refine ⟨by omega,?_⟩
 refine zac (5::6::7::8::List.range' 14 33) (fun i:Nat=>[(5,.own 2 a.length (avs (tmS a b i 0))),(14,.int i)]) (fun i=>i<=a.length) (fun i=>a.length-i) 0 (by simp) (by simp [go_sem,zu8,zc5]) (by simp [go_sem]) ?_
 intro i hi
 simp [go_sem]
 refine ⟨fun h=>?_,fun h=>?_⟩ <;> simp at h
 .have hi2:=h
  simp [go_sem,zae hi2]
  refine ⟨⟨hi2,by rintro rfl; simp at hi2⟩,?_⟩
  refine zac (5::8::List.range' 19 27) (fun j:Nat=>[(5,.own 2 a.length (avs (tmS a b i j))),(8,.int j)]) (fun j=>i+j<=a.length) (fun j=>a.length-j) 0 (by simp; omega) (by simp [go_sem]) (by simp [go_sem]) ?_
  intro j hj
  simp [go_sem]
  refine ⟨⟨by omega,by omega⟩,?_⟩
  refine ⟨fun h=>?_,fun h=>?_⟩ <;> simp at h
  .have k0:i+j<a.length:=by omega
   have k1:j<b.length:=by omega
   have k2:i+j<(tmS a b i j).length:=by rw [zyO]; exact k0
   have hset:=zyQ a b i j k0
   have tN:=(zDT a b i j).get (i+j)
   have m1:=zax (ha.get i) (hb.get j)
   have m2:fits ((tmS a b i j)[i+j]?.getD 0+a[i]?.getD 0*b[j]?.getD 0):=by
    have x0:=zcG (ha.get i) (hb.get j)
    obtain ⟨y0,y1⟩:=tN
    exact ⟨by omega,by omega⟩
   have ij:((i:Int)+j).toNat=i+j:=by omega
   simp [go_sem,ij,zae k1,zbL k2]
   refine ⟨by kernel_rfl,⟨by omega,by omega⟩,⟨by omega,by omega⟩,⟨k1,by intro e; simp [e] at k1⟩,m1,m2,?_⟩
   refine CallD.of (za3 _ m2.1 m2.2) ?_
   simp [go_sem]
   refine ⟨⟨by omega,by omega⟩,by omega,?_⟩
   refine ⟨by kernel_rfl,?_⟩
   simp [go_sem]
   exact ⟨by omega,j+1,by omega,by omega,zaa _ _ _ (by simp),by rw [ij,za0,hset],by omega⟩
  .have hx:a.length<=i+j:=by omega
   have hn:=zuz a b i j hx
   simp [go_sem]
   exact ⟨by omega,i+1,by omega,by omega,(Off.reset (by intro x hx; simp at hx |-; omega) (by simp) (by simp [go_sem,zaa])),by rw [hn],by omega⟩
 .have e:i=a.length:=by omega
  subst e
  simp [go_sem]
  exact zyK a b
end Go.Proofs.YthhdollpkieknaaGreat


namespace Go.Proofs.YthhdollpkieknaaGreat
open Go.Abs
def pwS (s x:List Int):Nat->List Int
 | 0=>s
 | n+1=>mulS (pwS s x n) x
@[simp] theorem zcY (s x:List Int):∀ n,(pwS s x n).length=s.length
 | 0=>rfl
 | n+1=>by rw [pwS,zvR,zcY s x n]
theorem zxO {s x:List Int} (h:Ns s):∀ n,Ns (pwS s x n)
 | 0=>h
 | n+1=>zAA _ _
def teS (L:List (List Int)) (e:List Int) (s:List Int):Nat->List Int
 | 0=>s
 | i+1=>pwS (teS L e s i) (L[i]?.getD []) (e[i]?.getD 0).toNat
@[simp] theorem zfr (L:List (List Int)) (e s:List Int):∀ i,(teS L e s i).length=s.length
 | 0=>rfl
 | i+1=>by rw [teS,zcY,zfr L e s i]
theorem zst {L:List (List Int)} {e s:List Int} (h:Ns s):∀ i,Ns (teS L e s i)
 | 0=>h
 | i+1=>zxO (zst h i) _
theorem zkY {L:List (List Int)} {e e' s:List Int}:∀ {n:Nat},(∀ i,i<n->e[i]?.getD 0=e'[i]?.getD 0)->teS L e s n=teS L e' s n
 | 0,_=>rfl
 | n+1,h=>by rw [teS,teS,zkY (fun i hi=>h i (by omega)),h n (by omega)]
def unS (a:Int):List Int:=[a,0,0,0,0,0,0]
theorem zvi {a:Int} (h:isN a):Ns (unS a):=by
 intro x hx
 simp [unS] at hx
 rcases hx with rfl | rfl
 .exact h
 .exact ⟨by omega,by omega⟩
def teK (L:List (List Int)) (k:Key) (x:Int):List Int:=teS L [k.1,k.2.1,k.2.2] (unS x) L.length
def reS (L:List (List Int)) (n:Nat):List (Key × Int)->Int
 | []=>0
 | e::es=>(teK L e.1 e.2)[n]?.getD 0+reS L n es
def voS (L:List (List Int)) (n:Nat):List Mon->Int
 | []=>0
 | m::p=>(teS L m.2 (unS m.1) L.length)[n]?.getD 0+voS L n p
theorem zru (L:List (List Int)) (n:Nat) (a b:List (Key × Int)):reS L n (a++b)=reS L n a+reS L n b:=by
 induction a with
 | nil=>simp [reS]
 | cons e a ih=>simp [reS,ih]; omega
theorem ztZ (L:List (List Int)) (n:Nat) {a b:List (Key × Int)} (h:a.Perm b):reS L n a=reS L n b:=by
 induction h with
 | nil=>rfl
 | cons x _ ih=>simp [reS,ih]
 | swap x z l=>simp [reS]; omega
 | trans _ _ i1 i2=>rw [i1,i2]
theorem zA2 {L:List (List Int)} (hl:L.length<=3) (m:Mon):teK L (zaw m.2) m.1=teS L m.2 (unS m.1) L.length:=by
 refine zkY (fun i hi=>?_)
 have:i=0\/i=1\/i=2:=by omega
 rcases this with rfl | rfl | rfl <;> simp [zaw]
theorem zs1 {L:List (List Int)} (hl:L.length<=3) (n:Nat):∀ p:List Mon,reS L n (p.map keyM)=voS L n p
 | []=>rfl
 | m::p=>by
  rw [List.map_cons,reS,voS,zs1 hl n p]
  have:=zA2 hl m
  simp only [keyM]
  rw [this]
def evS (L:List (List Int)) (p:List Mon):List Int:=tb (fun n=>voS L n p%10007) 7
@[simp] theorem ztq (L:List (List Int)) (p:List Mon):(evS L p).length=7:=by simp [evS]
theorem zBo (L:List (List Int)) (p:List Mon):Ns (evS L p):=tb_N fun i _=>zaf _
end Go.Proofs.YthhdollpkieknaaGreat


namespace Go.Proofs.YthhdollpkieknaaGreat
open Go.Abs
theorem ztN (c:Key->Option Int) (L:List (List Int)) (T:Nat->Int) (hL:L.length<=3) (hr:∀ r∈L,r.length=7/\Ns r) (hc:∀ k x,c k=some x->EOk (k,x)) (hE:∀ es,Enum c es->∀ n,reS L n es%10007=T n) :
  Con Tryz.prog 243 [.fmp c,.sl L.length (mat L)] (.own 2 7 (avs (tb T 7))):=by
 refine zab Tryz.mixed ⟨11,[],[],[]⟩ Tryz.func243 ?_
 rw [Tryz.ntmps243]
 simp [go_sem]
 intro es hes
 have hok:∀ e∈es,EOk e:=fun e he=>hc e.1 e.2 (hes.val e he)
 have hsum:=hE es hes
 refine zac (5::6::7::8::9::10::List.range' 13 30) (fun x:List Int × Option (Key × Int) × List (Key × Int)=>[(5,.own 2 7 (avs x.1)),(13,.it x.2.1 x.2.2)]) (fun x=>x.1.length=7/\Ns x.1/\(∀ n,n<7->(x.1[n]?.getD 0+reS L n x.2.2)%10007=T n)/\∀ e∈x.2.2,EOk e) (fun x=>x.2.2.length) ([0,0,0,0,0,0,0],none,es) ?_ ?_ (by simp [go_sem]) ?_
 .refine ⟨rfl,?_,fun n _=>?_,hok⟩
  .intro x hx
   simp at hx; subst hx; exact ⟨by omega,by omega⟩
  .have e:([0,0,0,0,0,0,0]:List Int)[n]?.getD 0=0:=by
    rcases Nat.lt_or_ge n 7 with h | h
    .have:n=0\/n=1\/n=2\/n=3\/n=4\/n=5\/n=6:=by omega
     rcases this with rfl | rfl | rfl | rfl | rfl | rfl | rfl <;> rfl
    .simp [List.getElem?_eq_none,h]
   simp only [e,Int.zero_add]
   exact hsum n
 .simp [go_sem,avs]
 rintro ⟨o,l,rem⟩ ⟨ho,hoN,hoT,hrem⟩
 simp only at ho hoN hoT hrem
 simp [go_sem,zdm]
 refine ⟨fun hr=>?_,fun l1 k0 k1 k2 x l2 hr2=>?_⟩
 .subst hr
  refine List.ext_getElem (by simp [ho]) fun n h1 h2=>?_
  have h7:n<7:=by omega
  have t:=hoT n h7
  have oN:=hoN.get n
  simp only [reS,Int.add_zero] at t
  rw [Int.emod_eq_of_lt oN.1 (by have:=oN.2; omega)] at t
  simpa [tb,h1] using t
 .subst hr2
  have hek:=hrem ((k0,k1,k2),x) (by simp)
  have hx:isN x:=hek.1
  have hg:∀ i:Nat,0<=([k0,k1,k2]:List Int)[i]?.getD 0/\([k0,k1,k2]:List Int)[i]?.getD 0<=1000:=by
   intro i
   obtain ⟨_,a1,a2,a3,a4,a5,a6⟩:=hek
   match i with
   | 0=>exact ⟨a1,a2⟩
   | 1=>exact ⟨a3,a4⟩
   | 2=>exact ⟨a5,a6⟩
   | i+3=>simp
  have hu:=zvi hx
  refine zac (8::9::10::List.range' 25 15) (fun i:Nat=>[(8,.own 2 7 (avs (teS L [k0,k1,k2] (unS x) i))),(25,.int i)]) (fun i=>i<=L.length) (fun i=>L.length-i) 0 (by simp) (by simp [go_sem,teS,unS,avs]) (by simp [go_sem]) ?_
  intro i hi
  simp [go_sem]
  refine ⟨fun h=>?_,fun h=>?_⟩ <;> simp at h
  .have hiL:=h
   have h3:i<([k0,k1,k2]:List Int).length:=by simp; omega
   have e3:([.val (.int .i64 k0),.val (.int .i64 k1),.val (.int .i64 k2)]:List AV)[i]?=some (.val (.int .i64 (([k0,k1,k2]:List Int)[i]?.getD 0))):=zpW (xs:=[k0,k1,k2]) h3
   have g:=hg i
   have hy:=hr (L[i]?.getD []) (by simp [hiL])
   have hs:teS L [k0,k1,k2] (unS x) (i+1)=pwS (teS L [k0,k1,k2] (unS x) i) (L[i]?.getD []) (([k0,k1,k2]:List Int)[i]?.getD 0).toNat:=rfl
   simp [go_sem,zag hiL,e3]
   refine ⟨⟨hiL,by rintro rfl; simp at hiL⟩,by omega,?_⟩
   have hteN:=zst (L:=L) (e:=[k0,k1,k2]) hu i
   have htl:=zfr L [k0,k1,k2] (unS x) i
   have hul:(unS x).length=7:=rfl
   rw [hul] at htl
   generalize teS L [k0,k1,k2] (unS x) i=te at *
   generalize ([k0,k1,k2]:List Int)[i]?.getD 0=ki at *
   obtain ⟨m,rfl⟩:∃ m:Nat,ki=m:=⟨ki.toNat,by omega⟩
   simp only [Int.toNat_natCast] at hs
   refine zac (8::List.range' 33 6) (fun t:Nat=>[(8,.own 2 7 (avs (pwS te (L[i]?.getD []) t))),(33,.int t)]) (fun t=>t<=m) (fun t=>m-t) 0 (by simp) (by simp [go_sem,pwS]) (by simp [go_sem]) ?_
   intro t ht
   simp [go_sem]
   refine ⟨fun h=>?_,fun h=>?_⟩ <;> simp at h
   .have cT:=zjp (pwS te (L[i]?.getD []) t) (L[i]?.getD []) (zxO hteN t) hy.2 (by rw [zcY]; omega) (by rw [zcY]; omega)
    rw [zcY,htl] at cT
    simp [go_sem]
    refine CallVC.of (cT) ?_
    simp [go_sem]
    exact ⟨by omega,t+1,by omega,by omega,zaa _ _ _ (by simp),rfl,by omega⟩
   .have e:t=m:=by omega
    subst e
    simp [go_sem]
    exact ⟨by omega,i+1,by omega,by omega,(Off.reset (by intro x hx; simp at hx |-; omega) (by simp) (by simp [go_sem,zaa])),by rw [hs],by omega⟩
  .have e:i=L.length:=by omega
   subst e
   have hteN:=zst (L:=L) (e:=[k0,k1,k2]) hu L.length
   have htl:=zfr L [k0,k1,k2] (unS x) L.length
   have hul:(unS x).length=7:=rfl
   rw [hul] at htl
   have hinv:∀ n,n<7->((za6 o (teS L [k0,k1,k2] (unS x) L.length) 1)[n]?.getD 0+reS L n (l1++l2))%10007=T n:=by
    intro n hn
    have t:=hoT n hn
    have q:=zaP (fun i=>(o[i]?.getD 0+1%10007*(teS L [k0,k1,k2] (unS x) L.length)[i]?.getD 0)%10007) (show n<o.length by omega)
    have q2:(za6 o (teS L [k0,k1,k2] (unS x) L.length) 1)[n]?.getD 0=(o[n]?.getD 0+1%10007*(teS L [k0,k1,k2] (unS x) L.length)[n]?.getD 0)%10007:=q
    rw [zru,reS] at t
    simp only [teK] at t
    rw [q2,zru,<- t]
    omega
   have cP:=ziv o (teS L [k0,k1,k2] (unS x) L.length) 1 hoN hteN ⟨by omega,by omega⟩ (by omega) (by omega)
   rw [ho,htl] at cP
   simp [go_sem]
   refine CallVC.of (cP) ?_
   simp [go_sem]
   refine ⟨_,_,_,⟨?_,zfh _ _ _,hinv,fun a b c d he=>hrem _ ?_⟩,?_,(Off.reset (by intro x hx; simp at hx |-; omega) (by simp) (by simp [go_sem,zaa])),rfl,rfl,rfl⟩
   .rw [zbv,ho]
   .rcases List.mem_append.1 he with he | he <;> simp [he]
   .simp
end Go.Proofs.YthhdollpkieknaaGreat


namespace Go.Proofs.YthhdollpkieknaaGreat
open Go.Abs
theorem zj0 {z:Int} {p:List Mon} {L:List (List Int)} (hz:z<=3) (hp:zbr z p=true) (hL:(L.length:Int)=z) (hr:∀ r∈L,r.length=7/\Ns r) :
  Con Tryz.prog 243 [.fmp (polF p),.sl L.length (mat L)] (.own 2 7 (avs (evS L p))):=by
 refine ztN (polF p) L (fun n=>voS L n p%10007) (by omega) hr (fun k x hk=>zkm hz hp hk) (fun es he n=>?_)
 rw [ztZ L n (zqA (zfm hz hp) he),zs1 (by omega) n p]
def fdS (L:List (List Int)) (f:List (List Mon)):List (List Int):=f.map (evS L)
@[simp] theorem zlo (L:List (List Int)) (f:List (List Mon)):(fdS L f).length=f.length:=by simp [fdS]
theorem zl2 {L:List (List Int)} {f:List (List Mon)}:∀ r∈fdS L f,r.length=7/\Ns r:=by
 intro r hr
 obtain ⟨p,_,rfl⟩:=List.mem_map.1 hr
 exact ⟨ztq L p,zBo L p⟩
theorem zos {L:List (List Int)} {f:List (List Mon)} {i:Nat} (h:i<f.length):fdS L (f.take (i+1))=fdS L (f.take i)++[evS L (f[i]?.getD [])]:=by
 rw [List.take_add_one,List.getElem?_eq_getElem h]; simp only [fdS,List.map_append,Option.toList_some,List.map_cons,List.map_nil,Option.getD_some]
theorem zyv (L:List (List Int)) (n:Nat) (p q:List Mon):voS L n (p++q)=voS L n p+voS L n q:=by
 induction p with
 | nil=>simp [voS]
 | cons m p ih=>simp [voS,ih]; omega
theorem zwn {L:List (List Int)} {p:List Mon} {i:Nat} (h:i<p.length) :
  tb (fun n=>((evS L (p.take i))[n]?.getD 0+(teS L (p[i]?.getD (0,[])).2 (unS (p[i]?.getD (0,[])).1) L.length)[n]?.getD 0)%10007) 7=evS L (p.take (i+1)):=by
 rw [List.take_add_one,List.getElem?_eq_getElem h]
 unfold evS
 unfold tb
 refine List.map_congr_left fun n hn=>?_
 have hn:n<7:=by simpa using hn
 have e:=zaP (fun n=>voS L n (p.take i)%10007) hn
 unfold tb at e
 rw [e,Option.toList_some,zyv]
 simp [voS]
theorem zzC (L:List (List Int)):evS L []=[0,0,0,0,0,0,0]:=by
 simp [evS,voS,tb,List.range,List.range.loop]
theorem zqS (a:Int) (h:isN a):tb (fun i=>(tb (fun i=>if i=0 then (1:Int) else 0) 7)[i]?.getD 0*a%10007) 7=unS a:=by
 have:a%10007=a:=Int.emod_eq_of_lt h.1 (by have:=h.2; omega)
 simp [unS,tb,List.range,List.range.loop,this]
end Go.Proofs.YthhdollpkieknaaGreat

