/- Texts of the own layer and contracts, part 5: C0 C1 C4 C5 C6 C7 C8 C2 C9 C10 C11 C12 C13 N0 N1 P0 F0 F1 F2 F3 F4 F5 F6 P1 P2 P3 P4 P5 P6 F7 Q0 G0 G1 Q1 Q2 L3 Q9 Q10 Q11 Q12 Q13 Q3 Q4 Q5 P7 Q6 Q7 Q8 Q14 Q15 Q16 Q17 Q18 B0 B1 B10 B11 B12 B13 E8 B2 B3 C3 B4 B5 B6 B7 B8 B9 B14 B15 B16 R1 R2 R3 R7 R8 R9 E9 R4 C14 W16 N11 Q29 Q35 Q37 V0 Q42 V14 W31. -/
import Derived.RangeFuncNested
import Derived.RangeFuncBox
import Derived.RangeFuncBound
import Derived.RangeFuncCalls
import Derived.RangeFuncLeaves
import Derived.Shelf.Abstract
import Derived.WalkKit
import Derived.OwnWalkIn
import Derived.TacticsInMore
import Derived.LoopNIn
import Derived.LoopIn
import Derived.Stop.RegionWithIn
import Derived.Test.YthhdollpkieknaaGreatM4
set_option linter.unusedSectionVars false
set_option linter.unusedVariables false
set_option linter.unusedSimpArgs false
set_option maxHeartbeats 4000000
set_option maxRecDepth 100000
namespace Go.Abs
def avs (xs:List Int):List AV:=xs.map AV.int
@[simp] theorem zwj (xs:List Int):(avs xs).length=xs.length:=by simp [avs]
@[simp] theorem zwx:avs []=[]:=rfl
theorem zaD (xs:List Int) (x:Int):avs (xs++[x])=avs xs++[.val (.int .i64 x)]:=by simp [avs]
theorem zcD (xs:List Int) (x:Int):avs (x::xs)=.val (.int .i64 x)::avs xs:=by simp [avs]
theorem znb (xs ys:List Int):avs (xs++ys)=avs xs++avs ys:=by simp [avs]
theorem zaj {xs:List Int} {k:Nat} (h:k<xs.length):(avs xs).drop k=.val (.int .i64 (xs.getD k 0))::avs (xs.drop (k+1)):=by
 rw [avs,<- List.map_drop,List.drop_eq_getElem_cons h,List.map_cons]; simp [h,avs]
@[simp] theorem zwX {xs ys:List Int}:(avs xs=avs ys)=(xs=ys):=by
 apply propext
 constructor
 .intro h
  induction xs generalizing ys with
  | nil=>cases ys with
   | nil=>rfl
   | cons y ys=>simp [avs] at h
  | cons x xs ih=>cases ys with
   | nil=>simp [avs] at h
   | cons y ys =>
    rw [zcD,zcD] at h
    injection h with h1 h2
    injection h1 with h1
    injection h1 with _ h1
    rw [h1,ih h2]
 .rintro rfl; rfl
theorem zaR (xs:List Int) (k:Nat) (x:Int):(avs xs).set k (.val (.int .i64 x))=avs (xs.set k x):=by
 simp [avs,List.map_set]
theorem zkv (n:Nat) (x:Int):List.replicate n (AV.val (.int .i64 x))=avs (List.replicate n x):=by simp [avs]
@[simp] theorem zuU (xs:List Int):zap (avs xs)=true:=by
 induction xs with
 | nil=>rfl
 | cons x xs ih=>simp [zcD,zap,ih,zat]
@[simp] theorem zgu (xs:List Int):frzL (avs xs)=avs xs:=by
 induction xs with
 | nil=>rfl
 | cons x xs ih=>simp [zcD,frzL,ih,frz]
@[simp] theorem zw8 (W:List Nat) (xs:List Int):klL W (avs xs)=avs xs:=by
 induction xs with
 | nil=>rfl
 | cons x xs ih=>simp [zcD,klL,ih,kl]
@[simp] theorem zwS (xs:List Int):zaF (avs xs)=false:=by
 induction xs with
 | nil=>rfl
 | cons x xs ih=>simp [zcD,zaF,ih,zbk]
@[simp] theorem zxw {xs:List Int}:(avs xs=[])=(xs=[]):=by
 cases xs <;> simp [avs]
theorem ztT {n:Int} (h:0<=n) (m:Int):n.tmod m=n%m:=Int.tmod_eq_emod_of_nonneg h
theorem zsM {n:Int} (h:0<=n) (m:Int):n.tdiv m=n / m:=Int.tdiv_eq_ediv_of_nonneg h
theorem zjf (n:Int):(n.tmod 10007+10007).tmod 10007=n%10007:=by
 rw [Int.tmod_eq_emod,Int.tmod_eq_emod]; split <;> split <;> simp_all <;> omega
theorem zi4 (n:Int) : -10007<n.tmod 10007/\n.tmod 10007<10007:=by
 constructor
 .rw [Int.tmod_eq_emod]; split <;> simp_all <;> omega
 .exact Int.tmod_lt_of_pos n (by omega)
end Go.Abs


namespace Go.Proofs.YthhdollpkieknaaGreat
open Go.Abs
theorem zbT (n a b:Int):Con Tryz.prog 103 [.int n,.int a,.int b] (.bool (decide (a<=n) && decide (n<=b))):=by
 refine zab Tryz.mixed ⟨4,[],[],[]⟩ Tryz.func103 ?_
 rw [Tryz.ntmps103]
 simp [go_sem]
 refine ⟨fun h=>?_,fun h=>?_⟩ <;> simp at h <;> simp [go_sem,h] <;> omega
theorem ztC (n a b:Int):Con Tryz.prog 119 [.int n,.int a,.int b] (.bool (decide (a<=n) && decide (n<=b))):=by
 refine zab Tryz.mixed ⟨4,[],[],[]⟩ Tryz.func119 ?_
 rw [Tryz.ntmps119]
 simp [go_sem]
 refine ⟨fun h=>?_,fun h=>?_⟩ <;> simp at h <;> simp [go_sem,h] <;> omega
def upTo (k:Nat):List Int:=(List.range k).map fun (i:Nat)=>(i:Int)
theorem znt (k:Nat):upTo (k+1)=upTo k++[(k:Int)]:=by simp [upTo,List.range_succ]
@[simp] theorem zvL (k:Nat):(upTo k).length=k:=by simp [upTo]
def held (xs:List Int) (k:Int):Int:=if xs=(List.range xs.length).map (fun (i:Nat)=>k+i) then k+xs.length else -1
end Go.Proofs.YthhdollpkieknaaGreat


namespace Go.Proofs.YthhdollpkieknaaGreat
open Go.Abs
def idxF {α:Type} (p:α->Bool):List α->Int
 | [] => -1
 | x::xs=>if p x then 0 else if idxF p xs = -1 then -1 else idxF p xs+1
theorem zi3 {α:Type} (p:α->Bool):∀ xs:List α,-1<=idxF p xs/\idxF p xs<xs.length
 | []=>by simp [idxF]
 | x::xs=>by
  have:=zi3 p xs
  simp only [idxF,List.length_cons]
  split
  .omega
  .split <;> omega
theorem zqj {α:Type} (p:α->Bool) (xs:List α):decide (0<=idxF p xs)=xs.any p:=by
 induction xs with
 | nil=>simp [idxF]
 | cons x xs ih =>
  have:=zi3 p xs
  simp only [idxF,List.any_cons,<- ih]
  by_cases hp:p x=true
  .simp [hp]
  .simp only [hp]
   simp
   split
   .rename_i e; simp [e]
   .by_cases h:0<=idxF p xs <;> simp [h] <;> omega
theorem zir {α:Type} (p:α->Bool):∀ (xs:List α) (i:Nat),(∀ x∈xs.take i,p x=false)->i<=xs.length->(idxF p xs=if idxF p (xs.drop i) = -1 then -1 else idxF p (xs.drop i)+i)
 | xs,0,h,hl=>by simp
 | [],i+1,h,hl=>by simp at hl
 | x::xs,i+1,h,hl=>by
  have h1:p x=false:=h x (by simp)
  have h2:=zir p xs i (fun y hy=>h y (by simp [hy])) (by simpa using hl)
  simp only [idxF,h1,List.drop_succ_cons]
  have:=(zi3 p (xs.drop i)).1
  simp
  rw [h2]
  split
  .simp
  .rename_i hne
   rw [if_neg (by omega)]
   omega
theorem zhr (g:FuncId) (p:Int->Bool) (xs:List Int) (hl:xs.length<=9223372036854775807) (hg:∀ x∈xs,Con Tryz.prog g [.int x] (.bool (p x))) :
  Con Tryz.prog 277 [.sl xs.length (avs xs),.val (.func (.func g) #[] #[])] (.int (idxF p xs)):=by
 refine zab Tryz.mixed ⟨6,[],[],[]⟩ Tryz.func277 ?_
 rw [Tryz.ntmps277]
 simp [go_sem]
 refine zac (5::List.range' 8 20) (fun i:Nat=>[(8,.int i)]) (fun i=>i<=xs.length/\∀ x∈xs.take i,p x=false) (fun i=>xs.length-i) 0 (by simp) (by simp [go_sem]) (by simp [go_sem]) ?_
 rintro i ⟨hi,hf⟩
 simp [go_sem]
 have sk:=zir p xs i hf hi
 refine ⟨fun h=>?_,fun h=>?_⟩ <;> simp at h
 .have hx:xs[i]?.getD 0∈xs:=by simp [h]
  have hd:xs.drop i=xs[i]?.getD 0::xs.drop (i+1):=by rw [List.drop_eq_getElem_cons h]; simp [h]
  simp [go_sem,zaj h]
  refine ⟨⟨h,by rintro rfl; simp at h⟩,CallVC.of (hg _ hx) ?_⟩
  simp [go_sem]
  refine ⟨fun h2=>?_,fun h2=>?_⟩ <;> simp [go_sem]
  .rw [sk,hd]; simp [idxF,h2]
  .refine ⟨by omega,i+1,⟨by omega,?_⟩,by omega,zaa _ _ _ (by simp),by omega⟩
   intro x hx2
   rw [List.take_add_one,List.getElem?_eq_getElem h,Option.toList_some,List.mem_append,List.mem_singleton] at hx2
   rcases hx2 with hx2 | hx2
   .exact hf x hx2
   .rw [hx2]; simpa [h] using h2
 .simp [go_sem]
  rw [sk,List.drop_eq_nil_of_le h]; simp [idxF]
theorem zeR (g:FuncId) (p:Int->Bool) (xs:List Int) (hl:xs.length<=9223372036854775807) (hg:∀ x∈xs,Con Tryz.prog g [.int x] (.bool (p x))) :
  Con Tryz.prog 231 [.sl xs.length (avs xs),.val (.func (.func g) #[] #[])] (.bool (xs.any p)):=by
 refine zab Tryz.mixed ⟨5,[],[],[]⟩ Tryz.func231 ?_
 rw [Tryz.ntmps231]
 simp [go_sem]
 refine CallVC.of (zhr g p xs hl hg) ?_
 simp [go_sem,zqj]
theorem zfZ (a:Int):Con Tryz.prog 93 [.int a] (.bool (decide (0<=a/\a<=10006))):=by
 refine zab Tryz.mixed ⟨3,[],[],[]⟩ Tryz.func93 ?_
 rw [Tryz.ntmps93]
 simp [go_sem]
 refine CallVC.of (zbT _ _ _) ?_
 simp [go_sem]
theorem ziC (a:Int):Con Tryz.prog 232 [.int a] (.bool (!decide (0<=a/\a<=10006))):=by
 refine zab Tryz.mixed ⟨3,[],[],[]⟩ Tryz.func232 ?_
 rw [Tryz.ntmps232]
 simp [go_sem]
 refine CallVC.of (zfZ _) ?_
 simp [go_sem]
def zcz (xs:List Int):Bool:=xs.all fun a=>decide (0<=a/\a<=10006)
theorem zbl (xs:List Int) (hl:xs.length<=9223372036854775807):Con Tryz.prog 156 [.sl xs.length (avs xs)] (.bool (zcz xs)):=by
 refine zab Tryz.mixed ⟨3,[],[],[]⟩ Tryz.func156 ?_
 rw [Tryz.ntmps156]
 simp [go_sem]
 refine CallVC.of (zeR _ _ xs hl (fun x _=>ziC x)) ?_
 simp [go_sem,zcz,List.not_any_eq_all_not]
end Go.Proofs.YthhdollpkieknaaGreat


namespace Go.Proofs.YthhdollpkieknaaGreat
open Go.Abs
def mat (xss:List (List Int)):List AV:=xss.map fun r=>.sl r.length (avs r)
@[simp] theorem zwN (xss:List (List Int)):(mat xss).length=xss.length:=by simp [mat]
theorem zar {xss:List (List Int)} {k:Nat} (h:k<xss.length):(mat xss).drop k=.sl (xss[k]?.getD []).length (avs (xss[k]?.getD []))::mat (xss.drop (k+1)):=by
 rw [mat,<- List.map_drop,List.drop_eq_getElem_cons h,List.map_cons]; simp [h,mat]
@[simp] theorem zxk {xss:List (List Int)}:(mat xss=[])=(xss=[]):=by cases xss <;> simp [mat]
theorem zet (n:Nat) (cs:List AV) (hn:n<=9223372036854775807):Con Tryz.prog 155 [.sl n cs] (.int n):=by
 refine zab Tryz.mixed ⟨3,[],[],[]⟩ Tryz.func155 ?_
 rw [Tryz.ntmps155]
 simp [go_sem]
 try omega
end Go.Proofs.YthhdollpkieknaaGreat


namespace Go.Proofs.YthhdollpkieknaaGreat
open Go.Abs
end Go.Proofs.YthhdollpkieknaaGreat


namespace Go.Proofs.YthhdollpkieknaaGreat
open Go.Abs
def omat (A:List (List Int)):List AV:=A.map fun r=>.own 2 r.length (avs r)
@[simp] theorem zvD (A:List (List Int)):(omat A).length=A.length:=by simp [omat]
@[simp] theorem zvH (A:List (List Int)):frzL (omat A)=mat A:=by
 induction A with
 | nil=>rfl
 | cons r A ih=>simp only [omat,mat,List.map_cons,frzL] at ih |-; rw [ih]; simp [frz]
@[simp] theorem zdZ (A:List (List Int)):zap (omat A)=true:=by
 induction A with
 | nil=>rfl
 | cons r A ih=>simp only [omat,List.map_cons,zap] at ih |-; rw [ih]; simp [zat]
end Go.Proofs.YthhdollpkieknaaGreat


namespace Go.Proofs.YthhdollpkieknaaGreat
open Go.Abs
def sumL:List (List Int)->Nat
 | []=>0
 | r::rs=>r.length+sumL rs
theorem zcN (A C:List (List Int)):sumL (A++C)=sumL A+sumL C:=by
 induction A with
 | nil=>simp [sumL]
 | cons r A ih=>simp [sumL,ih]; omega
theorem zoa {A:List (List Int)} {i:Nat} (h:i<A.length):sumL (A.take (i+1))=sumL (A.take i)+(A[i]?.getD []).length:=by
 rw [List.take_add_one,zcN]; simp [h,sumL]
theorem zsS (A:List (List Int)) (i:Nat):sumL (A.take i)<=sumL A:=by
 have:=congrArg sumL (List.take_append_drop i A)
 rw [zcN] at this; omega
end Go.Proofs.YthhdollpkieknaaGreat


namespace Go.Proofs.YthhdollpkieknaaGreat
open Go.Abs
def pw (a k:Int):Int:=a ^ k.toNat%10007
theorem zbF (n:Int) (h0 : -9223372036854775808<=n) (h1:n<=9223372036854775807):Con Tryz.prog 81 [.int n] (.int (n%10007)):=by
 have e:=zjf n
 have b:=zi4 n
 refine zab Tryz.mixed ⟨3,[],[],[]⟩ Tryz.func81 ?_
 rw [Tryz.ntmps81]
 simp [go_sem,e]
 omega
theorem zej (n:Int) (h0 : -9223372036854775808<=n) (h1:n<=9223372036854775807):Con Tryz.prog 214 [.int n] (.int (n%10007)):=by
 have e:=zjf n
 have b:=zi4 n
 refine zab Tryz.mixed ⟨3,[],[],[]⟩ Tryz.func214 ?_
 rw [Tryz.ntmps214]
 simp [go_sem,e]
 omega
def fits (n:Int):Prop := -9223372036854775808<=n/\n<=9223372036854775807
theorem zdx (a b:Int) (h:fits (a*b)):Con Tryz.prog 124 [.int a,.int b] (.int (a*b%10007)):=by
 refine zab Tryz.mixed ⟨5,[],[],[]⟩ Tryz.func124 ?_
 rw [Tryz.ntmps124]
 simp [go_sem]
 refine ⟨h,CallVC.of (zej _ h.1 h.2) ?_⟩
 simp [go_sem]
theorem zk6 (a b:Int) (h:fits (a+b)):Con Tryz.prog 192 [.int a,.int b] (.int ((a+b)%10007)):=by
 refine zab Tryz.mixed ⟨5,[],[],[]⟩ Tryz.func192 ?_
 rw [Tryz.ntmps192]
 simp [go_sem]
 refine ⟨h,CallVC.of (zej _ h.1 h.2) ?_⟩
 simp [go_sem]
def isN (a:Int):Prop:=0<=a/\a<10007
theorem zak (n:Int):isN (n%10007):=⟨Int.emod_nonneg _ (by omega),Int.emod_lt_of_pos _ (by omega)⟩
theorem zdl {a b:Int} (ha:isN a) (hb:isN b):0<=a*b/\a*b<=100120036:=by
 obtain ⟨a0,a1⟩:=ha
 obtain ⟨b0,b1⟩:=hb
 exact ⟨Int.mul_nonneg a0 b0,Int.le_trans (Int.mul_le_mul_of_nonneg_right (show a<=10006 by omega) b0) (by omega)⟩
theorem zaK {a b:Int} (ha:isN a) (hb:isN b):fits (a*b):=by
 have:=zdl ha hb
 exact ⟨by omega,by omega⟩
theorem ztF (a:Int) (k:Nat):(a%10007) ^ k%10007=a ^ k%10007:=by
 induction k with
 | zero=>simp
 | succ k ih=>rw [Int.pow_succ,Int.pow_succ,Int.mul_emod,ih,Int.emod_emod,<- Int.mul_emod]
theorem zuV (a:Int) (q:Nat):(a*a) ^ q=a ^ (2*q):=by
 induction q with
 | zero=>simp
 | succ q ih=>rw [Int.pow_succ,ih,show 2*(q+1)=2*q+1+1 by omega,Int.pow_succ,Int.pow_succ,Int.mul_assoc]
theorem zco (o x:Int):o*(x%10007)%10007=o*x%10007:=by
 rw [Int.mul_emod,Int.emod_emod,<- Int.mul_emod]
theorem zcf (o x:Int):(x%10007)*o%10007=x*o%10007:=by
 rw [Int.mul_emod,Int.emod_emod,<- Int.mul_emod]
theorem ziM (o a:Int) (q:Nat):o*(a*a%10007) ^ q%10007=o*a ^ (2*q)%10007:=by
 rw [<- zco,ztF,zco,zuV]
theorem zrK (o a:Int) (q:Nat):(o*a%10007)*(a*a%10007) ^ q%10007=o*a ^ (2*q+1)%10007:=by
 rw [ziM,zcf,Int.pow_succ,Int.mul_assoc,Int.mul_comm (a ^ (2*q)) a]
theorem zbR (j:Nat):(j:Int).tdiv 2=((j / 2:Nat):Int):=by rw [zsM (by omega)]; omega
theorem zcL (j:Nat):(j:Int).tmod 2=((j%2:Nat):Int):=by rw [ztT (by omega)]; omega
theorem zuo (a k:Int) (ha:isN a) (hk:0<=k) (hk2:k<=9223372036854775807):Con Tryz.prog 116 [.int a,.int k] (.int (pw a k)):=by
 refine zab Tryz.mixed ⟨6,[],[],[]⟩ Tryz.func116 ?_
 rw [Tryz.ntmps116]
 simp [go_sem]
 refine zac (0::1::List.range' 4 30) (fun x:Int × Nat × Int=>[(0,.int x.1),(1,.int x.2.1),(5,.int x.2.2)])
  (fun x=>isN x.1/\(x.2.1:Int)<=9223372036854775807/\isN x.2.2/\x.2.2*x.1 ^ x.2.1%10007=a ^ k.toNat%10007) (fun x=>x.2.1) (a,k.toNat,1) ⟨ha,by simp; omega,⟨by simp,by simp⟩,by simp⟩ (by simp [go_sem]; omega) (by simp [go_sem]) ?_
 rintro ⟨b,j,o⟩ ⟨hb,hj,ho,he⟩
 simp only at hb hj ho he
 have f1:=zaK hb hb
 have f2:=zaK ho hb
 simp [go_sem]
 refine ⟨fun h=>?_,fun h=>?_⟩ <;> simp at h
 .simp [go_sem,zbR,zcL]
  refine ⟨fun h2=>?_,fun h2=>?_⟩ <;> simp at h2 <;> simp [go_sem]
  .refine ⟨f2,CallVC.of (zbF _ f2.1 f2.2) ?_⟩
   simp [go_sem]
   refine ⟨f1,CallVC.of (zbF _ f1.1 f1.2) ?_⟩
   simp [go_sem,zbR,zcL]
   refine ⟨by omega,b*b%10007,j / 2,o*b%10007,⟨zak _,by omega,zak _,?_⟩,by omega,zaa _ _ _ (by simp),rfl,by omega,rfl⟩
   rw [zrK,show 2*(j / 2)+1=j by omega,he]
  .refine ⟨f1,CallVC.of (zbF _ f1.1 f1.2) ?_⟩
   simp [go_sem,zbR,zcL]
   refine ⟨by omega,b*b%10007,j / 2,o,⟨zak _,by omega,ho,?_⟩,by omega,zaa _ _ _ (by simp),rfl,by omega,rfl⟩
   rw [ziM,show 2*(j / 2)=j by omega,he]
 .simp [go_sem]
  subst h
  unfold pw
  rw [<- he]
  simp
  rw [Int.emod_eq_of_lt ho.1 ho.2]
theorem zo6 (a k:Int) (ha:isN a) (hk:0<=k) (hk2:k<=9223372036854775807):Con Tryz.prog 122 [.int a,.int k] (.int (pw a k)):=by
 refine zab Tryz.mixed ⟨6,[],[],[]⟩ Tryz.func122 ?_
 rw [Tryz.ntmps122]
 simp [go_sem]
 refine zac (0::1::List.range' 4 30) (fun x:Int × Nat × Int=>[(0,.int x.1),(1,.int x.2.1),(5,.int x.2.2)])
  (fun x=>isN x.1/\(x.2.1:Int)<=9223372036854775807/\isN x.2.2/\x.2.2*x.1 ^ x.2.1%10007=a ^ k.toNat%10007) (fun x=>x.2.1) (a,k.toNat,1) ⟨ha,by simp; omega,⟨by simp,by simp⟩,by simp⟩ (by simp [go_sem]; omega) (by simp [go_sem]) ?_
 rintro ⟨b,j,o⟩ ⟨hb,hj,ho,he⟩
 simp only at hb hj ho he
 have f1:=zaK hb hb
 have f2:=zaK ho hb
 simp [go_sem]
 refine ⟨fun h=>?_,fun h=>?_⟩ <;> simp at h
 .simp [go_sem,zbR,zcL]
  refine ⟨fun h2=>?_,fun h2=>?_⟩ <;> simp at h2 <;> simp [go_sem]
  .refine CallVC.of (zdx _ _ f2) ?_
   simp [go_sem]
   refine CallVC.of (zdx _ _ f1) ?_
   simp [go_sem,zbR,zcL]
   refine ⟨by omega,b*b%10007,j / 2,o*b%10007,⟨zak _,by omega,zak _,?_⟩,by omega,zaa _ _ _ (by simp),rfl,by omega,rfl⟩
   rw [zrK,show 2*(j / 2)+1=j by omega,he]
  .refine CallVC.of (zdx _ _ f1) ?_
   simp [go_sem,zbR,zcL]
   refine ⟨by omega,b*b%10007,j / 2,o,⟨zak _,by omega,ho,?_⟩,by omega,zaa _ _ _ (by simp),rfl,by omega,rfl⟩
   rw [ziM,show 2*(j / 2)=j by omega,he]
 .simp [go_sem]
  subst h
  unfold pw
  rw [<- he]
  simp
  rw [Int.emod_eq_of_lt ho.1 ho.2]
theorem zv8 (a:Int) (ha:isN a):Con Tryz.prog 82 [.int a] (.int (pw a 10005)):=by
 refine zab Tryz.mixed ⟨3,[],[],[]⟩ Tryz.func82 ?_
 rw [Tryz.ntmps82]
 simp [go_sem]
 refine CallVC.of (zuo _ _ ha (by omega) (by omega)) ?_
 simp [go_sem]
theorem zqC (a:Int) (ha:isN a):Con Tryz.prog 126 [.int a] (.int (pw a 10005)):=by
 refine zab Tryz.mixed ⟨3,[],[],[]⟩ Tryz.func126 ?_
 rw [Tryz.ntmps126]
 simp [go_sem]
 refine CallVC.of (zo6 _ _ ha (by omega) (by omega)) ?_
 simp [go_sem]
end Go.Proofs.YthhdollpkieknaaGreat


namespace Go.Proofs.YthhdollpkieknaaGreat
open Go.Abs
end Go.Proofs.YthhdollpkieknaaGreat


namespace Go.Proofs.YthhdollpkieknaaGreat
open Go.Abs
def Ns (xs:List Int):Prop:=∀ x∈xs,isN x
theorem Ns.get {xs:List Int} (h:Ns xs) (k:Nat):isN (xs[k]?.getD 0):=by
 rcases Nat.lt_or_ge k xs.length with hk | hk
 .simp [hk]; exact h _ (List.getElem_mem hk)
 .simp [hk]; exact ⟨by omega,by omega⟩
theorem Ns.take {xs:List Int} (h:Ns xs) (k:Nat):Ns (xs.take k):=fun x hx=>h x (List.mem_of_mem_take hx)
theorem Ns.snoc {xs:List Int} (h:Ns xs) {x:Int} (hx:isN x):Ns (xs++[x]):=fun y hy=>by
 rcases List.mem_append.1 hy with hy | hy
 .exact h y hy
 .simp at hy; subst hy; exact hx
theorem Ns.nil:Ns []:=by intro x hx; simp at hx
def Mat (n:Nat) (A:List (List Int)):Prop:=∀ r∈A,r.length=n/\Ns r
theorem Mat.get {n:Nat} {A:List (List Int)} (h:Mat n A) {k:Nat} (hk:k<A.length):(A[k]?.getD []).length=n/\Ns (A[k]?.getD []):=by
 rw [List.getElem?_eq_getElem hk]; exact h _ (List.getElem_mem hk)
end Go.Proofs.YthhdollpkieknaaGreat


namespace Go.Proofs.YthhdollpkieknaaGreat
open Go.Abs
abbrev u64 (n:Int):AV:=.val (.int .u64 n)
theorem zcF {x:Int} (h0:0<=x) (h1:x<18446744073709551616):IntKind.wrap .u64 x=x:=zdQ (by
 have e1:IntKind.min .u64=0:=by decide
 have e2:IntKind.max .u64=18446744073709551615:=by decide
 unfold inK; rw [e1,e2]; omega)
end Go.Proofs.YthhdollpkieknaaGreat


namespace Go.Proofs.YthhdollpkieknaaGreat
open Go.Abs
theorem zfO (a:Int):Con Tryz.prog 266 [.int a] (.bool (decide (0<=a/\a<=10006))):=by
 refine zab Tryz.mixed ⟨3,[],[],[]⟩ Tryz.func266 ?_
 rw [Tryz.ntmps266]
 simp [go_sem]
 refine CallVC.of (ztC _ _ _) ?_
 simp [go_sem]
theorem zmU {xs:List Int} {i:Nat} (h:i<xs.length) (hb:¬ (0<=xs[i]?.getD 0/\xs[i]?.getD 0<=10006)):zcz xs=false:=by
 rw [List.getElem?_eq_getElem h] at hb
 simp only [Option.getD_some] at hb
 unfold zcz
 rw [List.all_eq_false]
 exact ⟨xs[i],List.getElem_mem h,by simpa using hb⟩
theorem zre {xs:List Int} (h:∀ x∈xs,0<=x/\x<=10006):zcz xs=true:=by
 unfold zcz
 rw [List.all_eq_true]
 intro x hx
 simpa using h x hx
theorem zcZ {xs:List Int}:zcz xs=true ↔ Ns xs:=by
 unfold zcz Ns isN
 rw [List.all_eq_true]
 constructor
 .intro h x hx
  have:=h x hx
  simp at this; omega
 .intro h x hx
  have:=h x hx
  simp; omega
theorem zhi {α:Type} {p:α->Prop} {xs:List α} {i:Nat} (h:i<xs.length) (h1:∀ x∈xs.take i,p x) (h2:p xs[i]):∀ x∈xs.take (i+1),p x:=by
 intro x hx
 rw [List.take_add_one,List.getElem?_eq_getElem h,Option.toList_some,List.mem_append,List.mem_singleton] at hx
 rcases hx with hx | rfl
 .exact h1 x hx
 .exact h2
theorem zhR (xs:List Int) (hl:xs.length<=9223372036854775807):Con Tryz.prog 208 [.sl xs.length (avs xs)] (.bool (zcz xs)):=by
 refine zab Tryz.mixed ⟨4,[],[],[]⟩ Tryz.func208 ?_
 rw [Tryz.ntmps208]
 simp [go_sem]
 refine zac (List.range' 2 14) (fun i:Nat=>[(3,.int i)]) (fun i=>i<=xs.length/\∀ x∈xs.take i,0<=x/\x<=10006) (fun i=>xs.length-i) 0 (by simp) (by simp [go_sem]) (by simp [go_sem]) ?_
 rintro i ⟨hi,hp⟩
 simp [go_sem]
 refine ⟨fun h=>?_,fun h=>?_⟩ <;> simp at h
 .simp [go_sem,zaj h]
  refine ⟨⟨h,by rintro rfl; simp at h⟩,?_⟩
  refine CallVC.of (zfO _) ?_
  by_cases hb:0<=xs[i]?.getD 0/\xs[i]?.getD 0<=10006
  .simp [go_sem,hb]
   refine ⟨by omega,i+1,⟨by omega,?_⟩,by omega,zaa _ _ _ (by simp),by omega⟩
   rw [List.getElem?_eq_getElem h,Option.getD_some] at hb
   exact zhi h hp hb
  .have e:decide (0<=xs[i]?.getD 0/\xs[i]?.getD 0<=10006)=false:=by simpa using hb
   rw [e]
   simp [go_sem]
   exact zmU h hb
 .simp [go_sem]
  have e:i=xs.length:=by omega
  subst e
  rw [List.take_length] at hp
  exact zre hp
structure Tab (A:List (List Int)) (B:List Int):Prop where
 pos:1<=B.length
 le:B.length<=8
 len:A.length=B.length
 b:Ns B
 a:Mat B.length A
end Go.Proofs.YthhdollpkieknaaGreat


namespace Go.Proofs.YthhdollpkieknaaGreat
open Go.Abs
def tb (f:Nat->Int) (k:Nat):List Int:=(List.range k).map f
@[simp] theorem zxn (f:Nat->Int) (k:Nat):(tb f k).length=k:=by simp [tb]
@[simp] theorem zwL (f:Nat->Int):tb f 0=[]:=rfl
theorem znz (f:Nat->Int) (k:Nat):tb f (k+1)=tb f k++[f k]:=by simp [tb,List.range_succ]
theorem znI (f:Nat->Int) {k i:Nat} (h:i<k):(tb f k)[i]?.getD 0=f i:=by simp [tb,h]
theorem tb_N {f:Nat->Int} {k:Nat} (h:∀ i,i<k->isN (f i)):Ns (tb f k):=by
 intro x hx
 simp [tb] at hx
 obtain ⟨i,hi,rfl⟩:=hx
 exact h i hi
theorem zcr {xs:List Int} {k:Nat} (h:k<xs.length):(avs xs)[k]?=some (AV.val (.int .i64 (xs[k]?.getD 0))):=by simp [avs,h]
def cv (a b:List Int) (n:Nat):Nat->Int
 | 0=>0
 | m+1=>cv a b n m+a[m]?.getD 0*b[n-m]?.getD 0
def mulS (a b:List Int):List Int:=tb (fun n=>cv a b n (n+1)%10007) a.length
@[simp] theorem zkd (a b:List Int):(mulS a b).length=a.length:=by simp [mulS]
theorem zrV (a b:List Int):Ns (mulS a b):=tb_N fun i _=>zak _
def es (b o:List Int) (n:Nat):Nat->Int
 | 0=>0
 | m+1=>es b o n m+(m+1)*(b[m+1]?.getD 0*o[n-(m+1)]?.getD 0%10007)
end Go.Proofs.YthhdollpkieknaaGreat


namespace Go.Proofs.YthhdollpkieknaaGreat
open Go.RowKit Go.Shelf Go.Abs
attribute [local go_sem] Oper.semAt_some
def upto {α:Type} (f:Nat->α) (k:Nat):List α:=(List.range k).map f
theorem zh8 {α:Type} (f:Nat->α) (k:Nat):upto f (k+1)=upto f k++[f k]:=by simp [upto,List.range_succ]
theorem zjz {α:Type} (f:Nat->α) (k:Nat):(upto f k).length=k:=by simp [upto]
abbrev BkT:=Int × { a:Int // isN a }
def bkF {zs:List Int} (hN:Ns zs) (len:Nat) (j:Nat):BkT:=((len:Int)-1-j,⟨zs[len-1-j]?.getD 0,hN.get _⟩)
def KpC (Bs b:Nat) (A B:World):Prop:=(∀ v,A.cell? ⟨Bs,0,none⟩=some v->B.cell? ⟨Bs,0,none⟩=some v)/\∀ j v,A.cell? ⟨b,j,none⟩=some v->B.cell? ⟨b,j,none⟩=some v
theorem KpC.trans {Bs b:Nat} {A B C:World} (h:KpC Bs b A B) (k:KpC Bs b B C):KpC Bs b A C:=⟨fun v hv=>k.1 v (h.1 v hv),fun j v hv=>k.2 j v (h.2 j v hv)⟩
theorem KpC.book {Bs b:Nat} (W:World) (l:Nat) (o o':Obj) (hl:W.heap[l]?=some o) (ho:o.isCells=false):KpC Bs b W (W.putObj l o') :=
 ⟨fun v hv=>cell_kept hv (grownBy_putObj' W l o') (fun r e=>by cases e; exact ⟨o,hl,ho⟩),fun j v hv=>cell_kept hv (grownBy_putObj' W l o') (fun r e=>by cases e; exact ⟨o,hl,ho⟩)⟩
theorem KpC.refl (Bs b:Nat) (W:World):KpC Bs b W W:=⟨fun _ h=>h,fun _ _ h=>h⟩
theorem zp5 (F:Fence) (n:Nat) (h7:F.fn 255) (hro:F.round=none) (hn:1<=n) (l Bs b off len cap:Nat) (zs:List Int) (hN:Ns zs) (hreach:len*8<=140737488351232) (J Jx:List BkT->World->Prop)
  (hY:∀ pre x W,J pre W->pre.length<len->YieldAt F (n-1) Tryz.prog l #[.int .i64 x.1,.int .i64 x.2.1] W fun e W' =>
   (e=.returned (.bool true)/\J (pre++[x]) W'/\KpC Bs b W W')\/(e=.returned (.bool false)/\Jx (pre++[x]) W'))
  (W:World) (hBs:W.cell? ⟨Bs,0,none⟩=some (.slice (some ⟨b,off,none⟩) len cap)) (hc:∀ j,j<len->W.cell? ⟨b,off+j,none⟩=some (.int .i64 (zs[j]?.getD 0))) (h0:J [] W) :
  CallsIn F n Tryz.prog 255 #[.func (.yield l) #[] #[],.pointer (some ⟨Bs,0,none⟩)] W fun e W'=>(∃ v,e=.returned v) /\
   ((∃ ys,ys=upto (bkF hN len) len/\J ys W')\/(∃ pre,(∃ k,k<=len/\pre=upto (bkF hN len) k)/\Jx pre W')):=by
 refine callsIn_of_wp Tryz.func255 rfl h7 ?_ hro
 simp only [Tryz.ntmps255,List.size_toArray,List.length_cons,List.length_nil,Nat.reduceAdd,Nat.reduceSub,Array.replicate_succ,Array.replicate_zero,List.push_toArray,List.append_toArray,List.nil_append,List.cons_append]
 gi_wp2
 gi_loopw [3] (fun i wr=>∃ k:Nat,k<=len/\i=.int .i64 ((len:Int)-1-k)/\J (upto (bkF hN len) k) wr/\KpC Bs b W wr)
  (fun i _=>(intOf i+1).toNat)
 case atStart =>
  exact ⟨0,Nat.zero_le _,by simp,h0,KpC.refl _ _ _⟩
 case round =>
  obtain ⟨k,hk,rfl,hJs,hnx⟩:=hrel
  have hBx:wr.cell? ⟨Bs,0,none⟩=some (.slice (some ⟨b,off,none⟩) len cap):=hnx.1 _ hBs
  by_cases hlt:k<len
  .have hcx:wr.cell? ⟨b,off+(len-1-k),none⟩=some (.int .i64 (zs[len-1-k]?.getD 0)):=hnx.2 _ _ (hc _ (by omega))
   obtain ⟨fn,tmps,assign,body,hy,hR⟩:=hY _ (bkF hN len k) wr hJs (by rw [zjz]; exact hlt)
   dsimp only [bkF] at hy
   have ek:(len:Int)-1-k=((len-1-k:Nat):Int):=by omega
   have hlt2:len-1-k<len:=by omega
   rw [ek] at hy
   gi_wp2
   refine hR.mono ?_
   rintro e W3 (⟨rfl,hJ3,hk3⟩ | ⟨rfl,hJx3⟩)
   .gi_wp2
    go_roundw
    case rel=>exact ⟨k+1,by omega,by simp; omega,by rw [zh8]; exact hJ3,hnx.trans hk3⟩
    case measure=>simp [intOf]; omega
   .gi_wp2
    refine bodyPost_ret (results_none rfl _ _ _) rfl ?_
    exact ⟨⟨_,rfl⟩,.inr ⟨_,⟨k+1,by omega,(zh8 _ _).symm⟩,hJx3⟩⟩
  .obtain rfl:k=len:=by omega
   gi_wp2
   go_end0
   exact ⟨⟨_,rfl⟩,.inl ⟨_,rfl,hJs⟩⟩
theorem zna (F:Fence) (n:Nat) (h5:F.fn 200) (hro:F.round=none) (a:Option Addr) (len cap:Nat) (w:World) :
  CallsIn F n Tryz.prog 200 #[.slice a len cap] w fun e w'=>e=.returned (.func (.func 255) #[] #[.pointer (some ⟨w.heap.size,0,none⟩)])/\w'=w.alloc (.cells #[.slice a len cap] 25):=by
 refine callsIn_of_wp Tryz.func200 rfl h5 ?_ hro
 simp only [Tryz.ntmps200,List.size_toArray,List.length_cons,List.length_nil,Nat.reduceAdd,Nat.reduceSub,Array.replicate_succ,Array.replicate_zero,List.push_toArray,List.append_toArray,List.nil_append,List.cons_append]
 gi_wp2
 go_ret
 exact ⟨rfl,rfl⟩
theorem zlR (F:Fence) (n:Nat) (h7:F.fn 255) (hro:F.round=none) (hn:1<=n) (Bs b off cap:Nat) (zs:List Int) (hN:Ns zs) (hreach:zs.length*8<=140737488351232) (w:World) (hBs:Bs<w.heap.size) (hb:b<w.heap.size)
  (hc:w.cell? ⟨Bs,0,none⟩=some (.slice (some ⟨b,off,none⟩) zs.length cap)) (hz:∀ j,j<zs.length->w.cell? ⟨b,off+j,none⟩=some (.int .i64 (zs[j]?.getD 0))) :
  SeqStopsK F n Tryz.prog 255 #[.pointer (some ⟨Bs,0,none⟩)] (fun x:BkT=>#[Value.int .i64 x.1,Value.int .i64 x.2.1]) (KpC Bs b) (fun ys=>ys=upto (bkF hN zs.length) zs.length)
   (fun pre=>∃ k,k<=zs.length/\pre=upto (bkF hN zs.length) k) zs.length w:=fun l J Jx W hW _ _ hY h0 =>
 zp5 F n h7 hro hn l Bs b off zs.length cap zs hN hreach J Jx hY W ((hW.cell (p:=⟨Bs,0,none⟩) hBs).trans hc) (fun j hj=>(hW.cell (p:=⟨b,off+j,none⟩) hb).trans (hz j hj)) h0
end Go.Proofs.YthhdollpkieknaaGreat


namespace Go.Proofs.YthhdollpkieknaaGreat
open Go.RowKit Go.Shelf Go.Abs
attribute [local go_sem] Oper.semAt_some
theorem Con.int1 {f:FuncId} {x y:Int} (h:Con Tryz.prog f [.int x] (.int y)) (w:World) :
  Calls Tryz.prog f #[.int .i64 x] w fun e w'=>e=.returned (.int .i64 y)/\Below w.heap.size w w':=by
 refine (h.2 w [.int .i64 x] rfl (fun tm oss=>.cons _ _ [] _ _ [] (.cell _ _ _ (.val _ rfl)) (.nil _))).mono ?_
 rintro e w' ⟨v,os,rfl,hx,hr,_⟩
 exact ⟨by rw [(hr (fun _=>undef) (fun _=>[])).val_eq],hx.below⟩
theorem zgX {P:Program} {w:World} {F:Nat->Prop}:∀ {zs:List Int} {vs:List Value} {os:List Nat},RepL P w F (avs zs) vs os->∀ j,j<zs.length->vs[j]?=some (.int .i64 (zs[j]?.getD 0))
 | [],_,_,_,j,hj=>by simp at hj
 | z::zs,vs,os,h,j,hj=>by
  have e:avs (z::zs)=.val (.int .i64 z)::avs zs:=rfl
  rw [e] at h
  cases h with
  | cons c v o cs vs os' h t =>
   cases h with
   | val _ _ =>
    cases j with
    | zero=>rfl
    | succ j=>exact zgX t j (by simpa using hj)
theorem znS {zs:List Int} (hN:Ns zs):(upto (bkF hN zs.length) zs.length).map (·.2.1)=zs.reverse:=by
 refine List.ext_getElem (by simp [upto]) fun k h1 h2=>?_
 have hk:k<zs.length:=by simpa using h2
 have h3:zs.length-1-k<zs.length:=by omega
 simp [upto,bkF,h3]
end Go.Proofs.YthhdollpkieknaaGreat


namespace Go.Proofs.YthhdollpkieknaaGreat
abbrev Key3:=Int × Int × Int
def sumI {α:Type} (f:α->Int):List α->Int
 | []=>0
 | a::l=>f a+sumI f l
theorem zkM {α:Type} (f:α->Int) (l r:List α):sumI f (l++r)=sumI f l+sumI f r:=by
 induction l with
 | nil=>simp [sumI]
 | cons a l ih=>simp [sumI,ih]; omega
theorem zgF {α:Type} (f g:α->Int):∀ l:List α,sumI (fun a=>f a+g a) l=sumI f l+sumI g l
 | []=>rfl
 | a::l=>by simp only [sumI,zgF f g l]; omega
theorem zgV {α:Type} (c:Int) (f:α->Int):∀ l:List α,sumI (fun a=>c*f a) l=c*sumI f l
 | []=>by simp [sumI]
 | a::l=>by simp only [sumI,zgV c f l,Int.mul_add]
theorem zaS {α:Type} {f:α->Int}:∀ {l:List α},(∀ a∈l,f a=0)->sumI f l=0
 | [],_=>rfl
 | a::l,h=>by simp only [sumI,h a (by simp),zaS (l:=l) (fun b hb=>h b (by simp [hb]))]; rfl
theorem za7 {α:Type} {f g:α->Int}:∀ {l:List α},(∀ a∈l,f a=g a)->sumI f l=sumI g l
 | [],_=>rfl
 | a::l,h=>by simp only [sumI,h a (by simp),za7 (l:=l) (fun b hb=>h b (by simp [hb]))]
theorem zev {α:Type} {P:Int} {f g:α->Int}:∀ {l:List α},(∀ a∈l,f a%P=g a%P)->sumI f l%P=sumI g l%P
 | [],_=>rfl
 | a::l,h=>by
  simp only [sumI]
  rw [Int.add_emod,h a (by simp),zev (l:=l) (fun b hb=>h b (by simp [hb])),<- Int.add_emod]
theorem zeL {α β:Type} (f:α->β->Int):∀ (l:List α) (r:List β),sumI (fun a=>sumI (fun b=>f a b) r) l=sumI (fun b=>sumI (fun a=>f a b) l) r
 | [],r=>by simp only [sumI]; exact (zaS (fun _ _=>rfl)).symm
 | a::l,r=>by
  simp only [sumI]
  rw [zeL f l r,<- zgF]
theorem zkA {α:Type} [DecidableEq α] (e:α) (v:Int):∀ {l:List α},l.Nodup->e∈l->sumI (fun k=>if k=e then v else 0) l=v
 | a::l,hn,he=>by
  obtain ⟨h1,h2⟩:=List.nodup_cons.1 hn
  simp only [sumI]
  by_cases h:a=e
  .subst h
   rw [if_pos rfl,zaS (fun b hb=>if_neg (fun hh=>h1 (by rw [<- hh]; exact hb)))]; omega
  .have hel:e∈l:=by
    rcases List.mem_cons.1 he with he | he
    .exact (h he.symm).elim
    .exact he
   rw [if_neg h,zkA e v h2 hel]; omega
def r4:List Int:=[0,1,2,3]
def box:List Key3:=r4.flatMap fun i=>r4.flatMap fun j=>r4.map fun k=>(i,j,k)
theorem zvh:box.Nodup:=by decide
theorem zdM {k:Key3}:k∈box ↔ 0<=k.1/\k.1<=3/\0<=k.2.1/\k.2.1<=3/\0<=k.2.2/\k.2.2<=3:=by
 obtain ⟨a,b,c⟩:=k
 have h4:∀ x:Int,x∈r4 ↔ 0<=x/\x<=3:=fun x=>by simp [r4]; omega
 simp only [box,List.mem_flatMap,List.mem_map,Prod.mk.injEq]
 constructor
 .rintro ⟨i,hi,j,hj,k,hk,rfl,rfl,rfl⟩
  have:=(h4 i).1 hi; have:=(h4 j).1 hj; have:=(h4 k).1 hk
  omega
 .rintro ⟨h1,h2,h3,h5,h6,h7⟩
  exact ⟨a,(h4 a).2 ⟨h1,h2⟩,b,(h4 b).2 ⟨h3,h5⟩,c,(h4 c).2 ⟨h6,h7⟩,rfl,rfl,rfl⟩
def trm (y:Nat->Int) (k:Key3):Int:=y 0 ^ k.1.toNat*(y 1 ^ k.2.1.toNat*y 2 ^ k.2.2.toNat)
def Val (y:Nat->Int) (C:Key3->Int):Int:=sumI (fun k=>C k*trm y k) box
theorem zm9 (y:Nat->Int) (C D:Key3->Int):Val y (fun k=>C k+D k)=Val y C+Val y D:=by
 unfold Val; rw [<- zgF]; exact za7 (fun k _=>Int.add_mul _ _ _)
theorem zt7 (y:Nat->Int) (c:Int) (C:Key3->Int):Val y (fun k=>c*C k)=c*Val y C:=by
 unfold Val; rw [<- zgV]; exact za7 (fun k _=>Int.mul_assoc _ _ _)
theorem ztx (y:Nat->Int) (e:Key3) (v:Int) (he:e∈box):Val y (fun k=>if k=e then v else 0)=v*trm y e:=by
 unfold Val
 rw [<- zkA e (v*trm y e) zvh he]
 refine za7 (fun k _=>?_)
 show (if k=e then v else 0)*trm y k=if k=e then v*trm y e else 0
 by_cases h:k=e
 .rw [if_pos h,if_pos h,h]
 .rw [if_neg h,if_neg h,Int.zero_mul]
theorem zs9 (y:Nat->Int) {P:Int} {C D:Key3->Int} (h:∀ k∈box,C k%P=D k%P):Val y C%P=Val y D%P:=by
 unfold Val
 refine zev (fun k hk=>?_)
 rw [Int.mul_emod,h k hk,<- Int.mul_emod]
def coef {α:Type} (key:α->Key3) (num:α->Int) (l:List α) (k:Key3):Int:=sumI (fun a=>if k=key a then num a else 0) l
theorem zgp {α:Type} (y:Nat->Int) (key:α->Key3) (num:α->Int):∀ l:List α,(∀ a∈l,key a∈box)->Val y (coef key num l)=sumI (fun a=>num a*trm y (key a)) l
 | [],_=>by unfold Val coef; simp only [sumI]; exact zaS (fun _ _=>by simp)
 | a::l,h=>by
  have e:coef key num (a::l)=fun k=>(if k=key a then num a else 0)+coef key num l k:=rfl
  rw [e,zm9,ztx y (key a) (num a) (h a (by simp)),zgp y key num l (fun b hb=>h b (by simp [hb]))]; rfl
def inc (i:Nat) (k:Key3):Key3:=if i=0 then (k.1+1,k.2.1,k.2.2) else if i=1 then (k.1,k.2.1+1,k.2.2) else (k.1,k.2.1,k.2.2+1)
def at3 (i:Nat) (k:Key3):Int:=if i=0 then k.1 else if i=1 then k.2.1 else k.2.2
def der (i:Nat) (C:Key3->Int) (k:Key3):Int:=(at3 i k+1)*C (inc i k)
theorem zst (i:Nat) (C D:Key3->Int) (k:Key3):der i (fun k=>C k+D k) k=der i C k+der i D k:=by simp only [der,Int.mul_add]
theorem zt4 (i:Nat) (c:Int) (C:Key3->Int) (k:Key3):der i (fun k=>c*C k) k=c*der i C k:=by simp only [der]; rw [Int.mul_left_comm]
def alo (v:Nat->Int) (C:Key3->Int):Nat->Key3->Int
 | 0,_=>0
 | n+1,k=>alo v C n k+v n*der n C k
end Go.Proofs.YthhdollpkieknaaGreat


namespace Go.Proofs.YthhdollpkieknaaGreat
open Go.Abs
abbrev Mon:=Int × List Int
def mons (p:List Mon):List AV:=p.flatMap fun m=>[.int m.1,.sl m.2.length (avs m.2)]
def zb3 (p:List Mon):List AV:=p.flatMap fun m=>[.int m.1,.own 2 m.2.length (avs m.2)]
def prt (f:List (List Mon)):List AV:=f.map fun p=>.sl p.length (mons p)
def oprt (f:List (List Mon)):List AV:=f.map fun p=>.own 62 p.length (zb3 p)
theorem zcw (m:Mon) (p:List Mon):mons (m::p)=.int m.1::.sl m.2.length (avs m.2)::mons p:=rfl
theorem zdP (m:Mon) (p:List Mon):zb3 (m::p)=.int m.1::.own 2 m.2.length (avs m.2)::zb3 p:=rfl
@[simp] theorem zvO:mons []=[]:=rfl
@[simp] theorem zuH:zb3 []=[]:=rfl
@[simp] theorem zqU:∀ p:List Mon,(mons p).length=p.length*2
 | []=>rfl
 | m::p=>by rw [zcw]; simp [zqU p]; omega
@[simp] theorem zmB:∀ p:List Mon,(zb3 p).length=p.length*2
 | []=>rfl
 | m::p=>by rw [zdP]; simp [zmB p]; omega
@[simp] theorem zwI {p:List Mon}:(mons p=[])=(p=[]):=by cases p <;> simp [zcw]
@[simp] theorem zv9 (f:List (List Mon)):(prt f).length=f.length:=by simp [prt]
@[simp] theorem zvE (f:List (List Mon)):(oprt f).length=f.length:=by simp [oprt]
@[simp] theorem zxe {f:List (List Mon)}:(prt f=[])=(f=[]):=by cases f <;> simp [prt]
@[simp] theorem zl8:∀ p:List Mon,frzL (zb3 p)=mons p
 | []=>rfl
 | m::p=>by rw [zdP,zcw]; simp [frzL,frz,zl8 p]
@[simp] theorem zro:∀ p:List Mon,frzL (mons p)=mons p
 | []=>rfl
 | m::p=>by rw [zcw]; simp [frzL,frz,zro p]
@[simp] theorem ze6:∀ p:List Mon,zap (zb3 p)=true
 | []=>rfl
 | m::p=>by rw [zdP]; simp [zap,zat,ze6 p]
@[simp] theorem zp7:∀ f:List (List Mon),frzL (oprt f)=prt f
 | []=>rfl
 | p::f=>by have:=zp7 f; simp only [oprt,prt,List.map_cons,frzL] at this |-; rw [this]; simp [frz]
@[simp] theorem zly:∀ f:List (List Mon),zap (oprt f)=true
 | []=>rfl
 | p::f=>by have:=zly f; simp only [oprt,List.map_cons,zap] at this |-; rw [this]; simp [zat]
theorem zdF:∀ {p:List Mon} {k:Nat},k<p.length->(mons p).drop (k*2)=.val (.int .i64 (p[k]?.getD (0,[])).1)::.sl (p[k]?.getD (0,[])).2.length (avs (p[k]?.getD (0,[])).2)::mons (p.drop (k+1))
 | m::p,0,_=>rfl
 | m::p,k+1,h=>by
  have:=zdF (p:=p) (k:=k) (by simpa using h)
  rw [zcw,show (k+1)*2=k*2+1+1 by omega]
  simpa using this
theorem zkD {f:List (List Mon)} {k:Nat} (h:k<f.length):(prt f).drop k=.sl (f[k]?.getD []).length (mons (f[k]?.getD []))::prt (f.drop (k+1)):=by
 rw [prt,<- List.map_drop,List.drop_eq_getElem_cons h,List.map_cons]; simp [h,prt]
def sumC {α:Type} (c:α->Nat):List α->Nat
 | []=>0
 | a::l=>c a+sumC c l
structure SzOk {α:Type} (g:Int->α->Int) (c:α->Nat):Prop where
 lo:∀ l a,-1<=g l a
 hi:∀ l a,0<=l->g l a<=l
 ok:∀ l a,0<=l->0<=g l a->(c a:Int)<=l-g l a
def cM (m:Mon):Nat:=m.2.length
def cP (p:List Mon):Nat:=p.length+sumC cM p
def cF (f:List (List Mon)):Nat:=f.length+sumC cP f
end Go.Proofs.YthhdollpkieknaaGreat


namespace Go.Proofs.YthhdollpkieknaaGreat
open Go.Abs
theorem znA (p q:List Mon):zb3 (p++q)=zb3 p++zb3 q:=by simp [zb3]
theorem zpI (f g:List (List Mon)):oprt (f++g)=oprt f++oprt g:=by simp [oprt]
end Go.Proofs.YthhdollpkieknaaGreat


namespace Go.Proofs.YthhdollpkieknaaGreat
open Go.Abs
theorem zsy {xs:List Int} {k:Nat} (h:k<xs.length):(avs xs)[k]?=some (AV.val (.int .i64 (xs[k]?.getD 0))):=by simp [avs,h]
def ltL:List Int->List Int->Bool
 | _,[]=>false
 | [],_::_=>true
 | x::xs,y::ys=>if x=y then ltL xs ys else decide (x<y)
theorem zrW:∀ {a b:List Int} {i:Nat},i<a.length->i<b.length->a.take i=b.take i->a[i]?.getD 0≠b[i]?.getD 0->ltL a b=decide (a[i]?.getD 0<b[i]?.getD 0)
 | x::a,y::b,0,_,_,_,h=>by
  simp at h
  simp [ltL,h]
 | x::a,y::b,i+1,h1,h2,h3,h4=>by
  simp at h3
  simp only [ltL,if_pos h3.1]
  simpa using zrW (a:=a) (b:=b) (i:=i) (by simpa using h1) (by simpa using h2) h3.2 (by simpa using h4)
theorem zja:∀ {a b:List Int} {i:Nat},a.take i=b.take i->i<=a.length->i<=b.length->(a.length<=i\/b.length<=i)->ltL a b=decide (a.length<b.length)
 | _,[],i,_,_,_,_=>by simp [ltL]
 | [],_::_,i,_,_,_,_=>by simp [ltL]
 | x::a,y::b,0,_,h1,h2,h3=>by simp at h3
 | x::a,y::b,i+1,h,h1,h2,h3=>by
  simp at h
  simp only [ltL,if_pos h.1]
  have:=zja (a:=a) (b:=b) (i:=i) h.2 (by simpa using h1) (by simpa using h2) (by simpa using h3)
  rw [this]; simp
theorem zk3 {a b:List Int} {i:Nat} (h1:i<a.length) (h2:i<b.length) (h:a.take i=b.take i) (e:a[i]?.getD 0=b[i]?.getD 0):a.take (i+1)=b.take (i+1):=by
 rw [List.getElem?_eq_getElem h1,List.getElem?_eq_getElem h2] at e
 simp at e
 rw [List.take_add_one,List.take_add_one,h,List.getElem?_eq_getElem h1,List.getElem?_eq_getElem h2,e]
theorem zic (a b:List Int) (ha:a.length<=9223372036854775807) (hb:b.length<=9223372036854775807):Con Tryz.prog 225 [.sl a.length (avs a),.sl b.length (avs b)] (.bool (ltL a b)):=by
 refine zab Tryz.mixed ⟨6,[],[],[]⟩ Tryz.func225 ?_
 rw [Tryz.ntmps225]
 simp [go_sem]
 refine zac (4::5::List.range' 6 30) (fun i:Nat=>[(5,.int i)]) (fun i=>i<=a.length/\i<=b.length/\a.take i=b.take i) (fun i=>a.length-i) 0 (by simp) (by simp [go_sem]) (by simp [go_sem]) ?_
 rintro i ⟨hi,hj,he⟩
 by_cases h1:i<a.length
 .by_cases h2:i<b.length
  .have h1':(i:Int)<a.length:=by omega
   have h2':(i:Int)<b.length:=by omega
   by_cases hd:a[i]?.getD 0=b[i]?.getD 0
   .simp [go_sem,h1,h2,h1',h2',zaj h1,zaj h2,hd]
    refine ⟨by kernel_rfl,by rintro rfl; simp at h1,by rintro rfl; simp at h2,?_⟩
    have hd2:a[i]=b[i]:=by simpa [h1,h2] using hd
    refine ⟨by kernel_rfl,?_⟩
    simp [go_sem]
    simp [go_sem,hd2]
    refine ⟨by omega,i+1,⟨by omega,by omega,zk3 h1 h2 he hd⟩,by omega,zaa _ _ _ (by simp),by omega⟩
   .simp [go_sem,h1,h2,h1',h2',zaj h1,zaj h2,hd]
    refine ⟨by kernel_rfl,by rintro rfl; simp at h1,by rintro rfl; simp at h2,?_⟩
    have hd2:¬ a[i]=b[i]:=by simpa [h1,h2] using hd
    refine ⟨by kernel_rfl,?_⟩
    simp [go_sem]
    simp [go_sem,hd2,zaj h1,zaj h2]
    refine ⟨by kernel_rfl,⟨h1,by rintro rfl; simp at h1⟩,⟨h2,by rintro rfl; simp at h2⟩,?_⟩
    refine ⟨by kernel_rfl,?_⟩
    simp [go_sem]
    rw [zrW h1 h2 he hd]
  .have h2':¬ (i:Int)<b.length:=by omega
   simp [go_sem,h1,h2,h2']
   rw [zja he hi hj (.inr (by omega))]
 .simp [go_sem,h1]
  rw [zja he hi hj (.inl (by omega))]
def degL:List Int->Int->Int
 | [],s=>s
 | x::xs,s=>if x<0\/100<x then 1000 else degL xs (s+x)
def monB (z:Int) (m:Mon):Bool:=decide (1<=m.1/\m.1<=10006) && decide ((m.2.length:Int)=z) && decide (degL m.2 0<=3)
def atB (z:Int) (p:List Mon) (j:Nat):Bool:=monB z (p[j]?.getD (0,[])) && (decide (j=0) || ltL (p[j-1]?.getD (0,[])).2 (p[j]?.getD (0,[])).2)
def zbx (z:Int) (p:List Mon):Bool:=(List.range p.length).all (atB z p)
def zbp (z:Int) (f:List (List Mon)):Bool:=decide (1<=z/\z<=3) && decide ((f.length:Int)=z) && f.all (zbx z)
theorem zpS {z:Int} {p:List Mon} {j:Nat} (hj:j<p.length) (h:atB z p j=false):zbx z p=false:=by
 unfold zbx; rw [List.all_eq_false]; exact ⟨j,by simpa using hj,by simp [h]⟩
theorem zmg {z:Int} {p:List Mon} (h:∀ j,j<p.length->atB z p j=true):zbx z p=true:=by
 unfold zbx; rw [List.all_eq_true]; intro j hj; exact h j (by simpa using hj)
theorem znK {z:Int} {f:List (List Mon)} {i:Nat} (hi:i<f.length) (h:zbx z (f[i]?.getD [])=false):zbp z f=false:=by
 unfold zbp
 have:f.all (zbx z)=false:=by rw [List.all_eq_false]; exact ⟨f[i]?.getD [],by simp [hi],by simp [h]⟩
 rw [this]; simp
def zhW (f:List (List Mon)):Prop:=f.length<=1048576/\∀ p∈f,p.length<=1048576/\∀ q∈p,q.2.length<=1048576
end Go.Proofs.YthhdollpkieknaaGreat


namespace Go.Proofs.YthhdollpkieknaaGreat
open Go.Abs
theorem zjD:∀ {xs:List Int} {s:Int},0<=s->degL xs s<=3->(∀ x∈xs,0<=x/\x<=3)/\s+xs.sum<=3
 | [],s,h0,h=>by simpa [degL] using h
 | x::xs,s,h0,h=>by
  rw [degL] at h
  split at h
  .omega
  .rename_i hx
   have hd:=zjD (xs:=xs) (s:=s+x) (by omega) h
   have pos:∀ (l:List Int),(∀ x∈l,0<=x/\x<=3)->0<=l.sum:=by
    intro l
    induction l with
    | nil=>simp
    | cons a l ih=>intro h; have h1:=h a (by simp); have h2:=ih (fun x hx=>h x (by simp [hx])); simp; omega
   have hs:=pos xs hd.1
   have hd2:=hd.2
   refine ⟨fun y hy=>?_,by simp; omega⟩
   rcases List.mem_cons.1 hy with rfl | hy
   .omega
   .exact hd.1 y hy
structure MonOk (z:Int) (m:Mon):Prop where
 lo:1<=m.1
 hi:m.1<=10006
 len:(m.2.length:Int)=z
 pw:∀ x∈m.2,0<=x/\x<=3
 deg:m.2.sum<=3
theorem zr3 {z:Int} {m:Mon} (h:monB z m=true):MonOk z m:=by
 unfold monB at h
 simp only [Bool.and_eq_true,decide_eq_true_eq] at h
 have:=zjD (by omega:(0:Int)<=0) h.2
 exact ⟨h.1.1.1,h.1.1.2,h.1.2,this.1,by omega⟩
theorem MonOk.get {z:Int} {m:Mon} (h:MonOk z m) (k:Nat):0<=m.2[k]?.getD 0/\m.2[k]?.getD 0<=3:=by
 rcases Nat.lt_or_ge k m.2.length with hk | hk
 .simp [hk]; exact h.pw _ (List.getElem_mem hk)
 .simp [hk]
structure FieldOk (z:Int) (f:List (List Mon)):Prop where
 lo:1<=z
 hi:z<=3
 len:(f.length:Int)=z
 part:∀ p∈f,zbx z p=true
theorem zfX {z:Int} {f:List (List Mon)}:zbp z f=true ↔ FieldOk z f:=by
 unfold zbp
 simp only [Bool.and_eq_true,decide_eq_true_eq,List.all_eq_true]
 exact ⟨fun ⟨⟨⟨a,b⟩,c⟩,d⟩=>⟨a,b,c,d⟩,fun ⟨a,b,c,d⟩=>⟨⟨⟨a,b⟩,c⟩,d⟩⟩
theorem zeo {z:Int} {p:List Mon} (h:zbx z p=true) {j:Nat} (hj:j<p.length):MonOk z (p[j]?.getD (0,[]))/\(0<j->ltL (p[j-1]?.getD (0,[])).2 (p[j]?.getD (0,[])).2=true):=by
 unfold zbx at h
 have:=(List.all_eq_true.1 h) j (by simpa using hj)
 unfold atB at this
 simp only [Bool.and_eq_true,Bool.or_eq_true,decide_eq_true_eq] at this
 exact ⟨zr3 this.1,fun h0=>this.2.resolve_left (by omega)⟩
theorem zb2 {z:Int} {p:List Mon} (h:zbx z p=true) {m:Mon} (hm:m∈p):MonOk z m:=by
 obtain ⟨j,hj,rfl⟩:=List.getElem_of_mem hm
 have:=(zeo h hj).1
 simpa [hj] using this
def tmF (y e:List Int) (x:Int):Nat->Int
 | 0=>x
 | i+1=>tmF y e x i*Go.Proofs.YthhdollpkieknaaGreat.pw (y[i]?.getD 0) (e[i]?.getD 0)%10007
theorem zpK {y e:List Int} {x:Int} (h:isN x):∀ i,isN (tmF y e x i)
 | 0=>h
 | i+1=>zak _
def vsum (y:List Int):List Mon->Int
 | []=>0
 | m::p=>tmF y m.2 m.1 y.length+vsum y p
end Go.Proofs.YthhdollpkieknaaGreat


namespace Go.Proofs.YthhdollpkieknaaGreat
open Go.Abs
def cmpI (x y:Int):Int:=if x<y then -1 else if y<x then 1 else 0
theorem zmQ [DrawK] (x:Int):Con Tryz.prog 286 [.int x] (.bool false):=by
 refine zab Tryz.mixed ⟨3,[],[],[]⟩ Tryz.func286 ?_
 rw [Tryz.ntmps286]
 simp [go_sem]
theorem zlT [DrawK] (x y:Int):Con Tryz.prog 238 [.int x,.int y] (.int (cmpI x y)):=by
 refine zab Tryz.mixed ⟨7,[],[],[]⟩ Tryz.func238 ?_
 rw [Tryz.ntmps238]
 simp [go_sem]
 refine CallVC.of (zmQ _) ?_
 simp [go_sem]
 refine CallVC.of (zmQ _) ?_
 simp [go_sem]
 unfold cmpI
 by_cases h1:x<y
 .simp [go_sem,h1]
 .by_cases h2:y<x
  .simp [go_sem,h1,h2]
  .simp [go_sem,h1,h2]
def cmpL:List Int->List Int->Int
 | [],[]=>0
 | [],_::_ => -1
 | _::_,[]=>1
 | x::xs,y::ys=>if x=y then cmpL xs ys else cmpI x y
theorem znL {x y:Int} (h:x≠y):cmpI x y≠0:=by unfold cmpI; split; omega; split <;> omega
theorem zjA:∀ a b:List Int,decide (0<=cmpL a b)=!ltL a b
 | [],[]=>by simp [cmpL,ltL]
 | [],_::_=>by simp [cmpL,ltL]
 | _::_,[]=>by simp [cmpL,ltL]
 | x::xs,y::ys=>by
  rw [cmpL,ltL]
  by_cases h:x=y
  .rw [if_pos h,if_pos h]; exact zjA xs ys
  .rw [if_neg h,if_neg h]
   unfold cmpI
   by_cases h1:x<y
   .simp [h1]
   .have:y<x:=by omega
    simp [h1,this]
theorem zoQ:∀ {a b:List Int} {i:Nat},i<a.length->i<b.length->a.take i=b.take i->a[i]?.getD 0≠b[i]?.getD 0->cmpL a b=cmpI (a[i]?.getD 0) (b[i]?.getD 0)
 | x::a,y::b,0,_,_,_,h=>by
  simp at h
  simp [cmpL,h]
 | x::a,y::b,i+1,h1,h2,h3,h4=>by
  simp at h3
  simp only [cmpL,if_pos h3.1]
  simpa using zoQ (a:=a) (b:=b) (i:=i) (by simpa using h1) (by simpa using h2) h3.2 (by simpa using h4)
theorem zhY:∀ {a b:List Int} {i:Nat},i<a.length->b.length<=i->a.take b.length=b->cmpL a b=1
 | x::a,[],_,_,_,_=>by simp [cmpL]
 | x::a,y::b,0,_,h,_=>by simp at h
 | x::a,y::b,i+1,h1,h2,h3=>by
  simp at h3
  simp only [cmpL,if_pos h3.1]
  exact zhY (a:=a) (b:=b) (i:=i) (by simpa using h1) (by simpa using h2) h3.2
theorem zjS:∀ {a b:List Int},a=b.take a.length->cmpL a b=if a.length<b.length then -1 else 0
 | [],[],_=>by simp [cmpL]
 | [],_::_,_=>by simp [cmpL]
 | x::a,[],h=>by simp at h
 | x::a,y::b,h=>by
  simp at h
  simp only [cmpL,if_pos h.1]
  rw [zjS h.2]; simp
theorem zdo [DrawK] (a b:List Int) (ha:a.length<=9223372036854775807) (hb:b.length<=9223372036854775807):Con Tryz.prog 167 [.sl a.length (avs a),.sl b.length (avs b)] (.int (cmpL a b)):=by
 refine zab Tryz.mixed ⟨9,[],[],[]⟩ Tryz.func167 ?_
 rw [Tryz.ntmps167]
 simp [go_sem]
 refine zac (4::5::6::7::8::List.range' 11 20) (fun i:Nat=>[(11,.int i)]) (fun i=>i<=a.length/\i<=b.length/\a.take i=b.take i) (fun i=>a.length-i) 0 (by simp) (by simp [go_sem]) (by simp [go_sem]) ?_
 rintro i ⟨hi,hj,he⟩
 simp [go_sem]
 refine ⟨fun h=>?_,fun h=>?_⟩ <;> simp at h
 .have h1:=h
  simp [go_sem,zaj h1]
  refine ⟨⟨h1,by rintro rfl; simp at h1⟩,?_⟩
  by_cases h2:i<b.length
  .have h2':¬ (b.length<=i):=by omega
   simp [go_sem,h2',zaj h2]
   refine ⟨⟨h2,by rintro rfl; simp at h2⟩,?_⟩
   refine CallVC.of (zlT _ _) ?_
   simp [go_sem]
   by_cases hd:a[i]?.getD 0=b[i]?.getD 0
   .have hc:cmpI (a[i]?.getD 0) (b[i]?.getD 0)=0:=by unfold cmpI; rw [if_neg (by omega),if_neg (by omega)]
    simp [go_sem,hc]
    refine ⟨by omega,i+1,⟨by omega,by omega,zk3 h1 h2 he hd⟩,by omega,zaa _ _ _ (by simp),by omega⟩
   .have hc:=znL hd
    simp [go_sem,hc]
    rw [zoQ h1 h2 he hd]
  .have h2':b.length<=i:=by omega
   have e:i=b.length:=by omega
   simp [go_sem,h2']
   rw [zhY h1 h2' (by rw [<- e,he,e,List.take_length])]
 .simp [go_sem]
  have e:i=a.length:=by omega
  subst e
  rw [List.take_length] at he
  rw [zjS he]
  by_cases h3:a.length<b.length
  .simp [go_sem,h3]
  .simp [go_sem,h3]
theorem zqy {xs:List Int} {s:Int} (h:3<s):¬ degL xs s<=3:=by
 intro hd
 have:=zjD (by omega:0<=s) hd
 have pos:∀ (l:List Int),(∀ x∈l,0<=x/\x<=3)->0<=l.sum:=by
  intro l
  induction l with
  | nil=>simp
  | cons a l ih=>intro h; have h1:=h a (by simp); have h2:=ih (fun x hx=>h x (by simp [hx])); simp; omega
 have:=pos xs this.1
 omega
theorem zhI (z:Int) (m:Mon) (hl:m.2.length<=1048576):Con Tryz.prog 166 [.agg [.int m.1,.sl m.2.length (avs m.2)],.int z] (.bool (monB z m)):=by
 refine zab Tryz.mixed ⟨8,[],[],[]⟩ Tryz.func166 ?_
 rw [Tryz.ntmps166]
 simp [go_sem]
 refine zac (4::5::7::List.range' 11 11) (fun x:Nat × Int=>[(5,.int x.2),(11,.int x.1)]) (fun x=>x.1<=m.2.length/\0<=x.2/\x.2<=3*x.1/\degL (m.2.drop x.1) x.2=degL m.2 0) (fun x=>m.2.length-x.1) (0,0) (by simp) (by simp [go_sem]) (by simp [go_sem]) ?_
 rintro ⟨i,s⟩ ⟨hi,hs0,hs1,he⟩
 simp only at hi hs0 hs1 he
 simp [go_sem]
 refine ⟨fun h=>?_,fun h=>?_⟩ <;> simp at h
 .have hd:m.2.drop i=m.2[i]?.getD 0::m.2.drop (i+1):=by rw [List.drop_eq_getElem_cons h]; simp [h]
  simp [go_sem,zaj h]
  refine ⟨⟨h,fun e=>by rw [e] at h; simp at h⟩,?_⟩
  refine CallVC.of (zbT _ _ _) ?_
  by_cases hx:0<=m.2[i]?.getD 0/\m.2[i]?.getD 0<=3
  .simp [go_sem,hx.1,hx.2]
   rw [hd,degL,if_neg (by omega)] at he
   refine ⟨by omega,by omega,i+1,_,⟨by omega,by omega,by omega,he⟩,by omega,zaa _ _ _ (by simp),rfl,by omega⟩
  .have hx':(decide (0<=m.2[i]?.getD 0) && decide (m.2[i]?.getD 0<=3))=false:=by simpa using hx
   have hm:monB z m=false:=by
    have:¬ degL m.2 0<=3:=by
     rw [<- he,hd,degL]
     split
     .omega
     .exact zqy (by omega)
    unfold monB; rw [decide_eq_false this]; simp
   rw [hx']
   simp [go_sem]
   rw [hm]
 .simp [go_sem]
  rw [List.drop_eq_nil_of_le h,degL] at he
  subst he
  by_cases c0:m.1=0
  .simp [go_sem,c0]
   unfold monB; simp [c0]
  .simp [go_sem,c0]
   refine CallVC.of (zfZ _) ?_
   simp [go_sem]
   by_cases c1:0<=m.1/\m.1<=10006
   .simp [go_sem,c1.1,c1.2]
    refine CallVC.of (zet _ _ (by omega)) ?_
    simp [go_sem]
    by_cases c2:(m.2.length:Int)=z
    .simp [go_sem,c2]
     unfold monB
     have:1<=m.1:=by omega
     simp [this,c1.2,c2]
    .simp [go_sem,c2]
     unfold monB; simp [c2]
   .have c1':(decide (0<=m.1) && decide (m.1<=10006))=false:=by simpa using c1
    rw [c1']
    simp [go_sem]
    have:¬ (1<=m.1/\m.1<=10006):=by omega
    unfold monB; rw [decide_eq_false this]; simp
theorem zox (n:Nat) (cs:List AV) (hn:n<=9223372036854775807):Con Tryz.prog 165 [.sl n cs] (.int n):=by
 refine zab Tryz.mixed ⟨3,[],[],[]⟩ Tryz.func165 ?_
 rw [Tryz.ntmps165]
 simp [go_sem]
 try omega
theorem zot (z:Int) (f:List (List Mon)) (hf:zhW f):Con Tryz.prog 76 [.agg [.int z,.sl f.length (prt f)]] (.bool (zbp z f)):=by
 have fl:=hf.1
 refine zab Tryz.mixed ⟨7,[],[],[]⟩ Tryz.func76 ?_
 rw [Tryz.ntmps76]
 simp [go_sem]
 refine ⟨by kernel_rfl,?_⟩
 refine CallD.of (zbT z 1 3) ?_
 simp [go_sem]
 by_cases hz:1<=z/\z<=3
 .have cl:=zox f.length (prt f) (by omega)
  by_cases hl:(f.length:Int)=z
  .have fine:zbp z f=f.all (zbx z):=by unfold zbp; simp [hz,hl]
   simp [go_sem,hz.1,hz.2]
   refine CallD.of (cl) ?_
   simp [go_sem]
   simp [go_sem,hl]
   refine ⟨by kernel_rfl,?_⟩
   simp [go_sem]
   refine zac (2::4::5::6::List.range' 22 34) (fun i:Nat=>[(22,.int i)]) (fun i=>i<=f.length/\∀ p∈f.take i,zbx z p=true) (fun i=>f.length-i) 0 (by simp) (by simp [go_sem]) (by simp [go_sem]) ?_
   rintro i ⟨hi,hp⟩
   simp [go_sem]
   refine ⟨fun h=>?_,fun h=>?_⟩ <;> simp at h
   .have hif:=h
    have hx:f[i]?.getD []∈f:=by simp [h]
    obtain ⟨hm1,hm2⟩:=hf.2 _ hx
    simp [go_sem,zkD hif]
    refine ⟨⟨hif,by rintro rfl; simp at hif⟩,?_⟩
    generalize hP:f[i]?.getD []=P at *
    refine zac (2::5::6::List.range' 28 27) (fun j:Nat=>[(28,.int j)]) (fun j=>j<=P.length/\∀ k,k<j->atB z P k=true) (fun j=>P.length-j) 0 (by simp) (by simp [go_sem]) (by simp [go_sem]) ?_
    rintro j ⟨hj,hq⟩
    simp [go_sem]
    refine ⟨fun h=>?_,fun h=>?_⟩ <;> simp at h
    .have hy:P[j]?.getD (0,[])∈P:=by simp [h]
     have hm:=hm2 _ hy
     have hno:atB z P j=false->zbp z f=false:=fun hh=>znK hif (by rw [hP]; exact zpS h hh)
     simp [go_sem,zdF h]
     refine ⟨⟨h,by rintro rfl; simp at h⟩,by kernel_rfl,?_⟩
     generalize hM:P[j]?.getD (0,[])=m at *
     have cM:=zhI z m hm
     generalize hmb:monB z m=mb at *
     refine CallD.of (cM) ?_
     simp [go_sem]
     cases mb with
     | false =>
      simp [go_sem]
      refine ⟨by kernel_rfl,?_⟩
      simp [go_sem]
      rw [hno (by unfold atB; rw [hM,hmb]; rfl)]
     | true =>
      by_cases j0:0<j
      .have hk:j-1<P.length:=by omega
       have ek:(j:Int)-1=((j-1:Nat):Int):=by omega
       have hyk:P[j-1]?.getD (0,[])∈P:=by simp [hk]
       have hmk:=hm2 _ hyk
       have cC:=zdo (P[j-1]?.getD (0,[])).2 m.2 (by omega) (by omega)
       have hat:atB z P j=ltL (P[j-1]?.getD (0,[])).2 m.2:=by unfold atB; rw [hM,hmb,decide_eq_false (by omega:¬ j=0)]; simp
       have hlt:=zjA (P[j-1]?.getD (0,[])).2 m.2
       simp [go_sem,j0,ek,zdF hk]
       refine ⟨by omega,⟨hk,by rintro rfl; simp at h⟩,?_⟩
       generalize (P[j-1]?.getD (0,[])).2=pw0 at *
       generalize hc:cmpL pw0 m.2=c at *
       refine CallD.of (cC) ?_
       simp [go_sem]
       cases hL:ltL pw0 m.2 with
       | false =>
        rw [hL] at hlt hat
        have hc0:0<=c:=by simpa using hlt
        simp [go_sem,hc0]
        refine ⟨by kernel_rfl,?_⟩
        simp [go_sem]
        rw [hno hat]
       | true =>
        rw [hL] at hlt hat
        have hc0:¬ 0<=c:=by simpa using hlt
        simp [go_sem,hc0]
        refine ⟨by kernel_rfl,?_⟩
        simp [go_sem]
        refine ⟨by omega,j+1,⟨by omega,fun k hk2=>?_⟩,by omega,zaa _ _ _ (by simp),by omega⟩
        by_cases e:k=j
        .rw [e]; exact hat
        .exact hq k (by omega)
      .simp [go_sem,j0]
       refine ⟨by kernel_rfl,?_⟩
       simp [go_sem]
       have hat:atB z P j=true:=by unfold atB; rw [hM,hmb,decide_eq_true (by omega:j=0)]; rfl
       refine ⟨by omega,j+1,⟨by omega,fun k hk2=>?_⟩,by omega,zaa _ _ _ (by simp),by omega⟩
       by_cases e:k=j
       .rw [e]; exact hat
       .exact hq k (by omega)
    .simp [go_sem]
     have hpb:zbx z P=true:=zmg (fun k hk=>hq k (by omega))
     refine ⟨by omega,i+1,⟨by omega,zhi hif hp (by rw [<- hP] at hpb; simpa [hif] using hpb)⟩,by omega,(Off.reset (by intro x hx; simp at hx |-; omega) (by simp) (by simp [go_sem,zaa])),by omega⟩
   .simp [go_sem]
    rw [List.take_of_length_le h] at hp
    rw [fine,List.all_eq_true.2 hp]
  .simp [go_sem,hz.1,hz.2]
   refine CallD.of (cl) ?_
   simp [go_sem]
   simp [go_sem,hl]
   refine ⟨by kernel_rfl,?_⟩
   simp [go_sem]
   unfold zbp; simp [hl]
 .by_cases z1:1<=z
  .have z3:¬ z<=3:=fun h=>hz ⟨z1,h⟩
   simp [go_sem,z1,z3]
   refine ⟨by kernel_rfl,?_⟩
   simp [go_sem]
   unfold zbp; rw [decide_eq_false hz]; simp
  .simp [go_sem,z1]
   refine ⟨by kernel_rfl,?_⟩
   simp [go_sem]
   unfold zbp; rw [decide_eq_false hz]; simp
def vecB (z:Int) (y:List Int):Bool:=decide ((y.length:Int)=z) && zcz y
theorem zlM (z:Int) (n:Nat) (cs:List AV) (y:List Int) (hl:y.length<=9223372036854775807) :
  Con Tryz.prog 78 [.agg [.int z,.sl n cs],.sl y.length (avs y)] (.bool (vecB z y)):=by
 refine zab Tryz.mixed ⟨5,[],[],[]⟩ Tryz.func78 ?_
 rw [Tryz.ntmps78]
 simp [go_sem]
 refine ⟨by kernel_rfl,?_⟩
 refine CallD.of (zet _ _ hl) ?_
 simp [go_sem]
 unfold vecB
 by_cases h:(y.length:Int)=z
 .simp [go_sem,h]
  refine CallD.of (zbl y hl) ?_
  simp [go_sem]
  refine ⟨by kernel_rfl,?_⟩
  simp [go_sem]
 .simp [go_sem,h]
  refine ⟨by kernel_rfl,?_⟩
  simp [go_sem]
end Go.Proofs.YthhdollpkieknaaGreat


namespace Go.Proofs.YthhdollpkieknaaGreat
open Go.Abs
def zah (e:List Int):Key:=(e[0]?.getD 0,e[1]?.getD 0,e[2]?.getD 0)
def polG (c:Key->Option Int):List Mon->Key->Option Int
 | []=>c
 | m::p=>polG (mset c (zah m.2) m.1) p
def polF (p:List Mon):Key->Option Int:=polG zb4 p
theorem zq3 (c:Key->Option Int) (p q:List Mon):polG c (p++q)=polG (polG c p) q:=by
 induction p generalizing c with
 | nil=>rfl
 | cons m p ih=>exact ih _
theorem ziq {p:List Mon} {i:Nat} (h:i<p.length):polF (p.take (i+1))=mset (polF (p.take i)) (zah (p[i]?.getD (0,[])).2) (p[i]?.getD (0,[])).1:=by
 rw [List.take_add_one,List.getElem?_eq_getElem h,polF,zq3]; rfl
theorem zfJ (p:List Mon) (hp:p.length<=1048576) (hm:∀ m∈p,m.2.length<=3) :
  Con Tryz.prog 147 [.sl p.length (mons p)] (.mp (polF p)):=by
 refine zab Tryz.mixed ⟨7,[],[],[]⟩ Tryz.func147 ?_
 rw [Tryz.ntmps147]
 simp [go_sem]
 refine zac (3::5::6::List.range' 10 14) (fun i:Nat=>[(3,.mp (polF (p.take i))),(10,.int i)]) (fun i=>i<=p.length) (fun i=>p.length-i) 0 (by simp) (by simp [go_sem,polF,polG]) (by simp [go_sem]) ?_
 intro i hi
 simp [go_sem]
 refine ⟨fun h=>?_,fun h=>?_⟩ <;> simp at h
 .have hif:=h
  have hx:p[i]?.getD (0,[])∈p:=by simp [h]
  have hl:=hm _ hx
  have hv:=ziq h
  simp [go_sem,zdF hif]
  generalize p[i]?.getD (0,[])=m at *
  obtain ⟨x,e⟩:=m
  simp only at hl hv
  refine ⟨⟨hif,by rintro rfl; simp at hif⟩,by kernel_rfl,⟨by omega,by omega⟩,?_⟩
  refine ⟨by kernel_rfl,?_⟩
  simp [go_sem]
  rcases e with _ | ⟨a,_ | ⟨b,_ | ⟨c,_ | ⟨d,e⟩⟩⟩⟩
  .simp [go_sem,avs]
   refine ⟨by omega,i+1,by omega,by omega,zaa _ _ _ (by simp),hv.symm,by omega⟩
  .simp [go_sem,avs]
   refine ⟨by omega,i+1,by omega,by omega,zaa _ _ _ (by simp),hv.symm,by omega⟩
  .simp [go_sem,avs]
   refine ⟨by omega,i+1,by omega,by omega,zaa _ _ _ (by simp),hv.symm,by omega⟩
  .simp [go_sem,avs]
   refine ⟨by omega,i+1,by omega,by omega,zaa _ _ _ (by simp),hv.symm,by omega⟩
  .simp at hl
 .simp [go_sem]
  rw [List.take_of_length_le h]
def pols (f:List (List Mon)):List AV:=f.map fun p=>.mp (polF p)
def zed (f:List (List Mon)):List AV:=f.map fun p=>.fmp (polF p)
@[simp] theorem zvB (f:List (List Mon)):(pols f).length=f.length:=by simp [pols]
@[simp] theorem zuR (f:List (List Mon)):(zed f).length=f.length:=by simp [zed]
@[simp] theorem zvZ {f:List (List Mon)}:(zed f=[])=(f=[]):=by cases f <;> simp [zed]
@[simp] theorem zpp:∀ f:List (List Mon),frzL (pols f)=zed f
 | []=>rfl
 | p::f=>by have:=zpp f; simp only [pols,zed,List.map_cons,frzL] at this |-; rw [this]; simp [frz]
@[simp] theorem zlB:∀ f:List (List Mon),zap (pols f)=true
 | []=>rfl
 | p::f=>by have:=zlB f; simp only [pols,List.map_cons,zap] at this |-; rw [this]; simp [zat]
theorem zlE {f:List (List Mon)} {k:Nat} (h:k<f.length):(zed f).drop k=.fmp (polF (f[k]?.getD []))::zed (f.drop (k+1)):=by
 rw [zed,<- List.map_drop,List.drop_eq_getElem_cons h,List.map_cons]; simp [h,zed]
theorem zha (z:Int) (f:List (List Mon)) (hf:FieldOk z f) (hs:zhW f) :
  Con Tryz.prog 62 [.agg [.int z,.sl f.length (prt f)]] (.own 120 f.length (pols f)):=by
 have fl:=hs.1
 have z3:=hf.hi
 have zl:=hf.len
 refine zab Tryz.mixed ⟨6,[],[],[]⟩ Tryz.func62 ?_
 rw [Tryz.ntmps62]
 simp [go_sem]
 refine zac (3::5::List.range' 10 10) (fun i:Nat=>[(3,.own 120 i (pols (f.take i))),(10,.int i)]) (fun i=>i<=f.length) (fun i=>f.length-i) 0 (by simp) (by simp [go_sem,pols]) (by simp [go_sem]) ?_
 intro i hi
 simp [go_sem]
 refine ⟨fun h=>?_,fun h=>?_⟩ <;> simp at h
 .have hif:=h
  have hx:f[i]?.getD []∈f:=by simp [h]
  have hm:=hs.2 _ hx
  simp [go_sem,zkD hif]
  refine ⟨⟨hif,by rintro rfl; simp at hif⟩,?_⟩
  refine CallVC.of (zfJ _ hm.1 (fun m hm=>by have:=(zb2 (hf.part _ hx) hm).len; omega)) ?_
  simp [go_sem]
  have e1:f.take (i+1)=f.take i++[f[i]?.getD []]:=by rw [List.take_add_one]; simp [hif]
  refine ⟨⟨by omega,by omega,by omega⟩,by omega,i+1,by omega,by omega,zaa _ _ _ (by simp),⟨rfl,?_⟩,by omega⟩
  rw [e1]; simp [pols]
 .simp [go_sem]
  rw [List.take_of_length_le h]
  exact ⟨by omega,rfl⟩
def tmK (y:List Int) (k:Key) (x:Int):Int:=tmF y [k.1,k.2.1,k.2.2] x y.length
def rest (y:List Int):List (Key × Int)->Int
 | []=>0
 | e::es=>tmK y e.1 e.2+rest y es
theorem zki (y:List Int) (a b:List (Key × Int)):rest y (a++b)=rest y a+rest y b:=by
 induction a with
 | nil=>simp [rest]
 | cons e a ih=>simp [rest,ih]; omega
theorem zka (y:List Int):∀ {es:List (Key × Int)},(∀ e∈es,isN e.2)->0<=rest y es
 | [],_=>by simp [rest]
 | e::es,h=>by
  have h1:=zka y (es:=es) (fun a ha=>h a (by simp [ha]))
  have h2:=(zpK (y:=y) (e:=[e.1.1,e.1.2.1,e.1.2.2]) (h e (by simp)) y.length).1
  simp only [rest,tmK]; omega
def EOk (e:Key × Int):Prop:=isN e.2/\0<=e.1.1/\e.1.1<=1000/\0<=e.1.2.1/\e.1.2.1<=1000/\0<=e.1.2.2/\e.1.2.2<=1000
theorem zmv (c:Key->Option Int) (y:List Int) (T:Int) (hy:Ns y) (hl:y.length<=3) (hc:∀ k x,c k=some x->EOk (k,x)) (hT:T<=1000000000000000000) (hE:∀ es,Enum c es->rest y es=T) :
  Con Tryz.prog 242 [.fmp c,.sl y.length (avs y)] (.int (T%10007)):=by
 refine zab Tryz.mixed ⟨10,[],[],[]⟩ Tryz.func242 ?_
 rw [Tryz.ntmps242]
 simp [go_sem]
 intro es hes
 have hok:∀ e∈es,EOk e:=fun e he=>hc e.1 e.2 (hes.val e he)
 have hsum:=hE es hes
 refine zac (5::6::7::8::9::11::List.range' 12 24) (fun x:Int × Option (Key × Int) × List (Key × Int)=>[(5,.int x.1),(11,.it x.2.1 x.2.2)]) (fun x=>0<=x.1/\x.1+rest y x.2.2=T/\∀ e∈x.2.2,EOk e) (fun x=>x.2.2.length) (0,none,es) ⟨by simp,by simpa using hsum,hok⟩ (by simp [go_sem]) (by simp [go_sem]) ?_
 rintro ⟨s,l,rem⟩ ⟨hs0,hsT,hrem⟩
 simp only at hs0 hsT hrem
 simp [go_sem,zcq]
 refine ⟨fun hr=>?_,fun l1 k0 k1 k2 x l2 hr=>?_⟩
 .subst hr
  have:s=T:=by simpa [rest] using hsT
  subst this
  refine CallVC.of (zbF _ (by omega) (by omega)) ?_
  simp [go_sem]
 .subst hr
  have hek:=hrem ((k0,k1,k2),x) (by simp)
  have hx:isN x:=hek.1
  have hg:∀ i:Nat,0<=([k0,k1,k2]:List Int)[i]?.getD 0/\([k0,k1,k2]:List Int)[i]?.getD 0<=1000:=by
   intro i
   obtain ⟨_,a1,a2,a3,a4,a5,a6⟩:=hek
   match i with
   | 0=>exact ⟨a1,a2⟩
   | 1=>exact ⟨a3,a4⟩
   | 2=>exact ⟨a5,a6⟩
   | i+3=>simp
  refine zac (7::8::9::List.range' 19 14) (fun i:Nat=>[(7,.int (tmF y [k0,k1,k2] x i)),(19,.int i)]) (fun i=>i<=y.length) (fun i=>y.length-i) 0 (by simp) (by simp [go_sem,tmF]) (by simp [go_sem]) ?_
  intro i hi
  simp [go_sem]
  refine ⟨fun h=>?_,fun h=>?_⟩ <;> simp at h
  .have h3:i<([k0,k1,k2]:List Int).length:=by simp; omega
   have e3:([.val (.int .i64 k0),.val (.int .i64 k1),.val (.int .i64 k2)]:List AV)[i]?=some (.val (.int .i64 (([k0,k1,k2]:List Int)[i]?.getD 0))):=zsy (xs:=[k0,k1,k2]) h3
   have g:=hg i
   have m1:=zaK (zpK (y:=y) (e:=[k0,k1,k2]) hx i) (zak ((y[i]?.getD 0) ^ (([k0,k1,k2]:List Int)[i]?.getD 0).toNat))
   have m2:fits (tmF y [k0,k1,k2] x i*pw (y[i]?.getD 0) (([k0,k1,k2]:List Int)[i]?.getD 0)):=m1
   have hs:tmF y [k0,k1,k2] x (i+1)=tmF y [k0,k1,k2] x i*pw (y[i]?.getD 0) (([k0,k1,k2]:List Int)[i]?.getD 0)%10007:=rfl
   simp [go_sem,zaj h,e3]
   generalize ([k0,k1,k2]:List Int)[i]?.getD 0=ki at *
   refine ⟨⟨h,by rintro rfl; simp at h⟩,by omega,?_⟩
   refine CallVC.of (zuo _ _ (hy.get i) g.1 (by omega)) ?_
   simp [go_sem]
   refine ⟨m2,?_⟩
   refine CallVC.of (zbF _ m2.1 m2.2) ?_
   simp [go_sem]
   refine ⟨by omega,i+1,by omega,by omega,zaa _ _ _ (by simp),hs.symm,by omega⟩
  .have e:i=y.length:=by omega
   subst e
   have hr0:0<=rest y (l1++l2):=zka y (fun e he=>(hrem e (by
    rcases List.mem_append.1 he with he | he <;> simp [he])).1)
   have ht:=zpK (y:=y) (e:=[k0,k1,k2]) hx y.length
   have hsT2:s+tmF y [k0,k1,k2] x y.length+rest y (l1++l2)=T:=by
    rw [<- hsT,zki,zki,rest]
    show _=s+(rest y l1+(tmF y [k0,k1,k2] x y.length+rest y l2))
    omega
   have ht1:=ht.1
   simp [go_sem]
   refine ⟨⟨by omega,by omega⟩,_,_,_,⟨?_,hsT2,fun a b c d he=>hrem _ ?_⟩,?_,(Off.reset (by intro x hx; simp at hx |-; omega) (by simp) (by simp [go_sem,zaa])),rfl,rfl,rfl⟩
   .omega
   .rcases List.mem_append.1 he with he | he <;> simp [he]
   .simp
end Go.Proofs.YthhdollpkieknaaGreat


namespace Go.Proofs.YthhdollpkieknaaGreat
open Go.Abs
theorem zb7:∀ a:List Int,ltL a a=false
 | []=>rfl
 | x::a=>by simp [ltL,zb7 a]
theorem zaU:∀ {a b c:List Int},ltL a b=true->ltL b c=true->ltL a c=true
 | _,[],_,h,_=>by simp [ltL] at h
 | _,_::_,[],_,h=>by simp [ltL] at h
 | [],_::_,_::_,_,_=>rfl
 | x::a,y::b,z::c,h1,h2=>by
  simp only [ltL] at h1 h2 |-
  split at h1
  .rename_i e; subst e
   split at h2
   .rename_i e; subst e; rw [if_pos rfl]; exact zaU h1 h2
   .rename_i e; rw [if_neg e]; exact h2
  .rename_i e1
   simp only [decide_eq_true_eq] at h1
   split at h2
   .rename_i e; subst e; rw [if_neg e1]; simpa using h1
   .rename_i e
    simp only [decide_eq_true_eq] at h2
    rw [if_neg (by omega)]; simp; omega
theorem zkE {z:Int} {p:List Mon} (h:zbx z p=true) {i:Nat}:∀ {j:Nat},i<j->j<p.length->ltL (p[i]?.getD (0,[])).2 (p[j]?.getD (0,[])).2=true
 | 0,h1,_=>by omega
 | j+1,h1,h2=>by
  have hs:=(zeo h h2).2 (by omega)
  rw [Nat.add_sub_cancel] at hs
  rcases Nat.lt_or_ge i j with hl | hg
  .exact zaU (zkE h hl (by omega)) hs
  .have:i=j:=by omega
   subst this; exact hs
theorem zeG {a b:List Int} (hl:a.length=b.length) (h3:a.length<=3) (h:zah a=zah b):a=b:=by
 match a,b,hl,h3 with
 | [],[],_,_=>rfl
 | [x],[y],_,_=>simp [zah] at h; rw [h]
 | [x,x'],[y,y'],_,_=>simp [zah] at h; rw [h.1,h.2]
 | [x,x',x''],[y,y',y''],_,_=>simp [zah] at h; rw [h.1,h.2.1,h.2.2]
def keyM (m:Mon):Key × Int:=(zah m.2,m.1)
theorem ziT {z:Int} {p:List Mon} (hz:z<=3) (h:zbx z p=true):p.Pairwise (fun a b=>zah a.2≠zah b.2):=by
 rw [List.pairwise_iff_getElem]
 intro i j hi hj hij he
 have hl:=zkE h hij hj
 have m1:=(zeo h hi).1.len
 have m2:=(zeo h hj).1.len
 simp only [List.getElem?_eq_getElem hi,List.getElem?_eq_getElem hj,Option.getD_some] at hl m1 m2
 have:=zeG (by omega) (by omega) he
 rw [this,zb7] at hl
 simp at hl
theorem zg7:∀ (p:List Mon) (c:Key->Option Int) (k:Key),(∀ m∈p,zah m.2≠k)->polG c p k=c k
 | [],c,k,_=>rfl
 | m::p,c,k,h=>by
  rw [polG,zg7 p _ k (fun a ha=>h a (by simp [ha]))]
  have:=h m (by simp)
  simp [mset,Ne.symm this]
theorem zjt:∀ (p:List Mon) (c:Key->Option Int),p.Pairwise (fun a b=>zah a.2≠zah b.2)->∀ m∈p,polG c p (zah m.2)=some m.1
 | [],_,_,m,hm=>by simp at hm
 | a::p,c,h,m,hm=>by
  obtain ⟨h1,h2⟩:=List.pairwise_cons.1 h
  rw [polG]
  rcases List.mem_cons.1 hm with rfl | hm
  .rw [zg7 p _ _ (fun b hb=>Ne.symm (h1 b hb))]; simp [mset]
  .exact zjt p _ h2 m hm
theorem zdI {p:List Mon} (h:p.Pairwise (fun a b=>zah a.2≠zah b.2)) {k:Key} {x:Int}:polF p k=some x ↔ (k,x)∈p.map keyM:=by
 constructor
 .intro hk
  by_cases hin:∃ m∈p,zah m.2=k
  .obtain ⟨m,hm,rfl⟩:=hin
   rw [polF,zjt p _ h m hm] at hk
   injection hk with hk; subst hk
   exact List.mem_map.2 ⟨m,hm,rfl⟩
  .rw [polF,zg7 p _ k (fun m hm he=>hin ⟨m,hm,he⟩)] at hk
   simp [zb4] at hk
 .intro hm
  obtain ⟨m,hm,he⟩:=List.mem_map.1 hm
  simp only [keyM,Prod.mk.injEq] at he
  rw [<- he.1,<- he.2]
  exact zjt p _ h m hm
theorem zoZ (y:List Int) {a b:List (Key × Int)} (h:a.Perm b):rest y a=rest y b:=by
 induction h with
 | nil=>rfl
 | cons x _ ih=>simp [rest,ih]
 | swap x z l=>simp [rest]; omega
 | trans _ _ i1 i2=>rw [i1,i2]
theorem zeb {α β:Type} {f:α->β} {l:List α} (h:l.Pairwise (fun a b=>f a≠f b)):l.Nodup:=h.imp (fun hn e=>hn (by rw [e]))
theorem zif {y e e':List Int} {x:Int}:∀ {n:Nat},(∀ i,i<n->e[i]?.getD 0=e'[i]?.getD 0)->tmF y e x n=tmF y e' x n
 | 0,_=>rfl
 | n+1,h=>by rw [tmF,tmF,zif (fun i hi=>h i (by omega)),h n (by omega)]
theorem zvx {y:List Int} (hl:y.length<=3) (m:Mon):tmK y (zah m.2) m.1=tmF y m.2 m.1 y.length:=by
 refine zif (fun i hi=>?_)
 have:i=0\/i=1\/i=2:=by omega
 rcases this with rfl | rfl | rfl <;> simp [zah]
end Go.Proofs.YthhdollpkieknaaGreat


namespace Go.Proofs.YthhdollpkieknaaGreat
open Go.Abs
theorem zdh {c:Key->Option Int} {es:List (Key × Int)} (he:Enum c es) {k:Key} {x:Int}:(k,x)∈es ↔ c k=some x:=by
 constructor
 .intro hm; exact he.val _ hm
 .intro hk
  by_cases hin:∃ q∈es,q.1=k
  .obtain ⟨⟨k',x'⟩,hq,hqk⟩:=hin
   simp only at hqk; subst hqk
   have:=he.val _ hq
   simp only at this
   rw [hk] at this
   injection this with this; subst this
   exact hq
  .have:=he.out k (fun q hq e=>hin ⟨q,hq,e⟩)
   rw [hk] at this; simp at this
theorem ziJ {c:Key->Option Int} {a b:List (Key × Int)} (ha:Enum c a) (hb:Enum c b):a.Perm b :=
 (List.perm_ext_iff_of_nodup (zeb (f:=Prod.fst) ha.nd) (zeb (f:=Prod.fst) hb.nd)).2 (fun e=>by
  obtain ⟨k,x⟩:=e
  rw [zdh ha,zdh hb])
def yat (y:List Int) (i:Nat):Int:=y[i]?.getD 0
def KOk (n:Nat) (k:Key):Prop:=k∈box/\∀ i,n<=i->i<3->at3 i k=0
theorem zmu {y:List Int} {k:Key} {x:Int} (hl:y.length<=3) (hk:KOk y.length k):tmK y k x%10007=x*trm (yat y) k%10007:=by
 obtain ⟨a,b,c⟩:=k
 obtain ⟨h1,h2⟩:=hk
 unfold tmK trm
 match y,hl with
 | [],_ =>
  have e0:=h2 0 (by simp) (by omega)
  have e1:=h2 1 (by simp) (by omega)
  have e2:=h2 2 (by simp) (by omega)
  simp [at3] at e0 e1 e2
  subst e0; subst e1; subst e2
  simp [tmF]
 | [u],_ =>
  have e1:=h2 1 (by simp) (by omega)
  have e2:=h2 2 (by simp) (by omega)
  simp [at3] at e1 e2
  subst e1; subst e2
  simp [tmF,yat,pw,zcf,zco]
 | [u,v],_ =>
  have e2:=h2 2 (by simp) (by omega)
  simp [at3] at e2
  subst e2
  simp [tmF,yat,pw,zcf,zco,Int.mul_assoc]
 | [u,v,w],_ =>
  simp [tmF,yat,pw,zcf,zco,Int.mul_assoc]
theorem zjV {y:List Int} (hl:y.length<=3):∀ {es:List (Key × Int)},(∀ e∈es,KOk y.length e.1)->rest y es%10007=sumI (fun e=>e.2*trm (yat y) e.1) es%10007
 | [],_=>rfl
 | e::es,h=>by
  simp only [rest,sumI]
  rw [Int.add_emod,zmu hl (h e (by simp)),zjV hl (es:=es) (fun a ha=>h a (by simp [ha])),<- Int.add_emod]
theorem zdg {c:Key->Option Int} {es:List (Key × Int)} (he:Enum c es) (k:Key):coef Prod.fst Prod.snd es k=(c k).getD 0:=by
 have gen:∀ (l:List (Key × Int)),l.Pairwise (fun a b=>a.1≠b.1)->∀ x,(k,x)∈l->coef Prod.fst Prod.snd l k=x:=by
  intro l
  induction l with
  | nil=>intro _ x hx; simp at hx
  | cons a l ih =>
   intro hp x hx
   obtain ⟨h1,h2⟩:=List.pairwise_cons.1 hp
   unfold coef at ih |-
   simp only [sumI]
   rcases List.mem_cons.1 hx with rfl | hx
   .rw [if_pos rfl,zaS (fun b hb=>if_neg (h1 b hb))]; simp
   .rw [if_neg (fun e=>h1 _ hx e.symm),ih h2 x hx]; simp
 cases hc:c k with
 | some x=>exact gen es he.nd x ((zdh he).2 hc)
 | none =>
  unfold coef
  refine zaS (fun e hm=>if_neg (fun e1=>?_))
  have:=he.val e hm
  rw [<- e1,hc] at this
  simp at this
def gv (c:Key->Option Int) (k:Key):Int:=(c k).getD 0
theorem zrl {y:List Int} (hl:y.length<=3) {c:Key->Option Int} (hc:∀ k x,c k=some x->KOk y.length k) {es:List (Key × Int)} (he:Enum c es):rest y es%10007=Val (yat y) (gv c)%10007:=by
 rw [zjV hl (fun e hm=>hc e.1 e.2 (he.val e hm)),<- zgp (yat y) Prod.fst Prod.snd es (fun e hm=>(hc e.1 e.2 (he.val e hm)).1)]
 have:coef Prod.fst Prod.snd es=gv c:=funext (fun k=>zdg he k)
 rw [this]
end Go.Proofs.YthhdollpkieknaaGreat


namespace Go.Proofs.YthhdollpkieknaaGreat
open Go.Abs
theorem zoe {α:Type} [DecidableEq α]:∀ {l b:List α},l.Nodup->(∀ a∈l,a∈b)->l.length<=b.length
 | [],b,_,_=>by simp
 | a::l,b,hn,hs=>by
  obtain ⟨h1,h2⟩:=List.nodup_cons.1 hn
  have ha:=hs a (by simp)
  have:=zoe (l:=l) (b:=b.erase a) h2 (fun x hx=>(List.mem_erase_of_ne (fun e=>h1 (by rw [<- e]; exact hx))).2 (hs x (by simp [hx])))
  rw [List.length_erase_of_mem ha] at this
  have:=List.length_pos_of_mem ha
  simp only [List.length_cons]; omega
theorem zmN (y:List Int):∀ {es:List (Key × Int)},(∀ e∈es,isN e.2)->rest y es<=10006*es.length
 | [],_=>by simp [rest]
 | e::es,h=>by
  have h1:=zmN y (es:=es) (fun a ha=>h a (by simp [ha]))
  have h2:=(zpK (y:=y) (e:=[e.1.1,e.1.2.1,e.1.2.2]) (h e (by simp)) y.length).2
  simp only [rest,tmK,List.length_cons]; omega
theorem KOk.eok {n:Nat} {k:Key} {x:Int} (h:KOk n k) (hx:isN x):EOk (k,x):=by
 have:=zdM.1 h.1
 show isN x/\0<=k.1/\k.1<=1000/\0<=k.2.1/\k.2.1<=1000/\0<=k.2.2/\k.2.2<=1000
 exact ⟨hx,by omega,by omega,by omega,by omega,by omega,by omega⟩
theorem zqk (c:Key->Option Int) (y:List Int) (hy:Ns y) (hl:y.length<=3) (hc:∀ k x,c k=some x->isN x/\KOk y.length k) :
  Con Tryz.prog 242 [.fmp c,.sl y.length (avs y)] (.int (Val (yat y) (gv c)%10007)):=by
 have hok:∀ k x,c k=some x->EOk (k,x):=fun k x hk=>(hc k x hk).2.eok (hc k x hk).1
 by_cases hx:∃ es,Enum c es
 .obtain ⟨es,he⟩:=hx
  rw [<- zrl hl (fun k x hk=>(hc k x hk).2) he]
  have hb:rest y es<=10006*es.length:=zmN y (fun e hm=>(hc e.1 e.2 (he.val e hm)).1)
  have hlen:es.length<=64:=by
   have:=zoe (l:=es.map Prod.fst) (b:=box) (by rw [List.Nodup,List.pairwise_map]; exact he.nd) (fun k hk=>by
    obtain ⟨e,hm,rfl⟩:=List.mem_map.1 hk
    exact (hc e.1 e.2 (he.val e hm)).2.1)
   simpa [box,r4] using this
  exact zmv c y (rest y es) hy hl hok (by omega) (fun es' he'=>zoZ y (ziJ he' he))
 .have:=zmv c y (Val (yat y) (gv c)%10007) hy hl hok (by omega) (fun es he=>(hx ⟨es,he⟩).elim)
  rwa [Int.emod_emod_of_dvd _ (Int.dvd_refl _)] at this
structure VOk (n:Nat) (m:Mon):Prop where
 num:isN m.1
 len:m.2.length=n
 pw:∀ x∈m.2,0<=x/\x<=3
theorem MonOk.vok {n:Nat} {m:Mon} (h:MonOk (n:Int) m):VOk n m:=⟨⟨by have:=h.lo; omega,by have:=h.hi; omega⟩,by have:=h.len; omega,h.pw⟩
theorem VOk.kok {n:Nat} {m:Mon} (hn:n<=3) (h:VOk n m):KOk n (zah m.2):=by
 have g:∀ k:Nat,0<=m.2[k]?.getD 0/\m.2[k]?.getD 0<=3:=fun k=>by
  rcases Nat.lt_or_ge k m.2.length with hk | hk
  .simp [hk]; exact h.pw _ (List.getElem_mem hk)
  .simp [hk]
 refine ⟨zdM.2 ⟨(g 0).1,(g 0).2,(g 1).1,(g 1).2,(g 2).1,(g 2).2⟩,fun i h1 h2=>?_⟩
 have hz:m.2[i]?.getD 0=0:=by rw [List.getElem?_eq_none (by rw [h.len]; exact h1)]; rfl
 have:i=0\/i=1\/i=2:=by omega
 rcases this with rfl | rfl | rfl <;> simpa [at3,zah] using hz
def cfL (L:List Mon):Key->Int:=coef (fun m:Mon=>zah m.2) (fun m=>m.1) L
theorem zq1 {y:List Int} (hl:y.length<=3) {L:List Mon} (h:∀ m∈L,VOk y.length m):vsum y L%10007=Val (yat y) (cfL L)%10007:=by
 unfold cfL
 rw [zgp (yat y) _ _ L (fun m hm=>((h m hm).kok hl).1)]
 have h':=h
 clear h
 induction L with
 | nil=>rfl
 | cons m L ih =>
  simp only [vsum,sumI]
  rw [Int.add_emod,<- zvx hl m,zmu hl ((h' m (by simp)).kok hl),ih (fun a ha=>h' a (by simp [ha])),<- Int.add_emod]
def zaL (c:Int) (e:List Int):List Mon->Bool->List Mon
 | [],done=>if done then [] else [(c,e)]
 | m::l,done =>
  if done=false/\m.2=e then (if (m.1+c)%10007=0 then [] else [((m.1+c)%10007,m.2)])++zaL c e l true
  else if done=false/\ltL e m.2=true then (c,e)::((if m.1=0 then [] else [m])++zaL c e l true)
  else (if m.1=0 then [] else [m])++zaL c e l done
def putL (L:List Mon) (c:Int) (e:List Int):List Mon:=zaL c e L (decide (c=0))
theorem zgI (a b:List Mon) (k:Key):cfL (a++b) k=cfL a k+cfL b k:=zkM _ a b
theorem zbu (m:Mon) (b:List Mon) (k:Key):cfL (m::b) k=(if k=zah m.2 then m.1 else 0)+cfL b k:=rfl
theorem zmA (m:Mon) (k:Key):cfL (if m.1=0 then [] else [m]) k=if k=zah m.2 then m.1 else 0:=by
 split
 .rename_i h; simp [cfL,coef,sumI,h]
 .simp [cfL,coef,sumI]
theorem zew (c:Int) (e:List Int) (k:Key):∀ (l:List Mon) (done:Bool),cfL (zaL c e l done) k%10007=(cfL l k+if done=true then 0 else if k=zah e then c else 0)%10007
 | [],true=>by simp [zaL,cfL,coef,sumI]
 | [],false=>by simp [zaL,cfL,coef,sumI]
 | m::l,done=>by
  rw [zaL,zbu]
  by_cases h1:done=false/\m.2=e
  .rw [if_pos h1,zgI,h1.1,<- h1.2]
   have:=zmA ((m.1+c)%10007,m.2) k
   simp only at this
   rw [this,Int.add_emod,zew c m.2 k l true]
   by_cases hk:k=zah m.2
   .simp [hk]; omega
   .simp [hk]
  .rw [if_neg h1]
   by_cases h2:done=false/\ltL e m.2=true
   .rw [if_pos h2,zbu,zgI,zmA,h2.1]
    have:=zew c e k l true
    simp only [if_true,Int.add_zero] at this
    simp only [Bool.false_eq_true,if_false]
    generalize (if k=zah e then c else 0)=B
    generalize (if k=zah m.2 then m.1 else 0)=A
    omega
   .rw [if_neg h2,zgI,zmA]
    have:=zew c e k l done
    omega
theorem zg9 (L:List Mon) (c:Int) (e:List Int) (k:Key):cfL (putL L c e) k%10007=(cfL L k+if k=zah e then c else 0)%10007:=by
 unfold putL
 rw [zew]
 by_cases h:c=0 <;> simp [h]
end Go.Proofs.YthhdollpkieknaaGreat


namespace Go.Proofs.YthhdollpkieknaaGreat
open Go.Abs
def derM (i:Nat) (c:Key->Option Int) (k:Key):Option Int:=match c (inc i k) with
 | some a=>if 0<at3 i k+1 then some ((at3 i k+1)*a%10007) else none
 | none=>none
def addM (o q:Key->Option Int) (x:Int) (k:Key):Option Int:=match q k with
 | some a=>some (((o k).getD 0+x%10007*a)%10007)
 | none=>o k
theorem zs2 (i:Nat) (c:Key->Option Int) {k:Key} (hk:0<=at3 i k):gv (derM i c) k%10007=der i (gv c) k%10007:=by
 show (derM i c k).getD 0%10007=(at3 i k+1)*(c (inc i k)).getD 0%10007
 unfold derM
 cases c (inc i k) with
 | none=>simp
 | some a =>
  simp only
  rw [if_pos (by omega)]
  simp
theorem zma (o q:Key->Option Int) (x:Int) (k:Key):gv (addM o q x) k%10007=(gv o k+x*gv q k)%10007:=by
 unfold gv addM
 cases q k with
 | none=>simp
 | some a =>
  simp only [Option.getD_some]
  rw [Int.emod_emod_of_dvd _ (Int.dvd_refl _),Int.add_emod,zcf,<- Int.add_emod]
def dec (i:Nat) (k:Key):Key:=if i=0 then (k.1-1,k.2.1,k.2.2) else if i=1 then (k.1,k.2.1-1,k.2.2) else (k.1,k.2.1,k.2.2-1)
theorem zda {i:Nat} {k q:Key}:inc i k=q ↔ k=dec i q:=by
 obtain ⟨a,b,c⟩:=k
 obtain ⟨x,y,z⟩:=q
 unfold inc dec
 split
 .simp; omega
 .split <;> (simp; omega)
theorem zgW (i:Nat) (k:Key):at3 i (dec i k)=at3 i k-1:=by
 unfold at3 dec
 split
 .rfl
 .split <;> rfl
theorem zn6 {e:List Int} {i:Nat} (h3:i<3) (hi:i<e.length):zah (e.set i (e[i]?.getD 0-1))=dec i (zah e):=by
 have:i=0\/i=1\/i=2:=by omega
 match e,hi with
 | [a],hi =>
  simp at hi; subst hi; simp [zah,dec]
 | [a,b],hi =>
  rcases this with rfl | rfl | rfl
  .simp [zah,dec]
  .simp [zah,dec]
  .simp at hi
 | a::b::c::e,hi=>rcases this with rfl | rfl | rfl <;> simp [zah,dec]
theorem zhX {e:List Int} {i:Nat} (h3:i<3):at3 i (zah e)=e[i]?.getD 0:=by
 have:i=0\/i=1\/i=2:=by omega
 rcases this with rfl | rfl | rfl <;> rfl
def ziF (i:Nat):List Mon->List Mon->List Mon
 | acc,[]=>acc
 | acc,m::p=>ziF i (if 0<m.2[i]?.getD 0 then putL acc (m.1*m.2[i]?.getD 0%10007) (m.2.set i (m.2[i]?.getD 0-1)) else acc) p
def derL (i:Nat) (p:List Mon):List Mon:=ziF i [] p
theorem zke {n i:Nat} (hi:i<n) (hn:n<=3) {k:Key} (hk:0<=at3 i k):∀ (p acc:List Mon),(∀ m∈p,VOk n m)->cfL (ziF i acc p) k%10007=(cfL acc k+der i (cfL p) k)%10007
 | [],acc,_=>by simp [ziF,der,cfL,coef,sumI]
 | m::p,acc,h=>by
  have hm:=h m (by simp)
  have hlen:=hm.len
  have hd:der i (cfL (m::p)) k=(at3 i k+1)*(if inc i k=zah m.2 then m.1 else 0)+der i (cfL p) k:=by
   unfold der; rw [zbu,Int.mul_add]
  rw [ziF,zke hi hn hk p _ (fun a ha=>h a (by simp [ha])),hd]
  by_cases hpos:0<m.2[i]?.getD 0
  .rw [if_pos hpos,Int.add_emod,zg9,zn6 (by omega) (by omega)]
   have e:(if k=dec i (zah m.2) then m.1*m.2[i]?.getD 0%10007 else 0)%10007=(at3 i k+1)*(if inc i k=zah m.2 then m.1 else 0)%10007:=by
    by_cases hkk:k=dec i (zah m.2)
    .rw [if_pos hkk,if_pos (zda.2 hkk)]
     have:=zgW i (zah m.2)
     rw [<- hkk,zhX (by omega)] at this
     rw [this,Int.emod_emod_of_dvd _ (Int.dvd_refl _),Int.mul_comm]
     congr 2; omega
    .rw [if_neg hkk,if_neg (fun e=>hkk (zda.1 e))]; simp
   generalize (if k=dec i (zah m.2) then m.1*m.2[i]?.getD 0%10007 else 0)=A at *
   generalize (at3 i k+1)*(if inc i k=zah m.2 then m.1 else 0)=B at *
   omega
  .rw [if_neg hpos]
   have e:(at3 i k+1)*(if inc i k=zah m.2 then m.1 else 0)=0:=by
    by_cases hkk:inc i k=zah m.2
    .have h0:0<=m.2[i]?.getD 0:=by
      rw [List.getElem?_eq_getElem (by omega),Option.getD_some]; exact (hm.pw _ (List.getElem_mem _)).1
     have:=zgW i (zah m.2)
     rw [<- zda.1 hkk,zhX (by omega)] at this
     rw [show at3 i k+1=0 by omega,Int.zero_mul]
    .rw [if_neg hkk,Int.mul_zero]
   rw [e]; simp
end Go.Proofs.YthhdollpkieknaaGreat


namespace Go.Proofs.YthhdollpkieknaaGreat
open Go.Abs
def hasK (rem:List (Key × Int)) (k:Key):Bool:=rem.any fun e=>decide (e.1=k)
theorem zcH {rem:List (Key × Int)} {k:Key}:hasK rem k=true ↔ ∃ e∈rem,e.1=k:=by simp [hasK]
theorem zdu (l1 l2:List (Key × Int)) (k0:Key) (x:Int) (k:Key):hasK (l1++(k0,x)::l2) k=(decide (k0=k) || hasK (l1++l2) k):=by
 simp only [hasK,List.any_append,List.any_cons]
 cases List.any l1 (fun e=>decide (e.1=k)) <;> cases decide (k0=k) <;> simp
theorem zkc {l1 l2:List (Key × Int)} {k0:Key} {x:Int} (h:(l1++(k0,x)::l2).Pairwise (fun a b=>a.1≠b.1)):hasK (l1++l2) k0=false:=by
 cases hb:hasK (l1++l2) k0 with
 | false=>rfl
 | true =>
  obtain ⟨e,he,hk⟩:=zcH.1 hb
  obtain ⟨h1,h2,h3⟩:=List.pairwise_append.1 h
  rcases List.mem_append.1 he with he | he
  .exact (h3 e he (k0,x) (by simp) hk).elim
  .exact ((List.pairwise_cons.1 h2).1 e he hk.symm).elim
def remD (i:Nat) (c:Key->Option Int) (rem:List (Key × Int)) (k:Key):Option Int:=if hasK rem (inc i k)=true then none else derM i c k
theorem zl1 {i:Nat} {c:Key->Option Int} {es:List (Key × Int)} (he:Enum c es):remD i c es=zb4:=by
 funext k
 unfold remD zb4
 split
 .rfl
 .rename_i h
  have:c (inc i k)=none:=he.out _ (fun p hp e=>h (zcH.2 ⟨p,hp,e⟩))
  simp [derM,this]
theorem zqX (i:Nat) (c:Key->Option Int):remD i c []=derM i c:=by
 funext k; simp [remD,hasK]
theorem ziK {i:Nat} {c:Key->Option Int} {l1 l2:List (Key × Int)} {k0:Key} {x:Int}:remD i c (l1++(k0,x)::l2) (dec i k0)=none:=by
 unfold remD
 rw [zda.2 rfl,zdu]
 simp
theorem zeQ {i:Nat} {c:Key->Option Int} {l1 l2:List (Key × Int)} {k0:Key} {x:Int} (h:(l1++(k0,x)::l2).Pairwise (fun a b=>a.1≠b.1)) (hc:c k0=some x) (h0:¬ 0<at3 i k0) :
  remD i c (l1++(k0,x)::l2)=remD i c (l1++l2):=by
 funext k
 unfold remD
 rw [zdu]
 by_cases hk:k0=inc i k
 .have hd:k=dec i k0:=zda.1 hk.symm
  have ha:=zgW i k0
  rw [<- hd] at ha
  have:derM i c k=none:=by
   unfold derM
   rw [<- hk,hc]
   simp only
   rw [if_neg (by omega)]
  rw [this]; simp
 .simp [hk]
theorem ze1 {i:Nat} {c:Key->Option Int} {l1 l2:List (Key × Int)} {k0:Key} {x:Int} (h:(l1++(k0,x)::l2).Pairwise (fun a b=>a.1≠b.1)) (hc:c k0=some x) (h0:0<at3 i k0) :
  mset (remD i c (l1++(k0,x)::l2)) (dec i k0) (at3 i k0*x%10007)=remD i c (l1++l2):=by
 funext k
 unfold mset
 by_cases hk:k=dec i k0
 .have hi:inc i k=k0:=zda.2 hk
  rw [if_pos hk]
  unfold remD
  rw [hi,zkc h]
  have ha:=zgW i k0
  rw [<- hk] at ha
  simp only [Bool.false_eq_true,if_false]
  unfold derM
  rw [hi,hc]
  simp only
  rw [if_pos (by omega),show at3 i k+1=at3 i k0 by omega]
 .rw [if_neg hk]
  unfold remD
  rw [zdu]
  have:¬ k0=inc i k:=fun e=>hk (zda.1 e.symm)
  simp [this]
def remA (o q:Key->Option Int) (x:Int) (rem:List (Key × Int)) (k:Key):Option Int:=if hasK rem k=true then o k else addM o q x k
theorem zle {o q:Key->Option Int} {x:Int} {es:List (Key × Int)} (he:Enum q es):remA o q x es=o:=by
 funext k
 unfold remA
 split
 .rfl
 .rename_i h
  have:q k=none:=he.out _ (fun p hp e=>h (zcH.2 ⟨p,hp,e⟩))
  simp [addM,this]
theorem zq5 (o q:Key->Option Int) (x:Int):remA o q x []=addM o q x:=by
 funext k; simp [remA,hasK]
theorem ztq {o q:Key->Option Int} {x:Int} {l1 l2:List (Key × Int)} {k0:Key} {a:Int}:remA o q x (l1++(k0,a)::l2) k0=o k0:=by
 unfold remA
 rw [zdu]
 simp
theorem zny {o q:Key->Option Int} {x:Int} {l1 l2:List (Key × Int)} {k0:Key} {a:Int} (h:(l1++(k0,a)::l2).Pairwise (fun a b=>a.1≠b.1)) (hc:q k0=some a) :
  mset (remA o q x (l1++(k0,a)::l2)) k0 (((o k0).getD 0+x%10007*a)%10007)=remA o q x (l1++l2):=by
 funext k
 unfold mset
 by_cases hk:k=k0
 .subst hk
  rw [if_pos rfl]
  unfold remA
  rw [zkc h]
  simp [addM,hc]
 .rw [if_neg hk]
  unfold remA
  rw [zdu]
  have:¬ k0=k:=fun e=>hk e.symm
  simp [this]
end Go.Proofs.YthhdollpkieknaaGreat


namespace Go.Proofs.YthhdollpkieknaaGreat
open Go.Abs
theorem zkI {n:Nat} {c:Int} {e:List Int} (h:VOk n (c,e)):∀ (l:List Mon) (done:Bool),(∀ m∈l,VOk n m)->∀ m∈zaL c e l done,VOk n m
 | [],true,_,m,hm=>by simp [zaL] at hm
 | [],false,_,m,hm=>by simp [zaL] at hm; rw [hm]; exact h
 | a::l,done,hl,m,hm=>by
  have ha:=hl a (by simp)
  have ih:=fun d=>zkI h l d (fun b hb=>hl b (by simp [hb]))
  have one:∀ b:Mon,VOk n b->m∈(if b.1=0 then [] else [b])->VOk n m:=fun b hb hmm=>by
   split at hmm
   .simp at hmm
   .simp at hmm; rw [hmm]; exact hb
  rw [zaL] at hm
  split at hm
  .rcases List.mem_append.1 hm with hm | hm
   .exact one ((a.1+c)%10007,a.2) ⟨zak _,ha.len,ha.pw⟩ hm
   .exact ih _ m hm
  .split at hm
   .rcases List.mem_cons.1 hm with hm | hm
    .rw [hm]; exact h
    .rcases List.mem_append.1 hm with hm | hm
     .exact one a ha hm
     .exact ih _ m hm
   .rcases List.mem_append.1 hm with hm | hm
    .exact one a ha hm
    .exact ih _ m hm
theorem VOk.low {n i:Nat} {m:Mon} (h:VOk n m) (hi:i<n) (hp:0<m.2[i]?.getD 0):VOk n (m.1*m.2[i]?.getD 0%10007,m.2.set i (m.2[i]?.getD 0-1)):=by
 have hl:=h.len
 refine ⟨zak _,by simpa using hl,fun x hx=>?_⟩
 rcases List.mem_or_eq_of_mem_set hx with hx | rfl
 .exact h.pw x hx
 .have hm:m.2[i]?.getD 0∈m.2:=by
   rw [List.getElem?_eq_getElem (by omega),Option.getD_some]; exact List.getElem_mem _
  have:=h.pw _ hm
  omega
theorem zkO {n i:Nat} (hi:i<n):∀ (p acc:List Mon),(∀ m∈p,VOk n m)->(∀ m∈acc,VOk n m)->∀ m∈ziF i acc p,VOk n m
 | [],acc,_,ha,m,hm=>ha m hm
 | a::p,acc,hp,ha,m,hm=>by
  rw [ziF] at hm
  have hav:=hp a (by simp)
  refine zkO hi p _ (fun b hb=>hp b (by simp [hb])) ?_ m hm
  split
  .rename_i hpos
   exact fun b hb=>zkI (hav.low hi hpos) acc _ ha b hb
  .exact ha
theorem ztv {n i:Nat} (hi:i<n) {p:List Mon} (hp:∀ m∈p,VOk n m):∀ m∈derL i p,VOk n m:=zkO hi p [] hp (by simp)
theorem zsp {n i:Nat} (hi:i<n) (hn:n<=3) {k:Key} (hk:0<=at3 i k) {p:List Mon} (hp:∀ m∈p,VOk n m):cfL (derL i p) k%10007=der i (cfL p) k%10007:=by
 unfold derL
 rw [zke hi hn hk p [] hp]
 simp [cfL,coef,sumI]
theorem zj8 {α β:Type} (g:α->β) (f:β->Int):∀ l:List α,sumI f (l.map g)=sumI (fun a=>f (g a)) l
 | []=>rfl
 | a::l=>by rw [List.map_cons,sumI,sumI,zj8 g f l]
theorem znR {p:List Mon} (h:p.Pairwise (fun a b=>zah a.2≠zah b.2)):Enum (polF p) (p.map keyM):=by
 refine ⟨?_,fun e he=>?_,fun k hk=>?_⟩
 .rw [List.pairwise_map]; exact h
 .obtain ⟨k,x⟩:=e
  exact (zdI h).2 he
 .cases hc:polF p k with
  | none=>rfl
  | some x=>exact (hk _ ((zdI h).1 hc) rfl).elim
theorem zjm {p:List Mon} (h:p.Pairwise (fun a b=>zah a.2≠zah b.2)) (k:Key):gv (polF p) k=cfL p k:=by
 unfold gv
 rw [<- zdg (znR h) k]
 unfold coef cfL coef
 rw [zj8]
 rfl
theorem zto {n i:Nat} {c:Key->Option Int} (hi:i<n) (hn:n<=3) (hc:∀ k x,c k=some x->isN x/\KOk n k):∀ k x,derM i c k=some x->isN x/\KOk n k:=by
 intro k x hx
 unfold derM at hx
 cases hcc:c (inc i k) with
 | none=>rw [hcc] at hx; simp at hx
 | some a =>
  rw [hcc] at hx
  simp only at hx
  split at hx
  .rename_i hpos
   injection hx with hx
   obtain ⟨_,hb,hz⟩:=hc _ _ hcc
   refine ⟨by rw [<- hx]; exact zak _,?_,fun j h1 h2=>?_⟩
   .have hb:=zdM.1 hb
    refine zdM.2 ?_
    clear hz hcc hc
    obtain ⟨a,b,c⟩:=k
    have hi3:i=0\/i=1\/i=2:=by omega
    rcases hi3 with rfl | rfl | rfl <;> simp [at3,inc] at hb hpos |- <;> omega
   .have:=hz j h1 h2
    have hne:j≠i:=by omega
    have:j=0\/j=1\/j=2:=by omega
    have hi3:i=0\/i=1\/i=2:=by omega
    rcases this with rfl | rfl | rfl <;> rcases hi3 with rfl | rfl | rfl <;> simp [at3,inc] at*<;> omega
  .simp at hx
end Go.Proofs.YthhdollpkieknaaGreat


namespace Go.Proofs.YthhdollpkieknaaGreat
open Go.Abs
def NN (k:Key):Prop:=0<=k.1/\0<=k.2.1/\0<=k.2.2
def Eqv (C D:Key->Int):Prop:=∀ k,NN k->C k%10007=D k%10007
theorem NN.box {k:Key} (h:k∈box):NN k:=by have:=zdM.1 h; exact ⟨by omega,by omega,by omega⟩
theorem NN.at3 {k:Key} (h:NN k) (i:Nat):0<=at3 i k:=by
 obtain ⟨a,b,c⟩:=h
 unfold Go.Proofs.YthhdollpkieknaaGreat.at3
 split
 .omega
 .split <;> omega
theorem NN.inc {k:Key} (h:NN k) (i:Nat):NN (inc i k):=by
 obtain ⟨a,b,c⟩:=h
 unfold Go.Proofs.YthhdollpkieknaaGreat.inc NN
 split
 .exact ⟨by simp; omega,b,c⟩
 .split
  .exact ⟨a,by simp; omega,c⟩
  .exact ⟨a,b,by simp; omega⟩
theorem Eqv.refl (C:Key->Int):Eqv C C:=fun _ _=>rfl
theorem Eqv.symm {C D:Key->Int} (h:Eqv C D):Eqv D C:=fun k hk=>(h k hk).symm
theorem Eqv.trans {C D E:Key->Int} (h:Eqv C D) (h2:Eqv D E):Eqv C E:=fun k hk=>(h k hk).trans (h2 k hk)
theorem zc9 {a b:Int} (c:Int) (h:a%10007=b%10007):c*a%10007=c*b%10007:=by rw [Int.mul_emod,h,<- Int.mul_emod]
theorem zjh {a b c d:Int} (h:a%10007=b%10007) (h2:c%10007=d%10007):(a+c)%10007=(b+d)%10007:=by omega
theorem zt0 {C D:Key->Int} (h:Eqv C D) (i:Nat):Eqv (der i C) (der i D):=fun k hk=>zc9 _ (h _ (hk.inc i))
theorem zml {C D:Key->Int} (h:Eqv C D) (v:Nat->Int):∀ n,Eqv (alo v C n) (alo v D n)
 | 0,k,hk=>rfl
 | n+1,k,hk=>zjh (zml h v n k hk) (zc9 _ (zt0 h n k hk))
theorem zmH (v:Nat->Int) (C D:Key->Int) (k:Key):∀ n,alo v (fun k=>C k+D k) n k=alo v C n k+alo v D n k
 | 0=>rfl
 | n+1=>by simp only [alo,zmH v C D k n,zst,Int.mul_add]; omega
theorem zmr (v:Nat->Int) (c:Int) (C:Key->Int) (k:Key):∀ n,alo v (fun k=>c*C k) n k=c*alo v C n k
 | 0=>by simp [alo]
 | n+1=>by simp only [alo,zmr v c C k n,zt4,Int.mul_add]; rw [Int.mul_left_comm]
def Dv (n:Nat):List (List Int)->(Key->Int)->Key->Int
 | [],C=>C
 | v::vs,C=>Dv n vs (alo (yat v) C n)
theorem zoR (n:Nat):∀ (vs:List (List Int)) {C D:Key->Int},Eqv C D->Eqv (Dv n vs C) (Dv n vs D)
 | [],_,_,h=>h
 | v::vs,_,_,h=>zoR n vs (zml h (yat v) n)
theorem zrI (n:Nat):∀ (vs:List (List Int)) (C D:Key->Int),Dv n vs (fun k=>C k+D k)=fun k=>Dv n vs C k+Dv n vs D k
 | [],_,_=>rfl
 | v::vs,C,D=>by
  have:alo (yat v) (fun k=>C k+D k) n=fun k=>alo (yat v) C n k+alo (yat v) D n k:=funext (fun k=>zmH (yat v) C D k n)
  rw [Dv,this,zrI n vs]; rfl
theorem zrS (n:Nat):∀ (vs:List (List Int)) (c:Int) (C:Key->Int),Dv n vs (fun k=>c*C k)=fun k=>c*Dv n vs C k
 | [],_,_=>rfl
 | v::vs,c,C=>by
  have:alo (yat v) (fun k=>c*C k) n=fun k=>c*alo (yat v) C n k:=funext (fun k=>zmr (yat v) c C k n)
  rw [Dv,this,zrS n vs]; rfl
theorem zoy (n:Nat):∀ (vs:List (List Int)),Dv n vs (fun _=>0)=fun _=>0
 | []=>rfl
 | v::vs=>by
  have h0:∀ m (k:Key),alo (yat v) (fun _=>0) m k=0:=by
   intro m
   induction m with
   | zero=>intro k; rfl
   | succ m ih=>intro k; simp [alo,ih,der]
  have:alo (yat v) (fun _=>0) n=fun _=>0:=funext (h0 n)
  rw [Dv,this,zoy n vs]
theorem ziV (y:Nat->Int) {C D:Key->Int} (h:Eqv C D):Val y C%10007=Val y D%10007:=zs9 y (fun k hk=>h k (NN.box hk))
def zr2 (f:Nat->Int):Nat->Int
 | 0=>0
 | m+1=>zr2 f m+f m
def zcx (y:List Int) (n:Nat):List (List Int)->List Mon->Int
 | [],p=>vsum y p
 | v::vs,p=>zr2 (fun k=>yat v k*zcx y n vs (derL k p)) n
theorem zpu {n i:Nat} (hi:i<n) (hn:n<=3) {p:List Mon} (hp:∀ m∈p,VOk n m):Eqv (cfL (derL i p)) (der i (cfL p)):=fun k hk=>zsp hi hn (hk.at3 i) hp
theorem zh9 {y:List Int} {n:Nat} (hn:n<=3) (hl:y.length=n):∀ (vs:List (List Int)) (p:List Mon),(∀ m∈p,VOk n m)->zcx y n vs p%10007=Val (yat y) (Dv n vs (cfL p))%10007
 | [],p,hp=>zq1 (by omega) (by rw [hl]; exact hp)
 | v::vs,p,hp=>by
  have gen:∀ m,m<=n->zr2 (fun k=>yat v k*zcx y n vs (derL k p)) m%10007=Val (yat y) (Dv n vs (alo (yat v) (cfL p) m))%10007:=by
   intro m
   induction m with
   | zero =>
    intro _
    have:alo (yat v) (cfL p) 0=fun _=>0:=rfl
    rw [this,zoy]
    have:Val (yat y) (fun _=>0)=0:=zaS (fun _ _=>by simp)
    rw [this]; rfl
   | succ m ih =>
    intro hm
    have e:alo (yat v) (cfL p) (m+1)=fun k=>alo (yat v) (cfL p) m k+yat v m*der m (cfL p) k:=rfl
    rw [e,zrI n vs (alo (yat v) (cfL p) m) (fun k=>yat v m*der m (cfL p) k),zrS n vs (yat v m) (der m (cfL p)),zm9,zt7]
    refine zjh (ih (by omega)) (zc9 _ ?_)
    rw [zh9 hn hl vs (derL m p) (ztv (by omega) hp)]
    exact ziV _ (zoR n vs (zpu (by omega) hn hp))
  exact gen n (Nat.le_refl n)
def aloM (v:List Int) (c:Key->Option Int):Nat->Key->Option Int
 | 0=>zb4
 | n+1=>addM (aloM v c n) (derM n c) (yat v n)
theorem znc (v:List Int) (c:Key->Option Int):∀ n,Eqv (gv (aloM v c n)) (alo (yat v) (gv c) n)
 | 0,k,hk=>rfl
 | n+1,k,hk=>by
  rw [aloM,zma]
  exact zjh (znc v c n k hk) (zc9 _ (zs2 n c (hk.at3 n)))
def DvM (n:Nat):List (List Int)->(Key->Option Int)->Key->Option Int
 | [],c=>c
 | v::vs,c=>DvM n vs (aloM v c n)
theorem zm6 (n:Nat):∀ (vs:List (List Int)) (c:Key->Option Int),Eqv (gv (DvM n vs c)) (Dv n vs (gv c))
 | [],c=>Eqv.refl _
 | v::vs,c=>(zm6 n vs (aloM v c n)).trans (zoR n vs (znc v c n))
theorem zrb {n:Nat} {p:List Mon} {y:List Int} (hn:n<=3) (hl:y.length=n) (hp:zbx (n:Int) p=true) (vs:List (List Int)) :
  zcx y n vs p%10007=Val (yat y) (gv (DvM n vs (polF p)))%10007:=by
 have hv:∀ m∈p,VOk n m:=fun m hm=>(zb2 hp hm).vok
 have:gv (polF p)=cfL p:=funext (zjm (ziT (by omega) hp))
 rw [zh9 hn hl vs p hv,ziV _ (zm6 n vs (polF p)),this]
end Go.Proofs.YthhdollpkieknaaGreat


namespace Go.Proofs.YthhdollpkieknaaGreat
open Go.Abs
end Go.Proofs.YthhdollpkieknaaGreat


namespace Go.Proofs.YthhdollpkieknaaGreat
open Go.Abs
theorem zg5 (xs:List Int) (hl:xs.length<=17592186044416):Con Tryz.prog 154 [.sl xs.length (avs xs)] (.own 2 xs.length (avs xs)):=by
 refine zab Tryz.mixed ⟨3,[],[],[]⟩ Tryz.func154 ?_
 rw [Tryz.ntmps154]
 simp [go_sem]
 try omega
theorem zhS (a b:List Int) (ha:a.length<=9223372036854775807):Con Tryz.prog 248 [.sl a.length (avs a),.sl b.length (avs b)] (.bool (decide (a=b))):=by
 refine zab Tryz.mixed ⟨6,[],[],[]⟩ Tryz.func248 ?_
 rw [Tryz.ntmps248]
 simp [go_sem]
 refine ⟨fun h=>?_,fun h=>?_⟩ <;> simp at h <;> simp [go_sem]
 .rintro rfl; omega
 have hl:a.length=b.length:=by omega
 refine zac (4::5::List.range' 11 16) (fun i:Nat=>[(5,.int i)]) (fun i=>i<=a.length/\a.take i=b.take i) (fun i=>a.length-i) 0 (by simp) (by simp [go_sem]) (by simp [go_sem]) ?_
 intro i hi
 simp [go_sem]
 refine ⟨fun h=>?_,fun h=>?_⟩ <;> simp at h
 .have h2:i<b.length:=by omega
  simp [go_sem,zaj h,zaj h2]
  refine ⟨by kernel_rfl,⟨h,by rintro rfl; simp at h⟩,⟨h2,by rintro rfl; simp at h2⟩,?_⟩
  refine ⟨by kernel_rfl,?_⟩
  simp [go_sem]
  refine ⟨fun h3=>?_,fun h3=>?_⟩ <;> simp at h3 <;> simp [go_sem]
  .rintro rfl; exact h3 rfl
  .refine ⟨by omega,i+1,⟨by omega,?_⟩,by omega,zaa _ _ _ (by simp),by omega⟩
   rw [List.take_add_one,List.take_add_one,hi.2]
   rw [List.getElem?_eq_getElem h,List.getElem?_eq_getElem h2] at h3 |-
   simp only [Option.getD_some] at h3
   rw [h3]
 .simp [go_sem]
  have e:i=a.length:=by omega
  subst e
  have:=hi.2
  rw [List.take_length,hl,List.take_length] at this
  exact this
theorem zmo (m:Mon):zb3 [m]=[.int m.1,.own 2 m.2.length (avs m.2)]:=rfl
theorem zjE (c:Int) (e:List Int) (m:Mon) (l:List Mon):zaL c e (m::l) true=(if m.1=0 then [] else [m])++zaL c e l true:=by
 rw [zaL,if_neg (by simp),if_neg (by simp)]
end Go.Proofs.YthhdollpkieknaaGreat


namespace Go.Proofs.YthhdollpkieknaaGreat
class CR (α:Type) extends Add α,Mul α where
 ofI:Int->α
 addC:∀ a b:α,a+b=b+a
 addA:∀ a b c:α,a+b+c=a+(b+c)
 add0:∀ a:α,a+ofI 0=a
 mulC:∀ a b:α,a*b=b*a
 mulA:∀ a b c:α,a*b*c=a*(b*c)
 mul1:∀ a:α,a*ofI 1=a
 mulD:∀ a b c:α,a*(b+c)=a*b+a*c
 mul0:∀ a:α,a*ofI 0=ofI 0
 ofAdd:∀ a b:Int,ofI (a+b)=ofI a+ofI b
 ofMul:∀ a b:Int,ofI (a*b)=ofI a*ofI b
namespace CR
section
variable {α:Type} [CR α]
instance:Std.Associative (α:=α) (·+·):=⟨addA⟩
instance:Std.Commutative (α:=α) (·+·):=⟨addC⟩
instance:Std.Associative (α:=α) (·*·):=⟨mulA⟩
instance:Std.Commutative (α:=α) (·*·):=⟨mulC⟩
theorem zadd (a:α):ofI 0+a=a:=by rw [addC,add0]
theorem omul (a:α):ofI 1*a=a:=by rw [mulC,mul1]
theorem zmul (a:α):ofI 0*a=ofI 0:=by rw [mulC,mul0]
end
end CR
open CR
instance:CR Int where
 ofI:=id
 addC:=Int.add_comm
 addA:=Int.add_assoc
 add0:=Int.add_zero
 mulC:=Int.mul_comm
 mulA:=Int.mul_assoc
 mul1:=Int.mul_one
 mulD:=Int.mul_add
 mul0:=Int.mul_zero
 ofAdd:=fun _ _=>rfl
 ofMul:=fun _ _=>rfl
abbrev Ser (α:Type):=Nat->α
def sh {α:Type} (a:Ser α):Ser α:=fun n=>a (n+1)
def cmul {α:Type} [CR α]:Nat->Ser α->Ser α->α
 | 0,a,b=>a 0*b 0
 | n+1,a,b=>a 0*b (n+1)+cmul n (sh a) b
section
variable {α:Type} [CR α]
theorem zkP (n:Nat):∀ (a b c:Ser α),cmul n a (fun i=>b i+c i)=cmul n a b+cmul n a c:=by
 induction n with
 | zero=>intro a b c; exact mulD _ _ _
 | succ n ih=>intro a b c; simp only [cmul,ih,mulD]; ac_rfl
theorem zo3 (n:Nat):∀ (a b:Ser α),cmul (n+1) a b=cmul n a (sh b)+a (n+1)*b 0:=by
 induction n with
 | zero=>intro a b; rfl
 | succ n ih =>
  intro a b
  rw [cmul,ih,cmul]
  show a 0*b (n+1+1)+(cmul n (sh a) (sh b)+a (n+1+1)*b 0)=a 0*b (n+1+1)+cmul n (sh a) (sh b)+a (n+1+1)*b 0
  ac_rfl
theorem zbZ (n:Nat):∀ (a b:Ser α),cmul n a b=cmul n b a:=by
 induction n with
 | zero=>intro a b; exact mulC _ _
 | succ n ih=>intro a b; rw [cmul,zo3,ih,mulC,addC]
theorem zl4 (c:α) (n:Nat):∀ (a b:Ser α),cmul n (fun i=>c*a i) b=c*cmul n a b:=by
 induction n with
 | zero=>intro a b; exact mulA _ _ _
 | succ n ih =>
  intro a b
  have:=ih (sh a) b
  simp only [cmul,mulD]
  rw [<- this,mulA]; rfl
theorem zn2 (n:Nat) (a b c:Ser α):cmul n (fun i=>a i+b i) c=cmul n a c+cmul n b c:=by
 rw [zbZ n (fun i=>a i+b i) c,zkP,zbZ n c a,zbZ n c b]
theorem zlQ (n:Nat):∀ (a b c:Ser α),cmul n (fun i=>cmul i a b) c=cmul n a (fun i=>cmul i b c):=by
 induction n with
 | zero=>intro a b c; exact mulA _ _ _
 | succ n ih =>
  intro a b c
  have e:sh (fun i=>cmul i a b)=fun i=>a 0*sh b i+cmul i (sh a) b:=rfl
  simp only [cmul]
  rw [e,zn2,zl4,ih,mulD]
  show a 0*b 0*c (n+1)+_=_
  rw [mulA]; ac_rfl
def sOf (k:Int):Ser α:=fun n=>if n=0 then ofI k else ofI 0
theorem zfz (k:Int):∀ (n:Nat) (a:Ser α),cmul n a (sOf k)=a n*ofI k:=by
 intro n
 induction n with
 | zero=>intro a; rfl
 | succ n ih =>
  intro a
  rw [cmul,ih]
  show a 0*ofI 0+a (n+1)*ofI k=_
  rw [mul0,zadd]
instance:CR (Ser α) where
 add:=fun a b n=>a n+b n
 mul:=fun a b n=>cmul n a b
 ofI:=sOf
 addC:=fun a b=>funext fun n=>addC _ _
 addA:=fun a b c=>funext fun n=>addA _ _ _
 add0:=fun a=>funext fun n=>by show a n+(if n=0 then ofI 0 else ofI 0)=a n; rw [ite_self,add0]
 mulC:=fun a b=>funext fun n=>zbZ n a b
 mulA:=fun a b c=>funext fun n=>zlQ n a b c
 mul1:=fun a=>funext fun n=>by show cmul n a (sOf 1)=a n; rw [zfz,mul1]
 mulD:=fun a b c=>funext fun n=>zkP n a b c
 mul0:=fun a=>funext fun n=>by show cmul n a (sOf 0)=if n=0 then ofI 0 else ofI 0; rw [zfz,mul0,ite_self]
 ofAdd:=fun a b=>funext fun n=>by
  show (if n=0 then (ofI (a+b):α) else ofI 0)=(if n=0 then ofI a else ofI 0)+(if n=0 then ofI b else ofI 0)
  split
  .exact ofAdd _ _
  .rw [add0]
 ofMul:=fun a b=>funext fun n=>by
  show (if n=0 then (ofI (a*b):α) else ofI 0)=cmul n (sOf a) (sOf b)
  rw [zfz]
  show (if n=0 then (ofI (a*b):α) else ofI 0)=(if n=0 then ofI a else ofI 0)*ofI b
  split
  .exact ofMul _ _
  .rw [zmul]
theorem znG (a b:Ser α) (n:Nat):(a+b) n=a n+b n:=rfl
def pwr (a:α):Nat->α
 | 0=>ofI 1
 | n+1=>pwr a n*a
def sL {β:Type} (f:β->α):List β->α
 | []=>ofI 0
 | b::l=>f b+sL f l
def mon (U:Nat->α) (e:Nat->Nat):Nat->α
 | 0=>ofI 1
 | d+1=>mon U e d*pwr (U d) (e d)
abbrev Trm:=Int × (Nat->Nat)
def ev (d:Nat) (U:Nat->α) (L:List Trm):α:=sL (fun m=>ofI m.1*mon U m.2 d) L
end
structure Cg (α:Type) [CR α] where
 r:α->α->Prop
 refl:∀ a,r a a
 symm:∀ {a b},r a b->r b a
 trans:∀ {a b c},r a b->r b c->r a c
 add:∀ {a b c d},r a b->r c d->r (a+c) (b+d)
 mul:∀ {a b c d},r a b->r c d->r (a*c) (b*d)
 of:∀ {a b:Int},a%10007=b%10007->r (ofI a) (ofI b)
def cgI:Cg Int where
 r:=fun a b=>a%10007=b%10007
 refl:=fun _=>rfl
 symm:=fun h=>h.symm
 trans:=fun h k=>h.trans k
 add:=fun h k=>by omega
 mul:=fun {a b c d} h k=>by rw [Int.mul_emod,h,k,<- Int.mul_emod]
 of:=fun h=>h
section
variable {α:Type} [CR α]
theorem zsq (c:Cg α) {N:Nat}:∀ {n:Nat} {a b a' b':Ser α},n<N->(∀ i,i<N->c.r (a i) (a' i))->(∀ i,i<N->c.r (b i) (b' i))->c.r (cmul n a b) (cmul n a' b')
 | n,a,b,a',b',hn,ha,hb=>by
  have gen:∀ (n:Nat) (a b a' b':Ser α),(∀ i,i<=n->c.r (a i) (a' i))->(∀ i,i<=n->c.r (b i) (b' i))->c.r (cmul n a b) (cmul n a' b'):=by
   intro n
   induction n with
   | zero=>intro a b a' b' ha hb; exact c.mul (ha 0 (by omega)) (hb 0 (by omega))
   | succ n ih =>
    intro a b a' b' ha hb
    exact c.add (c.mul (ha 0 (by omega)) (hb (n+1) (by omega))) (ih _ _ _ _ (fun i hi=>ha (i+1) (by omega)) (fun i hi=>hb i (by omega)))
  exact gen n a b a' b' (fun i hi=>ha i (by omega)) (fun i hi=>hb i (by omega))
def cgS (c:Cg α) (N:Nat):Cg (Ser α) where
 r:=fun a b=>∀ n,n<N->c.r (a n) (b n)
 refl:=fun a n _=>c.refl _
 symm:=fun h n hn=>c.symm (h n hn)
 trans:=fun h k n hn=>c.trans (h n hn) (k n hn)
 add:=fun h k n hn=>c.add (h n hn) (k n hn)
 mul:=fun h k n hn=>zsq c hn h k
 of:=fun {a b} h n hn=>by
  show c.r (if n=0 then ofI a else ofI 0) (if n=0 then ofI b else ofI 0)
  split
  .exact c.of h
  .exact c.refl _
theorem Cg.sL (c:Cg α) {β:Type} {f g:β->α}:∀ {l:List β},(∀ b∈l,c.r (f b) (g b))->c.r (sL f l) (sL g l)
 | [],_=>c.refl _
 | b::l,h=>c.add (h b (by simp)) (Cg.sL c (fun x hx=>h x (by simp [hx])))
theorem Cg.pwr (c:Cg α) {a b:α} (h:c.r a b):∀ n,c.r (pwr a n) (pwr b n)
 | 0=>c.refl _
 | n+1=>c.mul (Cg.pwr c h n) h
theorem Cg.mon (c:Cg α) {U V:Nat->α} (e:Nat->Nat):∀ {d:Nat},(∀ k,k<d->c.r (U k) (V k))->c.r (mon U e d) (mon V e d)
 | 0,_=>c.refl _
 | d+1,h=>c.mul (Cg.mon c e (fun k hk=>h k (by omega))) (Cg.pwr c (h d (by omega)) _)
theorem Cg.ev (c:Cg α) {d:Nat} {U V:Nat->α} (h:∀ k,k<d->c.r (U k) (V k)) (L:List Trm):c.r (ev d U L) (ev d V L) :=
 c.sL (fun m _=>c.mul (c.refl _) (c.mon m.2 h))
end
end Go.Proofs.YthhdollpkieknaaGreat


namespace Go.Proofs.YthhdollpkieknaaGreat
open CR
def ex (e:List Int):Nat->Nat:=fun k=>(e[k]?.getD 0).toNat
def tr (m:Mon):Trm:=(m.1,ex m.2)
structure WOk (n:Nat) (B:Int) (m:Mon):Prop where
 num:isN m.1
 len:m.2.length=n
 pw:∀ x∈m.2,0<=x/\x<=B
theorem VOk.wok {n:Nat} {m:Mon} (h:VOk n m):WOk n 3 m:=⟨h.num,h.len,h.pw⟩
theorem WOk.le {n:Nat} {B C:Int} {m:Mon} (h:WOk n B m) (hBC:B<=C):WOk n C m:=⟨h.num,h.len,fun x hx=>⟨(h.pw x hx).1,Int.le_trans (h.pw x hx).2 hBC⟩⟩
theorem WOk.get {n:Nat} {B:Int} {m:Mon} (h:WOk n B m) (hB:0<=B) (k:Nat):0<=m.2[k]?.getD 0/\m.2[k]?.getD 0<=B:=by
 rcases Nat.lt_or_ge k m.2.length with hk | hk
 .simp [hk]; exact h.pw _ (List.getElem_mem hk)
 .simp [hk]; exact hB
section
variable {α:Type} [CR α]
def evM (d:Nat) (U:Nat->α) (L:List Mon):α:=ev d U (L.map tr)
theorem ztj (d:Nat) (U:Nat->α):evM d U []=ofI 0:=rfl
theorem zq7 (d:Nat) (U:Nat->α) (m:Mon) (L:List Mon):evM d U (m::L)=ofI m.1*mon U (ex m.2) d+evM d U L:=rfl
theorem Cg.eq (c:Cg α) {a b:α} (h:a=b):c.r a b:=by rw [h]; exact c.refl _
def zlg (p:List Mon) (k:Int):List Mon->List Mon
 | []=>p
 | m::q=>zlg (putL p (k*m.1%10007) m.2) k q
def addE (a b:List Int):List Int:=List.zipWith (·+·) a b
def zdJ (a:Mon) (acc:List Mon):List Mon->List Mon
 | []=>acc
 | b::q=>zdJ a (putL acc (a.1*b.1%10007) (addE a.2 b.2)) q
def zfP (acc:List Mon) (q:List Mon):List Mon->List Mon
 | []=>acc
 | a::p=>zfP (zdJ a acc q) q p
def zpX (p q:List Mon):List Mon:=zfP [] q p
def LOk (n:Nat) (L:List Mon):Prop:=∀ m∈L,m.2.length=n/\∀ x∈m.2,0<=x
theorem LOk.tl {n:Nat} {m:Mon} {L:List Mon} (h:LOk n (m::L)):LOk n L:=fun a ha=>h a (by simp [ha])
theorem LOk.hd {n:Nat} {m:Mon} {L:List Mon} (h:LOk n (m::L)):m.2.length=n/\∀ x∈m.2,0<=x:=h m (by simp)
end
end Go.Proofs.YthhdollpkieknaaGreat


namespace Go.Proofs.YthhdollpkieknaaGreat
open Go.Abs
theorem ziv (c:Int) (e:List Int):∀ (l:List Mon) (done:Bool),(zaL c e l done).length<=l.length+1
 | [],true=>by simp [zaL]
 | [],false=>by simp [zaL]
 | m::l,done=>by
  have one:∀ b:Mon,(if b.1=0 then [] else [b]).length<=1:=fun b=>by split <;> simp
  have ht:∀ l:List Mon,(zaL c e l true).length<=l.length:=by
   intro l
   induction l with
   | nil=>simp [zaL]
   | cons m l ih=>rw [zjE]; have:=one m; simp; omega
  have h1:=ziv c e l done
  have h2:=ht l
  have h3:=one m
  have h4:=one ((m.1+c)%10007,m.2)
  simp only at h4
  rw [zaL]
  split
  .simp only [List.length_append,List.length_cons]; omega
  .split
   .simp only [List.length_append,List.length_cons]; omega
   .simp only [List.length_append,List.length_cons]; omega
theorem zqz (L:List Mon) (c:Int) (e:List Int):(putL L c e).length<=L.length+1:=ziv c e L _
theorem zdf {n:Nat} {B c:Int} {e:List Int} (h:WOk n B (c,e)):∀ (l:List Mon) (done:Bool),(∀ m∈l,WOk n B m)->∀ m∈zaL c e l done,WOk n B m
 | [],true,_,m,hm=>by simp [zaL] at hm
 | [],false,_,m,hm=>by simp [zaL] at hm; rw [hm]; exact h
 | a::l,done,hl,m,hm=>by
  have ha:=hl a (by simp)
  have ih:=fun d=>zdf h l d (fun b hb=>hl b (by simp [hb]))
  have one:∀ b:Mon,WOk n B b->m∈(if b.1=0 then [] else [b])->WOk n B m:=fun b hb hmm=>by
   split at hmm
   .simp at hmm
   .simp at hmm; rw [hmm]; exact hb
  rw [zaL] at hm
  split at hm
  .rcases List.mem_append.1 hm with hm | hm
   .exact one ((a.1+c)%10007,a.2) ⟨zak _,ha.len,ha.pw⟩ hm
   .exact ih _ m hm
  .split at hm
   .rcases List.mem_cons.1 hm with hm | hm
    .rw [hm]; exact h
    .rcases List.mem_append.1 hm with hm | hm
     .exact one a ha hm
     .exact ih _ m hm
   .rcases List.mem_append.1 hm with hm | hm
    .exact one a ha hm
    .exact ih _ m hm
theorem WOk.low {n i:Nat} {B:Int} {m:Mon} (h:WOk n B m) (hi:i<n) (hp:0<m.2[i]?.getD 0):WOk n B (m.1*m.2[i]?.getD 0%10007,m.2.set i (m.2[i]?.getD 0-1)):=by
 have hl:=h.len
 refine ⟨zak _,by simpa using hl,fun x hx=>?_⟩
 rcases List.mem_or_eq_of_mem_set hx with hx | rfl
 .exact h.pw x hx
 .have hm:m.2[i]?.getD 0∈m.2:=by
   rw [List.getElem?_eq_getElem (by omega),Option.getD_some]; exact List.getElem_mem _
  have:=h.pw _ hm
  omega
theorem zfk {a b:Int} (ha:isN a) (h0:0<=b) (h1:b<=1000000):fits (a*b):=by
 obtain ⟨a0,a1⟩:=ha
 have:=Int.mul_nonneg a0 h0
 have:a*b<=10006*1000000:=Int.mul_le_mul (by omega) h1 h0 (by omega)
 exact ⟨by omega,by omega⟩
theorem ziz {n:Nat} (c:Key->Option Int) (i:Nat) (hi:i<n) (hn:n<=3) (hc:∀ k x,c k=some x->isN x/\KOk n k) :
  Con Tryz.prog 289 [.fmp c,.int i] (.mp (derM i c)):=by
 refine zab Tryz.mixed ⟨9,[],[],[]⟩ Tryz.func289 ?_
 rw [Tryz.ntmps289]
 simp [go_sem]
 intro es hes
 have hok:∀ e∈es,c e.1=some e.2:=fun e he=>hes.val e he
 refine zac (List.range' 5 34) (fun x:Option (Key × Int) × List (Key × Int)=>[(5,.mp (remD i c x.2)),(11,.it x.1 x.2)]) (fun x=>x.2.Pairwise (fun a b=>a.1≠b.1)/\∀ e∈x.2,c e.1=some e.2) (fun x=>x.2.length) (none,es) ⟨hes.nd,hok⟩ (by simp [go_sem,zl1 hes]) (by simp [go_sem]) ?_
 rintro ⟨l,rem⟩ ⟨hnd,hrem⟩
 simp only at hnd hrem
 simp [go_sem,zcq]
 refine ⟨fun hr=>?_,fun l1 k0 k1 k2 x l2 hr=>?_⟩
 .subst hr
  exact zqX i c
 .subst hr
  have h3:i=0\/i=1\/i=2:=by omega
  have hcx:=hrem ((k0,k1,k2),x) (by simp)
  have hx:=hc _ _ hcx
  have hbx:=zdM.1 hx.2.1
  simp only at hcx hbx
  have hnum:=hx.1
  have hnd2:(l1++l2).Pairwise (fun a b=>a.1≠b.1):=hnd.sublist (List.Sublist.append (List.Sublist.refl _) (List.sublist_cons_self _ _))
  have hrem2:∀ a b c' y,((a,b,c'),y)∈l1++l2->c (a,b,c')=some y:=fun a b c' y hm=>hrem ((a,b,c'),y) (by
   rcases List.mem_append.1 hm with hm | hm <;> simp [hm])
  rcases h3 with rfl | rfl | rfl
  .have hz:remD 0 c (l1++((k0,k1,k2),x)::l2) (k0-1,k1,k2)=none:=ziK (i:=0) (c:=c) (l1:=l1) (l2:=l2) (k0:=(k0,k1,k2)) (x:=x)
   simp [go_sem]
   by_cases hp:0<k0
   .have hs:mset (remD 0 c (l1++((k0,k1,k2),x)::l2)) (k0-1,k1,k2) (k0*x%10007)=remD 0 c (l1++l2):=ze1 (i:=0) hnd hcx hp
    have hf:fits (k0*x):=by rw [Int.mul_comm]; exact zfk hnum (by omega) (by omega)
    simp [go_sem,hp,hz]
    refine ⟨⟨by omega,by omega⟩,by kernel_rfl,hf,?_⟩
    refine CallD.of (zbF _ hf.1 hf.2) ?_
    simp [go_sem]
    refine ⟨by kernel_rfl,?_⟩
    simp [go_sem]
    exact ⟨_,_,⟨hnd2,hrem2⟩,by simp; try omega,zaa _ _ _ (by simp),hs,rfl,rfl⟩
   .have hs:remD 0 c (l1++((k0,k1,k2),x)::l2)=remD 0 c (l1++l2):=zeQ (i:=0) hnd hcx hp
    simp [go_sem,hp]
    exact ⟨_,_,⟨hnd2,hrem2⟩,by simp; try omega,zaa _ _ _ (by simp),hs,rfl,rfl⟩
  .have hz:remD 1 c (l1++((k0,k1,k2),x)::l2) (k0,k1-1,k2)=none:=ziK (i:=1) (c:=c) (l1:=l1) (l2:=l2) (k0:=(k0,k1,k2)) (x:=x)
   simp [go_sem]
   by_cases hp:0<k1
   .have hs:mset (remD 1 c (l1++((k0,k1,k2),x)::l2)) (k0,k1-1,k2) (k1*x%10007)=remD 1 c (l1++l2):=ze1 (i:=1) hnd hcx hp
    have hf:fits (k1*x):=by rw [Int.mul_comm]; exact zfk hnum (by omega) (by omega)
    simp [go_sem,hp,hz]
    refine ⟨⟨by omega,by omega⟩,by kernel_rfl,hf,?_⟩
    refine CallD.of (zbF _ hf.1 hf.2) ?_
    simp [go_sem]
    refine ⟨by kernel_rfl,?_⟩
    simp [go_sem]
    exact ⟨_,_,⟨hnd2,hrem2⟩,by simp; try omega,zaa _ _ _ (by simp),hs,rfl,rfl⟩
   .have hs:remD 1 c (l1++((k0,k1,k2),x)::l2)=remD 1 c (l1++l2):=zeQ (i:=1) hnd hcx hp
    simp [go_sem,hp]
    exact ⟨_,_,⟨hnd2,hrem2⟩,by simp; try omega,zaa _ _ _ (by simp),hs,rfl,rfl⟩
  .have hz:remD 2 c (l1++((k0,k1,k2),x)::l2) (k0,k1,k2-1)=none:=ziK (i:=2) (c:=c) (l1:=l1) (l2:=l2) (k0:=(k0,k1,k2)) (x:=x)
   simp [go_sem]
   by_cases hp:0<k2
   .have hs:mset (remD 2 c (l1++((k0,k1,k2),x)::l2)) (k0,k1,k2-1) (k2*x%10007)=remD 2 c (l1++l2):=ze1 (i:=2) hnd hcx hp
    have hf:fits (k2*x):=by rw [Int.mul_comm]; exact zfk hnum (by omega) (by omega)
    simp [go_sem,hp,hz]
    refine ⟨⟨by omega,by omega⟩,by kernel_rfl,hf,?_⟩
    refine CallD.of (zbF _ hf.1 hf.2) ?_
    simp [go_sem]
    refine ⟨by kernel_rfl,?_⟩
    simp [go_sem]
    exact ⟨_,_,⟨hnd2,hrem2⟩,by simp; try omega,zaa _ _ _ (by simp),hs,rfl,rfl⟩
   .have hs:remD 2 c (l1++((k0,k1,k2),x)::l2)=remD 2 c (l1++l2):=zeQ (i:=2) hnd hcx hp
    simp [go_sem,hp]
    exact ⟨_,_,⟨hnd2,hrem2⟩,by simp; try omega,zaa _ _ _ (by simp),hs,rfl,rfl⟩
end Go.Proofs.YthhdollpkieknaaGreat


namespace Go.Proofs.YthhdollpkieknaaGreat
open Go.Abs
theorem zbq (A C:List (List Int)):omat (A++C)=omat A++omat C:=by simp [omat]
theorem zb5 (r:List Int):omat [r]=[.own 2 r.length (avs r)]:=rfl
theorem zdB:omat []=[]:=rfl
theorem zrc {n:Nat} {p:List Mon} (hn:n<=3) (hp:zbx (n:Int) p=true) {k:Key} {x:Int} (hk:polF p k=some x):isN x/\KOk n k:=by
 obtain ⟨m,hm,he⟩:=List.mem_map.1 ((zdI (ziT (by omega) hp)).1 hk)
 simp only [keyM,Prod.mk.injEq] at he
 obtain ⟨rfl,rfl⟩:=he
 have:=(zb2 hp hm).vok
 exact ⟨this.num,this.kok hn⟩
end Go.Proofs.YthhdollpkieknaaGreat


namespace Go.Proofs.YthhdollpkieknaaGreat
open Go.Abs
end Go.Proofs.YthhdollpkieknaaGreat


namespace Go.Proofs.YthhdollpkieknaaGreat
open Go.Abs
def zii (a b:List Int) (k:Int):List Int:=tb (fun i=>(a[i]?.getD 0+k%10007*b[i]?.getD 0)%10007) a.length
@[simp] theorem znw (a b:List Int) (k:Int):(zii a b k).length=a.length:=by simp [zii]
theorem ztw (a b:List Int) (k:Int):Ns (zii a b k):=tb_N fun i _=>zak _
def zmp (a:List Int) (k:Int):List Int:=tb (fun i=>a[i]?.getD 0*(k%10007)%10007) a.length
@[simp] theorem zuB (a:List Int) (k:Int):(zmp a k).length=a.length:=by simp [zmp]
theorem zs0 (a:List Int) (k:Int):Ns (zmp a k):=tb_N fun i _=>zak _
theorem zur (a b:List Int) (k:Int) (ha:Ns a) (hb:Ns b) (hk:fits k) (hl:a.length<=1048576) (hab:a.length<=b.length) :
  Con Tryz.prog 84 [.sl a.length (avs a),.sl b.length (avs b),.int k] (.own 2 a.length (avs (zii a b k))):=by
 refine zab Tryz.mixed ⟨10,[],[],[]⟩ Tryz.func84 ?_
 rw [Tryz.ntmps84]
 simp [go_sem]
 refine zac (7::8::9::List.range' 13 19) (fun i:Nat=>[(7,.own 2 i (avs (tb (fun i=>(a[i]?.getD 0+k%10007*b[i]?.getD 0)%10007) i))),(13,.int i)]) (fun i=>i<=a.length) (fun i=>a.length-i) 0 (by simp) (by simp [go_sem]) (by simp [go_sem]) ?_
 intro i hi
 simp [go_sem]
 refine ⟨fun h=>?_,fun h=>?_⟩ <;> simp at h
 .have h2:i<b.length:=by omega
  have m1:=zdl (zak k) (hb.get i)
  have m2:=ha.get i
  have f1:fits (k%10007*b[i]?.getD 0):=⟨by omega,by omega⟩
  have f2:fits (a[i]?.getD 0+k%10007*b[i]?.getD 0):=by obtain ⟨x0,x1⟩:=m2; exact ⟨by omega,by omega⟩
  simp [go_sem,zaj h,zaj h2]
  refine ⟨⟨h,by rintro rfl; simp at h⟩,by kernel_rfl,?_⟩
  refine CallD.of (zbF _ hk.1 hk.2) ?_
  simp [go_sem]
  simp [go_sem,zaj h,zaj h2]
  refine ⟨⟨h2,by rintro rfl; simp at h2⟩,f1,f2,?_⟩
  refine CallD.of (zbF _ f2.1 f2.2) ?_
  simp [go_sem]
  refine ⟨by omega,?_⟩
  refine ⟨by kernel_rfl,?_⟩
  simp [go_sem]
  exact ⟨by omega,i+1,by omega,by omega,zaa _ _ _ (by simp),by simp [znz,zaD],by omega⟩
 .have e:i=a.length:=by omega
  subst e
  simp [go_sem]
  rfl
theorem zqr (a:List Int) (k:Int) (ha:Ns a) (hk:fits k) (hl:a.length<=1048576) :
  Con Tryz.prog 79 [.sl a.length (avs a),.int k] (.own 2 a.length (avs (zmp a k))):=by
 refine zab Tryz.mixed ⟨8,[],[],[]⟩ Tryz.func79 ?_
 rw [Tryz.ntmps79]
 simp [go_sem]
 refine zac (5::7::List.range' 11 13) (fun i:Nat=>[(5,.own 2 i (avs (tb (fun i=>a[i]?.getD 0*(k%10007)%10007) i))),(11,.int i)]) (fun i=>i<=a.length) (fun i=>a.length-i) 0 (by simp) (by simp [go_sem]) (by simp [go_sem]) ?_
 intro i hi
 simp [go_sem]
 refine ⟨fun h=>?_,fun h=>?_⟩ <;> simp at h
 .have f1:=zaK (ha.get i) (zak k)
  simp [go_sem,zaj h]
  refine ⟨⟨h,by rintro rfl; simp at h⟩,?_⟩
  refine CallVC.of (zbF _ hk.1 hk.2) ?_
  simp [go_sem]
  refine ⟨f1,?_⟩
  refine CallVC.of (zbF _ f1.1 f1.2) ?_
  simp [go_sem]
  exact ⟨by omega,by omega,i+1,by omega,by omega,zaa _ _ _ (by simp),by simp [znz,zaD],by omega⟩
 .have e:i=a.length:=by omega
  subst e
  simp [go_sem]
  rfl
theorem zjq (xs:List Int) (hl:xs.length<=1048576):Con Tryz.prog 239 [.sl xs.length (avs xs)] (.own 2 xs.length (avs xs)):=by
 refine zlx Tryz.mixed ⟨3,[],[],[]⟩ Tryz.func239 ?_
 rw [Tryz.ntmps239]
 simp [go_sem]
 exact ⟨by omega,by omega⟩
end Go.Proofs.YthhdollpkieknaaGreat


namespace Go.Proofs.YthhdollpkieknaaGreat
open Go.Abs
@[go_sem] theorem zw0 (W:List Nat) (s:Nat) (p:List Nat):kl W (.bor s p)=if W.contains s then .any else .bor s p:=by rw [kl]
@[go_sem] theorem zwr (W:List Nat) (s:Nat) (p:List Nat) (o:Nat):kl W (.ptr s p o)=if W.contains s then .any else .ptr s p o:=by rw [kl]
theorem zg3 {A:List (List Int)} {k:Nat} (h:k<A.length):(omat A)[k]?=some (.own 2 (A[k]?.getD []).length (avs (A[k]?.getD []))):=by simp [omat,h]
end Go.Proofs.YthhdollpkieknaaGreat


namespace Go.Proofs.YthhdollpkieknaaGreat
open Go.Abs
end Go.Proofs.YthhdollpkieknaaGreat


namespace Go.Proofs.YthhdollpkieknaaGreat
open Go.Abs
end Go.Proofs.YthhdollpkieknaaGreat


namespace Go.Proofs.YthhdollpkieknaaGreat
open Go.Abs
end Go.Proofs.YthhdollpkieknaaGreat


namespace Go.Proofs.YthhdollpkieknaaGreat
open Go.Abs
def MapN (c:Key->Option Int):Prop:=∀ k x,c k=some x->isN x
theorem zwM (o q:Key->Option Int) (x:Int) (ho:MapN o) (hq:MapN q) (hx:fits x) :
  MCon Tryz.prog 288 [.mp o,.fmp q,.int x] (.tup []) [.mp (addM o q x),.any,.any]:=by
 refine za8 Tryz.mixed ⟨8,[],[],[]⟩ [0] Tryz.func288 ?_
 rw [Tryz.ntmps288]
 simp [go_sem]
 intro es hes
 have hval:∀ e∈es,q e.1=some e.2:=fun e he=>hes.val e he
 refine zac (0::6::7::List.range' 9 17) (fun y:Option (Key × Int) × List (Key × Int)=>[(0,.mp (remA o q x y.2)),(9,.it y.1 y.2)]) (fun y=>y.2.Pairwise (fun a b=>a.1≠b.1)/\∀ e∈y.2,q e.1=some e.2) (fun y=>y.2.length) (none,es) ⟨hes.nd,hval⟩ (by simp [go_sem,zle hes]) (by simp [go_sem]) ?_
 rintro ⟨l,rem⟩ ⟨hnd,hrem⟩
 simp only at hnd hrem
 simp [go_sem,zcq]
 refine ⟨fun hr=>?_,fun l1 k0 k1 k2 b l2 hr=>?_⟩
 .subst hr
  exact zq5 o q x
 .subst hr
  have hcx:=hrem ((k0,k1,k2),b) (by simp)
  have hb:isN b:=hq _ _ hcx
  have hnd2:(l1++l2).Pairwise (fun a b=>a.1≠b.1):=hnd.sublist (List.Sublist.append (List.Sublist.refl _) (List.sublist_cons_self _ _))
  have hrem2:∀ a b c' y,((a,b,c'),y)∈l1++l2->q (a,b,c')=some y:=fun a b c' y hm=>hrem ((a,b,c'),y) (by
   rcases List.mem_append.1 hm with hm | hm <;> simp [hm])
  have hz:remA o q x (l1++((k0,k1,k2),b)::l2) (k0,k1,k2)=o (k0,k1,k2):=ztq
  have hs:mset (remA o q x (l1++((k0,k1,k2),b)::l2)) (k0,k1,k2) (((o (k0,k1,k2)).getD 0+x%10007*b)%10007)=remA o q x (l1++l2):=zny hnd hcx
  have ho0:isN ((o (k0,k1,k2)).getD 0):=by
   cases hh:o (k0,k1,k2) with
   | none=>simp [isN]
   | some v=>exact ho _ _ hh
  simp [go_sem,hz]
  refine ⟨by kernel_rfl,?_⟩
  refine CallD.of (zbF _ hx.1 hx.2) ?_
  simp [go_sem]
  generalize (o (k0,k1,k2)).getD 0=w at *
  have hm:=zdl (zak x) hb
  have hf1:fits (x%10007*b):=⟨by omega,by omega⟩
  have hf2:fits (w+x%10007*b):=by obtain ⟨w0,w1⟩:=ho0; exact ⟨by omega,by omega⟩
  refine ⟨hf1,hf2,?_⟩
  refine CallD.of (zbF _ hf2.1 hf2.2) ?_
  simp [go_sem]
  refine ⟨by kernel_rfl,?_⟩
  simp [go_sem]
  exact ⟨_,_,⟨hnd2,hrem2⟩,by simp; try omega,zaa _ _ _ (by simp),hs,rfl,rfl⟩
theorem zu1 {i:Nat} {c:Key->Option Int}:MapN (derM i c):=by
 intro k x hx
 unfold derM at hx
 split at hx
 .split at hx
  .injection hx with hx; rw [<- hx]; exact zak _
  .simp at hx
 .simp at hx
theorem zun {o q:Key->Option Int} {x:Int} (ho:MapN o):MapN (addM o q x):=by
 intro k a ha
 unfold addM at ha
 split at ha
 .injection ha with ha; rw [<- ha]; exact zak _
 .exact ho k a ha
theorem zr1 (v:List Int) (c:Key->Option Int):∀ n,MapN (aloM v c n)
 | 0=>by intro k a ha; simp [aloM,zb4] at ha
 | n+1=>zun (zr1 v c n)
theorem zqa {n:Nat} {o q:Key->Option Int} {x:Int} (ho:∀ k a,o k=some a->isN a/\KOk n k) (hq:∀ k a,q k=some a->isN a/\KOk n k):∀ k a,addM o q x k=some a->isN a/\KOk n k:=by
 intro k a ha
 unfold addM at ha
 split at ha
 .rename_i b hb
  injection ha with ha; rw [<- ha]; exact ⟨zak _,(hq k b hb).2⟩
 .exact ho k a ha
theorem zk2 {n:Nat} {v:List Int} {c:Key->Option Int} (hn:n<=3) (hc:∀ k x,c k=some x->isN x/\KOk n k):∀ m,m<=n->∀ k x,aloM v c m k=some x->isN x/\KOk n k
 | 0,_=>by intro k x hx; simp [aloM,zb4] at hx
 | m+1,hm=>zqa (zk2 hn hc m (by omega)) (zto (by omega) hn hc)
theorem zr4 {n:Nat} (c:Key->Option Int) (v:List Int) (hv:Ns v) (hl:v.length=n) (hn:n<=3) (hc:∀ k x,c k=some x->isN x/\KOk n k) :
  Con Tryz.prog 241 [.fmp c,.sl v.length (avs v)] (.mp (aloM v c n)):=by
 refine zab Tryz.mixed ⟨8,[19],[288],[]⟩ Tryz.func241 ?_
 rw [Tryz.ntmps241]
 simp [go_sem]
 refine zac (5::6::7::List.range' 11 12) (fun i:Nat=>[(5,.mp (aloM v c i)),(11,.int i)]) (fun i=>i<=n) (fun i=>n-i) 0 (by simp) (by simp [go_sem,aloM]) (by simp [go_sem]) ?_
 intro i hi
 simp [go_sem]
 refine ⟨fun h=>?_,fun h=>?_⟩ <;> simp at h
 .have hy:yat v i=v[i]?.getD 0:=rfl
  have cD:=ziz (n:=n) c i (by omega) hn hc
  have cA:=zwM (aloM v c i) (derM i c) (v[i]?.getD 0) (zr1 v c i) zu1 (by have:=hv.get i; exact ⟨by obtain ⟨a,b⟩:=this; omega,by obtain ⟨a,b⟩:=this; omega⟩)
  simp [go_sem,zaj h]
  refine ⟨⟨h,by rintro rfl; simp at h⟩,?_⟩
  refine CallVC.of (cD) ?_
  simp [go_sem]
  refine ⟨_,_,cA,?_⟩
  simp [go_sem]
  exact ⟨by omega,i+1,by omega,by omega,zaa _ _ _ (by simp),rfl,by omega⟩
 .simp [go_sem]
  have e:i=n:=by omega
  subst e; rfl
end Go.Proofs.YthhdollpkieknaaGreat


namespace Go.Proofs.YthhdollpkieknaaGreat
open Go.Abs
def sum3 (k:Key):Int:=k.1+k.2.1+k.2.2
def DegLe (C:Key->Int) (D:Int):Prop:=∀ k,NN k->D<sum3 k->C k=0
theorem zpR (i:Nat) (k:Key):sum3 (inc i k)=sum3 k+1:=by
 obtain ⟨a,b,c⟩:=k
 unfold inc sum3
 split
 .simp; omega
 .split <;> (simp; omega)
theorem DegLe.der {C:Key->Int} {D:Int} (h:DegLe C D) (i:Nat):DegLe (der i C) (D-1):=by
 intro k hk hd
 unfold Go.Proofs.YthhdollpkieknaaGreat.der
 rw [h (inc i k) (hk.inc i) (by rw [zpR]; omega),Int.mul_zero]
theorem DegLe.alo {C:Key->Int} {D:Int} (h:DegLe C D) (v:Nat->Int):∀ n,DegLe (alo v C n) (D-1)
 | 0=>fun _ _ _=>rfl
 | n+1=>fun k hk hd=>by
  show Go.Proofs.YthhdollpkieknaaGreat.alo v C n k+v n*Go.Proofs.YthhdollpkieknaaGreat.der n C k=0
  rw [DegLe.alo h v n k hk hd,h.der n k hk hd]; simp
theorem DegLe.dv {n:Nat}:∀ (vs:List (List Int)) {C:Key->Int} {D:Int},DegLe C D->DegLe (Dv n vs C) (D-vs.length)
 | [],C,D,h=>by simpa [Dv] using h
 | v::vs,C,D,h=>by
  have:=DegLe.dv (n:=n) vs (h.alo (yat v) n)
  rw [Dv]
  intro k hk hd
  exact this k hk (by simp at hd; omega)
theorem zph {e:List Int} (h:e.length<=3):sum3 (zah e)=e.sum:=by
 match e,h with
 | [],_=>rfl
 | [a],_=>simp [sum3,zah]
 | [a,b],_=>simp [sum3,zah]
 | [a,b,c],_=>simp [sum3,zah]; omega
theorem zqo {n:Nat} {p:List Mon} (hn:n<=3) (hp:zbx (n:Int) p=true):DegLe (cfL p) 3:=by
 intro k hk hd
 unfold cfL coef
 refine zaS (fun m hm=>if_neg (fun e=>?_))
 have ho:=zb2 hp hm
 have:=ho.deg
 rw [e,zph (by have:=ho.len; omega)] at hd
 omega
theorem zll {n:Nat} {p:List Mon} {y:List Int} (hn:n<=3) (hp:zbx (n:Int) p=true) (vs:List (List Int)) (hv:3<vs.length) :
  Val (yat y) (gv (DvM n vs (polF p)))%10007=0:=by
 rw [ziV _ (zm6 n vs (polF p))]
 have e:gv (polF p)=cfL p:=funext (zjm (ziT (by omega) hp))
 rw [e]
 have hd:=(zqo hn hp).dv (n:=n) vs
 have:Val (yat y) (Dv n vs (cfL p))=0:=by
  unfold Val
  refine zaS (fun k hk=>?_)
  have hN:=NN.box hk
  obtain ⟨a,b,c⟩:=hN
  rw [hd k (NN.box hk) (by unfold sum3; omega),Int.zero_mul]
 rw [this]; rfl
theorem zkV (n:Nat) (v:List Int):∀ (vs:List (List Int)) (c:Key->Option Int),DvM n (vs++[v]) c=aloM v (DvM n vs c) n
 | [],c=>rfl
 | u::vs,c=>by rw [List.cons_append,DvM,zkV n v vs,DvM]
theorem zp6 {n:Nat} {vs:List (List Int)} {i:Nat} (h:i<vs.length) (c:Key->Option Int):DvM n (vs.take (i+1)) c=aloM (vs[i]?.getD []) (DvM n (vs.take i) c) n:=by
 rw [List.take_add_one,List.getElem?_eq_getElem h,Option.toList_some,zkV]; rfl
theorem zjF {n:Nat} (hn:n<=3):∀ (vs:List (List Int)) {c:Key->Option Int},(∀ k x,c k=some x->isN x/\KOk n k)->∀ k x,DvM n vs c k=some x->isN x/\KOk n k
 | [],c,h=>h
 | v::vs,c,h=>zjF hn vs (zk2 hn h n (Nat.le_refl n))
def drvP (y:List Int) (n:Nat) (vs:List (List Int)) (p:List Mon):Int:=if 3<vs.length then 0 else zcx y n vs p%10007
def drvL (y:List Int) (n:Nat) (vs:List (List Int)) (f:List (List Mon)):List Int:=f.map (drvP y n vs)
@[simp] theorem zv1 (y:List Int) (n:Nat) (vs:List (List Int)) (f:List (List Mon)):(drvL y n vs f).length=f.length:=by simp [drvL]
theorem znf {y:List Int} {n:Nat} {vs:List (List Int)} {f:List (List Mon)} {i:Nat} (h:i<f.length):drvL y n vs (f.take (i+1))=drvL y n vs (f.take i)++[drvP y n vs (f[i]?.getD [])]:=by
 rw [drvL,drvL,List.take_add_one,List.map_append,List.getElem?_eq_getElem h]; rfl
theorem ztz {n:Nat} {p:List Mon} {y:List Int} (hn:n<=3) (hl:y.length=n) (hp:zbx (n:Int) p=true) (vs:List (List Int)) :
  Val (yat y) (gv (DvM n vs (polF p)))%10007=drvP y n vs p:=by
 unfold drvP
 by_cases h:3<vs.length
 .rw [if_pos h,zll hn hp vs h]
 .rw [if_neg h,zrb hn hl hp vs]
@[simp] theorem zhb (A:List (List Int)):frzL (mat A)=mat A:=by
 induction A with
 | nil=>rfl
 | cons r A ih=>simp only [mat,List.map_cons,frzL] at ih |-; rw [ih]; rfl
def Vecs (n:Nat) (vs:List (List Int)):Prop:=∀ v∈vs,v.length=n/\Ns v
theorem zfL (z:Int) (f:List (List Mon)) (y:List Int) (vs:List (List Int)) (hf:FieldOk z f) (hs:zhW f) (hy:Ns y) (hl:(y.length:Int)=z) (hv:Vecs y.length vs) (hvl:vs.length<=1048576) :
  Con Tryz.prog 171 [.sl f.length (zed f),.sl y.length (avs y),.sl vs.length (mat vs)] (.own 2 f.length (avs (drvL y y.length vs f))):=by
 have fl:=hs.1
 have z3:=hf.hi
 refine zab Tryz.mixed ⟨12,[27],[],[]⟩ Tryz.func171 ?_
 rw [Tryz.ntmps171]
 simp [go_sem]
 refine zac (7::9::11::List.range' 15 21) (fun i:Nat=>[(7,.own 2 i (avs (drvL y y.length vs (f.take i)))),(15,.int i)]) (fun i=>i<=f.length) (fun i=>f.length-i) 0 (by simp) (by simp [go_sem,drvL]) (by simp [go_sem]) ?_
 intro i hi
 simp [go_sem]
 refine ⟨fun h=>?_,fun h=>?_⟩ <;> simp at h
 .have hif:=h
  have hx:f[i]?.getD []∈f:=by simp [h]
  have hdl:=znf (y:=y) (n:=y.length) (vs:=vs) h
  have hpp:zbx (y.length:Int) (f[i]?.getD [])=true:=by rw [hl]; exact hf.part _ hx
  have hq:∀ kk x,polF (f[i]?.getD []) kk=some x->isN x/\KOk y.length kk:=fun kk x hkx=>zrc (by omega) hpp hkx
  simp [go_sem,zlE hif]
  refine ⟨⟨hif,by rintro rfl; simp at hif⟩,?_⟩
  refine zac (9::11::List.range' 21 8) (fun j:Nat=>[(9,.fmp (DvM y.length (vs.take j) (polF (f[i]?.getD [])))),(21,.int j)]) (fun j=>j<=vs.length) (fun j=>vs.length-j) 0 (by simp) (by simp [go_sem,DvM]) (by simp [go_sem]) ?_
  intro j hj
  simp [go_sem]
  refine ⟨fun h=>?_,fun h=>?_⟩ <;> simp at h
  .have hvm:vs[j]?.getD []∈vs:=by simp [h]
   have hvj:=hv _ hvm
   have cA:=zr4 (n:=y.length) (DvM y.length (vs.take j) (polF (f[i]?.getD []))) (vs[j]?.getD []) hvj.2 hvj.1 (by omega) (zjF (by omega) _ hq)
   have ht:=zp6 (n:=y.length) h (polF (f[i]?.getD []))
   simp [go_sem,zar h]
   refine ⟨⟨h,by rintro rfl; simp at h⟩,?_⟩
   refine CallVC.of (cA) ?_
   simp [go_sem]
   exact ⟨by omega,j+1,by omega,by omega,zaa _ _ _ (by simp),ht.symm,by omega⟩
  .have e:j=vs.length:=by omega
   subst e
   have cV:=zqk (DvM y.length vs (polF (f[i]?.getD []))) y hy (by omega) (zjF (by omega) _ hq)
   rw [ztz (by omega) rfl hpp] at cV
   rw [List.take_length]
   simp [go_sem]
   refine CallVC.of (cV) ?_
   simp [go_sem]
   exact ⟨by omega,by omega,i+1,by omega,by omega,(Off.reset (by intro x hx; simp at hx |-; omega) (by simp) (by simp [go_sem,zaa])),by rw [hdl]; simp [zaD],by omega⟩
 .simp [go_sem]
  have e:i=f.length:=by omega
  subst e; simp
theorem zpr {z:Int} {y:List Int}:vecB z y=true ↔ (y.length:Int)=z/\Ns y:=by
 unfold vecB; simp [zcZ]
end Go.Proofs.YthhdollpkieknaaGreat


namespace Go.Proofs.YthhdollpkieknaaGreat
open Go.Abs
end Go.Proofs.YthhdollpkieknaaGreat


namespace Go.Proofs.YthhdollpkieknaaGreat
def okB (t:List Int) (j:Nat):Bool:=decide (1<=t[j]?.getD 0) && decide (t[j]?.getD 0<=t[j-1]?.getD 0+1)
def lv0 (t:List Int):Bool:=decide (0<t.length) && decide (t[0]?.getD 0=0) && (List.range t.length).all (fun j=>decide (j=0) || okB t j)
def lvB (t:List Int):Bool:=lv0 t && decide (t.length<=8)
def zbS (out:List (List Int)) (x:Int):List (List Int) :=
 let o:=if x=1 then out++[[]] else out
 o.set (o.length-1) (o[o.length-1]?.getD []++[x-1])
def brGo (out:List (List Int)):List Int->List (List Int)
 | []=>out
 | x::l=>brGo (zbS out x) l
def brs (t:List Int):List (List Int):=brGo [] (t.drop 1)
theorem zp4 (out:List (List Int)) (l r:List Int):brGo out (l++r)=brGo (brGo out l) r:=by
 induction l generalizing out with
 | nil=>rfl
 | cons x l ih=>exact ih _
theorem zem {t:List Int} {i:Nat} (h1:1<=i) (h:i<t.length):brs (t.take (i+1))=zbS (brs (t.take i)) (t[i]?.getD 0):=by
 unfold brs
 have e:(t.take (i+1)).drop 1=(t.take i).drop 1++[t[i]?.getD 0]:=by
  rw [List.take_add_one,List.getElem?_eq_getElem h,Option.toList_some,List.drop_append_of_le_length (by simp; omega)]; rfl
 rw [e,zp4]; rfl
def Lv (t:List Int):Prop:=0<t.length/\t[0]?.getD 0=0/\∀ j,0<j->j<t.length->1<=t[j]?.getD 0/\t[j]?.getD 0<=t[j-1]?.getD 0+1
theorem zjZ {t:List Int} (h:lv0 t=true):Lv t:=by
 unfold lv0 at h
 simp only [Bool.and_eq_true,decide_eq_true_eq,List.all_eq_true] at h
 refine ⟨h.1.1,h.1.2,fun j h1 h2=>?_⟩
 have:=h.2 j (by simpa using h2)
 rw [decide_eq_false (by omega)] at this
 unfold okB at this
 simpa using this
theorem Lv.le {t:List Int} (h:Lv t):∀ j,j<t.length->0<=t[j]?.getD 0/\t[j]?.getD 0<=j
 | 0,_=>by rw [h.2.1]; omega
 | j+1,hj=>by
  have h1:=h.le j (by omega)
  have h2:=h.2.2 (j+1) (by omega) hj
  rw [Nat.add_sub_cancel] at h2
  omega
theorem Lv.snoc {t:List Int} {x:Int} (h:Lv t) (h1:1<=x) (h2:x<=t[t.length-1]?.getD 0+1):Lv (t++[x]):=by
 obtain ⟨k1,k2,k3⟩:=h
 refine ⟨by simp,by rw [List.getElem?_append_left k1]; exact k2,fun j hj hl=>?_⟩
 simp at hl
 by_cases e:j=t.length
 .subst e
  rw [List.getElem?_append_right (by omega),List.getElem?_append_left (by omega)]
  simp; exact ⟨h1,h2⟩
 .rw [List.getElem?_append_left (by omega),List.getElem?_append_left (by omega)]
  exact k3 j hj (by omega)
theorem zjx:Lv [0]:=⟨by simp,rfl,fun j h1 h2=>by simp at h2; omega⟩
def sumN:List (List Int)->Nat
 | []=>0
 | b::l=>b.length+sumN l
theorem zep (a b:List (List Int)):sumN (a++b)=sumN a+sumN b:=by
 induction a with
 | nil=>simp [sumN]
 | cons x a ih=>simp [sumN,ih]; omega
theorem zgZ {l:List (List Int)} {b:List Int} (h:b∈l):b.length<=sumN l:=by
 induction l with
 | nil=>simp at h
 | cons x l ih =>
  rw [sumN]
  rcases List.mem_cons.1 h with rfl | h
  .omega
  .have:=ih h; omega
theorem zqs {l:List (List Int)} (h:∀ b∈l,0<b.length):l.length<=sumN l:=by
 induction l with
 | nil=>simp
 | cons x l ih =>
  have h1:=h x (by simp)
  have h2:=ih (fun b hb=>h b (by simp [hb]))
  rw [sumN]; simp; omega
def BrI (out:List (List Int)) (p:Int) (n:Nat):Prop :=
 (∀ b∈out,Lv b)/\sumN out=n/\((out=[]/\p=0)\/∃ i l,out=i++[l]/\l[l.length-1]?.getD 0=p-1)
theorem zjM {out:List (List Int)} {p x:Int} {n:Nat} (h:BrI out p n) (h1:1<=x) (h2:x<=p+1):BrI (zbS out x) x (n+1)/\(x≠1->out≠[]):=by
 obtain ⟨k1,k2,k3⟩:=h
 by_cases hx:x=1
 .subst hx
  have e:zbS out 1=out++[[0]]:=by
   unfold zbS
   simp only [if_true]
   rw [List.set_append_right _ _ (by simp),List.getElem?_append_right (by simp)]
   simp
  rw [e]
  refine ⟨⟨fun b hb=>?_,by rw [zep,k2]; rfl,.inr ⟨out,[0],rfl,rfl⟩⟩,by simp⟩
  rcases List.mem_append.1 hb with hb | hb
  .exact k1 b hb
  .simp at hb; subst hb; exact zjx
 .rcases k3 with ⟨rfl,rfl⟩ | ⟨i,l,rfl,hl⟩
  .omega
  .have e:zbS (i++[l]) x=i++[l++[x-1]]:=by
    unfold zbS
    simp only [if_neg hx]
    rw [List.set_append_right _ _ (by simp),List.getElem?_append_right (by simp)]
    simp
   rw [e]
   have hLl:=k1 l (by simp)
   refine ⟨⟨fun b hb=>?_,?_,.inr ⟨i,_,rfl,by simp⟩⟩,by simp⟩
   .rcases List.mem_append.1 hb with hb | hb
    .exact k1 b (by simp [hb])
    .simp at hb; subst hb
     exact hLl.snoc (by omega) (by rw [hl]; omega)
   .rw [zep] at k2 |-
    simp [sumN] at k2 |-; omega
theorem zlG {t:List Int} (h:Lv t):∀ i,1<=i->i<=t.length->BrI (brs (t.take i)) (t[i-1]?.getD 0) (i-1)
 | 1,_,_=>by
  have e:brs (t.take 1)=[]:=by
   unfold brs
   cases t with
   | nil=>rfl
   | cons a t=>rfl
  rw [e]
  refine ⟨by simp,rfl,.inl ⟨rfl,?_⟩⟩
  simpa using h.2.1
 | i+2,_,hl=>by
  have ih:=zlG h (i+1) (by omega) (by omega)
  have hb:=h.2.2 (i+1) (by omega) (by omega)
  rw [zem (by omega) (by omega)]
  exact (zjM ih hb.1 hb.2).1
theorem zrv {t:List Int} (h:Lv t) {i:Nat} (h1:1<=i) (hl:i<t.length) (hx:t[i]?.getD 0≠1):brs (t.take i)≠[]:=by
 have ih:=zlG h i h1 (by omega)
 have hb:=h.2.2 i (by omega) hl
 exact (zjM ih hb.1 hb.2).2 hx
theorem zdk {t:List Int} (h:Lv t) {b:List Int} (hb:b∈brs t):Lv b/\b.length<t.length:=by
 have hl:=h.1
 have:=zlG h t.length (by omega) (by omega)
 rw [List.take_length] at this
 obtain ⟨k1,k2,_⟩:=this
 have:=zgZ hb
 exact ⟨k1 b hb,by omega⟩
theorem zeB {t:List Int} (h:Lv t) {i:Nat} (h1:1<=i) (hl:i<=t.length):(brs (t.take i)).length<i:=by
 obtain ⟨k1,k2,_⟩:=zlG h i h1 hl
 have:=zqs (fun b hb=>(k1 b hb).1)
 omega
end Go.Proofs.YthhdollpkieknaaGreat


namespace Go.Proofs.YthhdollpkieknaaGreat
open Go.Abs
end Go.Proofs.YthhdollpkieknaaGreat


namespace Go.Proofs.YthhdollpkieknaaGreat
open Go.Abs
theorem zer (A:List (List Int)) (k:Nat) (l:List Int):(omat A).set k (.own 2 l.length (avs l))=omat (A.set k l):=by
 simp [omat,List.map_set]
theorem zh4 {A:List (List Int)} (h:A≠[]):(omat A)[A.length-1]?=some (.own 2 (A[A.length-1]?.getD []).length (avs (A[A.length-1]?.getD []))):=by
 have hl:A.length-1<A.length:=by have:=List.length_pos_iff.2 h; omega
 simp [omat,hl]
theorem zgb (A:List (List Int)):zbS A 1=A++[[0]]:=by
 unfold zbS
 simp only [if_true]
 rw [List.set_append_right _ _ (by simp),List.getElem?_append_right (by simp)]
 simp
theorem zfa {A:List (List Int)} {x:Int} (h:x≠1):zbS A x=A.set (A.length-1) (A[A.length-1]?.getD []++[x-1]):=by
 unfold zbS; simp only [if_neg h]
theorem zlt (t:List Int) (hl:t.length<=1048576) (ht:Lv t):Con Tryz.prog 267 [.sl t.length (avs t)] (.own 25 (brs t).length (omat (brs t))):=by
 refine zab Tryz.mixed ⟨6,[],[],[1000812990015]⟩ Tryz.func267 ?_
 rw [Tryz.ntmps267]
 simp [go_sem]
 refine zac (List.range' 3 36) (fun i:Nat=>[(3,.own 25 (brs (t.take i)).length (omat (brs (t.take i)))),(4,.int i)]) (fun i=>1<=i/\i<=t.length) (fun i=>t.length-i) 1 (by have:=ht.1; omega) (by simp [go_sem]; cases t <;> simp [brs,brGo,zdB]) (by simp [go_sem]) ?_
 rintro i ⟨h1,hi⟩
 simp [go_sem]
 refine ⟨fun h=>?_,fun h=>?_⟩ <;> simp at h
 .have hif:=h
  have hb:=zem h1 hif
  have hm:=zeB ht h1 hi
  have hi2:=zlG ht i h1 hi
  have hok:=ht.2.2 i h1 hif
  have hle:=ht.le i (by omega)
  by_cases hx:t[i]?.getD 0=1
  .rw [hx,zgb] at hb
   simp [go_sem,zaj hif,hx]
   have e1:(brs (t.take i)).length+1=(brs (t.take (i+1))).length:=by rw [hb]; simp
   have e2:omat (brs (t.take i))++[AV.own 2 1 [AV.val (Value.int IntKind.i64 0)]]=omat (brs (t.take (i+1))):=by rw [hb,zbq,zb5]; rfl
   repeat' apply And.intro
   all_goals first
    | omega
    | exact ⟨i+1,⟨by omega,by omega⟩,by omega,zaa _ _ _ (by simp),⟨e1,e2⟩,by omega⟩
    | (intro e; rw [e] at hif; simp at hif; done)
    | kernel_rfl
  .have hne:=zrv ht h1 hif hx
   have hla:=zh4 hne
   rw [zfa hx] at hb
   generalize brs (t.take i)=O at *
   have hOl:1<=O.length:=List.length_pos_iff.2 hne
   have hlen:(O[O.length-1]?.getD []).length<=1048576:=by
    have:=zgZ (l:=O) (b:=O[O.length-1]?.getD []) (by simp [show O.length-1<O.length by omega])
    have:=hi2.2.1
    omega
   have hsn:=zer O (O.length-1) (O[O.length-1]?.getD []++[t[i]?.getD 0-1])
   rw [<- hb] at hsn
   generalize O[O.length-1]?.getD []=l at *
   simp [go_sem,zaj hif,hx,hla]
   have e1:O.length=(brs (t.take (i+1))).length:=by rw [hb]; simp
   rw [zaD,List.length_append,List.length_singleton] at hsn
   repeat' apply And.intro
   all_goals first
    | omega
    | exact ⟨i+1,⟨by omega,by omega⟩,by omega,zaa _ _ _ (by simp),⟨e1,hsn⟩,by omega⟩
    | (intro e; rw [e] at hif; simp at hif; done)
    | kernel_rfl
 .simp [go_sem]
  rw [List.take_of_length_le h]
  simp
theorem zbn (t:List Int) (hl:t.length<=1048576) (ht:Lv t):Con Tryz.prog 170 [.sl t.length (avs t)] (.own 25 (brs t).length (omat (brs t))):=by
 have ht1:=ht.1
 have ed:List.take (t.length-1) (List.drop 1 (avs t))=avs (t.drop 1):=by
  rw [List.take_of_length_le (by simp)]; simp [avs]
 refine zab Tryz.mixed ⟨6,[],[],[]⟩ Tryz.func170 ?_
 rw [Tryz.ntmps170]
 simp [go_sem]
 refine ⟨by omega,?_⟩
 refine zac (3::5::List.range' 10 25) (fun i:Nat=>[(3,.own 25 (brs (t.take (i+1))).length (omat (brs (t.take (i+1))))),(10,.int i)]) (fun i=>i+1<=t.length) (fun i=>t.length-i) 0 (by omega) (by simp [go_sem]; cases t <;> simp [brs,brGo,zdB]) (by simp [go_sem]) ?_
 rintro i hi
 simp [go_sem]
 refine ⟨fun h=>?_,fun h=>?_⟩ <;> simp at h
 .have hif:i+1<t.length:=by omega
  have hda:List.drop i (List.take (t.length-1) (avs t).tail)=.val (.int .i64 (t[i+1]?.getD 0))::avs (t.drop (i+2)):=by
   rw [List.take_of_length_le (by simp),<- List.drop_one,List.drop_drop,Nat.add_comm 1 i,zaj hif]; simp
  have hnn:¬ (avs t).tail=[]:=fun e=>by have:=congrArg List.length e; simp at this; omega
  have hn1:¬ t.length-1=0:=by omega
  have hn2:i<t.length-1:=by omega
  have hb:=zem (i:=i+1) (by omega) hif
  have hm:=zeB ht (i:=i+1) (by omega) (by omega)
  have hi2:=zlG ht (i+1) (by omega) (by omega)
  have hok:=ht.2.2 (i+1) (by omega) hif
  have hle:=ht.le (i+1) hif
  by_cases hx:t[i+1]?.getD 0=1
  .rw [hx,zgb] at hb
   have e1:(brs (t.take (i+1))).length+1=(brs (t.take (i+1+1))).length:=by rw [hb]; simp
   have e2:omat (brs (t.take (i+1)))++[AV.own 2 1 [AV.val (Value.int IntKind.i64 0)]]=omat (brs (t.take (i+1+1))):=by rw [hb,zbq,zb5]; rfl
   simp [go_sem,hda,hnn,hn1,hn2,hx]
   exact ⟨⟨by omega,by omega⟩,by omega,by omega,by omega,i+1,by omega,by omega,zaa _ _ _ (by simp),⟨e1,e2⟩,by omega⟩
  .have hne:=zrv ht (i:=i+1) (by omega) hif hx
   have hla:=zh4 hne
   rw [zfa hx] at hb
   generalize hO:brs (t.take (i+1))=O at *
   have hOl:1<=O.length:=List.length_pos_iff.2 hne
   have hlen:(O[O.length-1]?.getD []).length<=1048576:=by
    have:=zgZ (l:=O) (b:=O[O.length-1]?.getD []) (by simp [show O.length-1<O.length by omega])
    have:=hi2.2.1
    omega
   have hsn:=zer O (O.length-1) (O[O.length-1]?.getD []++[t[i+1]?.getD 0-1])
   rw [<- hb] at hsn
   generalize O[O.length-1]?.getD []=l at *
   have e1:O.length=(brs (t.take (i+1+1))).length:=by rw [hb]; simp
   rw [zaD,List.length_append,List.length_singleton] at hsn
   simp [go_sem,hda,hnn,hn1,hn2,hx,hla]
   repeat' apply And.intro
   all_goals first
    | omega
    | exact ⟨i+1,by omega,by omega,zaa _ _ _ (by simp),⟨e1,hsn⟩,by omega⟩
 .simp [go_sem]
  have e:t.take (i+1)=t:=List.take_of_length_le (by omega)
  rw [e]
  simp
end Go.Proofs.YthhdollpkieknaaGreat


namespace Go.Proofs.YthhdollpkieknaaGreat
open Go.Abs
def edF (f:List (List Mon)) (y:List Int):Nat->List Int->List Int
 | 0,_=>[]
 | n+1,t=>drvL y y.length ((brs t).map (edF f y n)) f
theorem zi5 {f:List (List Mon)} {y:List Int} {n:Nat} (h:0<n) (t:List Int):(edF f y n t).length=f.length:=by
 cases n with
 | zero=>omega
 | succ n=>simp [edF]
theorem zuC (y:List Int) (n:Nat) (vs:List (List Int)) (f:List (List Mon)):Ns (drvL y n vs f):=by
 intro x hx
 obtain ⟨p,_,rfl⟩:=List.mem_map.1 hx
 unfold drvP
 split
 .exact ⟨by omega,by omega⟩
 .exact zak _
theorem zuY {f:List (List Mon)} {y:List Int} {n:Nat} (t:List Int):Ns (edF f y n t):=by
 cases n with
 | zero=>intro x hx; simp [edF] at hx
 | succ n=>exact zuC _ _ _ _
theorem zpo {f:List (List Mon)} {y:List Int} {m:Nat} {t:List Int} (ht:Lv t) (hm:t.length<=m+1) (hl:f.length=y.length):Vecs y.length ((brs t).map (edF f y m)):=by
 intro v hv
 obtain ⟨b,hb,rfl⟩:=List.mem_map.1 hv
 obtain ⟨h1,h2⟩:=zdk ht hb
 have h3:=h1.1
 exact ⟨by rw [zi5 (by omega),hl],zuY b⟩
theorem ziH {t:List Int} (h:Lv t):(brs t).length<t.length:=by
 have h1:=h.1
 have:=zeB h (i:=t.length) (by omega) (by omega)
 rwa [List.take_length] at this
theorem zig (A:List (List Int)) (i:Nat) (h:i<A.length):omat (A.take (i+1))=omat (A.take i)++[.own 2 (A[i]?.getD []).length (avs (A[i]?.getD []))]:=by
 rw [List.take_add_one,zbq]; simp [h,omat]
theorem zfC (z:Int) (f:List (List Mon)) (y:List Int) (hf:FieldOk z f) (hs:zhW f) (hy:Ns y) (hl:(y.length:Int)=z) :
  ∀ (n:Nat) (t:List Int),Lv t->t.length<=n->t.length<=1048576->Con Tryz.prog 85 [.sl f.length (zed f),.sl t.length (avs t),.sl y.length (avs y)] (.own 2 f.length (avs (edF f y n t))):=by
 intro n
 induction n with
 | zero=>intro t ht hn; have:=ht.1; omega
 | succ m ih =>
  intro t ht hn ht2
  have fl:=hs.1
  have z3:=hf.hi
  have hfl:=hf.len
  have hcnt:=ziH ht
  have hV:=zpo (f:=f) (y:=y) ht hn (by omega)
  have cD:=zfL z f y ((brs t).map (edF f y m)) hf hs hy hl hV (by simp; omega)
  rw [List.length_map] at cD
  refine zab Tryz.mixed ⟨10,[12],[],[]⟩ Tryz.func85 ?_
  rw [Tryz.ntmps85]
  simp [go_sem]
  refine CallVC.of (zbn t ht2 ht) ?_
  simp [go_sem]
  refine zac (7::9::List.range' 14 12) (fun i:Nat=>[(7,.own 25 i (omat (((brs t).map (edF f y m)).take i))),(14,.int i)]) (fun i=>i<=(brs t).length) (fun i=>(brs t).length-i) 0 (by simp) (by simp [go_sem,zdB]) (by simp [go_sem]) ?_
  intro i hi
  simp [go_sem]
  refine ⟨fun h=>?_,fun h=>?_⟩ <;> simp at h
  .have hb:(brs t)[i]?.getD []∈brs t:=by simp [h]
   obtain ⟨h1,h2⟩:=zdk ht hb
   have h3:=h1.1
   have cI:=ih ((brs t)[i]?.getD []) h1 (by omega) (by omega)
   have hlen:=zi5 (f:=f) (y:=y) (n:=m) (by omega) ((brs t)[i]?.getD [])
   have ho:=zig ((brs t).map (edF f y m)) i (by simpa using h)
   have he:((brs t).map (edF f y m))[i]?.getD []=edF f y m ((brs t)[i]?.getD []):=by simp [h]
   rw [he,hlen] at ho
   simp [go_sem,zar h]
   refine ⟨⟨h,fun e=>by rw [e] at h; simp at h⟩,?_⟩
   refine CallVC.of (cI) ?_
   simp [go_sem]
   exact ⟨⟨by omega,by omega⟩,by omega,i+1,by omega,by omega,zaa _ _ _ (by simp),⟨rfl,ho.symm⟩,by omega⟩
  .have e:i=(brs t).length:=by omega
   subst e
   rw [List.take_of_length_le (by simp)]
   simp [go_sem]
   refine CallVC.of (cD) ?_
   simp [go_sem]
   rfl
end Go.Proofs.YthhdollpkieknaaGreat


namespace Go.Proofs.YthhdollpkieknaaGreat
open Go.Abs
theorem zji (a:List (List Int)) (hl:a.length<=1048576) (hr:∀ r∈a,r.length<=1048576) :
  Con Tryz.prog 222 [.sl a.length (mat a)] (.own 25 a.length (omat a)):=by
 refine zab Tryz.mixed ⟨6,[],[],[]⟩ Tryz.func222 ?_
 rw [Tryz.ntmps222]
 simp [go_sem]
 refine zac (3::5::List.range' 9 10) (fun i:Nat=>[(3,.own 25 i (omat (a.take i))),(9,.int i)]) (fun i=>i<=a.length) (fun i=>a.length-i) 0 (by simp) (by simp [go_sem,zdB]) (by simp [go_sem]) ?_
 intro i hi
 simp [go_sem]
 refine ⟨fun h=>?_,fun h=>?_⟩ <;> simp at h
 .simp [go_sem,zar h]
  refine ⟨⟨h,by rintro rfl; simp at h⟩,?_⟩
  refine CallVC.of (zjq (a[i]?.getD []) (hr _ (by simp [h]))) ?_
  simp [go_sem]
  have ht:=zig a i h
  refine ⟨⟨by omega,by omega,by omega⟩,by omega,i+1,by omega,by omega,zaa _ _ _ (by simp),by rw [ht]; exact ⟨rfl,rfl⟩,by omega⟩
 .have e:i=a.length:=by omega
  subst e
  simp [go_sem]
end Go.Proofs.YthhdollpkieknaaGreat


namespace Go.Proofs.YthhdollpkieknaaGreat
open Go.Abs
end Go.Proofs.YthhdollpkieknaaGreat


namespace Go.Proofs.YthhdollpkieknaaGreat
open Go.Abs
end Go.Proofs.YthhdollpkieknaaGreat


namespace Go.Proofs.YthhdollpkieknaaGreat
open Go.Abs
end Go.Proofs.YthhdollpkieknaaGreat


namespace Go.Proofs.YthhdollpkieknaaGreat
open Go.Abs
def tmN (i j n:Nat):Nat:=if i<=n then (if n<i+j then i+1 else i) else n+1
def tmS (a b:List Int) (i j:Nat):List Int:=tb (fun n=>cv a b n (tmN i j n)%10007) a.length
@[simp] theorem zsX (a b:List Int) (i j:Nat):(tmS a b i j).length=a.length:=by simp [tmS]
theorem zwC (a b:List Int) (i j:Nat):Ns (tmS a b i j):=tb_N fun i _=>zak _
theorem zo9 (a b:List Int):tmS a b 0 0=List.replicate a.length 0:=by
 refine List.ext_getElem (by simp) fun n h1 h2=>?_
 simp [tmS,tb,tmN,cv]
theorem zpe (a b:List Int) (i j:Nat) (h:a.length<=i+j):tmS a b i j=tmS a b (i+1) 0:=by
 unfold tmS tb
 refine List.map_congr_left fun n hn=>?_
 have hn:n<a.length:=by simpa using hn
 have e:tmN i j n=tmN (i+1) 0 n:=by unfold tmN; (repeat' split) <;> omega
 rw [e]
theorem zsR (a b:List Int):tmS a b a.length 0=mulS a b:=by
 unfold tmS mulS tb
 refine List.map_congr_left fun n hn=>?_
 have hn:n<a.length:=by simpa using hn
 have e:tmN a.length 0 n=n+1:=by unfold tmN; split <;> omega
 rw [e]
theorem ztM (a b:List Int) (i j:Nat) (h:i+j<a.length):(tmS a b i j).set (i+j) (((tmS a b i j)[i+j]?.getD 0+a[i]?.getD 0*b[j]?.getD 0)%10007)=tmS a b i (j+1):=by
 refine List.ext_getElem (by simp) fun n h1 h2=>?_
 simp at h1
 rw [List.getElem_set]
 by_cases e:i+j=n
 .subst e
  have e1:tmN i j (i+j)=i:=by unfold tmN; (repeat' split) <;> omega
  have e2:tmN i (j+1) (i+j)=i+1:=by unfold tmN; (repeat' split) <;> omega
  have e3:i+j-i=j:=by omega
  have g:=znI (fun n=>cv a b n (tmN i j n)%10007) h
  have g2:(tmS a b i j)[i+j]?.getD 0=cv a b (i+j) (tmN i j (i+j))%10007:=g
  simp only [if_true,g2,e1]
  simp only [tmS,tb,List.getElem_map,List.getElem_range,e2,cv,e3]
  omega
 .have e1:tmN i j n=tmN i (j+1) n:=by unfold tmN; (repeat' split) <;> omega
  simp only [e,if_false,tmS,tb,List.getElem_map,List.getElem_range,e1]
theorem zgs (a b:List Int) (ha:Ns a) (hb:Ns b) (hl:a.length<=1048576) (hab:a.length<=b.length) :
  Con Tryz.prog 201 [.sl a.length (avs a),.sl b.length (avs b)] (.own 2 a.length (avs (mulS a b))):=by
 refine zab Tryz.mixed ⟨9,[],[],[]⟩ Tryz.func201 ?_
 rw [Tryz.ntmps201]
 simp [go_sem]
 refine ⟨by omega,?_⟩
 refine zac (5::6::7::8::List.range' 14 33) (fun i:Nat=>[(5,.own 2 a.length (avs (tmS a b i 0))),(14,.int i)]) (fun i=>i<=a.length) (fun i=>a.length-i) 0 (by simp) (by simp [go_sem,zo9,zkv]) (by simp [go_sem]) ?_
 intro i hi
 simp [go_sem]
 refine ⟨fun h=>?_,fun h=>?_⟩ <;> simp at h
 .have hi2:=h
  simp [go_sem,zaj hi2]
  refine ⟨⟨hi2,by rintro rfl; simp at hi2⟩,?_⟩
  refine zac (5::8::List.range' 19 27) (fun j:Nat=>[(5,.own 2 a.length (avs (tmS a b i j))),(8,.int j)]) (fun j=>i+j<=a.length) (fun j=>a.length-j) 0 (by simp; omega) (by simp [go_sem]) (by simp [go_sem]) ?_
  intro j hj
  simp [go_sem]
  refine ⟨⟨by omega,by omega⟩,?_⟩
  refine ⟨fun h=>?_,fun h=>?_⟩ <;> simp at h
  .have k0:i+j<a.length:=by omega
   have k1:j<b.length:=by omega
   have k2:i+j<(tmS a b i j).length:=by rw [zsX]; exact k0
   have hset:=ztM a b i j k0
   have tN:=(zwC a b i j).get (i+j)
   have m1:=zaK (ha.get i) (hb.get j)
   have m2:fits ((tmS a b i j)[i+j]?.getD 0+a[i]?.getD 0*b[j]?.getD 0):=by
    have x0:=zdl (ha.get i) (hb.get j)
    obtain ⟨y0,y1⟩:=tN
    exact ⟨by omega,by omega⟩
   have ij:((i:Int)+j).toNat=i+j:=by omega
   simp [go_sem,ij,zaj k1,zcr k2]
   refine ⟨by kernel_rfl,⟨by omega,by omega⟩,⟨by omega,by omega⟩,⟨k1,by intro e; simp [e] at k1⟩,m1,m2,?_⟩
   refine CallD.of (zbF _ m2.1 m2.2) ?_
   simp [go_sem]
   refine ⟨⟨by omega,by omega⟩,by omega,?_⟩
   refine ⟨by kernel_rfl,?_⟩
   simp [go_sem]
   exact ⟨by omega,j+1,by omega,by omega,zaa _ _ _ (by simp),by rw [ij,zaR,hset],by omega⟩
  .have hx:a.length<=i+j:=by omega
   have hn:=zpe a b i j hx
   simp [go_sem]
   exact ⟨by omega,i+1,by omega,by omega,(Off.reset (by intro x hx; simp at hx |-; omega) (by simp) (by simp [go_sem,zaa])),by rw [hn],by omega⟩
 .have e:i=a.length:=by omega
  subst e
  simp [go_sem]
  exact zsR a b
end Go.Proofs.YthhdollpkieknaaGreat


namespace Go.Proofs.YthhdollpkieknaaGreat
abbrev Mx:=Nat->Nat->Int
def sgd (i:Nat):Int:=if i%2=0 then 1 else -1
theorem zpm (i:Nat):sgd (i+1) =-sgd i:=by
 unfold sgd
 by_cases h:i%2=0
 .rw [if_pos h,if_neg (by omega)]
 .rw [if_neg h,if_pos (by omega)]; rfl
def dsum (f:Nat->Int):Nat->Int
 | 0=>0
 | n+1=>dsum f n+f n
theorem zcB {f g:Nat->Int}:∀ {n:Nat},(∀ i,i<n->f i=g i)->dsum f n=dsum g n
 | 0,_=>rfl
 | n+1,h=>by rw [dsum,dsum,zcB (fun i hi=>h i (by omega)),h n (by omega)]
theorem zgv (f g:Nat->Int) (k:Int):∀ n:Nat,dsum (fun i=>f i+k*g i) n=dsum f n+k*dsum g n
 | 0=>by simp [dsum]
 | n+1=>by rw [dsum,dsum,dsum,zgv f g k n,Int.mul_add]; omega
theorem zeH {f:Nat->Int}:∀ {n:Nat},(∀ i,i<n->f i=0)->dsum f n=0
 | 0,_=>rfl
 | n+1,h=>by rw [dsum,zeH (fun i hi=>h i (by omega)),h n (by omega)]; rfl
theorem zdj {f:Nat->Int} {k:Nat}:∀ {n:Nat},k<n->(∀ i,i<n->i≠k->f i=0)->dsum f n=f k
 | 0,h,_=>by omega
 | n+1,h,hz=>by
  rw [dsum]
  by_cases e:k=n
  .subst e
   rw [zeH (fun i hi=>hz i (by omega) (by omega)),Int.zero_add]
  .rw [zdj (n:=n) (by omega) (fun i hi hne=>hz i (by omega) hne),hz n (by omega) (by omega),Int.add_zero]
theorem zkf {f:Nat->Int} {k:Nat}:∀ {n:Nat},k+1<n->(∀ i,i<n->i≠k->i≠k+1->f i=0)->dsum f n=f k+f (k+1)
 | 0,h,_=>by omega
 | n+1,h,hz=>by
  rw [dsum]
  by_cases e:k+1=n
  .subst e
   rw [zdj (k:=k) (by omega) (fun i hi hne=>hz i (by omega) hne (by omega))]
  .rw [zkf (n:=n) (by omega) (fun i hi h1 h2=>hz i (by omega) h1 h2),hz n (by omega) (by omega) (by omega),Int.add_zero]
def mnr (M:Mx) (i:Nat):Mx:=fun r c=>M (if r<i then r else r+1) (c+1)
def det:Nat->Mx->Int
 | 0,_=>1
 | n+1,M=>dsum (fun i=>sgd i*M i 0*det n (mnr M i)) (n+1)
def updR (M:Mx) (i:Nat) (w:Nat->Int):Mx:=fun r=>if r=i then w else M r
theorem zcl (M:Mx) (i:Nat):updR M i (M i)=M:=funext fun r=>by
 unfold updR; split
 .rename_i h; rw [h]
 .rfl
theorem zd0 (M:Mx) (i:Nat) (w:Nat->Int):updR M i w i=w:=by simp [updR]
theorem zdL (M:Mx) {i r:Nat} (w:Nat->Int) (h:r≠i):updR M i w r=M r:=by simp [updR,h]
theorem za1 (M:Mx) {i j:Nat} (h:i≠j) (v w:Nat->Int):updR (updR M i v) j w=updR (updR M j w) i v:=funext fun r=>by
 unfold updR
 by_cases h1:r=i
 .subst h1; rw [if_neg h,if_pos rfl,if_pos rfl]
 .rw [if_neg h1,if_neg h1]
theorem zpC (M:Mx) (i:Nat) (w:Nat->Int):mnr (updR M i w) i=mnr M i:=funext fun r=>funext fun c=>by
 unfold mnr updR
 rw [if_neg (by split <;> omega)]
theorem zum (M:Mx) {i j:Nat} (w:Nat->Int) (h:j≠i):mnr (updR M i w) j=updR (mnr M j) (if i<j then i else i-1) (fun c=>w (c+1)):=funext fun r=>funext fun c=>by
 unfold mnr updR
 by_cases h1:(if r<j then r else r+1)=i
 .have h2:r=if i<j then i else i-1:=by
   split at h1 <;> split <;> omega
  rw [if_pos h1,if_pos h2]
 .have h2:¬ r=if i<j then i else i-1:=by
   split at h1 <;> split <;> omega
  rw [if_neg h1,if_neg h2]
theorem zgw {p:Int}:∀ {n:Nat} {M N:Mx},(∀ r c,r<n->c<n->M r c%p=N r c%p)->det n M%p=det n N%p
 | 0,_,_,_=>rfl
 | n+1,M,N,h=>by
  rw [det,det]
  have gen:∀ m:Nat,m<=n+1->dsum (fun i=>sgd i*M i 0*det n (mnr M i)) m%p=dsum (fun i=>sgd i*N i 0*det n (mnr N i)) m%p:=by
   intro m
   induction m with
   | zero=>intro _; rfl
   | succ m ih =>
    intro hm
    rw [dsum,dsum,Int.add_emod,ih (by omega),Int.add_emod (dsum (fun i=>sgd i*N i 0*det n (mnr N i)) m)]
    have e1:=h m 0 (by omega) (by omega)
    have e2:=zgw (p:=p) (n:=n) (M:=mnr M m) (N:=mnr N m) (fun r c hr hc=>h _ _ (by split <;> omega) (by omega))
    have e3:(sgd m*M m 0*det n (mnr M m))%p=(sgd m*N m 0*det n (mnr N m))%p:=by
     rw [Int.mul_emod,Int.mul_emod (sgd m),e1,e2,<- Int.mul_emod (sgd m),<- Int.mul_emod]
    rw [e3]
  exact gen _ (Nat.le_refl _)
theorem zcj:∀ {n:Nat} (M:Mx) {i:Nat} (u v:Nat->Int) (k:Int),i<n->det n (updR M i (fun c=>u c+k*v c))=det n (updR M i u)+k*det n (updR M i v)
 | 0,_,_,_,_,_,h=>by omega
 | n+1,M,i,u,v,k,h=>by
  rw [det,det,det,<- zgv]
  refine zcB fun j hj=>?_
  by_cases e:j=i
  .subst e
   simp only [zpC,zd0]
   generalize det n (mnr M j)=d
   rw [Int.mul_add,Int.add_mul]
   congr 1
   ac_rfl
  .simp only [zum M _ e,zdL M _ e]
   rw [zcj (n:=n) (mnr M j) (fun c=>u (c+1)) (fun c=>v (c+1)) k (by split <;> omega),Int.mul_add]
   congr 1
   ac_rfl
theorem zhk:∀ {n:Nat} (M:Mx) {i:Nat},i+1<n->M i=M (i+1)->det n M=0
 | 0,_,_,h,_=>by omega
 | n+1,M,i,h,he=>by
  rw [det,zkf (k:=i) h]
  .have hm:mnr M (i+1)=mnr M i:=funext fun r=>funext fun c=>by
    unfold mnr
    by_cases h1:r<i
    .rw [if_pos (by omega),if_pos h1]
    .by_cases h2:r=i
     .subst h2; rw [if_pos (by omega),if_neg (by omega),he]
     .rw [if_neg (by omega),if_neg (by omega)]
   rw [hm,<- he,zpm,Int.neg_mul,Int.neg_mul]
   omega
  .intro j hj h1 h2
   have hz:det n (mnr M j)=0:=by
    by_cases hlt:i<j
    .refine zhk (mnr M j) (i:=i) (by omega) (funext fun c=>?_)
     unfold mnr
     rw [if_pos hlt,if_pos (by omega),he]
    .obtain ⟨i',rfl⟩:∃ i',i=i'+1:=⟨i-1,by omega⟩
     refine zhk (mnr M j) (i:=i') (by omega) (funext fun c=>?_)
     unfold mnr
     rw [if_neg (by omega),if_neg (by omega),he]
   rw [hz,Int.mul_zero]
theorem zoG {n:Nat} (M:Mx) {i:Nat} (h:i+1<n) (u v:Nat->Int):det n (updR (updR M i u) (i+1) v) =-det n (updR (updR M i v) (i+1) u):=by
 have hne:i≠i+1:=by omega
 have z:=fun w:Nat->Int=>zhk (n:=n) (updR (updR M i w) (i+1) w) h (by rw [zd0,zdL _ _ hne,zd0])
 have s:=z (fun c=>u c+1*v c)
 rw [zcj _ u v 1 h,za1 _ hne,za1 _ hne,zcj _ u v 1 (by omega),zcj _ u v 1 (by omega)] at s
 have zu:=z u
 have zv:=z v
 rw [za1 _ hne] at zu zv
 rw [za1 _ hne,za1 (M) hne v u]
 omega
theorem znO:∀ {n:Nat} (k:Nat) (M:Mx) {i:Nat},i+k+1<n->M i=M (i+k+1)->det n M=0
 | n,0,M,i,h,he=>zhk M h he
 | n,k+1,M,i,h,he=>by
  have hne:i+k+1≠i+(k+1)+1:=by omega
  have e0:M=updR (updR M (i+k+1) (M (i+k+1))) (i+k+1+1) (M (i+k+1+1)):=by rw [zcl,zcl]
  rw [e0,zoG M (i:=i+k+1) (by omega)]
  have:=znO k (updR (updR M (i+k+1) (M (i+k+1+1))) (i+k+1+1) (M (i+k+1))) (i:=i) (n:=n) (by omega) (by
   rw [zdL _ _ (show i≠i+k+1+1 by omega),zdL _ _ (show i≠i+k+1 by omega),zdL _ _ (show i+k+1≠i+k+1+1 by omega),zd0]
   exact he)
  rw [this]; rfl
theorem zpT {n:Nat} (M:Mx) {i j:Nat} (hi:i<n) (hj:j<n) (hne:i≠j) (he:M i=M j):det n M=0:=by
 by_cases h:i<j
 .have e:j=i+(j-i-1)+1:=by omega
  rw [e] at he
  exact znO (j-i-1) M (by omega) he
 .have e:i=j+(i-j-1)+1:=by omega
  rw [e] at he
  exact znO (i-j-1) M (by omega) he.symm
theorem zsv {n:Nat} (M:Mx) {i:Nat} (hi:i<n) (hz:∀ c,M i c=0):det n M=0:=by
 have:=zcj M (M i) (M i) 1 hi
 have e:(fun c=>M i c+1*M i c)=M i:=funext fun c=>by rw [hz c]; rfl
 rw [e,zcl] at this
 omega
theorem zqR {n:Nat} (M:Mx) {i j:Nat} (hi:i<n) (hj:j<n) (hne:i≠j) (u v:Nat->Int):det n (updR (updR M i u) j v) =-det n (updR (updR M i v) j u):=by
 have z:=fun w:Nat->Int=>zpT (n:=n) (updR (updR M i w) j w) hi hj hne (by rw [zd0,zdL _ _ hne,zd0])
 have s:=z (fun c=>u c+1*v c)
 rw [zcj _ u v 1 hj,za1 _ hne,za1 _ hne,zcj _ u v 1 hi,zcj _ u v 1 hi] at s
 have zu:=z u
 have zv:=z v
 rw [za1 _ hne] at zu zv
 rw [za1 _ hne,za1 (M) hne v u]
 omega
def idM:Mx:=fun r c=>if r=c then 1 else 0
theorem zvj:mnr idM 0=idM:=funext fun r=>funext fun c=>by simp [mnr,idM]
theorem zi2:∀ n:Nat,det n idM=1
 | 0=>rfl
 | n+1=>by
  rw [det,zdj (k:=0) (by omega) (fun i hi hne=>by simp [idM,hne]),zvj,zi2 n]
  simp [sgd,idM]
def updC (M:Mx) (k:Nat) (b:Nat->Int):Mx:=fun r c=>if c=k then b r else M r c
theorem zmL:∀ {n k:Nat} (b:Nat->Int),k<n->det n (updC idM k b)=b k
 | 0,_,_,h=>by omega
 | n+1,0,b,_=>by
  rw [det,zdj (k:=0) (by omega)]
  .have e:mnr (updC idM 0 b) 0=idM:=funext fun r=>funext fun c=>by simp [mnr,updC,idM]
   rw [e,zi2]
   simp [sgd,updC]
  .intro i hi hne
   rw [zsv (mnr (updC idM 0 b) i) (i:=0) (by omega) (fun c=>by
    have:(0:Nat)<i:=by omega
    simp [mnr,updC,idM,this]),Int.mul_zero]
 | n+1,k+1,b,h=>by
  rw [det,zdj (k:=0) (by omega)]
  .have e:mnr (updC idM (k+1) b) 0=updC idM k (fun r=>b (r+1)):=funext fun r=>funext fun c=>by simp [mnr,updC,idM]
   rw [e,zmL _ (by omega)]
   simp [sgd,updC,idM]
  .intro i hi hne
   have:updC idM (k+1) b i 0=0:=by simp [updC,idM,hne]
   rw [this]; simp
end Go.Proofs.YthhdollpkieknaaGreat


namespace Go.Proofs.YthhdollpkieknaaGreat
theorem zd2 (f:Nat->Int):∀ n,dsum f (n+1)=f 0+dsum (fun i=>f (i+1)) n
 | 0=>by simp [dsum]
 | n+1=>by rw [dsum,zd2 f n,dsum]; omega
theorem zkT (k:Int) (f:Nat->Int):∀ n,k*dsum f n=dsum (fun i=>k*f i) n
 | 0=>by simp [dsum]
 | n+1=>by rw [dsum,dsum,Int.mul_add,zkT k f n]
theorem zhw (f g:Nat->Int):∀ n,dsum (fun i=>f i+g i) n=dsum f n+dsum g n
 | 0=>by simp [dsum]
 | n+1=>by rw [dsum,dsum,dsum,zhw f g n]; omega
end Go.Proofs.YthhdollpkieknaaGreat


namespace Go.Proofs.YthhdollpkieknaaGreat
open Go.Abs CR
section
variable {α:Type}
def mnR (M:Nat->Nat->α) (i:Nat):Nat->Nat->α:=fun r c=>M (if r<i then r else r+1) (c+1)
end
section
variable {α:Type} [CR α]
def dR (f:Nat->α):Nat->α
 | 0=>ofI 0
 | n+1=>dR f n+f n
def dtR:Nat->(Nat->Nat->α)->α
 | 0,_=>ofI 1
 | n+1,M=>dR (fun i=>ofI (sgd i)*M i 0*dtR n (mnR M i)) (n+1)
end
end Go.Proofs.YthhdollpkieknaaGreat


namespace Go.Proofs.YthhdollpkieknaaGreat
open Go.Abs CR
section
variable {α:Type} [CR α]
end
end Go.Proofs.YthhdollpkieknaaGreat


namespace Go.Proofs.YthhdollpkieknaaGreat
open Go.Abs CR
section
variable {α:Type} [CR α]
end
end Go.Proofs.YthhdollpkieknaaGreat


namespace Go.Proofs.YthhdollpkieknaaGreat
open Go.Abs CR
theorem zjJ (b:Ser Int):∀ (k:Nat) (a:Ser Int),(∀ i,a i=0)->cmul k a b=0
 | 0,a,h=>by show a 0*b 0=0; rw [h 0,Int.zero_mul]
 | k+1,a,h=>by
  show a 0*b (k+1)+cmul k (sh a) b=0
  rw [h 0,zjJ b k (sh a) (fun i=>h (i+1)),Int.zero_mul]; rfl
theorem zqf {a:Ser Int} (h:∀ i,a (i+2)=0) (b:Ser Int) (k:Nat):cmul (k+1) a b=a 0*b (k+1)+a 1*b k:=by
 show a 0*b (k+1)+cmul k (sh a) b=_
 congr 1
 cases k with
 | zero=>rfl
 | succ k =>
  show sh a 0*b (k+1)+cmul k (sh (sh a)) b=_
  rw [zjJ b k (sh (sh a)) (fun i=>h i),Int.add_zero]; rfl
def Ev (z:Int) (d:Nat) (f:Ser Int) (v:Int):Prop:=(∀ k,d<k->f k=0)/\dsum (fun k=>f k*z ^ k) (d+1)=v
theorem Ev.zero (z:Int) (d:Nat):Ev z d (ofI 0) 0:=by
 have h0:∀ k,(ofI 0:Ser Int) k=0:=fun k=>by cases k <;> rfl
 exact ⟨fun k _=>h0 k,zeH fun k _=>by rw [h0,Int.zero_mul]⟩
theorem Ev.add {z:Int} {d:Nat} {f g:Ser Int} {v w:Int} (h:Ev z d f v) (k:Ev z d g w):Ev z d (f+g) (v+w):=by
 refine ⟨fun i hi=>by rw [znG,h.1 i hi,k.1 i hi]; rfl,?_⟩
 rw [<- h.2,<- k.2,<- zhw]
 exact zcB fun i hi=>by rw [znG,Int.add_mul]
theorem Ev.lin {z:Int} {d:Nat} {f g:Ser Int} {w:Int} (hf:∀ i,f (i+2)=0) (k:Ev z d g w):Ev z (d+1) (f*g) ((f 0+f 1*z)*w):=by
 have at1:∀ i,(f*g) (i+1)=f 0*g (i+1)+f 1*g i:=fun i=>zqf hf g i
 have at0:(f*g) 0=f 0*g 0:=rfl
 refine ⟨fun i hi=>?_,?_⟩
 .obtain ⟨j,rfl⟩:∃ j,i=j+1:=⟨i-1,by omega⟩
  rw [at1,k.1 (j+1) (by omega),k.1 j (by omega)]; omega
 .have e1:dsum (fun i=>(f*g) (i+1)*z ^ (i+1)) (d+1)=dsum (fun i=>f 0*(g (i+1)*z ^ (i+1))+(f 1*z)*(g i*z ^ i)) (d+1) :=
   zcB fun i hi=>by
    rw [at1,Int.add_mul,Int.pow_succ]
    congr 1
    .rw [Int.mul_assoc]
    .rw [Int.mul_assoc,Int.mul_assoc]
     congr 1
     rw [<- Int.mul_assoc,Int.mul_comm]
  have e2:dsum (fun i=>g i*z ^ i) (d+1+1)=w:=by
   show dsum (fun i=>g i*z ^ i) (d+1)+g (d+1)*z ^ (d+1)=w
   rw [k.2,k.1 (d+1) (by omega),Int.zero_mul,Int.add_zero]
  rw [zd2] at e2
  rw [zd2,e1,zgv,at0,<- zkT,k.2,Int.add_mul]
  have e3:f 0*w=f 0*(g 0*z ^ 0)+f 0*dsum (fun i=>g (i+1)*z ^ (i+1)) (d+1):=by rw [<- Int.mul_add,e2]
  rw [e3,Int.mul_assoc (f 0) (g 0),Int.add_assoc]
theorem Ev.dR {z:Int} {d:Nat} {f:Nat->Ser Int} {v:Nat->Int}:∀ {n:Nat},(∀ i,i<n->Ev z d (f i) (v i))->Ev z d (dR f n) (dsum v n)
 | 0,_=>Ev.zero z d
 | n+1,h=>Ev.add (Ev.dR (n:=n) (fun i hi=>h i (by omega))) (h n (by omega))
theorem Ev.det {z:Int}:∀ (n:Nat) (A:Nat->Nat->Ser Int),(∀ r c i,A r c (i+2)=0)->Ev z n (dtR n A) (det n (fun r c=>A r c 0+A r c 1*z))
 | 0,A,_=>by
  refine ⟨fun k hk=>?_,?_⟩
  .obtain ⟨j,rfl⟩:∃ j,k=j+1:=⟨k-1,by omega⟩
   rfl
  .show (0:Int)+1*z ^ 0=1
   rw [Int.pow_zero]; rfl
 | n+1,A,h=>by
  rw [dtR,Go.Proofs.YthhdollpkieknaaGreat.det]
  refine Ev.dR fun i hi=>?_
  have q:=Ev.lin (f:=ofI (sgd i)*A i 0) (fun t=>by
   show cmul (t+2) (sOf (sgd i)) (A i 0)=0
   rw [zbZ,zfz,h,Int.zero_mul]) (Ev.det (z:=z) n (mnR A i) (fun r c t=>h _ _ _))
  have e:∀ t,(ofI (sgd i)*A i 0) t=sgd i*A i 0 t:=fun t=>by
   show cmul t (sOf (sgd i)) (A i 0)=_
   rw [zbZ,zfz]; exact Int.mul_comm _ _
  rw [e,e,Int.mul_assoc,<- Int.mul_add] at q
  exact q
end Go.Proofs.YthhdollpkieknaaGreat


namespace Go.Proofs.YthhdollpkieknaaGreat
open Go.Abs CR
section
variable {α:Type} [CR α]
end
def serEq (a b:Ser Int):Prop:=∀ k,a k%10007=b k%10007
theorem zkp {a b c d:Int} (h:a%10007=b%10007) (k:c%10007=d%10007):(a*c)%10007=(b*d)%10007:=by
 rw [Int.mul_emod,h,k,<- Int.mul_emod]
theorem zqc {a b c d:Int} (h:a%10007=b%10007) (k:c%10007=d%10007):(a+c)%10007=(b+d)%10007:=by
 rw [Int.add_emod,h,k,<- Int.add_emod]
theorem zqQ (n:Nat):∀ {a b c d:Ser Int},(∀ i,i<=n->a i%10007=b i%10007)->(∀ i,i<=n->c i%10007=d i%10007)->cmul n a c%10007=cmul n b d%10007:=by
 induction n with
 | zero=>intro a b c d h k; exact zkp (h 0 (Nat.le_refl _)) (k 0 (Nat.le_refl _))
 | succ n ih =>
  intro a b c d h k
  rw [cmul,cmul]
  exact zqc (zkp (h 0 (by omega)) (k (n+1) (by omega))) (ih (fun i hi=>h (i+1) (by omega)) (fun i hi=>k i (by omega)))
end Go.Proofs.YthhdollpkieknaaGreat


namespace Go.Proofs.YthhdollpkieknaaGreat
def sel (W:Mx) (g:Nat->Nat):Mx:=fun r c=>W r (g c)
theorem zn1 (W:Mx) (i:Nat) (w:Nat->Int) (g:Nat->Nat):sel (updR W i w) g=updR (sel W g) i (fun c=>w (g c)):=funext fun r=>funext fun c=>by
 unfold sel updR; split <;> rfl
def RowEq (n w:Nat) (W W':Mx):Prop:=∃ s t:Int,s*t%10007=1/\∀ g:Nat->Nat,(∀ c,c<n->g c<w)->det n (sel W g)*s%10007=det n (sel W' g)%10007
theorem RowEq.refl (n w:Nat) (W:Mx):RowEq n w W W:=⟨1,1,rfl,fun g hg=>by rw [Int.mul_one]⟩
theorem zhl (a b:Int):a%10007*b%10007=a*b%10007:=by rw [Int.mul_emod,Int.emod_emod_of_dvd _ (Int.dvd_refl _),<- Int.mul_emod]
theorem RowEq.trans {n w:Nat} {W X Y:Mx} (h:RowEq n w W X) (k:RowEq n w X Y):RowEq n w W Y:=by
 obtain ⟨s,t,h1,h2⟩:=h
 obtain ⟨s',t',k1,k2⟩:=k
 refine ⟨s*s',t*t',?_,fun g hg=>?_⟩
 .have e:s*s'*(t*t')=(s*t)*(s'*t'):=by ac_rfl
  rw [e,Int.mul_emod,h1,k1]; rfl
 .rw [<- k2 g hg,<- Int.mul_assoc,<- zhl,h2 g hg,zhl]
theorem RowEq.swap {n w:Nat} (W:Mx) {i j:Nat} (hi:i<n) (hj:j<n) (hne:i≠j):RowEq n w W (updR (updR W i (W j)) j (W i)) :=
 ⟨-1,-1,rfl,fun g hg=>by
  rw [zn1,zn1]
  have e:sel W g=updR (updR (sel W g) i (fun c=>W i (g c))) j (fun c=>W j (g c)):=by
   have e1:(fun c=>W i (g c))=sel W g i:=rfl
   have e2:(fun c=>W j (g c))=sel W g j:=rfl
   rw [e1,e2,zcl,zcl]
  have h:=zqR (sel W g) hi hj hne (fun c=>W j (g c)) (fun c=>W i (g c))
  rw [h,<- e]
  congr 1
  omega⟩
theorem RowEq.full {n:Nat} {W W':Mx} (h:RowEq n (n+1) W W') (hid:∀ r c,r<n->c<n->W' r c%10007=idM r c%10007) :
  ∃ s:Int,det n W*s%10007=1/\∀ k,k<n->W' k n%10007=det n (updC W k (fun r=>W r n))*s%10007:=by
 obtain ⟨s,t,h1,h2⟩:=h
 refine ⟨s,?_,fun k hk=>?_⟩
 .have:=h2 id (fun c hc=>by show c<n+1; omega)
  have e:∀ X:Mx,sel X id=X:=fun X=>rfl
  rw [e,e,zgw (p:=10007) (N:=idM) hid,zi2] at this
  exact this
 .have:=h2 (fun c=>if c=k then n else c) (fun c hc=>by show (if c=k then n else c)<n+1; split <;> omega)
  have e:sel W (fun c=>if c=k then n else c)=updC W k (fun r=>W r n):=funext fun r=>funext fun c=>by
   by_cases hc:c=k
   .simp [sel,updC,hc]
   .simp [sel,updC,hc]
  rw [e] at this
  rw [this,zgw (p:=10007) (N:=updC idM k (fun r=>W' r n)),zmL _ hk]
  intro r c hr hc
  by_cases hck:c=k
  .simp [sel,updC,hck]
  .simp [sel,updC,hck]; exact hid r c hr hc
end Go.Proofs.YthhdollpkieknaaGreat


namespace Go.Proofs.YthhdollpkieknaaGreat
open Go.Abs
def mx (m:List (List Int)):Mx:=fun r c=>(m[r]?.getD [])[c]?.getD 0
def Rws (w:Nat) (m:List (List Int)):Prop:=∀ r∈m,r.length=w/\Ns r
theorem Rws.at {w:Nat} {m:List (List Int)} (h:Rws w m) {i:Nat} (hi:i<m.length):(m[i]?.getD []).length=w/\Ns (m[i]?.getD []):=h _ (by simp [hi])
theorem Rws.set {w:Nat} {m:List (List Int)} (h:Rws w m) {i:Nat} {r:List Int} (hr:r.length=w/\Ns r):Rws w (m.set i r):=fun x hx=>by
 rcases List.mem_or_eq_of_mem_set hx with hx | rfl
 .exact h x hx
 .exact hr
end Go.Proofs.YthhdollpkieknaaGreat


namespace Go.Proofs.YthhdollpkieknaaGreat
open Go.Abs
end Go.Proofs.YthhdollpkieknaaGreat


namespace Go.Proofs.YthhdollpkieknaaGreat
end Go.Proofs.YthhdollpkieknaaGreat


namespace Go.Proofs.YthhdollpkieknaaGreat
open Go.Abs
structure GI (n w:Nat) (W0:Mx) (m:List (List Int)) (done k:Nat):Prop where
 len:m.length=n
 rws:Rws w m
 eqv:RowEq n w W0 (mx m)
 dle:done<=n
 piv:∃ piv:Nat->Nat,(∀ j,j<done->piv j<k/\∀ r,r<n->mx m r (piv j)=if r=j then 1 else 0)/\(∀ j,j+1<done->piv j<piv (j+1))/\(∀ j,j<done->∀ c,c<piv j->mx m j c=0)
 low:∀ r,done<=r->r<n->∀ c,c<k->mx m r c=0
theorem GI.skip {n w:Nat} {W0:Mx} {m:List (List Int)} {done k:Nat} (h:GI n w W0 m done k) (hz:∀ r,done<=r->r<n->mx m r k=0):GI n w W0 m done (k+1):=by
 obtain ⟨h1,h2,h3,h4,⟨p,p1,p2,p3⟩,h6⟩:=h
 refine ⟨h1,h2,h3,h4,⟨p,fun j hj=>⟨by have:=(p1 j hj).1; omega,(p1 j hj).2⟩,p2,p3⟩,fun r hr hn c hc=>?_⟩
 by_cases e:c=k
 .subst e; exact hz r hr hn
 .exact h6 r hr hn c (by omega)
end Go.Proofs.YthhdollpkieknaaGreat


namespace Go.Proofs.YthhdollpkieknaaGreat
open Go.Abs
def ldF (r:List Int):Nat->Nat->Nat
 | 0,i=>i
 | f+1,i=>if r[i]?.getD 0=0 then ldF r f (i+1) else i
theorem zrX (r:List Int):∀ f i,i<=ldF r f i/\ldF r f i<=i+f
 | 0,i=>by simp [ldF]
 | f+1,i=>by
  rw [ldF]
  split
  .have:=zrX r f (i+1); omega
  .omega
theorem zj3 (r:List Int):∀ f i j,i<=j->j<ldF r f i->r[j]?.getD 0=0
 | 0,i,j,h1,h2=>by rw [ldF] at h2; omega
 | f+1,i,j,h1,h2=>by
  rw [ldF] at h2
  split at h2
  .rename_i h
   by_cases e:j=i
   .subst e; exact h
   .exact zj3 r f (i+1) j (by omega) h2
  .omega
theorem zmy (r:List Int):∀ f i,ldF r f i<i+f->r[ldF r f i]?.getD 0≠0
 | 0,i,h=>by rw [ldF] at h; omega
 | f+1,i,h=>by
  rw [ldF] at h |-
  split
  .rename_i hz
   rw [if_pos hz] at h
   exact zmy r f (i+1) (by omega)
  .rename_i hz; exact hz
def zsG (r:List Int):Nat:=ldF r r.length 0
def oneB (n:Nat) (m:List (List Int)) (done:Nat):Bool:=decide (done=n) && decide (zsG (m[n-1]?.getD [])=n-1)
theorem znm {p:Nat->Nat} {n:Nat} (h:∀ j,j+1<n->p j<p (j+1)):∀ j,j<n->j<=p j
 | 0,_=>by omega
 | j+1,hj=>by have:=znm h j (by omega); have:=h j hj; omega
theorem zrO {p:Nat->Nat} {n:Nat} (h:∀ j,j+1<n->p j<p (j+1)):∀ t j,j+t+1=n->p j+t<=p (n-1)
 | 0,j,hj=>by rw [show n-1=j by omega]; omega
 | t+1,j,hj=>by have:=zrO h t (j+1) (by omega); have:=h j (by omega); omega
theorem GI.one {n:Nat} {W0:Mx} {m:List (List Int)} {done k:Nat} (h:GI n (n+1) W0 m done k) (hn:0<n) (hk:k<=n+1) (ho:oneB n m done=true):∀ r c,r<n->c<n->mx m r c=idM r c:=by
 unfold oneB at ho
 simp only [Bool.and_eq_true,decide_eq_true_eq] at ho
 obtain ⟨hd,hl⟩:=ho
 subst hd
 obtain ⟨p,p1,p2,p3⟩:=h.piv
 have rl:=(h.rws.at (i:=done-1) (by rw [h.len]; omega)).1
 have hne:=zmy (m[done-1]?.getD []) (m[done-1]?.getD []).length 0 (by
  have:ldF (m[done-1]?.getD []) (m[done-1]?.getD []).length 0=done-1:=hl
  omega)
 have hl2:ldF (m[done-1]?.getD []) (m[done-1]?.getD []).length 0=done-1:=hl
 rw [hl2] at hne
 have hp:p (done-1)<=done-1:=by
  rcases Nat.lt_or_ge (done-1) (p (done-1)) with hlt | hge
  .exact (hne (p3 (done-1) (by omega) (done-1) hlt)).elim
  .exact hge
 intro r c hr hc
 have g1:=znm p2 c hc
 have g2:=zrO p2 (done-1-c) c (by omega)
 have e:p c=c:=by omega
 have:=(p1 c hc).2 r hr
 rw [e] at this
 exact this
theorem GI.none {n:Nat} {W0:Mx} {m:List (List Int)} {done k:Nat} (h:GI n (n+1) W0 m done k) (hn:0<n) (hk:k<=n+1) (hf:k=n+1\/done=n) (ho:oneB n m done=false):∃ i,i<n/\∀ c,c<n->mx m i c=0:=by
 refine ⟨n-1,by omega,fun c hc=>?_⟩
 have hdl:=h.dle
 by_cases hd:done=n
 .subst hd
  obtain ⟨p,p1,p2,p3⟩:=h.piv
  have rl:=(h.rws.at (i:=done-1) (by rw [h.len]; omega)).1
  have g1:=znm p2 (done-1) (by omega)
  have q:=p1 (done-1) (by omega)
  by_cases e:p (done-1)=done-1
  .have e1:mx m (done-1) (done-1)=1:=by
    have:=q.2 (done-1) (by omega)
    rw [e,if_pos rfl] at this
    exact this
   have l1:=zrX (m[done-1]?.getD []) (m[done-1]?.getD []).length 0
   have hl:zsG (m[done-1]?.getD [])=done-1:=by
    unfold zsG
    rcases Nat.lt_trichotomy (ldF (m[done-1]?.getD []) (m[done-1]?.getD []).length 0) (done-1) with hlt | heq | hgt
    .have:=zmy (m[done-1]?.getD []) (m[done-1]?.getD []).length 0 (by omega)
     exact (this (p3 (done-1) (by omega) _ (by omega))).elim
    .exact heq
    .have:=zj3 (m[done-1]?.getD []) (m[done-1]?.getD []).length 0 (done-1) (by omega) hgt
     have e2:mx m (done-1) (done-1)=0:=this
     rw [e1] at e2; omega
   unfold oneB at ho
   rw [hl] at ho
   simp at ho
  .exact p3 (done-1) (by omega) c (by omega)
 .exact h.low (n-1) (by omega) (by omega) c (by omega)
end Go.Proofs.YthhdollpkieknaaGreat


namespace Go.Proofs.YthhdollpkieknaaGreat
open Go.Abs
end Go.Proofs.YthhdollpkieknaaGreat


namespace Go.Proofs.YthhdollpkieknaaGreat
open Go.Abs
end Go.Proofs.YthhdollpkieknaaGreat


namespace Go.Proofs.YthhdollpkieknaaGreat
open Go.Abs
end Go.Proofs.YthhdollpkieknaaGreat


namespace Go.Proofs.YthhdollpkieknaaGreat
open Go.Abs
end Go.Proofs.YthhdollpkieknaaGreat


namespace Go.Proofs.YthhdollpkieknaaGreat
open Go.Abs
end Go.Proofs.YthhdollpkieknaaGreat


namespace Go.Proofs.YthhdollpkieknaaGreat
open Go.Abs
end Go.Proofs.YthhdollpkieknaaGreat


namespace Go.Proofs.YthhdollpkieknaaGreat
open Go.Abs
end Go.Proofs.YthhdollpkieknaaGreat


namespace Go.Proofs.YthhdollpkieknaaGreat
open Go.Abs
end Go.Proofs.YthhdollpkieknaaGreat


namespace Go.Proofs.YthhdollpkieknaaGreat
open Go.Abs
end Go.Proofs.YthhdollpkieknaaGreat


namespace Go.Proofs.YthhdollpkieknaaGreat
open Go.Abs
end Go.Proofs.YthhdollpkieknaaGreat


namespace Go.Proofs.YthhdollpkieknaaGreat
open Go.Abs
end Go.Proofs.YthhdollpkieknaaGreat


namespace Go.Proofs.YthhdollpkieknaaGreat
open Go.Abs
theorem Tab.rws {A:List (List Int)} {B:List Int} (h:Tab A B):Rws B.length A:=h.a
end Go.Proofs.YthhdollpkieknaaGreat


namespace Go.Proofs.YthhdollpkieknaaGreat
open Go.Abs CR
end Go.Proofs.YthhdollpkieknaaGreat


namespace Go.Proofs.YthhdollpkieknaaGreat
open Go.Abs
def zqP (a:List Int):Bool:=decide (1<=(a.length:Int)) && decide ((a.length:Int)<=16) && zcz a
theorem zgi (a:List Int) (hl:a.length<=9223372036854775807):Con Tryz.prog 199 [.sl a.length (avs a)] (.bool (zqP a)):=by
 have cN:=zbl a hl
 unfold zqP
 generalize zcz a=b at *
 refine zab Tryz.mixed ⟨3,[],[],[]⟩ Tryz.func199 ?_
 rw [Tryz.ntmps199]
 simp [go_sem]
 refine CallVC.of (zet _ _ hl) ?_
 simp [go_sem]
 refine CallVC.of (zbT _ _ _) ?_
 simp [go_sem]
 by_cases h1:1<=(a.length:Int) <;> by_cases h2:(a.length:Int)<=16
 .simp [go_sem,h1,h2]
  refine CallVC.of (cN) ?_
  simp [go_sem]
 all_goals simp [go_sem,h1,h2]
end Go.Proofs.YthhdollpkieknaaGreat


namespace Go.Proofs.YthhdollpkieknaaGreat
open Go.Abs
end Go.Proofs.YthhdollpkieknaaGreat


namespace Go.Proofs.YthhdollpkieknaaGreat
open Go.Abs
theorem zj7 {a:List Int} (h1:1<=a.length) (h16:a.length<=16) (hN:Ns a):zqP a=true:=by
 unfold zqP
 rw [zcZ.2 hN]
 simp
 omega
theorem zfE (a b:List Int) (ha:Ns a) (hb:Ns b) (hl:b.length=a.length) (h1:1<=a.length) (h16:a.length<=16) :
  Con Tryz.prog 107 [.sl 2 [.sl a.length (avs a),.sl b.length (avs b)],.sl 0 []] (.int 0):=by
 have cA:=zgi a (by omega)
 have cB:=zgi b (by omega)
 rw [zj7 h1 h16 ha] at cA
 rw [zj7 (by omega) (by omega) hb] at cB
 refine zab Tryz.mixed ⟨7,[],[],[]⟩ Tryz.func107 ?_
 rw [Tryz.ntmps107]
 simp [go_sem]
 refine zac ([4,6]++List.range' 9 17) (fun i:Nat=>[(9,.int i)]) (fun i=>i<=2) (fun i=>2-i) 0 (by simp) (by simp [go_sem]) (by simp [go_sem]) ?_
 intro i hi
 have h3:i=0\/i=1\/i=2:=by omega
 rcases h3 with rfl | rfl | rfl
 .simp [go_sem]
  refine CallVC.of (cA) ?_
  simp [go_sem]
  exact ⟨1,by omega,by omega,zaa _ _ _ (by simp),rfl⟩
 .simp [go_sem]
  refine CallVC.of (cB) ?_
  simp [go_sem]
  have e:(b.length:Int)=a.length:=by omega
  simp [go_sem,e]
  exact ⟨2,by omega,by omega,zaa _ _ _ (by simp),rfl⟩
 .have cN:Con Tryz.prog 156 [.sl 0 []] (.bool true):=zbl [] (by simp)
  simp [go_sem]
  refine CallVC.of (cN) ?_
  simp [go_sem]
end Go.Proofs.YthhdollpkieknaaGreat


namespace Go.Proofs.YthhdollpkieknaaGreat
open Go.RowKit Go.Shelf Go.Abs
attribute [local go_sem] Oper.semAt_some
theorem zo8 {P:Program} {w:World} {F:Nat->Prop} {e:TypeId} {n:Nat} {L:List Int} {v:Value} {os:List Nat} (h0:0<n) (h:RepC P w F (.own e n (avs L)) v os) :
  ∃ bb cap c,v=.slice (some ⟨bb,0,none⟩) n cap/\os=[bb]/\w.heap[bb]?=some (.cells c e (0,0))/\n<=cap/\cap*P.cellsOf e<=c.size/\∀ i,i<L.length->c[i]?=some (.int .i64 (L[i]?.getD 0)):=by
 generalize hc:avs L=ac at h
 cases h with
 | own0 _=>omega
 | own bb _ _ cap c _ os2 hbb hn hcc hll =>
  subst hc
  have hos:os2=[]:=by
   have:∀ {r:List Int} {vs:List Value} {os:List Nat},RepL P w F (avs r) vs os->os=[]:=by
    intro r
    induction r with
    | nil=>intro vs os h; cases h; rfl
    | cons a r ih =>
     intro vs os h
     have e:avs (a::r)=.val (.int .i64 a)::avs r:=rfl
     rw [e] at h
     cases h with
     | cons c v o cs vs os' h t =>
      cases h with
      | val _ _=>rw [ih t]; rfl
   exact this hll
  subst hos
  exact ⟨bb,cap,c,rfl,rfl,hbb,hn,hcc,fun i hi=>by have:=zgX hll i hi; simpa using this⟩
theorem zov {P:Program} {w:World} {F:Nat->Prop} {e:TypeId} {n:Nat} {L:List Int} {bb cap:Nat} {c:Array Value} (hb:w.heap[bb]?=some (.cells c e (0,0))) (hn:n<=cap) (hc:cap*P.cellsOf e<=c.size)
  (hv:∀ i,i<L.length->c[i]?=some (.int .i64 (L[i]?.getD 0))):RepC P w F (.own e n (avs L)) (.slice (some ⟨bb,0,none⟩) n cap) [bb]:=by
 refine .own bb e n cap c _ [] hb hn hc ?_
 have key:∀ (L:List Int) (vs:List Value),(∀ i,i<L.length->vs[i]?=some (.int .i64 (L[i]?.getD 0)))->RepL P w F (avs L) vs []:=by
  intro L
  induction L with
  | nil=>intro vs _; exact .nil _
  | cons a L ih =>
   intro vs h
   cases vs with
   | nil=>have:=h 0 (by simp); simp at this
   | cons v vs =>
    have h0:=h 0 (by simp)
    simp at h0
    subst h0
    exact .cons _ _ [] _ _ [] (.val _ rfl) (ih vs fun i hi=>by have:=h (i+1) (by simpa using hi); simpa using this)
 exact key L _ (fun i hi=>by have:=hv i hi; simpa using this)
def hoT (b o:List Int) (x:Int):List Int:=(mulS o b).set 0 (((mulS o b)[0]?.getD 0+x)%10007)
def hoH (b:List Int) (n:Nat) (xs:List Int):List Int:=xs.foldl (hoT b) (List.replicate n 0)
theorem zj9 (b:List Int) (n:Nat) (xs:List Int) (x:Int):hoH b n (xs++[x])=hoT b (hoH b n xs) x:=by simp [hoH]
theorem ziX (b o:List Int) (x:Int):(hoT b o x).length=o.length:=by simp [hoT]
theorem zwA {b o:List Int} {x:Int}:Ns (hoT b o x):=fun y hy=>by
 unfold hoT at hy
 rcases List.mem_or_eq_of_mem_set hy with h | h
 .exact zrV _ _ y h
 .rw [h]; exact zak _
theorem znP (b:List Int) (n:Nat) (xs:List Int):(hoH b n xs).length=n/\Ns (hoH b n xs):=by
 generalize hk:xs.length=k
 induction k generalizing xs with
 | zero =>
  rw [List.length_eq_zero_iff.1 hk]
  refine ⟨by simp [hoH],fun x hx=>?_⟩
  have:x=0:=by simpa [hoH] using (List.mem_replicate.1 hx).2
  rw [this]; exact ⟨by decide,by decide⟩
 | succ k ih =>
  rcases List.eq_nil_or_concat xs with rfl | ⟨h,x,rfl⟩
  .simp at hk
  .rw [List.concat_eq_append] at hk |-
   obtain ⟨i1,i2⟩:=ih h (by simpa using hk)
   rw [zj9]
   exact ⟨(ziX _ _ _).trans i1,zwA⟩
theorem Con.ownV {f:FuncId} {args:List AV} {e:TypeId} {n:Nat} {L:List Int} (h0:0<n) (h:Con Tryz.prog f args (.own e n (avs L))) (w:World) (vs:List Value) (hl:args.length=vs.length)
  (ha:∀ tm oss,RepTL Tryz.prog w (fun b=>b<w.heap.size) tm oss args vs []) :
  Calls Tryz.prog f vs.toArray w fun x w'=>∃ bb cap c,x=.returned (.slice (some ⟨bb,0,none⟩) n cap)/\Below w.heap.size w w'/\w'.heap[bb]?=some (.cells c e (0,0))/\n<=cap/\cap*Tryz.prog.cellsOf e<=c.size /\
   (∀ i,i<L.length->c[i]?=some (.int .i64 (L[i]?.getD 0)))/\w.heap.size<=bb:=by
 refine (h.2 w vs hl ha).mono ?_
 rintro x w' ⟨v,os,rfl,hx,hr,hn,ho⟩
 have:=(hr (fun _=>undef) (fun _=>[]))
 generalize hc:AV.own e n (avs L)=c at this
 cases this with
 | cell _ _ _ k =>
  subst hc
  obtain ⟨bb,cap,c,rfl,rfl,k1,k2,k3,k4⟩:=zo8 h0 k
  exact ⟨bb,cap,c,rfl,hx.below,k1,k2,k3,k4,(ho bb (by simp)).1⟩
 | any v=>simp at hc
 | agg=>simp at hc
 | tup=>simp at hc
 | fn=>simp at hc
 | bor=>simp at hc
 | ptr=>simp at hc
 | slp=>simp at hc
def hoV (B0 B1:Nat) (vm:Value) (n0 n:Nat) (L:List Int) (W:World):Prop :=
 ∃ bb cap c,W.cell? ⟨B1,0,none⟩=some (.slice (some ⟨bb,0,none⟩) n cap)/\W.frozen? ⟨B1,0,none⟩=false/\W.cell? ⟨B0,0,none⟩=some vm/\W.heap[bb]?=some (.cells c 2 (0,0))/\n<=cap/\cap<=c.size/\(∀ i,i<L.length->c[i]?=some (.int .i64 (L[i]?.getD 0))) /\
  n0<=bb/\bb≠B1/\bb≠B0
theorem zsz (B0 B1:Nat) (vm:Value) (n0 n:Nat) {α:Type} (g:α->List Int):Own (fun (x:α) W=>hoV B0 B1 vm n0 n (g x) W):=by
 rintro s A B row ⟨bb,cap,c,h1,h2,h3,h4,h5,h6,h7,h8⟩ hg hr
 exact ⟨bb,cap,c,cell_kept h1 hg hr,(frozen_kept h1 hg hr).trans h2,cell_kept h3 hg hr,(grownBy_keeps_cells hg hr h4 rfl).trans h4,h5,h6,h7,h8⟩
theorem zoA (n:Nat) (h:n<=64) (w:World):(Instr.makeSlice 25 (.int .i64 (n:Int)) (.int .i64 (n:Int))).run Tryz.prog w =
  .ok (.slice (some ⟨w.heap.size,0,none⟩) n n) (w.alloc (.cells (Array.replicate n (.int .i64 0)) 2)):=by
 obtain ⟨i,zv,i1,i2,i3,i4,i5,i6,i7⟩:=zaE Tryz.info2
 rw [run_make w _ 2 i zv (zaO (by rw [Tryz.elem25])) i1 i2 .i64 .i64 n n (by omega) (by omega) (by rw [i4]; omega) (by omega)]
 obtain ⟨z0,hz0⟩:∃ z0,zv.cells=#[z0]:=by
  have:zv.cells.toList.length=1:=by simpa using i5
  match hh:zv.cells.toList,this with
  | [z0],_=>exact ⟨z0,by apply Array.ext'; simpa using hh⟩
 rw [hz0] at i6
 simp at i6
 obtain ⟨rfl,_⟩:=zkL i6.symm
 have hl:madeCells zv.cells ((n:Int).toNat*i.size)=Array.replicate n (.int .i64 0):=by
  apply Array.ext'
  rw [hz0,i3,Nat.mul_one,toList_madeCells_one]
  simp
 rw [hl,Int.toNat_natCast]
theorem zc5 (zs y:List Int) (b off cap bm offm capm:Nat) (w:World) (hreach:zs.length*8<=140737488351232) (hb:b<w.heap.size) (hc:∀ j,j<zs.length->w.cell? ⟨b,off+j,none⟩=some (.int .i64 (zs[j]?.getD 0))) (hN:Ns zs) (hy:Ns y)
  (h0:0<zs.length) (hn:zs.length<=64) (hyl:zs.length<=y.length) (hm:RepC Tryz.prog w (fun b=>b<w.heap.size) (.sl y.length (avs y)) (.slice (some ⟨bm,offm,none⟩) y.length capm) []) :
  Calls Tryz.prog 108 #[.slice (some ⟨b,off,none⟩) zs.length cap,.slice (some ⟨bm,offm,none⟩) y.length capm] w fun e W'=>∃ v os,e=.returned v/\Below w.heap.size w W' /\
   RepC Tryz.prog W' (fun _=>False) (.own 2 zs.length (avs (hoH y zs.length ((upto (bkF hN zs.length) zs.length).map (·.2.1))))) v os/\os.Nodup/\∀ b∈os,w.heap.size<=b/\b<W'.heap.size:=by
 refine (callsIn_wide (n:=9)).1 ?_
 refine callsIn_of_wp_marks Tryz.func108 rfl trivial ?_ rfl
 simp only [Tryz.ntmps108,List.size_toArray,List.length_cons,List.length_nil,Nat.reduceAdd,Nat.reduceSub,Array.replicate_succ,Array.replicate_zero,List.push_toArray,List.append_toArray,List.nil_append,List.cons_append]
 have bM:=Boxed.new w 25 (.slice (some ⟨bm,offm,none⟩) y.length capm)
 gi_wp2_with (refine ⟨trivial,?_⟩; gi_at_call 200; refine (zna Fence.wide _ trivial rfl _ _ _ _).mono ?_; rintro e w' ⟨rfl,rfl⟩)
 rw [zoA _ hn]
 gi_wp2_with (refine ⟨trivial,?_⟩; gi_at_call 200; refine (zna Fence.wide _ trivial rfl _ _ _ _).mono ?_; rintro e w' ⟨rfl,rfl⟩)
 generalize hX1:Obj.cells (Array.replicate zs.length (Value.int IntKind.i64 0)) 2=X1 at *
 have bS:=Boxed.new ((w.alloc (.cells #[.slice (some ⟨bm,offm,none⟩) y.length capm] 25)).alloc X1) 25 (.slice (some ⟨w.heap.size+1,0,none⟩) zs.length zs.length)
 have bN:=Boxed.new (((w.alloc (.cells #[.slice (some ⟨bm,offm,none⟩) y.length capm] 25)).alloc X1).alloc (.cells #[.slice (some ⟨w.heap.size+1,0,none⟩) zs.length zs.length] 25)) 25 (.slice (some ⟨b,off,none⟩) zs.length cap)
 have bM2:=((bM.alloc X1).alloc (.cells #[.slice (some ⟨w.heap.size+1,0,none⟩) zs.length zs.length] 25)).alloc (.cells #[.slice (some ⟨b,off,none⟩) zs.length cap] 25)
 have bS2:=bS.alloc (.cells #[.slice (some ⟨b,off,none⟩) zs.length cap] 25)
 have hR:((((w.alloc (.cells #[.slice (some ⟨bm,offm,none⟩) y.length capm] 25)).alloc X1).alloc (.cells #[.slice (some ⟨w.heap.size+1,0,none⟩) zs.length zs.length] 25)).alloc (.cells #[.slice (some ⟨b,off,none⟩) zs.length cap] 25)).heap[w.heap.size+1]?=some X1:=by
  have e1:=World.alloc_heap_new (w.alloc (.cells #[.slice (some ⟨bm,offm,none⟩) y.length capm] 25)) X1
  have e2:=(((Below.refl _ ((w.alloc (.cells #[.slice (some ⟨bm,offm,none⟩) y.length capm] 25)).alloc X1)).alloc (Nat.le_refl _) (.cells #[.slice (some ⟨w.heap.size+1,0,none⟩) zs.length zs.length] 25)).alloc (by simp) (.cells #[.slice (some ⟨b,off,none⟩) zs.length cap] 25)).block (w.heap.size+1) (by simp)
  rw [World.size_alloc] at e1
  exact e2.trans e1
 simp only [World.size_alloc] at bN bS bS2
 have hB0:Below w.heap.size w ((((w.alloc (.cells #[.slice (some ⟨bm,offm,none⟩) y.length capm] 25)).alloc X1).alloc (.cells #[.slice (some ⟨w.heap.size+1,0,none⟩) zs.length zs.length] 25)).alloc (.cells #[.slice (some ⟨b,off,none⟩) zs.length cap] 25)) :=
  ((((Below.refl _ w).alloc (Nat.le_refl _) _).alloc (by simp) _).alloc (by simp; omega) _).alloc (by simp; omega) _
 generalize hW4:((((w.alloc (.cells #[.slice (some ⟨bm,offm,none⟩) y.length capm] 25)).alloc X1).alloc (.cells #[.slice (some ⟨w.heap.size+1,0,none⟩) zs.length zs.length] 25)).alloc (.cells #[.slice (some ⟨b,off,none⟩) zs.length cap] 25))=W4 at *
 have hs4:W4.heap.size=w.heap.size+1+1+1+1:=by rw [<- hW4]; simp
 refine wpIn_rangeFunc_ownG (F:=Fence.wide) rfl (show 1<=9 by omega) (gf:=255) (lb:=#[.pointer (some ⟨w.heap.size+1+1+1,0,none⟩)]) rfl trivial (enters_of Tryz.func255 (by kernel_rfl) rfl)
  (zlR Fence.wide 8 trivial rfl (by omega) (w.heap.size+1+1+1) b off cap zs hN hreach _ (by omega) (by omega) bN.cell (fun j hj=>(hB0.cell (p:=⟨b,off+j,none⟩) hb).trans (hc j hj)))
  (fun h k=>h.trans k) (fun W l o o' _ hl ho _=>KpC.book W l o o' hl ho) (Below.refl _ _) (fun _=>rfl)
  (fun pre W=>hoV w.heap.size (w.heap.size+1+1) (.slice (some ⟨bm,offm,none⟩) y.length capm) w.heap.size zs.length (hoH y zs.length (pre.map (·.2.1))) W/\Below w.heap.size w W)
  (fun _ _ _=>False)
  (OwnFrom.and (Own.from (zsz _ _ _ _ _ _) _) (ownFrom_below (Nat.le_refl _) (by omega)))
  (fun _ _ _ _ _ hs _ _=>hs)
  ⟨⟨w.heap.size+1,zs.length,Array.replicate zs.length (.int .i64 0),bS2.cell,bS2.frozen,bM2.cell,by rw [hR,<- hX1],Nat.le_refl _,by simp,fun i hi=>by
   have hi':i<zs.length:=by simpa [hoH] using hi
   simp [hoH,hi'],by omega,by omega,by omega⟩,hB0⟩
  (fun x=>{ tmps:=#[.slice (some ⟨b,off,none⟩) zs.length cap,.slice (some ⟨bm,offm,none⟩) y.length capm,undef,.pointer (some ⟨w.heap.size,0,none⟩),.slice none 0 0,.pointer (some ⟨w.heap.size+1+1,0,none⟩),undef,.int .i64 x.2.1,.slice (some ⟨b,off,none⟩) zs.length cap,
   .int .i64 zs.length,.slice (some ⟨w.heap.size+1,0,none⟩) zs.length zs.length,.slice (some ⟨b,off,none⟩) zs.length cap,
   .func (.func 255) #[] #[.pointer (some ⟨w.heap.size+1+1+1,0,none⟩)],.int .i64 x.1,.int .i64 x.2.1,undef,undef,undef,undef,undef,undef,undef,undef,undef,undef,undef,undef],defers:=[] }) ?assign ?body ?done ?stop
 case assign =>
  intro l x W K hK
  gi_wp2
  exact hK
 case body =>
  rintro l pre ⟨xi,xa,hxa⟩ W ⟨⟨bb,cp,c,hcS,hfS,hcM,hhb,hn1,hn2,hv,hlo,hne1,hne0⟩,hB⟩ _
  have hsn:=zj9 y zs.length (pre.map (·.2.1)) xa
  obtain ⟨hL,hLN⟩:=znP y zs.length (pre.map (·.2.1))
  have hmap:(pre++[((xi,⟨xa,hxa⟩):BkT)]).map (·.2.1)=pre.map (·.2.1)++[xa]:=by simp
  rw [<- hmap] at hsn
  generalize hs:hoH y zs.length (pre.map (·.2.1))=L at *
  have cT:=zgs L y hLN hy (by omega) (by omega)
  rw [hL] at cT
  have tl:(mulS L y).length=zs.length:=(zkd L y).trans hL
  have tN:=zrV L y
  have hcT:hoT y L xa=(mulS L y).set 0 (((mulS L y)[0]?.getD 0+xa)%10007):=rfl
  rw [hcT] at hsn
  generalize mulS L y=T at *
  have lbb:bb<W.heap.size:=(Array.getElem?_eq_some_iff.1 hhb).1
  have hlt:w.heap.size+1+1<W.heap.size:=by
   obtain ⟨o,ho,_⟩:=cells_of_cell hcS
   exact (Array.getElem?_eq_some_iff.1 ho).1
  have hF:RepC Tryz.prog W (fun b=>b<W.heap.size) (.sl zs.length (avs L)) (.slice (some ⟨bb,0,none⟩) zs.length cp) []:=by
   have:=(zov (P:=Tryz.prog) (F:=fun _=>False) hhb hn1 (by rw [Tryz.cof2]; omega) hv).frz (F':=fun b=>b<W.heap.size) (fun _ h=>h.elim) (by simpa using lbb)
   rwa [frz,zgu] at this
  have hyW:RepC Tryz.prog W (fun b=>b<W.heap.size) (.sl y.length (avs y)) (.slice (some ⟨bm,offm,none⟩) y.length capm) []:=hm.mono (fun b h=>Nat.lt_of_lt_of_le h hB.size) (fun b hb=>hB.block b (by simpa using hb))
  gi_wp2_with (refine ⟨trivial,?_⟩; gi_at_call 201; refine (CallsIn.inRound l (callsIn_wide.2 (Con.ownV h0 cT _ [_,_] rfl (fun tm oss=>.cons _ _ [] _ _ [] (.cell _ _ _ hF) (.cons _ _ [] _ _ [] (.cell _ _ _ hyW) (.nil _)))))).mono ?_; rintro e w1 ⟨b1,cap1,c1,rfl,hbA,hh1,hc1n,hc1s,hv1,ho1⟩; have c1S:=(hbA.cell (p:=⟨w.heap.size+1+1,0,none⟩) hlt).trans hcS; have f1S:=(hbA.frozen (p:=⟨w.heap.size+1+1,0,none⟩) hlt).trans hfS)
  have hb1:b1<w1.heap.size:=(Array.getElem?_eq_some_iff.1 hh1).1
  have hT0:c1[0]?=some (.int .i64 (T[0]?.getD 0)):=hv1 0 (by omega)
  have t0N:isN (T[0]?.getD 0):=tN.get 0
  generalize T[0]?.getD 0=t0 at *
  have d1:=c1S
  have xa1:=hxa.1
  have xa2:=hxa.2
  have t01:=t0N.1
  have t02:=t0N.2
  have ww:IntKind.wrap .i64 (t0+xa)=t0+xa:=by rw [IntKind.wrap_i64]; omega
  have cN:Con Tryz.prog 81 [.int (t0+xa)] (.int ((t0+xa)%10007)):=zbF _ (by omega) (by omega)
  have q1:(w1.setCell ⟨w.heap.size+1+1,0,none⟩ (.slice (some ⟨b1,0,none⟩) zs.length cap1)).cell? ⟨w.heap.size+1+1,0,none⟩=some (.slice (some ⟨b1,0,none⟩) zs.length cap1):=World.cell?_setCell_same' _ _ _ (by rw [c1S]; rfl)
  have q2:(w1.setCell ⟨w.heap.size+1+1,0,none⟩ (.slice (some ⟨b1,0,none⟩) zs.length cap1)).cell? ⟨b1,0,none⟩=some (.int .i64 t0):=by
   rw [World.cell?_setCell_other (h:=fun e=>by injection e with e; omega)]
   simp [World.cell?,hh1,hT0]
  have q3:(w1.setCell ⟨w.heap.size+1+1,0,none⟩ (.slice (some ⟨b1,0,none⟩) zs.length cap1)).frozen? ⟨b1,0,none⟩=false:=by
   rw [World.frozen?_setCell]
   simp [World.frozen?,hh1]
  have q4:(w1.setCell ⟨w.heap.size+1+1,0,none⟩ (.slice (some ⟨b1,0,none⟩) zs.length cap1)).heap[b1]?=some (.cells c1 2 (0,0)):=(Below.heap_setCell _ _ _ _ (by show b1≠w.heap.size+1+1; omega)).trans hh1
  have q5:(w1.setCell ⟨w.heap.size+1+1,0,none⟩ (.slice (some ⟨b1,0,none⟩) zs.length cap1)).heap.size=w1.heap.size:=by simp
  have ko:KeepsOthers W w1:=⟨hbA.size,fun k o hk _=>(hbA.block k (Array.getElem?_eq_some_iff.1 hk).1).trans hk⟩
  generalize hW1:w1.setCell ⟨w.heap.size+1+1,0,none⟩ (.slice (some ⟨b1,0,none⟩) zs.length cap1)=W1 at *
  have q6:b1<W1.heap.size:=by omega
  have q7:w.heap.size+1+1<W1.heap.size:=by have:=hbA.size; omega
  gi_region_with (refine ⟨trivial,?_⟩; gi_at_call 81; refine (CallsIn.inRound l (callsIn_wide.2 (Con.int1 cN _))).mono ?_; rintro e w3 ⟨rfl,hb3⟩; have c3:=(hb3.cell (p:=⟨b1,0,none⟩) q6).trans q2; have f3:=(hb3.frozen (p:=⟨b1,0,none⟩) q6).trans q3; have h3:=(hb3.block b1 q6).trans q4; have c5:=(hb3.cell (p:=⟨w.heap.size+1+1,0,none⟩) q7).trans q1)
  all_goals gi_wp2
  all_goals
   have old:∀ (p:Addr) (v:Value),p≠⟨w.heap.size+1+1,0,none⟩->W.cell? p=some v->(w3.setCell ⟨b1,0,none⟩ (.int .i64 ((t0+xa)%10007))).cell? p=some v:=fun p v hp hv=>by
    obtain ⟨o,ho,_⟩:=cells_of_cell hv
    have lp:=(Array.getElem?_eq_some_iff.1 ho).1
    rw [World.cell?_setCell_other (h:=fun e=>by rw [<- e] at lp; simp at lp; omega)]
    have k2:W1.cell? p=some v:=by rw [<- hW1,World.cell?_setCell_other (h:=Ne.symm hp)]; exact (hbA.cell lp).trans hv
    exact (hb3.cell (p:=p) (by show p.block<W1.heap.size; have:=hbA.size; omega)).trans k2
   have ko1:KeepsOthers W W1:=by rw [<- hW1]; exact ko.trans (KeepsOthers.setCell _ _ _)
   have ko3:KeepsOthers W1 w3:=⟨hb3.size,fun k o hk _=>(hb3.block k (Array.getElem?_eq_some_iff.1 hk).1).trans hk⟩
   have hBf:Below w.heap.size w (w3.setCell ⟨b1,0,none⟩ (.int .i64 ((t0+xa)%10007))):=by
    have k1:Below w.heap.size w W1:=by rw [<- hW1]; exact (hB.trans (hbA.mono hB.size)).setCell (by show w.heap.size<=w.heap.size+1+1; omega) _
    exact (k1.drew.trans (hb3.mono k1.size)).setCell (by show w.heap.size<=b1; omega) _
   have h4:(w3.setCell ⟨b1,0,none⟩ (.int .i64 ((t0+xa)%10007))).heap[b1]?=some (.cells (c1.setIfInBounds 0 (.int .i64 ((t0+xa)%10007))) 2 (0,0)):=by
    simp [World.setCell,Array.getElem?_modify,h3]
   refine ⟨((ko1.trans ko3).trans (KeepsOthers.setCell _ _ _)).from _,⟨fun v hv=>old _ v (fun e=>by injection e with e; omega) hv,fun j v hv=>old _ v (fun e=>by injection e with e; omega) hv⟩,
    ⟨b1,cap1,c1.setIfInBounds 0 (.int .i64 ((t0+xa)%10007)),?_,?_,old _ _ (fun e=>by injection e with e; omega) hcM,h4,hc1n,by rw [Tryz.cof2] at hc1s; simp; omega,fun i hi=>?_,by omega,by omega,by omega⟩,hBf⟩
   .rw [World.cell?_setCell_other (h:=fun e=>by injection e with e; omega)]; exact c5
   .rw [World.frozen?_setCell]
    refine (hb3.frozen (p:=⟨w.heap.size+1+1,0,none⟩) q7).trans ?_
    show W1.frozen? _=false
    rw [<- hW1,World.frozen?_setCell]; exact f1S
   .rw [hsn] at hi |-
    rw [List.length_set] at hi
    rw [Array.getElem?_setIfInBounds,List.getElem?_set]
    by_cases e:0=i
    .subst e
     have:0<c1.size:=(Array.getElem?_eq_some_iff.1 hT0).1
     simp [this,hi]
    .rw [if_neg e,if_neg e]; exact hv1 i hi
 case done =>
  rintro D ys W hD rfl ⟨⟨bb,cp,c,hcS,hfS,hcM,hhb,hn1,hn2,hv,hlo,hne1,hne0⟩,hB⟩ hK
  gi_wp2
  refine ⟨by simp,.inl ⟨_,_,rfl,run_takeDeferred hK,?_⟩⟩
  refine ⟨_,results_tmp rfl _ _ _,⟨_,[bb],rfl,hB.trans (belowK_b (w:=w) (Nat.le_refl _) W D _ _ (by omega) hK rfl rfl),?_,by simp,?_⟩⟩
  .refine zov (c:=c) ?_ hn1 (by rw [Tryz.cof2]; omega) hv
   exact (grownBy_keeps_cells (grownBy_putObj' W D _) (fun r e=>by cases e; exact ⟨_,hK,rfl⟩) hhb rfl).trans hhb
  .intro x hx
   have:x=bb:=by simpa using hx
   subst this
   have:=(Array.getElem?_eq_some_iff.1 hhb).1
   exact ⟨hlo,by simpa using this⟩
 case stop =>
  rintro D c pre W _ _ h _
  exact h.elim
theorem zfj (zs y:List Int) (h1:1<=zs.length) (h2:zs.length<=64) (hN:Ns zs) (hy:Ns y) (hyl:zs.length<=y.length) :
  Con Tryz.prog 108 [.sl zs.length (avs zs),.sl y.length (avs y)] (.own 2 zs.length (avs (hoH y zs.length zs.reverse))):=by
 refine ⟨⟨_,Tryz.func108,by decide,rfl⟩,fun w vs hl ha=>?_⟩
 have k:=ha (fun _=>undef) (fun _=>[])
 generalize hoz:([]:List Nat)=oz at k
 cases k with
 | cons c v o cs vs os hc ht =>
  cases ht with
  | cons c2 v2 o2 cs2 vs2 os2 hc2 ht2 =>
   have e2:vs2=[]:=by simpa using hl
   subst e2
   have hm:RepC Tryz.prog w (fun b=>b<w.heap.size) (.sl y.length (avs y)) v2 []:=by
    have:o2=[]:=by
     have:=congrArg List.length hoz
     simp at this
     exact List.length_eq_zero_iff.1 (by omega)
    subst this
    cases hc2 with
    | cell _ _ _ h=>exact h
   have hm':=hm
   generalize hmn:y.length=mn at hm
   generalize hmm:avs y=mm at hm
   cases hm with
   | sl0 base cap=>omega
   | sl bm offm _ capm ccm em frm csm hFm hbm hlrm hnm =>
    subst hmn; subst hmm
    generalize hn':zs.length=l at hc
    generalize hcs:avs zs=ac at hc
    cases hc with
    | cell _ _ _ hc =>
     cases hc with
     | sl0 base cap=>omega
     | sl b off _ cap cc e fr cs hF hb hlr hn2 =>
      subst hn'; subst hcs
      have cells:∀ j,j<zs.length->w.cell? ⟨b,off+j,none⟩=some (.int .i64 (zs[j]?.getD 0)):=fun j hj=>by
       have:=zgX hlr j hj
       rw [List.getElem?_drop,Array.getElem?_toList] at this
       simp [World.cell?,hb,this]
      refine (zc5 zs y b off cap bm offm capm w (by omega) hF cells hN hy h1 h2 hyl hm').mono ?_
      rintro e w' ⟨v,os,rfl,hB,hr,hnd,ho⟩
      rw [znS] at hr
      exact ⟨_,os,rfl,⟨hB.os,hB.tape,hB.output,hB.size,hB.block,by rw [show dK=0 from rfl]; omega⟩,fun tm oss=>.cell _ _ _ (hr.mono (fun _ h=>h.elim) (fun _ _=>rfl)),hnd,ho⟩
theorem zeS (zs y:List Int) (h1:1<=zs.length) (h2:zs.length<=16) (hN:Ns zs) (hy:Ns y) (hl:y.length=zs.length) (h0:y[0]?.getD 0=0) :
  Con Tryz.prog 33 [.sl zs.length (avs zs),.sl y.length (avs y)] (.tup [.own 2 zs.length (avs (hoH y zs.length zs.reverse)),.int 0]):=by
 have cC:=zfE zs y hN hy hl h1 h2
 have cD:=zfj zs y h1 (by omega) hN hy (by omega)
 have hb0:0<y.length:=by omega
 have db:=zaj hb0
 rw [List.getD_eq_getElem?_getD,h0,List.drop_zero,Nat.zero_add,List.drop_one] at db
 generalize hoH y zs.length zs.reverse=X at *
 refine zab Tryz.mixed ⟨7,[],[],[]⟩ Tryz.func33 ?_
 rw [Tryz.ntmps33]
 simp [go_sem]
 refine CallVC.of (cC) ?_
 simp [go_sem,db]
 rw [db] at cD
 refine ⟨by omega,?_⟩
 refine CallVC.of (cD) ?_
 simp [go_sem]
end Go.Proofs.YthhdollpkieknaaGreat


namespace Go.Proofs.YthhdollpkieknaaGreat
open Go.Abs
theorem memD {α:Type} {l:List α} {i:Nat} (d:α) (h:i<l.length):l[i]?.getD d∈l:=by simp [h]
theorem WOk.prod {n:Nat} {B C:Int} {a b:Mon} (ha:WOk n B a) (hb:WOk n C b):WOk n (B+C) (a.1*b.1%10007,addE a.2 b.2):=by
 have h1:=ha.len
 have h2:=hb.len
 refine ⟨zak _,by simp [addE]; omega,fun x hx=>?_⟩
 obtain ⟨i,hi,rfl⟩:=List.getElem_of_mem hx
 unfold addE at hi |-
 simp at hi |-
 have p1:=ha.pw _ (List.getElem_mem (show i<a.2.length by omega))
 have p2:=hb.pw _ (List.getElem_mem (show i<b.2.length by omega))
 omega
theorem ze3 {n:Nat} {B C:Int} {a:Mon} (ha:WOk n B a):∀ (q acc:List Mon),(∀ m∈q,WOk n C m)->(∀ m∈acc,WOk n (B+C) m)->∀ m∈zdJ a acc q,WOk n (B+C) m
 | [],_,_,h=>h
 | b::q,acc,hq,h=>ze3 ha q _ (fun m hm=>hq m (by simp [hm])) (zdf (ha.prod (hq b (by simp))) acc _ h)
theorem zf1 {n:Nat} {B C:Int} {q:List Mon} (hq:∀ m∈q,WOk n C m):∀ (p acc:List Mon),(∀ m∈p,WOk n B m)->(∀ m∈acc,WOk n (B+C) m)->∀ m∈zfP acc q p,WOk n (B+C) m
 | [],_,_,h=>h
 | a::p,acc,hp,h=>zf1 hq p _ (fun m hm=>hp m (by simp [hm])) (ze3 (hp a (by simp)) q acc hq h)
theorem zhz {n:Nat} {B k:Int}:∀ (q p:List Mon),(∀ m∈q,WOk n B m)->(∀ m∈p,WOk n B m)->∀ m∈zlg p k q,WOk n B m
 | [],p,_,hp=>hp
 | m::q,p,hq,hp=>zhz q _ (fun a ha=>hq a (by simp [ha])) (zdf ⟨zak _,(hq m (by simp)).len,(hq m (by simp)).pw⟩ p _ hp)
def oneE (n k:Nat):List Int:=(List.replicate n 0).set k 1
@[simp] theorem zvF (n k:Nat):(oneE n k).length=n:=by simp [oneE]
theorem zgR {n k:Nat}:WOk n 1 (1,oneE n k):=by
 refine ⟨⟨by omega,by omega⟩,by simp,fun x hx=>?_⟩
 rcases List.mem_or_eq_of_mem_set hx with hx | rfl
 .obtain ⟨_,rfl⟩:=List.mem_replicate.1 hx
  omega
 .omega
theorem zn7 {n:Nat} {B C:Int} {p q:List Mon} (hp:∀ m∈p,WOk n B m) (hq:∀ m∈q,WOk n C m):∀ m∈zpX p q,WOk n (B+C) m:=zf1 hq p [] hp (by simp)
end Go.Proofs.YthhdollpkieknaaGreat


namespace Go.Proofs.YthhdollpkieknaaGreat
open Go.Abs
def cfT (T:List (Key × Int)) (k:Key):Int:=coef Prod.fst Prod.snd T k
def mapT (T:List (Key × Int)):Key->Option Int:=fun k=>if hasK T k=true then some (cfT T k%10007) else none
theorem ztV (a b:List (Key × Int)) (k:Key):cfT (a++b) k=cfT a k+cfT b k:=zkM _ a b
theorem zpL {T:List (Key × Int)} {k:Key} (h:hasK T k=false):cfT T k=0:=by
 unfold cfT coef
 refine zaS (fun e he=>if_neg (fun e1=>?_))
 rw [zcH.2 ⟨e,he,e1.symm⟩] at h
 simp at h
theorem zpn (T:List (Key × Int)) (k:Key):(mapT T k).getD 0=cfT T k%10007:=by
 unfold mapT
 cases h:hasK T k with
 | true=>simp
 | false=>simp [zpL h]
def addK (a b:Key):Key:=(a.1+b.1,a.2.1+b.2.1,a.2.2+b.2.2)
def prE (e:Key × Int) (E:List (Key × Int)):List (Key × Int):=E.map fun d=>(addK e.1 d.1,e.2*d.2)
def prT (D E:List (Key × Int)):List (Key × Int):=D.flatMap fun e=>prE e E
theorem zrn (e:Key × Int) (D E:List (Key × Int)):prT (e::D) E=prE e E++prT D E:=rfl
end Go.Proofs.YthhdollpkieknaaGreat


namespace Go.Proofs.YthhdollpkieknaaGreat
open Go.Abs
theorem zme:∀ {a b:List Int},a.length=b.length->a≠b->ltL a b=false->ltL b a=true
 | [],[],_,h,_=>absurd rfl h
 | x::a,y::b,hl,h,h2=>by
  simp only [ltL] at h2 |-
  by_cases e:x=y
  .subst e
   simp only [if_true] at h2 |-
   exact zme (by simpa using hl) (fun e=>h (by rw [e])) h2
  .rw [if_neg e] at h2
   rw [if_neg (fun x=>e x.symm)]
   simp at h2 |-
   omega
def Srt (L:List Mon):Prop:=L.Pairwise (fun a b=>ltL a.2 b.2=true)
def Nzl (L:List Mon):Prop:=∀ m∈L,1<=m.1/\m.1<=10006
theorem zdX {c:Int} {e:List Int}:∀ (l:List Mon) (done:Bool),∀ x∈zaL c e l done,(∃ m∈l,x.2=m.2)\/(done=false/\x.2=e)
 | [],true,x,hx=>by simp [zaL] at hx
 | [],false,x,hx=>by simp [zaL] at hx; rw [hx]; exact .inr ⟨rfl,rfl⟩
 | a::l,done,x,hx=>by
  have one:∀ b:Mon,b.2=a.2->x∈(if b.1=0 then [] else [b])->(∃ m∈a::l,x.2=m.2)\/(done=false/\x.2=e):=fun b hb hxx=>by
   split at hxx
   .simp at hxx
   .simp at hxx; exact .inl ⟨a,by simp,by rw [hxx,hb]⟩
  have tl:∀ d,(d=true\/d=done)->x∈zaL c e l d->(∃ m∈a::l,x.2=m.2)\/(done=false/\x.2=e):=fun d hd hxx=>by
   rcases zdX l d x hxx with ⟨m,hm,hk⟩ | ⟨h1,h2⟩
   .exact .inl ⟨m,by simp [hm],hk⟩
   .rcases hd with rfl | rfl
    .simp at h1
    .exact .inr ⟨h1,h2⟩
  rw [zaL] at hx
  split at hx
  .rcases List.mem_append.1 hx with hx | hx
   .exact one ((a.1+c)%10007,a.2) rfl hx
   .exact tl true (.inl rfl) hx
  .split at hx
   .rename_i h
    rcases List.mem_cons.1 hx with hx | hx
    .exact .inr ⟨h.1,by rw [hx]⟩
    .rcases List.mem_append.1 hx with hx | hx
     .exact one a rfl hx
     .exact tl true (.inl rfl) hx
   .rcases List.mem_append.1 hx with hx | hx
    .exact one a rfl hx
    .exact tl done (.inr rfl) hx
theorem zh7 {n:Nat} {c:Int} {e:List Int} (he:e.length=n):∀ (l:List Mon) (done:Bool),(∀ m∈l,m.2.length=n)->Srt l->Srt (zaL c e l done)
 | [],true,_,_=>by simp [zaL,Srt]
 | [],false,_,_=>by simp [zaL,Srt]
 | a::l,done,hl,hs=>by
  obtain ⟨h1,h2⟩:=List.pairwise_cons.1 hs
  have ih:=fun d=>zh7 (c:=c) he l d (fun m hm=>hl m (by simp [hm])) h2
  have cons:∀ (b:Mon) (d:Bool),b.2=a.2->(d=true\/ltL a.2 e=true)->Srt ((if b.1=0 then [] else [b])++zaL c e l d):=fun b d hb hd=>by
   split
   .exact ih d
   .refine List.pairwise_cons.2 ⟨fun x hx=>?_,ih d⟩
    rw [hb]
    rcases zdX l d x hx with ⟨m,hm,hk⟩ | ⟨h3,h4⟩
    .rw [hk]; exact h1 m hm
    .rw [h4]
     rcases hd with rfl | hd
     .simp at h3
     .exact hd
  rw [zaL]
  split
  .exact cons ((a.1+c)%10007,a.2) true rfl (.inl rfl)
  .rename_i n1
   split
   .rename_i h
    refine List.pairwise_cons.2 ⟨fun x hx=>?_,cons a true rfl (.inl rfl)⟩
    have key:(∃ m∈a::l,x.2=m.2):=by
     rcases List.mem_append.1 hx with hx | hx
     .split at hx
      .simp at hx
      .simp at hx; exact ⟨a,by simp,by rw [hx]⟩
     .rcases zdX l true x hx with ⟨m,hm,hk⟩ | ⟨h3,_⟩
      .exact ⟨m,by simp [hm],hk⟩
      .simp at h3
    obtain ⟨m,hm,hk⟩:=key
    show ltL e x.2=true
    rw [hk]
    rcases List.mem_cons.1 hm with rfl | hm
    .exact h.2
    .exact zaU h.2 (h1 m hm)
   .rename_i n2
    cases done with
    | true=>exact cons a true rfl (.inl rfl)
    | false =>
     have ne:a.2≠e:=fun x=>n1 ⟨rfl,x⟩
     have nl:ltL e a.2=false:=by
      cases hb:ltL e a.2 with
      | false=>rfl
      | true=>exact absurd ⟨rfl,hb⟩ n2
     exact cons a false rfl (.inr (zme (by rw [he,hl a (by simp)]) (fun x=>ne x.symm) nl))
theorem zg1 {c:Int} {e:List Int} (hc:1<=c/\c<=10006):∀ (l:List Mon) (done:Bool),Nzl l->Nzl (zaL c e l done)
 | [],true,_=>by simp [zaL,Nzl]
 | [],false,_=>by intro m hm; simp [zaL] at hm; rw [hm]; exact hc
 | a::l,done,hl=>by
  have ha:=hl a (by simp)
  have ih:=fun d=>zg1 (e:=e) hc l d (fun m hm=>hl m (by simp [hm]))
  have one:∀ b:Mon,(b.1=0\/1<=b.1/\b.1<=10006)->∀ L,Nzl L->Nzl ((if b.1=0 then [] else [b])++L):=fun b hb L hL m hm=>by
   rcases List.mem_append.1 hm with hm | hm
   .split at hm
    .simp at hm
    .rename_i h; simp at hm; rw [hm]; rcases hb with hb | hb; exact absurd hb h; exact hb
   .exact hL m hm
  rw [zaL]
  split
  .exact one ((a.1+c)%10007,a.2) (by simp only; omega) _ (ih true)
  .split
   .intro m hm
    rcases List.mem_cons.1 hm with rfl | hm
    .exact hc
    .exact one a (.inr ha) _ (ih true) m hm
   .exact one a (.inr ha) _ (ih done)
theorem zgh {c c':Int} {e:List Int}:∀ l:List Mon,zaL c e l true=zaL c' e l true
 | []=>rfl
 | a::l=>by rw [zjE,zjE,zgh l]
theorem zt2 {L:List Mon} {c:Int} {e:List Int} (hc:isN c) (hL:Nzl L):Nzl (putL L c e):=by
 unfold putL
 by_cases h:c=0
 .rw [decide_eq_true h,zgh (c':=1)]
  exact zg1 ⟨by omega,by omega⟩ L true hL
 .exact zg1 ⟨by have:=hc.1; omega,by have:=hc.2; omega⟩ L _ hL
theorem znu {n:Nat} (hn:n<=3):∀ {L:List Mon},(∀ m∈L,m.2.length=n)->Srt L->∀ m∈L,cfL L (zah m.2)=m.1
 | a::L,hl,hs,m,hm=>by
  obtain ⟨h1,h2⟩:=List.pairwise_cons.1 hs
  have ne:∀ b∈L,zah a.2≠zah b.2:=fun b hb e=>by
   have:=zeG (by rw [hl a (by simp),hl b (by simp [hb])]) (by rw [hl a (by simp)]; exact hn) e
   have h3:=h1 b hb
   rw [this,zb7] at h3
   simp at h3
  rw [zbu]
  rcases List.mem_cons.1 hm with rfl | hm
  .rw [if_pos rfl]
   have:cfL L (zah m.2)=0:=by
    unfold cfL coef
    exact zaS (fun b hb=>if_neg (ne b hb))
   rw [this]; omega
  .rw [if_neg (fun e=>ne m hm e.symm),znu hn (fun b hb=>hl b (by simp [hb])) h2 m hm]; omega
theorem zk0 (k:Int) (K:Key):∀ (q p:List Mon),cfL (zlg p k q) K%10007=(cfL p K+k*cfL q K)%10007
 | [],p=>by simp [zlg,cfL,coef,sumI]
 | m::q,p=>by
  rw [zlg,zk0 k K q,zbu,Int.add_emod,zg9,Int.mul_add]
  by_cases h:K=zah m.2
  .simp only [h,if_true]; omega
  .simp only [h,if_false]; omega
def pcf (p q:List Mon) (K:Key):Int:=sumI (fun a=>sumI (fun b=>if K=zah (addE a.2 b.2) then a.1*b.1 else 0) q) p
theorem zf6 (a:Mon) (K:Key):∀ (q acc:List Mon),cfL (zdJ a acc q) K%10007=(cfL acc K+sumI (fun b=>if K=zah (addE a.2 b.2) then a.1*b.1 else 0) q)%10007
 | [],acc=>by simp [zdJ,sumI]
 | b::q,acc=>by
  rw [zdJ,zf6 a K q,Int.add_emod,zg9]
  simp only [sumI]
  by_cases h:K=zah (addE a.2 b.2)
  .simp only [h,if_true]; omega
  .simp only [h,if_false]; omega
theorem zit (q:List Mon) (K:Key):∀ (p acc:List Mon),cfL (zfP acc q p) K%10007=(cfL acc K+pcf p q K)%10007
 | [],acc=>by simp [zfP,pcf,sumI]
 | a::p,acc=>by
  rw [zfP,zit q K p,Int.add_emod,zf6]
  simp only [pcf,sumI]
  omega
theorem zpN (p q:List Mon) (K:Key):cfL (zpX p q) K%10007=pcf p q K%10007:=by
 unfold zpX
 rw [zit]; simp [cfL,coef,sumI]
theorem zne {a b:List Int} (hl:a.length=b.length) (h3:a.length<=3):zah (addE a b)=addK (zah a) (zah b):=by
 match a,b,hl,h3 with
 | [],[],_,_=>rfl
 | [x],[y],_,_=>simp [zah,addE,addK]
 | [x,x'],[y,y'],_,_=>simp [zah,addE,addK]
 | [x,x',x''],[y,y',y''],_,_=>simp [zah,addE,addK]
theorem zo1 (e:Key × Int) (K:Key):∀ E:List (Key × Int),cfT (prE e E) K=sumI (fun d=>if K=addK e.1 d.1 then e.2*d.2 else 0) E
 | []=>rfl
 | d::E=>by
  show cfT ((addK e.1 d.1,e.2*d.2)::prE e E) K=_
  simp only [sumI,<- zo1 e K E]; rfl
theorem zm5 (K:Key) (E:List (Key × Int)):∀ D:List (Key × Int),cfT (prT D E) K=sumI (fun e=>sumI (fun d=>if K=addK e.1 d.1 then e.2*d.2 else 0) E) D
 | []=>rfl
 | e::D=>by
  rw [zrn,ztV,zo1,zm5 K E D]; rfl
end Go.Proofs.YthhdollpkieknaaGreat


namespace Go.Proofs.YthhdollpkieknaaGreat
open Go.Abs Go.Shelf Go.Sort
theorem zfh:∀ {a b:List Int},a≠b->ltL a b=false->ltL b a=true
 | [],[],h,_=>absurd rfl h
 | [],y::b,_,h=>by simp [ltL] at h
 | x::a,[],_,_=>by simp [ltL]
 | x::a,y::b,h,h2=>by
  simp only [ltL] at h2 |-
  by_cases e:x=y
  .subst e
   simp only [if_true] at h2 |-
   exact zfh (fun e=>h (by rw [e])) h2
  .rw [if_neg e] at h2
   rw [if_neg (fun x=>e x.symm)]
   simp at h2 |-
   omega
theorem zbO (a b:List Int):decide (cmpL a b<0)=ltL a b:=by
 have h:=zjA a b
 cases hl:ltL a b <;> rw [hl] at h <;> simp at h |- <;> omega
theorem zsL:SWO (Go.Proofs.ltOf fun m n:Mon=>cmpL m.2 n.2):=by
 have e:(Go.Proofs.ltOf fun m n:Mon=>cmpL m.2 n.2)=fun m n=>ltL m.2 n.2:=by
  funext m n; exact zbO _ _
 rw [e]
 refine ⟨fun m=>zb7 _,fun _ _ _=>zaU,fun x y z h1 h2=>?_⟩
 cases h3:ltL x.2 z.2 with
 | false=>rfl
 | true =>
  by_cases e:x.2=y.2
  .rw [<- e,h3] at h2; exact h2
  .have:=zaU (zfh e h1) h3
   rw [this] at h2; exact h2
theorem zn9:∀ {L:List Mon},Srt L->∀ a∈L,∀ b∈L,a=b\/ltL a.2 b.2=true\/ltL b.2 a.2=true
 | [],_,a,ha,_,_=>by simp at ha
 | m::L,h,a,ha,b,hb=>by
  obtain ⟨h1,h2⟩:=List.pairwise_cons.1 h
  rcases List.mem_cons.1 ha with ha2 | ha2
  .rcases List.mem_cons.1 hb with hb2 | hb2
   .exact .inl (ha2.trans hb2.symm)
   .exact .inr (.inl (by rw [ha2]; exact h1 b hb2))
  .rcases List.mem_cons.1 hb with hb2 | hb2
   .exact .inr (.inr (by rw [hb2]; exact h1 a ha2))
   .exact zn9 h2 a ha2 b hb2
theorem zsN [DrawK] (m n:Mon) (hm:m.2.length<=1000) (hn:n.2.length<=1000) :
  Con Tryz.prog 257 [.agg [.int m.1,.sl m.2.length (avs m.2)],.agg [.int n.1,.sl n.2.length (avs n.2)]] (.int (cmpL m.2 n.2)):=by
 refine zab Tryz.mixed ⟨5,[],[],[]⟩ Tryz.func257 ?_
 rw [Tryz.ntmps257]
 simp [go_sem]
 refine CallVC.of (zdo m.2 n.2 (by omega) (by omega)) ?_
 simp [go_sem]
theorem zjl {ys L:List Mon} (hp:ys.Perm L) (hS:Srt L) (hy:ys.Pairwise (fun x y=>¬ cmpL y.2 x.2<0)):ys=L:=by
 have hy':ys.Pairwise (fun x y=>ltL y.2 x.2=false):=hy.imp (fun {a b} h=>by
  have:=zbO b.2 a.2
  rw [<- this]; simpa using h)
 have hL':L.Pairwise (fun x y=>ltL y.2 x.2=false):=hS.imp (fun {a b} h=>by
  cases h2:ltL b.2 a.2 with
  | false=>rfl
  | true=>have:=zaU h h2; rw [zb7] at this; simp at this)
 refine hp.eq_of_pairwise (fun a b ha hb h1 h2=>?_) hy' hL'
 rcases zn9 hS a (hp.mem_iff.1 ha) b hb with h | h | h
 .exact h
 .rw [h2] at h; simp at h
 .rw [h1] at h; simp at h
theorem zoC (X L:List Mon) (hX:X.Perm L) (hS:Srt L) (hl:∀ m∈L,m.2.length<=1000) (hn:L.length<=1048576) :
  MCon Tryz.prog 256 [.own 62 X.length (zb3 X),.val (.func (.func 257) #[] #[])] (.tup []) [.own 62 X.length (zb3 L),.any]:=by
 have hxl:=hX.length_eq
 have hm:∀ m∈X,m.2.length<=1000:=fun m hm=>hl m (hX.mem_iff.1 hm)
 obtain ⟨ys,h1,h2,h3⟩:=zhO Tryz.sortMon 2 Tryz.isAgg62 Tryz.sizeOf62 ⟨_,Tryz.func256,by decide,rfl⟩ (fun m:Mon=>[.int m.1,.own 2 m.2.length (avs m.2)]) (fun m n=>cmpL m.2 n.2) zsL 257 62 (by kernel_rfl) X (fun _ _=>rfl) (ze6 X)
  (fun x hx y hy=>by simpa [frzL,frz] using @zsN ⟨1⟩ x y (hm x hx) (hm y hy)) (by omega)
 have e:ys=L:=zjl (h1.trans hX) hS h2
 subst e
 exact h3
theorem zwE {P:Program} {f:FuncId} {n m:Nat} {cs:List AV} {r:AV} (h:Con P f [.sl n (cs.take m)] r):Con P f [.sl n cs] r:=by
 refine ⟨h.1,fun w vs hl hr=>h.2 w vs (by simpa using hl) fun tm oss=>?_⟩
 have h1:=hr tm oss
 obtain ⟨v,rfl⟩:=List.length_eq_one_iff.1 hl.symm
 generalize ho:([]:List Nat)=os at h1
 cases h1 with
 | cons _ _ o1 _ _ o2 h2 h3 =>
  cases h3
  have e:o1=[]:=by simpa using ho.symm
  subst e
  refine .cons _ _ [] _ _ [] ?_ (.nil _)
  cases h2 with
  | cell _ _ _ hc =>
   refine .cell _ _ _ ?_
   cases hc with
   | sl0 base cap=>simpa using RepC.sl0 base cap
   | sl b off _ cap c e fr _ hF hb hL hn=>exact .sl b off _ cap c e fr _ hF hb (hL.pref m) hn
theorem zpV (k:List Int) (n:Nat) (hn:n<=k.length) (hl:k.length<=1048576):Con Tryz.prog 239 [.sl n (avs k)] (.own 2 n (avs (k.take n))):=by
 have h:=zjq (k.take n) (by simp; omega)
 have e:(k.take n).length=n:=by simp [hn]
 have e2:avs (k.take n)=(avs k).take n:=by simp [avs,List.map_take]
 rw [e,e2] at h
 rw [e2]
 exact zwE h
def ze2 (n:Nat) (es:List (Key × Int)):List Mon:=(es.filter fun e=>decide (e.2≠0)).map fun e=>(e.2,[e.1.1,e.1.2.1,e.1.2.2].take n)
theorem zeP (n:Nat) (l1 l2:List (Key × Int)) (e:Key × Int):(ze2 n (l1++e::l2)).Perm (if e.2=0 then ze2 n (l1++l2) else (e.2,[e.1.1,e.1.2.1,e.1.2.2].take n)::ze2 n (l1++l2)):=by
 unfold ze2
 by_cases h:e.2=0
 .simp [h]
 .rw [if_neg h]
  have e1:decide (e.2≠0)=true:=by simp [h]
  rw [List.filter_append,List.filter_cons,e1,if_pos rfl,List.filter_append,List.map_append,List.map_append,List.map_cons]
  exact List.perm_middle
theorem zfQ {m:Mon} {n:Nat} (hm:m.2.length=n) (hn:n<=3):[(zah m.2).1,(zah m.2).2.1,(zah m.2).2.2].take n=m.2:=by
 obtain ⟨a,e⟩:=m
 subst hm
 rcases e with _ | ⟨a,_ | ⟨b,_ | ⟨c,_ | ⟨d,e⟩⟩⟩⟩
 all_goals first | rfl | (simp at hn)
theorem zl2 {c:Key->Option Int} {n:Nat} {L:List Mon} (hn:n<=3) (hS:Srt L) (hL:∀ k a,(c k=some a/\a≠0) ↔ (k,a)∈L.map keyM) (hl:∀ m∈L,m.2.length=n) {es:List (Key × Int)} (he:Enum c es):(ze2 n es).Perm L:=by
 have hmem:∀ k a,(k,a)∈es ↔ c k=some a:=fun k a=>⟨fun h=>he.val _ h,fun h=>by
  by_cases hx:∃ p∈es,p.1=k
  .obtain ⟨p,hp,rfl⟩:=hx
   have:=he.val p hp
   rw [h] at this
   injection this with this
   subst this
   exact hp
  .have:=he.out k (fun p hp e=>hx ⟨p,hp,e⟩)
   rw [h] at this; simp at this⟩
 have hin:∀ e∈es,e.2≠0->∃ m∈L,keyM m=e:=fun e he h0=>by
  have:=(hL e.1 e.2).1 ⟨(hmem _ _).1 he,h0⟩
  obtain ⟨m,hm,h⟩:=List.mem_map.1 this
  exact ⟨m,hm,h⟩
 have hmono:∀ e∈es,e.2≠0->∃ m∈L,keyM m=e/\(e.2,[e.1.1,e.1.2.1,e.1.2.2].take n)=m:=fun e he h0=>by
  obtain ⟨m,hm,rfl⟩:=hin e he h0
  refine ⟨m,hm,rfl,?_⟩
  show (m.1,[(zah m.2).1,(zah m.2).2.1,(zah m.2).2.2].take n)=m
  rw [zfQ (hl m hm) hn]
 have hLn:L.Nodup:=hS.imp (fun {a b} h e=>by rw [e,zb7] at h; simp at h)
 refine (List.perm_ext_iff_of_nodup ?_ hLn).2 fun m=>?_
 .unfold ze2
  rw [List.nodup_iff_pairwise_ne,List.pairwise_map,List.pairwise_filter]
  refine List.Pairwise.imp_of_mem (fun {a b} ha hb h h1 h2 e=>?_) he.nd
  simp at h1 h2
  obtain ⟨m1,_,g1,g2⟩:=hmono a ha h1
  obtain ⟨m2,_,g3,g4⟩:=hmono b hb h2
  rw [g2,g4] at e
  rw [<- g1,<- g3,e] at h
  exact h rfl
 .unfold ze2
  rw [List.mem_map]
  constructor
  .rintro ⟨e,h1,rfl⟩
   obtain ⟨h1,h2⟩:=List.mem_filter.1 h1
   obtain ⟨m,hm,_,h⟩:=hmono e h1 (by simpa using h2)
   rw [h]; exact hm
  .intro hm
   have h1:=(hL (zah m.2) m.1).2 (List.mem_map.2 ⟨m,hm,rfl⟩)
   refine ⟨(zah m.2,m.1),List.mem_filter.2 ⟨(hmem _ _).2 h1.1,by simpa using h1.2⟩,?_⟩
   show (m.1,[(zah m.2).1,(zah m.2).2.1,(zah m.2).2.2].take n)=m
   rw [zfQ (hl m hm) hn]
theorem zuj (c:Key->Option Int) (n:Nat) (L:List Mon) (h1n:1<=n) (hn:n<=3) (hS:Srt L) (hL:∀ k a,(c k=some a/\a≠0) ↔ (k,a)∈L.map keyM) (hl:∀ m∈L,m.2.length=n) (hLl:L.length<=1048576) :
  Con Tryz.prog 202 [.fmp c,.int n] (.own 62 L.length (zb3 L)):=by
 refine zab Tryz.mixed ⟨8,[],[256],[]⟩ Tryz.func202 ?_
 rw [Tryz.ntmps202]
 simp [go_sem]
 intro es hes
 have hp:=zl2 hn hS hL hl hes
 refine zac (5::6::7::List.range' 10 16) (fun x:List Mon × Option (Key × Int) × List (Key × Int)=>[(5,.own 62 x.1.length (zb3 x.1)),(10,.it x.2.1 x.2.2)]) (fun x=>(x.1++ze2 n x.2.2).Perm L) (fun x=>x.2.2.length) ([],none,es) (by simpa using hp) (by simp [go_sem]) (by simp [go_sem]) ?_
 rintro ⟨X,l,rem⟩ hX
 simp only at hX
 have hXl:X.length<=L.length:=by have:=hX.length_eq; simp at this; omega
 simp [go_sem,zcq]
 refine ⟨fun hr=>?_,fun l1 k0 k1 k2 x l2 hr=>?_⟩
 .subst hr
  have hX':X.Perm L:=by simpa [ze2] using hX
  refine ⟨_,_,zoC X L hX' hS (fun m hm=>by have:=hl m hm; omega) hLl,?_⟩
  simp [go_sem]
  exact hX'.length_eq
 .subst hr
  refine ⟨fun h=>?_,fun h=>?_⟩ <;> simp at h
  .have cC:=zpV [k0,k1,k2] n (by simpa using hn) (by simp)
   simp [go_sem,avs]
   refine ⟨⟨by omega,by omega⟩,?_⟩
   refine CallVC.of (cC) ?_
   simp [go_sem]
   have hp2:((X++[(x,[k0,k1,k2].take n)])++ze2 n (l1++l2)).Perm L:=by
    refine List.Perm.trans ?_ hX
    rw [List.append_assoc]
    have:=(zeP n l1 l2 ((k0,k1,k2),x)).symm
    rw [if_neg h] at this
    exact List.Perm.append_left X this
   have hl3:([k0,k1,k2].take n).length=n:=by simp; omega
   have hxl:=hp2.length_eq
   simp at hxl
   refine ⟨⟨by omega,by omega⟩,X++[(x,[k0,k1,k2].take n)],some ((k0,k1,k2),x),l1++l2,hp2,by simp,zaa _ _ _ (by simp),?_⟩
   simp [znA,zmo,hl3]
  .have hp2:(X++ze2 n (l1++l2)).Perm L:=by
    refine List.Perm.trans ?_ hX
    have:=(zeP n l1 l2 ((k0,k1,k2),x)).symm
    rw [if_pos h] at this
    exact List.Perm.append_left X this
   simp [go_sem]
   refine ⟨X,some ((k0,k1,k2),x),l1++l2,hp2,by simp,zaa _ _ _ (by simp),?_⟩
   simp
end Go.Proofs.YthhdollpkieknaaGreat


namespace Go.Proofs.YthhdollpkieknaaGreat
open Go.Abs
theorem zb9 {α:Type} {P:List α->Prop} (h0:P []) (h1:∀ l a,P l->P (l++[a])) (l:List α):P l:=by
 rw [<- List.reverse_reverse l]
 induction l.reverse with
 | nil=>exact h0
 | cons a l ih=>rw [List.reverse_cons]; exact h1 _ _ ih
def atL (p:List Int):List (List Int)->Nat
 | []=>0
 | s::S=>if ltL s p=true then 0 else atL p S+1
theorem zrF (p:List Int):∀ S,atL p S<=S.length
 | []=>by simp [atL]
 | s::S=>by have:=zrF p S; rw [atL]; split <;> simp; omega
def insL (p:List Int) (S:List (List Int)):List (List Int):=S.take (atL p S)++p::S.drop (atL p S)
@[simp] theorem zp8 (p:List Int) (S:List (List Int)):(insL p S).length=S.length+1:=by have:=zrF p S; simp [insL]; omega
theorem zjI {p x:List Int} {S:List (List Int)} (h:x∈insL p S):x=p\/x∈S:=by
 rcases List.mem_append.1 h with h | h
 .exact .inr (List.mem_of_mem_take h)
 .rcases List.mem_cons.1 h with h | h
  .exact .inl h
  .exact .inr (List.mem_of_mem_drop h)
theorem zrd (p:List Int) (S:List (List Int)):sumL (insL p S)=sumL S+p.length:=by
 have h:=congrArg sumL (List.take_append_drop (atL p S) S)
 rw [zcN] at h
 rw [insL,zcN,sumL]
 omega
def zaC (S:List (List Int)):List Int:=0::S.flatMap fun b=>b.map (·+1)
theorem zdr (S:List (List Int)):(zaC S).length=sumL S+1:=by
 have:∀ S:List (List Int),(S.flatMap fun b=>b.map (·+1)).length=sumL S:=by
  intro S
  induction S with
  | nil=>rfl
  | cons b S ih=>simp [sumL,ih]
 rw [zaC,List.length_cons,this]
def canF:Nat->List Int->List Int
 | 0,_=>[]
 | n+1,t=>zaC ((brs t).foldl (fun S b=>insL (canF n b) S) [])
def insA (n:Nat) (bs:List (List Int)):List (List Int):=bs.foldl (fun S b=>insL (canF n b) S) []
theorem zbU (n:Nat) (bs:List (List Int)) (b:List Int):insA n (bs++[b])=insL (canF n b) (insA n bs):=by simp [insA]
theorem zeE {n:Nat} {bs:List (List Int)}:∀ {x:List Int},x∈insA n bs->∃ b∈bs,x=canF n b:=by
 refine zb9 (P:=fun bs=>∀ {x:List Int},x∈insA n bs->∃ b∈bs,x=canF n b) ?_ ?_ bs
 .intro x hx; simp [insA] at hx
 .intro l b ih x hx
  rw [zbU] at hx
  rcases zjI hx with h | h
  .exact ⟨b,by simp,h⟩
  .obtain ⟨c,hc,e⟩:=ih h
   exact ⟨c,by simp [hc],e⟩
theorem zfp (n:Nat) (bs:List (List Int)) (k:Nat) (h:bs.length<=k):(insA n bs).length<=k:=by
 have:∀ bs:List (List Int),(insA n bs).length=bs.length:=zb9 rfl (fun l b ih=>by rw [zbU,zp8,ih]; simp)
 rw [this]; exact h
theorem zhg (n:Nat):∀ (t:List Int),∀ x∈canF n t,0<=x/\x<=n:=by
 induction n with
 | zero=>intro t x hx; simp [canF] at hx
 | succ n ih =>
  intro t x hx
  rw [canF] at hx
  rcases List.mem_cons.1 hx with rfl | hx
  .omega
  .obtain ⟨b,hb,hx⟩:=List.mem_flatMap.1 hx
   obtain ⟨y,hy,rfl⟩:=List.mem_map.1 hx
   obtain ⟨c,hc,rfl⟩:=zeE (n:=n) (bs:=brs t) hb
   have:=ih c y hy
   omega
theorem zqt {A:List (List Int)} {k:Nat} (h:k<A.length) (v:List Int):sumL (A.set k v)+(A[k]?.getD []).length=sumL A+v.length:=by
 induction A generalizing k with
 | nil=>simp at h
 | cons r A ih =>
  cases k with
  | zero=>simp [sumL]; omega
  | succ k=>have:=ih (k:=k) (by simpa using h); simp [sumL] at this |-; omega
theorem zgm {out:List (List Int)} {x:Int} (h:out≠[]\/x=1):sumL (zbS out x)=sumL out+1:=by
 unfold zbS
 simp only
 have ho:(if x=1 then out++[[]] else out)≠[]:=by
  split
  .simp
  .rcases h with h | h
   .exact h
   .contradiction
 have hs:sumL (if x=1 then out++[[]] else out)=sumL out:=by
  split
  .rw [zcN]; simp [sumL]
  .rfl
 generalize (if x=1 then out++[[]] else out)=o at *
 have hl:o.length-1<o.length:=by have:=List.length_pos_iff.2 ho; omega
 have:=zqt hl (o[o.length-1]?.getD []++[x-1])
 simp at this
 omega
theorem znr {t:List Int} (h:Lv t):∀ i,1<=i->i<=t.length->sumL (brs (t.take i))+1=i/\(2<=i->brs (t.take i)≠[])
 | 0,h1,_=>by omega
 | 1,_,_=>by
  have:brs (t.take 1)=[]:=by
   unfold brs
   rw [List.drop_eq_nil_of_le (by simp; omega)]; rfl
  rw [this]
  exact ⟨rfl,by omega⟩
 | i+2,h1,h2=>by
  have ih:=znr h (i+1) (by omega) (by omega)
  rw [zem (by omega) (by omega)]
  have hne:brs (t.take (i+1))≠[]\/t[i+1]?.getD 0=1:=by
   by_cases e:i=0
   .subst e
    have h3:=h.2.2 1 (by omega) (by omega)
    rw [show 1-1=0 by omega,h.2.1] at h3
    exact .inr (by show t[1]?.getD 0=1; omega)
   .exact .inl (ih.2 (by omega))
  rw [zgm hne]
  refine ⟨by omega,fun _ e=>?_⟩
  have:=zgm hne
  rw [e] at this
  simp [sumL] at this
theorem zib {t:List Int} (h:Lv t):sumL (brs t)+1=t.length:=by
 have:=(znr h t.length h.1 (Nat.le_refl _)).1
 rwa [List.take_length] at this
theorem zaQ:∀ (n:Nat) (t:List Int),Lv t->t.length<=n->(canF n t).length=t.length
 | 0,t,h,hl=>by have:=h.1; omega
 | n+1,t,h,hl=>by
  have gen:∀ bs:List (List Int),(∀ b∈bs,(canF n b).length=b.length)->sumL (insA n bs)=sumL bs:=by
   intro bs
   refine zb9 (P:=fun bs=>(∀ b∈bs,(canF n b).length=b.length)->sumL (insA n bs)=sumL bs) (fun _=>rfl) ?_ bs
   intro l b ih hb
   rw [zbU,zrd,zcN,ih (fun c hc=>hb c (by simp [hc])),hb b (by simp)]
   simp [sumL]
  have e:(brs t).foldl (fun S b=>insL (canF n b) S) []=insA n (brs t):=rfl
  rw [canF,zdr,e,gen (brs t) (fun b hb=>by
   have:=zdk h hb
   exact zaQ n b this.1 (by have:=this.2; omega)),zib h]
theorem zgH (A C:List (List Int)):mat (A++C)=mat A++mat C:=by simp [mat]
theorem zbm (A:List (List Int)) (k:Nat):(mat A).drop k=mat (A.drop k):=by simp [mat]
theorem zbo (A:List (List Int)) (k:Nat):(mat A).take k=mat (A.take k):=by simp [mat,List.map_take]
theorem zbc:∀ A:List (List Int),zaF (mat A)=false
 | []=>rfl
 | r::A=>by
  have:=zbc A
  simp only [mat,List.map_cons] at this |-
  rw [zaF,this]; rfl
theorem znl {A:List (List Int)} {b:List Int} (h:b∈A):b.length<=sumL A:=by
 induction A with
 | nil=>simp at h
 | cons r A ih =>
  rcases List.mem_cons.1 h with rfl | h
  .simp [sumL]
  .have:=ih h; simp only [sumL]; omega
theorem zcQ:∀ (n:Nat) (t:List Int),n<=1000->Lv t->t.length<=n->Con Tryz.prog 250 [.sl t.length (avs t)] (.own 2 t.length (avs (canF n t)))
 | 0,t,_,h,hl=>by have:=h.1; omega
 | n+1,t,hn,h,hl=>by
  have hcl:=zaQ (n+1) t h hl
  have cP:=zlt t (by omega) h
  have bt:=zib h
  have ih:=fun b hb=>zcQ n b (by omega) (zdk h hb).1 (by have:=(zdk h hb).2; omega)
  have hce:canF (n+1) t=zaC (insA n (brs t)):=rfl
  rw [hce]
  have blen:=fun b (hb:b∈brs t)=>zaQ n b (zdk h hb).1 (by have:=(zdk h hb).2; omega)
  have bvalid:=fun b (hb:b∈brs t)=>zdk h hb
  have bm:=zeB h h.1 (Nat.le_refl _)
  rw [List.take_length] at bm
  generalize brs t=bs at *
  refine zab Tryz.mixed ⟨12,[13,25,14,53],[],[]⟩ Tryz.func250 ?_
  rw [Tryz.ntmps250]
  simp [go_sem]
  refine CallVC.of (cP) ?_
  simp [go_sem]
  refine zac (4::5::6::7::8::List.range' 15 39) (fun i:Nat=>[(4,.sl (insA n (bs.take i)).length (mat (insA n (bs.take i)))),(5,.int i)]) (fun i=>i<=bs.length) (fun i=>bs.length-i) 0 (by simp) (by simp [go_sem,insA,mat]) (by simp [go_sem]) ?_
  intro i hi
  simp [go_sem]
  refine ⟨fun h=>?_,fun h=>?_⟩ <;> simp at h
  .have hif:i<bs.length:=by omega
   have hb:=memD [] hif
   have ht:insA n (bs.take (i+1))=insL (canF n (bs[i]?.getD [])) (insA n (bs.take i)):=by
    rw [List.take_add_one,List.getElem?_eq_getElem hif,Option.toList_some,zbU]; rfl
   have c1:=ih _ hb
   have l1:=blen _ hb
   have s1:=znl hb
   have sl:∀ s∈insA n (bs.take i),s.length<=1000:=fun s hs=>by
    obtain ⟨b,hb2,rfl⟩:=zeE hs
    have hb3:=List.mem_of_mem_take hb2
    have:=znl hb3
    rw [blen b hb3]; omega
   have il:(insA n (bs.take i)).length<=i:=zfp n _ _ (by simp; omega)
   generalize hN:insA n (bs.take (i+1))=S2 at *
   generalize insA n (bs.take i)=S at *
   simp [go_sem,zar hif]
   refine ⟨⟨hif,by rintro rfl; simp at hif⟩,?_⟩
   refine CallVC.of (c1) ?_
   simp [go_sem]
   rw [<- l1]
   generalize canF n (bs[i]?.getD [])=p at *
   refine zac (7::List.range' 26 15) (fun a:Nat=>[(7,.int a)]) (fun a=>a<=S.length/\atL p S=a+atL p (S.drop a)) (fun a=>S.length-a) 0 (by simp) (by simp [go_sem]) (by simp [go_sem]) ?_
   rintro a ⟨ha,hat⟩
   by_cases has:a<S.length
   .have has':(a:Int)<S.length:=by omega
    have hd:S.drop a=S[a]?.getD []::S.drop (a+1):=by rw [List.drop_eq_getElem_cons has]; simp [has]
    rw [hd,atL] at hat
    have hg:=zar has
    have hsl:=sl _ (memD [] has)
    have cL:=zic (S[a]?.getD []) p (by omega) (by omega)
    by_cases hlt:ltL (S[a]?.getD []) p=true
    .rw [if_pos hlt] at hat
     rw [hlt] at cL
     have hS2:S2=S.take a++p::S.drop a:=by rw [ht,insL,hat,Nat.add_zero]
     simp [go_sem,has',hg]
     refine ⟨by rintro rfl; simp at has,?_⟩
     refine CallVC.of (cL) ?_
     simp [go_sem]
     simp [go_sem,zbm,zbo,zbc]
     refine ⟨by omega,⟨by omega,by omega⟩,by omega,⟨by omega,by omega,by omega⟩,⟨by omega,by omega,by omega,by omega⟩,⟨by omega,by omega⟩,i+1,by omega,by omega,(by repeat (first | exact zaa _ _ _ (by simp) | (refine Off.reset (by intro x hx; simp at hx |-; omega) (by simp) ?_; simp -failIfUnchanged [go_sem,zaa]))),?_,by omega⟩
     rw [hN,hS2]
     have em:frzL (mat (S.take a)++AV.sl p.length (avs p)::mat ((S.drop a).take (S.length-a)))=mat (S.take a++p::S.drop a):=by rw [show (S.drop a).take (S.length-a)=S.drop a from List.take_of_length_le (by simp),<- zhb (S.take a++p::S.drop a),zgH]; rfl
     exact ⟨by simp; omega,em⟩
    .rw [if_neg hlt] at hat
     have hlf:ltL (S[a]?.getD []) p=false:=by simpa using hlt
     rw [hlf] at cL
     simp [go_sem,has',hg]
     refine ⟨by rintro rfl; simp at has,?_⟩
     refine CallVC.of (cL) ?_
     simp [go_sem]
     exact ⟨by omega,a+1,⟨by omega,by omega⟩,by omega,zaa _ _ _ (by simp),by omega⟩
   .have has':¬ (a:Int)<S.length:=by omega
    have hd:S.drop a=[]:=List.drop_eq_nil_of_le (by omega)
    rw [hd,atL] at hat
    have hS2:S2=S.take a++p::S.drop a:=by rw [ht,insL,hat,Nat.add_zero]
    simp [go_sem,has',zbm,zbo,zbc]
    refine ⟨by omega,⟨by omega,by omega⟩,by omega,⟨by omega,by omega,by omega⟩,⟨by omega,by omega,by omega,by omega⟩,⟨by omega,by omega⟩,i+1,by omega,by omega,(by repeat (first | exact zaa _ _ _ (by simp) | (refine Off.reset (by intro x hx; simp at hx |-; omega) (by simp) ?_; simp -failIfUnchanged [go_sem,zaa]))),?_,by omega⟩
    rw [hN,hS2]
    have em:frzL (mat (S.take a)++AV.sl p.length (avs p)::mat ((S.drop a).take (S.length-a)))=mat (S.take a++p::S.drop a):=by rw [show (S.drop a).take (S.length-a)=S.drop a from List.take_of_length_le (by simp),<- zhb (S.take a++p::S.drop a),zgH]; rfl
    exact ⟨by simp; omega,em⟩
  .have e:i=bs.length:=by omega
   subst e
   rw [List.take_length]
   have tot:(zaC (insA n bs)).length=t.length:=by rw [<- hce,hcl]
   rw [zdr] at tot
   have val:∀ x∈zaC (insA n bs),0<=x/\x<=(n+1:Nat):=fun x hx=>by rw [<- hce] at hx; exact zhg (n+1) t x hx
   have sval:∀ s∈insA n bs,∀ x∈s,0<=x/\x<=n:=fun s hs x hx=>by
    obtain ⟨b,_,rfl⟩:=zeE hs
    exact zhg n b x hx
   clear hce hcl
   have Sl:(insA n bs).length<=bs.length:=zfp n bs _ (Nat.le_refl _)
   generalize insA n bs=S at *
   simp [go_sem]
   refine zac (9::10::11::List.range' 55 26) (fun i:Nat=>[(9,.own 2 (sumL (S.take i)+1) (avs (zaC (S.take i)))),(10,.int i)]) (fun i=>i<=S.length) (fun i=>S.length-i) 0 (by simp) (by simp [go_sem,zaC,sumL,avs]) (by simp [go_sem]) ?_
   intro i hi
   simp [go_sem]
   refine ⟨fun h=>?_,fun h=>?_⟩ <;> simp at h
   .have hif:i<S.length:=by omega
    have hs:=memD [] hif
    have sv:=sval _ hs
    have st:=zoa hif
    have sle:=zsS S (i+1)
    have rr:zaC (S.take (i+1))=zaC (S.take i)++(S[i]?.getD []).map (·+1):=by
     rw [zaC,List.take_add_one,List.getElem?_eq_getElem hif,Option.toList_some,List.flatMap_append,List.flatMap_singleton]; rfl
    generalize hR:S[i]?.getD []=b at *
    simp [go_sem]
    refine zac (9::11::List.range' 61 20) (fun k:Nat=>[(9,.own 2 (sumL (S.take i)+1+k) (avs (zaC (S.take i)++(b.take k).map (·+1)))),(11,.int k)]) (fun k=>k<=b.length) (fun k=>b.length-k) 0 (by simp) (by simp [go_sem]) (by simp [go_sem]) ?_
    intro k hk
    simp [go_sem,zar hif,hR]
    refine ⟨⟨hif,by rintro rfl; simp at hif⟩,?_⟩
    refine ⟨fun h=>?_,fun h=>?_⟩ <;> simp at h
    .have hkb:k<b.length:=by omega
     have hv:=sv _ (memD 0 hkb)
     simp [go_sem,zar hif,hR,zaj hkb]
     have rl:=zdr (S.take i)
     refine ⟨⟨hif,by rintro rfl; simp at hif⟩,⟨hkb,by rintro rfl; simp at hkb⟩,⟨by omega,by omega⟩,⟨by omega,by omega,by omega⟩,⟨by omega,by omega⟩,k+1,by omega,by omega,zaa _ _ _ (by simp),?_,by omega⟩
     rw [List.take_add_one,List.getElem?_eq_getElem hkb]
     refine ⟨by omega,?_⟩
     rw [znb,znb,List.append_assoc]
     simp [hkb,avs]
    .have e:k=b.length:=by omega
     subst e
     simp [go_sem]
     refine ⟨by omega,i+1,by omega,by omega,(Off.reset (by intro x hx; simp at hx |-; omega) (by simp) (by simp [go_sem,zaa])),?_,by omega⟩
     rw [rr,show (b.map (·+1)).take b.length=b.map (·+1) from List.take_of_length_le (by simp)]; exact ⟨by omega,rfl⟩
   .have e:i=S.length:=by omega
    subst e
    rw [List.take_length]
    simp [go_sem]
    omega
end Go.Proofs.YthhdollpkieknaaGreat


namespace Go.Proofs.YthhdollpkieknaaGreat
open Go.Abs Go.Shelf Go.Sort
theorem zpO {a b:List Int} (h:ltL a b=true):ltL b a=false:=by
 cases h2:ltL b a with
 | false=>rfl
 | true=>have:=zaU h h2; rw [zb7] at this; simp at this
theorem znn (p:List Int) (S:List (List Int)):(insL p S).Perm (p::S):=by
 unfold insL
 exact List.perm_middle.trans (by rw [List.take_append_drop])
theorem zmP (p s:List Int) (S:List (List Int)):insL p (s::S)=if ltL s p=true then p::s::S else s::insL p S:=by
 unfold insL
 rw [atL]
 split <;> simp
theorem zkt (p:List Int):∀ {S:List (List Int)},S.Pairwise (fun a b=>ltL a b=false)->(insL p S).Pairwise (fun a b=>ltL a b=false)
 | [],_=>by simp [insL,atL]
 | s::S,h=>by
  obtain ⟨h1,h2⟩:=List.pairwise_cons.1 h
  rw [zmP]
  split
  .rename_i hs
   refine List.pairwise_cons.2 ⟨fun y hy=>?_,h⟩
   rcases List.mem_cons.1 hy with rfl | hy
   .exact zpO hs
   .cases hp:ltL p y with
    | false=>rfl
    | true=>have:=h1 y hy; rw [zaU hs hp] at this; exact this
  .rename_i hs
   refine List.pairwise_cons.2 ⟨fun y hy=>?_,zkt p h2⟩
   rcases zjI hy with rfl | hy
   .simpa using hs
   .exact h1 y hy
theorem zqV (n:Nat) (bs:List (List Int)):(insA n bs).Pairwise (fun a b=>ltL a b=false) :=
 zb9 (P:=fun bs=>(insA n bs).Pairwise (fun a b=>ltL a b=false)) List.Pairwise.nil (fun l a h=>by rw [zbU]; exact zkt _ h) bs
theorem zhF (n:Nat) (bs:List (List Int)):(insA n bs).Perm (bs.map (canF n)) :=
 zb9 (P:=fun bs=>(insA n bs).Perm (bs.map (canF n))) (List.Perm.refl _) (fun l a h=>by
  rw [zbU,List.map_append]
  refine (znn _ _).trans ((h.cons _).trans ?_)
  exact (List.perm_append_comm (l₁:=[canF n a]) (l₂:=l.map (canF n)))) bs
theorem zlw {X L:List (List Int)} (hp:X.Perm L) (hX:X.Pairwise (fun a b=>ltL a b=false)) (hL:L.Pairwise (fun a b=>ltL a b=false)):X=L :=
 hp.eq_of_pairwise (fun a b _ _ h1 h2=>by
  by_cases e:a=b
  .exact e
  .have:=zfh e h1; rw [h2] at this; simp at this) hX hL
theorem zhM [DrawK] (a b:List Int) (ha:a.length<=1000000) (hb:b.length<=1000000):Con Tryz.prog 197 [.sl a.length (avs a),.sl b.length (avs b)] (.int (cmpL b a)):=by
 refine zab Tryz.mixed ⟨5,[],[],[]⟩ Tryz.func197 ?_
 rw [Tryz.ntmps197]
 simp [go_sem]
 refine CallVC.of (zdo b a (by omega) (by omega)) ?_
 simp [go_sem]
theorem ztU:SWO (Go.Proofs.ltOf fun a b:List Int=>cmpL b a):=by
 have e:(Go.Proofs.ltOf fun a b:List Int=>cmpL b a)=fun a b=>ltL b a:=by
  funext a b; exact zbO _ _
 rw [e]
 refine ⟨fun m=>zb7 _,fun x y z h1 h2=>zaU h2 h1,fun x y z h1 h2=>?_⟩
 cases h3:ltL z x with
 | false=>rfl
 | true =>
  by_cases e:x=y
  .rw [e] at h3; rw [h3] at h2; exact h2
  .have h4:=zfh (fun x=>e x.symm) h1
   have:=zaU h3 h4
   rw [this] at h2; exact h2
theorem zbW (X:List (List Int)):(X.flatMap fun x=>[AV.own 2 x.length (avs x)])=omat X:=by
 induction X with
 | nil=>rfl
 | cons x X ih=>simp only [List.flatMap_cons,ih,omat,List.map_cons,List.singleton_append]
theorem ziO (X L:List (List Int)) (hX:X.Perm L) (hS:L.Pairwise (fun a b=>ltL a b=false)) (hl:∀ m∈L,m.length<=1000000) (hn:L.length<=1048576) :
  MCon Tryz.prog 196 [.own 25 X.length (omat X),.val (.func (.func 197) #[] #[])] (.tup []) [.own 25 X.length (omat L),.any]:=by
 have hxl:=hX.length_eq
 have hm:∀ m∈X,m.length<=1000000:=fun m hm=>hl m (hX.mem_iff.1 hm)
 obtain ⟨ys,h1,h2,h3⟩:=zlv Tryz.sortTrees ⟨_,Tryz.func196,by decide,rfl⟩ (fun m:List Int=>.own 2 m.length (avs m)) (fun m n=>cmpL n m) ztU 197 25 (by kernel_rfl) X (by rw [zbW]; exact zdZ X)
  (fun x hx y hy=>by simpa [frz] using @zhM ⟨1⟩ x y (hm x hx) (hm y hy)) (by omega)
 have e:ys=L:=zlw (h1.trans hX) (h2.imp fun {a b} h=>by
  have:=zbO a b
  rw [<- this]; simpa using h) hS
 subst e
 rw [zbW,zbW] at h3
 exact h3
theorem zeA (S:List (List Int)) (hl:S.length<=1000) (hr:∀ b∈S,b.length<=1000/\∀ x∈b,0<=x/\x<=1000):Con Tryz.prog 198 [.sl S.length (mat S)] (.own 2 (zaC S).length (avs (zaC S))):=by
 have bl:∀ i,(zaC (S.take i)).length<=1+i*1000:=fun i=>by
  rw [zdr]
  have:∀ T:List (List Int),(∀ b∈T,b.length<=1000)->sumL T<=T.length*1000:=by
   intro T
   induction T with
   | nil=>intro _; simp [sumL]
   | cons b T ih=>intro h; have:=h b (by simp); have:=ih (fun c hc=>h c (by simp [hc])); simp only [sumL,List.length_cons]; omega
  have h1:=this (S.take i) (fun b hb=>(hr b (List.mem_of_mem_take hb)).1)
  have h2:(S.take i).length<=i:=by rw [List.length_take]; omega
  have:=Nat.mul_le_mul_right 1000 h2
  omega
 refine zab Tryz.mixed ⟨8,[],[],[]⟩ Tryz.func198 ?_
 rw [Tryz.ntmps198]
 simp [go_sem]
 refine zac (3::5::7::List.range' 11 17) (fun i:Nat=>[(3,.own 2 (zaC (S.take i)).length (avs (zaC (S.take i)))),(11,.int i)]) (fun i=>i<=S.length) (fun i=>S.length-i) 0 (by simp) (by simp [go_sem,zaC,avs]) (by simp [go_sem]) ?_
 intro i hi
 by_cases hiS:i<S.length
 .have hii:(i:Int)<S.length:=by omega
  have ne:¬ S=[]:=by rintro rfl; simp at hiS
  have md:=zar hiS
  obtain ⟨b1,b2⟩:=hr _ (show S[i]?.getD []∈S by simp [hiS])
  have sn:zaC (S.take (i+1))=zaC (S.take i)++(S[i]?.getD []).map (·+1):=by
   unfold zaC
   rw [List.take_add_one,List.flatMap_append,List.getElem?_eq_getElem hiS]; simp
  have bli:=bl i
  generalize S[i]?.getD []=b at *
  generalize zaC (S.take i)=R at *
  simp [go_sem,hii,md]
  refine ⟨ne,?_⟩
  refine zac (3::7::List.range' 17 10) (fun k:Nat=>[(3,.own 2 (R.length+k) (avs (R++(b.map (·+1)).take k))),(17,.int k)]) (fun k=>k<=b.length) (fun k=>b.length-k) 0 (by simp) (by simp [go_sem]) (by simp [go_sem]) ?_
  intro k hk
  by_cases hkb:k<b.length
  .have hki:(k:Int)<b.length:=by omega
   have nb:¬ b=[]:=by rintro rfl; simp at hkb
   have ad:=zaj hkb
   have bx:=b2 _ (show b[k]?.getD 0∈b by simp [hkb])
   have tk:(b.map (·+1)).take (k+1)=(b.map (·+1)).take k++[b[k]?.getD 0+1]:=by
    rw [List.take_add_one]; simp [hkb]
   rw [List.getD_eq_getElem?_getD] at ad
   generalize b[k]?.getD 0=x at *
   simp [go_sem,hki,ad]
   exact ⟨nb,⟨by omega,by omega⟩,⟨by omega,by omega,by omega⟩,⟨by omega,by omega⟩,k+1,by omega,by omega,zaa _ _ _ (by simp),⟨by omega,by rw [tk,<- List.append_assoc,zaD]⟩,by omega⟩
  .have e:k=b.length:=by omega
   subst e
   have hki:¬ (b.length:Int)<b.length:=by omega
   have tk:(b.map (·+1)).take b.length=b.map (·+1):=List.take_of_length_le (by simp)
   simp [go_sem,hki,tk]
   exact ⟨⟨by omega,by omega⟩,i+1,by omega,by omega,(Off.reset (by intro x hx; simp at hx |-; omega) (by simp) (by simp [go_sem,zaa])),by rw [sn]; simp,by omega⟩
 .have e:i=S.length:=by omega
  subst e
  have hii:¬ (S.length:Int)<S.length:=by omega
  rw [List.take_length]
  simp [go_sem,hii]
def cnB (n:Nat) (bs:List (List Int)) (i:Nat):List (List Int):=(bs.take i).map (canF n)++bs.drop i
theorem zpq (n:Nat) (bs:List (List Int)):cnB n bs 0=bs:=by simp [cnB]
theorem zsu (n:Nat) (bs:List (List Int)):cnB n bs bs.length=bs.map (canF n):=by simp [cnB]
theorem zht {A:List (List Int)} {k:Nat} (h:k<A.length):(omat A)[k]?=some (.own 2 (A[k]?.getD []).length (avs (A[k]?.getD []))):=by simp [omat,h]
theorem zu5 (n:Nat) {bs:List (List Int)} {i:Nat} (hi:i<bs.length):(omat (cnB n bs i))[i]?=some (.own 2 (bs[i]?.getD []).length (avs (bs[i]?.getD []))):=by
 have h1:i<(cnB n bs i).length:=by simp [cnB]; omega
 rw [zht h1]
 have e:(cnB n bs i)[i]?.getD []=bs[i]?.getD []:=by
  unfold cnB
  rw [List.getElem?_append_right (by simp; omega)]; simp [Nat.min_eq_left (Nat.le_of_lt hi)]
 rw [e]
theorem ztY (n:Nat) {bs:List (List Int)} {i:Nat} (hi:i<bs.length) (hc:(canF n (bs[i]?.getD [])).length=(bs[i]?.getD []).length) :
  (omat (cnB n bs i)).set i (.own 2 (bs[i]?.getD []).length (avs (canF n (bs[i]?.getD []))))=omat (cnB n bs (i+1)):=by
 have h:=zer (cnB n bs i) i (canF n (bs[i]?.getD []))
 rw [hc] at h
 rw [h]
 congr 1
 unfold cnB
 have e1:bs.drop i=bs[i]?.getD []::bs.drop (i+1):=by rw [List.drop_eq_getElem_cons hi]; simp [hi]
 have e2:bs.take (i+1)=bs.take i++[bs[i]?.getD []]:=by rw [List.take_add_one]; simp [hi]
 rw [e1,e2,List.map_append,List.set_append_right _ _ (by simp; omega)]
 simp [Nat.min_eq_left (Nat.le_of_lt hi)]
theorem zbg:∀ (n:Nat) (t:List Int),n<=100->Lv t->t.length<=n->Con Tryz.prog 106 [.sl t.length (avs t)] (.own 2 t.length (avs (canF n t))):=by
 intro n
 induction n with
 | zero=>intro t _ h1 h2; have:=h1.1; omega
 | succ n ih =>
  intro t hn hLv hl
  have cB:=zbn t (by omega) hLv
  have cn:=ziH hLv
  have bo:=fun (b:List Int) hb=>zdk hLv (b:=b) hb
  have cI:=fun (b:List Int) (hb:b∈brs t)=>ih b (by omega) (bo b hb).1 (by have:=(bo b hb).2; omega)
  have cl:=fun (b:List Int) (hb:b∈brs t)=>zaQ n b (bo b hb).1 (by have:=(bo b hb).2; omega)
  have im:=fun x (hx:x∈insA n (brs t))=>zeE hx
  have il:(insA n (brs t)).length=(brs t).length:=by have:=(zhF n (brs t)).length_eq; simpa using this
  have xl:∀ x∈insA n (brs t),x.length<=100/\∀ y∈x,0<=y/\y<=1000:=fun x hx=>by
   obtain ⟨b,hb,rfl⟩:=im x hx
   have:=(bo b hb).2
   exact ⟨by rw [cl b hb]; omega,fun y hy=>by have:=zhg n b y hy; omega⟩
  have cS:=ziO ((brs t).map (canF n)) (insA n (brs t)) (zhF n (brs t)).symm (zqV n _) (fun x hx=>by have:=(xl x hx).1; omega) (by omega)
  have cR:=zeA (insA n (brs t)) (by omega) (fun b hb=>⟨by have:=(xl b hb).1; omega,(xl b hb).2⟩)
  have rl:(zaC (insA n (brs t))).length=t.length:=zaQ (n+1) t hLv hl
  have e1:canF (n+1) t=zaC (insA n (brs t)):=rfl
  rw [e1]
  rw [rl,il] at cR
  rw [List.length_map] at cS
  clear rl e1 xl im
  generalize insA n (brs t)=S at *
  refine zab Tryz.mixed ⟨6,[],[196],[]⟩ Tryz.func106 ?_
  rw [Tryz.ntmps106]
  simp [go_sem]
  refine CallVC.of (cB) ?_
  simp [go_sem]
  generalize brs t=bs at *
  refine zdt (3::4::5::8::List.range' 10 11) (4::5::List.range' 11 10) (fun i:Nat=>[(3,.own 25 bs.length (omat (cnB n bs i))),(8,.bor 3 []),(10,.int i)]) (fun i=>i<=bs.length) (fun i=>bs.length-i) 0 (by intro x i h1 h2; have:i=3\/i=8\/i=10:=(by simp at h1 h2; omega); rcases this with rfl | rfl | rfl <;> rfl) (by intro i h; simp at h |-; omega) (by simp) (by simp [go_sem,zpq]) (by simp [go_sem,kl]) ?_
  intro i hi
  by_cases hib:i<bs.length
  .have hii:(i:Int)<bs.length:=by omega
   have gt:=zu5 n hib
   have st:=ztY n hib (cl _ (by simp [hib]))
   have cc:=cI (bs[i]?.getD []) (by simp [hib])
   generalize bs[i]?.getD []=b at *
   simp [go_sem,hii,gt]
   have cbl:i<(cnB n bs i).length:=by simp [cnB]; omega
   refine CallVC.of (cc) ?_
   simp [go_sem]
   exact ⟨hib,cbl,⟨by omega,by omega⟩,i+1,by omega,by omega,zaa _ _ _ (by simp),by first | exact ⟨st,by omega⟩ | exact st | (refine ⟨?_⟩; exact st) | (simp; exact st),by simp [kl]⟩
  .have e:i=bs.length:=by omega
   subst e
   have hii:¬ (bs.length:Int)<bs.length:=by omega
   rw [zsu]
   simp [go_sem,hii]
   refine ⟨_,_,cS,?_⟩
   simp [go_sem]
   refine CallVC.of (cR) ?_
   simp [go_sem]
end Go.Proofs.YthhdollpkieknaaGreat


namespace Go.Proofs.YthhdollpkieknaaGreat
open Go.Abs Go.Shelf Go.Sort
def ltT (s t:List Int):Bool:=if s.length=t.length then ltL t s else decide (s.length<t.length)
def cmpT (s t:List Int):Int:=if s.length=t.length then cmpL t s else (s.length:Int)-t.length
theorem zjH (s t:List Int):decide (cmpT s t<0)=ltT s t:=by
 unfold cmpT ltT
 split
 .exact zbO t s
 .congr 1; exact propext ⟨fun h=>by omega,fun h=>by omega⟩
theorem zmS (s:List Int):ltT s s=false:=by unfold ltT; rw [if_pos rfl]; exact zb7 s
theorem zdG {a b c:List Int} (h1:ltT a b=true) (h2:ltT b c=true):ltT a c=true:=by
 unfold ltT at *
 split at h1 <;> split at h2
 .rw [if_pos (by omega)]; exact zaU h2 h1
 .simp at h2; rw [if_neg (by omega)]; simp; omega
 .simp at h1; rw [if_neg (by omega)]; simp; omega
 .simp at h1 h2; rw [if_neg (by omega)]; simp; omega
theorem zoP {a b:List Int} (e:a≠b) (h:ltT a b=false):ltT b a=true:=by
 unfold ltT at *
 split at h
 .rename_i hl
  rw [if_pos hl.symm]; exact zfh (fun x=>e x.symm) h
 .rename_i hl
  simp at h; rw [if_neg (fun x=>hl x.symm)]; simp; omega
theorem zqh {a b:List Int} (h:ltT a b=true):ltT b a=false:=by
 cases h2:ltT b a with
 | false=>rfl
 | true=>have:=zdG h h2; rw [zmS] at this; simp at this
def atT (p:List Int):List (List Int)->Nat
 | []=>0
 | s::S=>if ltT p s=true then 0 else atT p S+1
theorem zrA (p:List Int):∀ S,atT p S<=S.length
 | []=>by simp [atT]
 | s::S=>by have:=zrA p S; rw [atT]; split <;> simp; omega
def insT (p:List Int) (S:List (List Int)):List (List Int):=S.take (atT p S)++p::S.drop (atT p S)
@[simp] theorem zvG (p:List Int) (S:List (List Int)):(insT p S).length=S.length+1:=by have:=zrA p S; simp [insT]; omega
theorem zqD {p x:List Int} {S:List (List Int)} (h:x∈insT p S):x=p\/x∈S:=by
 rcases List.mem_append.1 h with h | h
 .exact .inr (List.mem_of_mem_take h)
 .rcases List.mem_cons.1 h with h | h
  .exact .inl h
  .exact .inr (List.mem_of_mem_drop h)
theorem zmJ (p:List Int) (S:List (List Int)):(insT p S).Perm (p::S):=by
 unfold insT
 exact List.perm_middle.trans (by rw [List.take_append_drop])
theorem znj (p s:List Int) (S:List (List Int)):insT p (s::S)=if ltT p s=true then p::s::S else s::insT p S:=by
 unfold insT
 rw [atT]
 split <;> simp
theorem zkQ (p:List Int):∀ {S:List (List Int)},S.Pairwise (fun a b=>ltT b a=false)->(insT p S).Pairwise (fun a b=>ltT b a=false)
 | [],_=>by simp [insT,atT]
 | s::S,h=>by
  obtain ⟨h1,h2⟩:=List.pairwise_cons.1 h
  rw [znj]
  split
  .rename_i hs
   refine List.pairwise_cons.2 ⟨fun y hy=>?_,h⟩
   rcases List.mem_cons.1 hy with rfl | hy
   .exact zqh hs
   .cases hp:ltT y p with
    | false=>rfl
    | true=>have:=h1 y hy; rw [zdG hp hs] at this; exact this
  .rename_i hs
   refine List.pairwise_cons.2 ⟨fun y hy=>?_,zkQ p h2⟩
   rcases zqD hy with rfl | hy
   .simpa using hs
   .exact h1 y hy
def srtT (bs:List (List Int)):List (List Int):=bs.foldl (fun S b=>insT b S) []
theorem zfo (bs:List (List Int)) (b:List Int):srtT (bs++[b])=insT b (srtT bs):=by simp [srtT]
theorem zqv (bs:List (List Int)):(srtT bs).Pairwise (fun a b=>ltT b a=false) :=
 zb9 (P:=fun bs=>(srtT bs).Pairwise (fun a b=>ltT b a=false)) List.Pairwise.nil (fun l a h=>by rw [zfo]; exact zkQ _ h) bs
theorem zbd (bs:List (List Int)):(srtT bs).Perm bs :=
 zb9 (P:=fun bs=>(srtT bs).Perm bs) (List.Perm.refl _) (fun l a h=>by
  rw [zfo]
  refine (zmJ _ _).trans ((h.cons _).trans ?_)
  exact (List.perm_append_comm (l₁:=[a]) (l₂:=l))) bs
@[simp] theorem zeh (bs:List (List Int)):(srtT bs).length=bs.length:=(zbd bs).length_eq
theorem zlK {X L:List (List Int)} (hp:X.Perm L) (hX:X.Pairwise (fun a b=>ltT b a=false)) (hL:L.Pairwise (fun a b=>ltT b a=false)):X=L :=
 hp.eq_of_pairwise (fun a b _ _ h1 h2=>by
  by_cases e:a=b
  .exact e
  .have:=zoP e h2; rw [h1] at this; simp at this) hX hL
theorem ztd:SWO (Go.Proofs.ltOf cmpT):=by
 have e:(Go.Proofs.ltOf cmpT)=ltT:=by
  funext a b; exact zjH _ _
 rw [e]
 refine ⟨fun m=>zmS _,fun x y z h1 h2=>zdG h1 h2,fun x y z h1 h2=>?_⟩
 cases h3:ltT x z with
 | false=>rfl
 | true =>
  by_cases e:x=y
  .rw [e] at h3; rw [h3] at h2; exact h2
  .have h4:=zoP e h1
   have:=zdG h4 h3
   rw [this] at h2; exact h2
theorem za4 [DrawK] (a b:List Int) (ha:a.length<=1000000) (hb:b.length<=1000000):Con Tryz.prog 195 [.sl a.length (avs a),.sl b.length (avs b)] (.int (cmpT a b)):=by
 unfold cmpT
 by_cases h:a.length=b.length
 .have hi:(a.length:Int)=b.length:=by omega
  rw [if_pos h]
  have c:=zdo b a (by omega) (by omega)
  refine zab Tryz.mixed ⟨5,[],[],[]⟩ Tryz.func195 ?_
  rw [Tryz.ntmps195]
  simp [go_sem,hi]
  refine CallVC.of (c) ?_
  simp [go_sem]
 .have hi:¬ (a.length:Int)=b.length:=by omega
  rw [if_neg h]
  refine zab Tryz.mixed ⟨5,[],[],[]⟩ Tryz.func195 ?_
  rw [Tryz.ntmps195]
  simp [go_sem,hi]
  omega
theorem zln (X:List (List Int)) (hl:∀ m∈X,m.length<=1000000) (hn:X.length<=1048576) :
  MCon Tryz.prog 294 [.own 25 X.length (omat X),.int 0,.int X.length,.val (.func (.func 195) #[] #[])] (.tup []) [.own 25 X.length (omat (srtT X)),.any,.any,.any]:=by
 obtain ⟨ys,h1,h2,h3⟩:=zg4 Tryz.insTrees ⟨_,Tryz.func294,by decide,rfl⟩ (fun m:List Int=>.own 2 m.length (avs m)) cmpT ztd 195 25 (by kernel_rfl) X (by rw [zbW]; exact zdZ X)
  (fun x hx y hy=>by simpa [frz] using @za4 ⟨1⟩ x y (hl x hx) (hl y hy)) (by omega)
 have e:ys=srtT X:=zlK (h1.trans (zbd X).symm) (h2.imp fun {a b} h=>by
  have:=zjH b a
  rw [<- this]; simpa using h) (zqv X)
 subst e
 rw [zbW,zbW] at h3
 exact h3
theorem zpy (X:List (List Int)) (hl:∀ m∈X,m.length<=1000000) (hn:X.length<=19) :
  MCon Tryz.prog 287 [.own 25 X.length (omat X),.int X.length,.val (.func (.func 195) #[] #[])] (.tup []) [.own 25 X.length (omat (srtT X)),.any,.any]:=by
 have cI:=zln X hl (by omega)
 have h1:¬ (20:Int)<=X.length:=by omega
 have h2:¬ (20:Int)<X.length:=by omega
 refine za8 Tryz.mixed ⟨10,[],[294],[]⟩ [0] Tryz.func287 ?_
 rw [Tryz.ntmps287]
 simp [go_sem]
 refine zac (7::8::List.range' 11 12) (fun _:Nat=>[(7,.int 0),(8,.int 20)]) (fun _=>True) (fun _=>0) 0 trivial (by simp [go_sem]) (by simp [go_sem]) ?_
 intro _ _
 simp [go_sem,h1]
 refine ⟨_,_,cI,?_⟩
 simp [go_sem]
 refine zac ([6,7,8,9]++List.range' 28 35) (fun _:Nat=>[(6,.int 20)]) (fun _=>True) (fun _=>0) 0 trivial (by simp [go_sem]) (by simp [go_sem]) ?_
 intro _ _
 simp [go_sem,h2]
theorem zij (X:List (List Int)) (hl:∀ m∈X,m.length<=1000000) (hn:X.length<=19) :
  MCon Tryz.prog 240 [.own 25 X.length (omat X),.val (.func (.func 195) #[] #[])] (.tup []) [.own 25 X.length (omat (srtT X)),.any]:=by
 have cI:=zpy X hl hn
 refine za8 Tryz.mixed ⟨4,[],[287],[]⟩ [0] Tryz.func240 ?_
 rw [Tryz.ntmps240]
 simp [go_sem]
 refine ⟨_,_,cI,?_⟩
 simp [go_sem]
theorem zcP (X:List (List Int)) (hl:∀ m∈X,m.length<=1000000) (hn:X.length<=19) :
  Con Tryz.prog 169 [.sl X.length (mat X)] (.own 25 X.length (omat (srtT X))):=by
 have cC:=zji X (by omega) (fun r h=>by have:=hl r h; omega)
 have cI:=zij X hl hn
 refine zab Tryz.mixed ⟨4,[],[240],[]⟩ Tryz.func169 ?_
 rw [Tryz.ntmps169]
 simp [go_sem]
 refine CallVC.of (cC) ?_
 simp [go_sem]
 refine ⟨_,_,cI,?_⟩
 simp [go_sem]
end Go.Proofs.YthhdollpkieknaaGreat

