/- Texts of the own layer and contracts, part 5: C0 C1 C4 C5 C6 C7 C8 C2 C9 C10 C11 C12 F0 F1 F2 F3 F4 F5 F6 F7 P0 P1 P2 P3 P4 P5 P6 C13 Q0 G0 G1 Q1 Q2 L3 Q9 Q3 Q29 Q35 Q37 V0 Q4 Q5 P7 Q6 Q7 Q8 Q42 V14 Q10 Q11 Q12 Q13 Q14 W31 V13 W32 C14 W17 Q41 Q43 B0 B1 B10 B11 B12 B13 E8 B2 B3 C3 B4 B5 B6 B7 B8 B9 B14 B15 B16 R1 R2 R3 R7 R8 R9 E9 E11 N8 W44 E41 E42 N3 W45 W46 N9 W48 W47 N10 W49. -/
import Derived.Lib.AppendZerosOnto
import Derived.Lib.Walk
import Derived.WalkKit
import Derived.Shelf.Abstract
import Derived.Shelf.RegionOpenPlain
import Derived.Lib.SliceRun
import Derived.Test.YthhdollpkieknaaGreatM4
set_option linter.unusedSectionVars false
set_option linter.unusedVariables false
set_option linter.unusedSimpArgs false
set_option maxHeartbeats 4000000
set_option maxRecDepth 100000
namespace Go.Abs
def avs (xs:List Int):List AV:=xs.map AV.int
@[simp] theorem zsW (xs:List Int):(avs xs).length=xs.length:=by simp [avs]
@[simp] theorem zxP:avs []=[]:=rfl
theorem zal (xs:List Int) (x:Int):avs (xs++[x])=avs xs++[.val (.int .i64 x)]:=by simp [avs]
theorem zdf (xs:List Int) (x:Int):avs (x::xs)=.val (.int .i64 x)::avs xs:=by simp [avs]
theorem zmI (xs ys:List Int):avs (xs++ys)=avs xs++avs ys:=by simp [avs]
theorem zap {xs:List Int} {k:Nat} (h:k<xs.length):(avs xs).drop k=.val (.int .i64 (xs.getD k 0))::avs (xs.drop (k+1)):=by
 rw [avs,<- List.map_drop,List.drop_eq_getElem_cons h,List.map_cons]; simp [h,avs]
@[simp] theorem zxq {xs ys:List Int}:(avs xs=avs ys)=(xs=ys):=by
 apply propext
 constructor
 .intro h
  induction xs generalizing ys with
  | nil=>cases ys with
   | nil=>rfl
   | cons y ys=>simp [avs] at h
  | cons x xs ih=>cases ys with
   | nil=>simp [avs] at h
   | cons y ys =>
    rw [zdf,zdf] at h
    injection h with h1 h2
    injection h1 with h1
    injection h1 with _ h1
    rw [h1,ih h2]
 .rintro rfl; rfl
theorem zaK (xs:List Int) (k:Nat) (x:Int):(avs xs).set k (.val (.int .i64 x))=avs (xs.set k x):=by
 simp [avs,List.map_set]
@[simp] theorem zos (xs:List Int):zav (avs xs)=true:=by
 induction xs with
 | nil=>rfl
 | cons x xs ih=>simp [zdf,zav,ih,zax]
@[simp] theorem zcB (xs:List Int):frzL (avs xs)=avs xs:=by
 induction xs with
 | nil=>rfl
 | cons x xs ih=>simp [zdf,frzL,ih,frz]
@[simp] theorem zyB (W:List Nat) (xs:List Int):klL W (avs xs)=avs xs:=by
 induction xs with
 | nil=>rfl
 | cons x xs ih=>simp [zdf,klL,ih,kl]
@[simp] theorem zya (xs:List Int):zaO (avs xs)=false:=by
 induction xs with
 | nil=>rfl
 | cons x xs ih=>simp [zdf,zaO,ih,zbC]
@[simp] theorem zyo {xs:List Int}:(avs xs=[])=(xs=[]):=by
 cases xs <;> simp [avs]
theorem zux {n:Int} (h:0<=n) (m:Int):n.tmod m=n%m:=Int.tmod_eq_emod_of_nonneg h
theorem zuH {n:Int} (h:0<=n) (m:Int):n.tdiv m=n / m:=Int.tdiv_eq_ediv_of_nonneg h
theorem zj6 (n:Int):(n.tmod 10007+10007).tmod 10007=n%10007:=by
 rw [Int.tmod_eq_emod,Int.tmod_eq_emod]; split <;> split <;> simp_all <;> omega
theorem zjs (n:Int) : -10007<n.tmod 10007/\n.tmod 10007<10007:=by
 constructor
 .rw [Int.tmod_eq_emod]; split <;> simp_all <;> omega
 .exact Int.tmod_lt_of_pos n (by omega)
end Go.Abs


namespace Go.Proofs.YthhdollpkieknaaGreat
open Go.Abs
theorem ziJ (n a b:Int):Con Tryz.prog 103 [.int n,.int a,.int b] (.bool (decide (a<=n) && decide (n<=b))):=by
 refine zab Tryz.mixed ⟨4,[],[],[]⟩ Tryz.func103 ?_
 rw [Tryz.ntmps103]
 simp [go_sem]
 refine ⟨fun h=>?_,fun h=>?_⟩ <;> simp at h <;> simp [go_sem,h] <;> omega
theorem zsI (n a b:Int):Con Tryz.prog 119 [.int n,.int a,.int b] (.bool (decide (a<=n) && decide (n<=b))):=by
 refine zab Tryz.mixed ⟨4,[],[],[]⟩ Tryz.func119 ?_
 rw [Tryz.ntmps119]
 simp [go_sem]
 refine ⟨fun h=>?_,fun h=>?_⟩ <;> simp at h <;> simp [go_sem,h] <;> omega
def upTo (k:Nat):List Int:=(List.range k).map fun (i:Nat)=>(i:Int)
theorem znm (k:Nat):upTo (k+1)=upTo k++[(k:Int)]:=by simp [upTo,List.range_succ]
@[simp] theorem zw1 (k:Nat):(upTo k).length=k:=by simp [upTo]
def held (xs:List Int) (k:Int):Int:=if xs=(List.range xs.length).map (fun (i:Nat)=>k+i) then k+xs.length else -1
end Go.Proofs.YthhdollpkieknaaGreat


namespace Go.Proofs.YthhdollpkieknaaGreat
open Go.Abs
def idxF {α:Type} (p:α->Bool):List α->Int
 | [] => -1
 | x::xs=>if p x then 0 else if idxF p xs = -1 then -1 else idxF p xs+1
theorem zjZ {α:Type} (p:α->Bool):∀ xs:List α,-1<=idxF p xs/\idxF p xs<xs.length
 | []=>by simp [idxF]
 | x::xs=>by
  have:=zjZ p xs
  simp only [idxF,List.length_cons]
  split
  .omega
  .split <;> omega
theorem zqa {α:Type} (p:α->Bool) (xs:List α):decide (0<=idxF p xs)=xs.any p:=by
 induction xs with
 | nil=>simp [idxF]
 | cons x xs ih =>
  have:=zjZ p xs
  simp only [idxF,List.any_cons,<- ih]
  by_cases hp:p x=true
  .simp [hp]
  .simp only [hp]
   simp
   split
   .rename_i e; simp [e]
   .by_cases h:0<=idxF p xs <;> simp [h] <;> omega
theorem ziH {α:Type} (p:α->Bool):∀ (xs:List α) (i:Nat),(∀ x∈xs.take i,p x=false)->i<=xs.length->(idxF p xs=if idxF p (xs.drop i) = -1 then -1 else idxF p (xs.drop i)+i)
 | xs,0,h,hl=>by simp
 | [],i+1,h,hl=>by simp at hl
 | x::xs,i+1,h,hl=>by
  have h1:p x=false:=h x (by simp)
  have h2:=ziH p xs i (fun y hy=>h y (by simp [hy])) (by simpa using hl)
  simp only [idxF,h1,List.drop_succ_cons]
  have:=(zjZ p (xs.drop i)).1
  simp
  rw [h2]
  split
  .simp
  .rename_i hne
   rw [if_neg (by omega)]
   omega
theorem ziE (g:FuncId) (p:Int->Bool) (xs:List Int) (hl:xs.length<=9223372036854775807) (hg:∀ x∈xs,Con Tryz.prog g [.int x] (.bool (p x))) :
  Con Tryz.prog 277 [.sl xs.length (avs xs),.val (.func (.func g) #[] #[])] (.int (idxF p xs)):=by
 refine zab Tryz.mixed ⟨6,[],[],[]⟩ Tryz.func277 ?_
 rw [Tryz.ntmps277]
 simp [go_sem]
 refine zac (5::List.range' 8 20) (fun i:Nat=>[(8,.int i)]) (fun i=>i<=xs.length/\∀ x∈xs.take i,p x=false) (fun i=>xs.length-i) 0 (by simp) (by simp [go_sem]) (by simp [go_sem]) ?_
 rintro i ⟨hi,hf⟩
 simp [go_sem]
 have sk:=ziH p xs i hf hi
 refine ⟨fun h=>?_,fun h=>?_⟩ <;> simp at h
 .have hx:xs[i]?.getD 0∈xs:=by simp [h]
  have hd:xs.drop i=xs[i]?.getD 0::xs.drop (i+1):=by rw [List.drop_eq_getElem_cons h]; simp [h]
  simp [go_sem,zap h]
  refine ⟨⟨h,by rintro rfl; simp at h⟩,CallVC.of (hg _ hx) ?_⟩
  simp [go_sem]
  refine ⟨fun h2=>?_,fun h2=>?_⟩ <;> simp [go_sem]
  .rw [sk,hd]; simp [idxF,h2]
  .refine ⟨by omega,i+1,⟨by omega,?_⟩,by omega,zaa _ _ _ (by simp),by omega⟩
   intro x hx2
   rw [List.take_add_one,List.getElem?_eq_getElem h,Option.toList_some,List.mem_append,List.mem_singleton] at hx2
   rcases hx2 with hx2 | hx2
   .exact hf x hx2
   .rw [hx2]; simpa [h] using h2
 .simp [go_sem]
  rw [sk,List.drop_eq_nil_of_le h]; simp [idxF]
theorem zf0 (g:FuncId) (p:Int->Bool) (xs:List Int) (hl:xs.length<=9223372036854775807) (hg:∀ x∈xs,Con Tryz.prog g [.int x] (.bool (p x))) :
  Con Tryz.prog 231 [.sl xs.length (avs xs),.val (.func (.func g) #[] #[])] (.bool (xs.any p)):=by
 refine zab Tryz.mixed ⟨5,[],[],[]⟩ Tryz.func231 ?_
 rw [Tryz.ntmps231]
 simp [go_sem]
 refine CallVC.of (ziE g p xs hl hg) ?_
 simp [go_sem,zqa]
theorem zgW (a:Int):Con Tryz.prog 93 [.int a] (.bool (decide (0<=a/\a<=10006))):=by
 refine zab Tryz.mixed ⟨3,[],[],[]⟩ Tryz.func93 ?_
 rw [Tryz.ntmps93]
 simp [go_sem]
 refine CallVC.of (ziJ _ _ _) ?_
 simp [go_sem]
theorem zjE (a:Int):Con Tryz.prog 232 [.int a] (.bool (!decide (0<=a/\a<=10006))):=by
 refine zab Tryz.mixed ⟨3,[],[],[]⟩ Tryz.func232 ?_
 rw [Tryz.ntmps232]
 simp [go_sem]
 refine CallVC.of (zgW _) ?_
 simp [go_sem]
def zgd (xs:List Int):Bool:=xs.all fun a=>decide (0<=a/\a<=10006)
theorem ziV (xs:List Int) (hl:xs.length<=9223372036854775807):Con Tryz.prog 156 [.sl xs.length (avs xs)] (.bool (zgd xs)):=by
 refine zab Tryz.mixed ⟨3,[],[],[]⟩ Tryz.func156 ?_
 rw [Tryz.ntmps156]
 simp [go_sem]
 refine CallVC.of (zf0 _ _ xs hl (fun x _=>zjE x)) ?_
 simp [go_sem,zgd,List.not_any_eq_all_not]
end Go.Proofs.YthhdollpkieknaaGreat


namespace Go.Proofs.YthhdollpkieknaaGreat
open Go.Abs
def mat (xss:List (List Int)):List AV:=xss.map fun r=>.sl r.length (avs r)
@[simp] theorem zxC (xss:List (List Int)):(mat xss).length=xss.length:=by simp [mat]
theorem zak {xss:List (List Int)} {k:Nat} (h:k<xss.length):(mat xss).drop k=.sl (xss[k]?.getD []).length (avs (xss[k]?.getD []))::mat (xss.drop (k+1)):=by
 rw [mat,<- List.map_drop,List.drop_eq_getElem_cons h,List.map_cons]; simp [h,mat]
@[simp] theorem zyr {xss:List (List Int)}:(mat xss=[])=(xss=[]):=by cases xss <;> simp [mat]
theorem ze0 (n:Nat) (cs:List AV) (hn:n<=9223372036854775807):Con Tryz.prog 155 [.sl n cs] (.int n):=by
 refine zab Tryz.mixed ⟨3,[],[],[]⟩ Tryz.func155 ?_
 rw [Tryz.ntmps155]
 simp [go_sem]
 try omega
end Go.Proofs.YthhdollpkieknaaGreat


namespace Go.Proofs.YthhdollpkieknaaGreat
open Go.Abs
end Go.Proofs.YthhdollpkieknaaGreat


namespace Go.Proofs.YthhdollpkieknaaGreat
open Go.Abs
def omat (A:List (List Int)):List AV:=A.map fun r=>.own 2 r.length (avs r)
@[simp] theorem zw4 (A:List (List Int)):(omat A).length=A.length:=by simp [omat]
@[simp] theorem zqy (A:List (List Int)):frzL (omat A)=mat A:=by
 induction A with
 | nil=>rfl
 | cons r A ih=>simp only [omat,mat,List.map_cons,frzL] at ih |-; rw [ih]; simp [frz]
@[simp] theorem zet (A:List (List Int)):zav (omat A)=true:=by
 induction A with
 | nil=>rfl
 | cons r A ih=>simp only [omat,List.map_cons,zav] at ih |-; rw [ih]; simp [zax]
end Go.Proofs.YthhdollpkieknaaGreat


namespace Go.Proofs.YthhdollpkieknaaGreat
open Go.Abs
def sumL:List (List Int)->Nat
 | []=>0
 | r::rs=>r.length+sumL rs
theorem zdg (A C:List (List Int)):sumL (A++C)=sumL A+sumL C:=by
 induction A with
 | nil=>simp [sumL]
 | cons r A ih=>simp [sumL,ih]; omega
theorem zoK {A:List (List Int)} {i:Nat} (h:i<A.length):sumL (A.take (i+1))=sumL (A.take i)+(A[i]?.getD []).length:=by
 rw [List.take_add_one,zdg]; simp [h,sumL]
theorem ztP (A:List (List Int)) (i:Nat):sumL (A.take i)<=sumL A:=by
 have:=congrArg sumL (List.take_append_drop i A)
 rw [zdg] at this; omega
end Go.Proofs.YthhdollpkieknaaGreat


namespace Go.Proofs.YthhdollpkieknaaGreat
open Go.Abs
def pw (a k:Int):Int:=a ^ k.toNat%10007
theorem zbE (n:Int) (h0 : -9223372036854775808<=n) (h1:n<=9223372036854775807):Con Tryz.prog 81 [.int n] (.int (n%10007)):=by
 have e:=zj6 n
 have b:=zjs n
 refine zab Tryz.mixed ⟨3,[],[],[]⟩ Tryz.func81 ?_
 rw [Tryz.ntmps81]
 simp [go_sem,e]
 omega
theorem zcv (n:Int) (h0 : -9223372036854775808<=n) (h1:n<=9223372036854775807):Con Tryz.prog 214 [.int n] (.int (n%10007)):=by
 have e:=zj6 n
 have b:=zjs n
 refine zab Tryz.mixed ⟨3,[],[],[]⟩ Tryz.func214 ?_
 rw [Tryz.ntmps214]
 simp [go_sem,e]
 omega
def fits (n:Int):Prop := -9223372036854775808<=n/\n<=9223372036854775807
theorem zaZ (a b:Int) (h:fits (a*b)):Con Tryz.prog 124 [.int a,.int b] (.int (a*b%10007)):=by
 refine zab Tryz.mixed ⟨5,[],[],[]⟩ Tryz.func124 ?_
 rw [Tryz.ntmps124]
 simp [go_sem]
 refine ⟨h,CallVC.of (zcv _ h.1 h.2) ?_⟩
 simp [go_sem]
theorem ze6 (a b:Int) (h:fits (a-b)):Con Tryz.prog 125 [.int a,.int b] (.int ((a-b)%10007)):=by
 refine zab Tryz.mixed ⟨5,[],[],[]⟩ Tryz.func125 ?_
 rw [Tryz.ntmps125]
 simp [go_sem]
 refine ⟨h,CallVC.of (zcv _ h.1 h.2) ?_⟩
 simp [go_sem]
theorem zb8 (a b:Int) (h:fits (a+b)):Con Tryz.prog 192 [.int a,.int b] (.int ((a+b)%10007)):=by
 refine zab Tryz.mixed ⟨5,[],[],[]⟩ Tryz.func192 ?_
 rw [Tryz.ntmps192]
 simp [go_sem]
 refine ⟨h,CallVC.of (zcv _ h.1 h.2) ?_⟩
 simp [go_sem]
def isN (a:Int):Prop:=0<=a/\a<10007
theorem zai (n:Int):isN (n%10007):=⟨Int.emod_nonneg _ (by omega),Int.emod_lt_of_pos _ (by omega)⟩
theorem ziO {a b:Int} (ha:isN a) (hb:isN b):0<=a*b/\a*b<=100120036:=by
 obtain ⟨a0,a1⟩:=ha
 obtain ⟨b0,b1⟩:=hb
 exact ⟨Int.mul_nonneg a0 b0,Int.le_trans (Int.mul_le_mul_of_nonneg_right (show a<=10006 by omega) b0) (by omega)⟩
theorem zaw {a b:Int} (ha:isN a) (hb:isN b):fits (a*b):=by
 have:=ziO ha hb
 exact ⟨by omega,by omega⟩
theorem zdU {a b:Int} (ha:isN a) (hb:isN b):fits (a+b):=by
 obtain ⟨a0,a1⟩:=ha
 obtain ⟨b0,b1⟩:=hb
 exact ⟨by omega,by omega⟩
theorem zeV {a b:Int} (ha:isN a) (hb:isN b):fits (a-b):=by
 obtain ⟨a0,a1⟩:=ha
 obtain ⟨b0,b1⟩:=hb
 exact ⟨by omega,by omega⟩
theorem pow_mod (a:Int) (k:Nat):(a%10007) ^ k%10007=a ^ k%10007:=by
 induction k with
 | zero=>simp
 | succ k ih=>rw [Int.pow_succ,Int.pow_succ,Int.mul_emod,ih,Int.emod_emod,<- Int.mul_emod]
theorem zu8 (a:Int) (q:Nat):(a*a) ^ q=a ^ (2*q):=by
 induction q with
 | zero=>simp
 | succ q ih=>rw [Int.pow_succ,ih,show 2*(q+1)=2*q+1+1 by omega,Int.pow_succ,Int.pow_succ,Int.mul_assoc]
theorem zh7 (o x:Int):o*(x%10007)%10007=o*x%10007:=by
 rw [Int.mul_emod,Int.emod_emod,<- Int.mul_emod]
theorem znU (o x:Int):(x%10007)*o%10007=x*o%10007:=by
 rw [Int.mul_emod,Int.emod_emod,<- Int.mul_emod]
theorem zjP (o a:Int) (q:Nat):o*(a*a%10007) ^ q%10007=o*a ^ (2*q)%10007:=by
 rw [<- zh7,pow_mod,zh7,zu8]
theorem zsi (o a:Int) (q:Nat):(o*a%10007)*(a*a%10007) ^ q%10007=o*a ^ (2*q+1)%10007:=by
 rw [zjP,znU,Int.pow_succ,Int.mul_assoc,Int.mul_comm (a ^ (2*q)) a]
theorem zcl (j:Nat):(j:Int).tdiv 2=((j / 2:Nat):Int):=by rw [zuH (by omega)]; omega
theorem zc0 (j:Nat):(j:Int).tmod 2=((j%2:Nat):Int):=by rw [zux (by omega)]; omega
theorem zvd (a k:Int) (ha:isN a) (hk:0<=k) (hk2:k<=9223372036854775807):Con Tryz.prog 116 [.int a,.int k] (.int (pw a k)):=by
 refine zab Tryz.mixed ⟨6,[],[],[]⟩ Tryz.func116 ?_
 rw [Tryz.ntmps116]
 simp [go_sem]
 refine zac (0::1::List.range' 4 30) (fun x:Int × Nat × Int=>[(0,.int x.1),(1,.int x.2.1),(5,.int x.2.2)])
  (fun x=>isN x.1/\(x.2.1:Int)<=9223372036854775807/\isN x.2.2/\x.2.2*x.1 ^ x.2.1%10007=a ^ k.toNat%10007) (fun x=>x.2.1) (a,k.toNat,1) ⟨ha,by simp; omega,⟨by simp,by simp⟩,by simp⟩ (by simp [go_sem]; omega) (by simp [go_sem]) ?_
 rintro ⟨b,j,o⟩ ⟨hb,hj,ho,he⟩
 simp only at hb hj ho he
 have f1:=zaw hb hb
 have f2:=zaw ho hb
 simp [go_sem]
 refine ⟨fun h=>?_,fun h=>?_⟩ <;> simp at h
 .simp [go_sem,zcl,zc0]
  refine ⟨fun h2=>?_,fun h2=>?_⟩ <;> simp at h2 <;> simp [go_sem]
  .refine ⟨f2,CallVC.of (zbE _ f2.1 f2.2) ?_⟩
   simp [go_sem]
   refine ⟨f1,CallVC.of (zbE _ f1.1 f1.2) ?_⟩
   simp [go_sem,zcl,zc0]
   refine ⟨by omega,b*b%10007,j / 2,o*b%10007,⟨zai _,by omega,zai _,?_⟩,by omega,zaa _ _ _ (by simp),rfl,by omega,rfl⟩
   rw [zsi,show 2*(j / 2)+1=j by omega,he]
  .refine ⟨f1,CallVC.of (zbE _ f1.1 f1.2) ?_⟩
   simp [go_sem,zcl,zc0]
   refine ⟨by omega,b*b%10007,j / 2,o,⟨zai _,by omega,ho,?_⟩,by omega,zaa _ _ _ (by simp),rfl,by omega,rfl⟩
   rw [zjP,show 2*(j / 2)=j by omega,he]
 .simp [go_sem]
  subst h
  unfold pw
  rw [<- he]
  simp
  rw [Int.emod_eq_of_lt ho.1 ho.2]
theorem zhi (a k:Int) (ha:isN a) (hk:0<=k) (hk2:k<=9223372036854775807):Con Tryz.prog 122 [.int a,.int k] (.int (pw a k)):=by
 refine zab Tryz.mixed ⟨6,[],[],[]⟩ Tryz.func122 ?_
 rw [Tryz.ntmps122]
 simp [go_sem]
 refine zac (0::1::List.range' 4 30) (fun x:Int × Nat × Int=>[(0,.int x.1),(1,.int x.2.1),(5,.int x.2.2)])
  (fun x=>isN x.1/\(x.2.1:Int)<=9223372036854775807/\isN x.2.2/\x.2.2*x.1 ^ x.2.1%10007=a ^ k.toNat%10007) (fun x=>x.2.1) (a,k.toNat,1) ⟨ha,by simp; omega,⟨by simp,by simp⟩,by simp⟩ (by simp [go_sem]; omega) (by simp [go_sem]) ?_
 rintro ⟨b,j,o⟩ ⟨hb,hj,ho,he⟩
 simp only at hb hj ho he
 have f1:=zaw hb hb
 have f2:=zaw ho hb
 simp [go_sem]
 refine ⟨fun h=>?_,fun h=>?_⟩ <;> simp at h
 .simp [go_sem,zcl,zc0]
  refine ⟨fun h2=>?_,fun h2=>?_⟩ <;> simp at h2 <;> simp [go_sem]
  .refine CallVC.of (zaZ _ _ f2) ?_
   simp [go_sem]
   refine CallVC.of (zaZ _ _ f1) ?_
   simp [go_sem,zcl,zc0]
   refine ⟨by omega,b*b%10007,j / 2,o*b%10007,⟨zai _,by omega,zai _,?_⟩,by omega,zaa _ _ _ (by simp),rfl,by omega,rfl⟩
   rw [zsi,show 2*(j / 2)+1=j by omega,he]
  .refine CallVC.of (zaZ _ _ f1) ?_
   simp [go_sem,zcl,zc0]
   refine ⟨by omega,b*b%10007,j / 2,o,⟨zai _,by omega,ho,?_⟩,by omega,zaa _ _ _ (by simp),rfl,by omega,rfl⟩
   rw [zjP,show 2*(j / 2)=j by omega,he]
 .simp [go_sem]
  subst h
  unfold pw
  rw [<- he]
  simp
  rw [Int.emod_eq_of_lt ho.1 ho.2]
theorem ztx (a:Int) (ha:isN a):Con Tryz.prog 82 [.int a] (.int (pw a 10005)):=by
 refine zab Tryz.mixed ⟨3,[],[],[]⟩ Tryz.func82 ?_
 rw [Tryz.ntmps82]
 simp [go_sem]
 refine CallVC.of (zvd _ _ ha (by omega) (by omega)) ?_
 simp [go_sem]
theorem zks (a:Int) (ha:isN a):Con Tryz.prog 126 [.int a] (.int (pw a 10005)):=by
 refine zab Tryz.mixed ⟨3,[],[],[]⟩ Tryz.func126 ?_
 rw [Tryz.ntmps126]
 simp [go_sem]
 refine CallVC.of (zhi _ _ ha (by omega) (by omega)) ?_
 simp [go_sem]
def fact:Nat->Int
 | 0=>1
 | n+1=>fact n*(n+1)
theorem ze9:∀ n,1<=fact n
 | 0=>by simp [fact]
 | n+1=>by
  have:=ze9 n
  have:1*1<=fact n*(n+1:Int):=Int.mul_le_mul this (by omega) (by omega) (by omega)
  simp [fact]; omega
theorem znV (n:Nat):fact n<=fact (n+1):=by
 have:=ze9 n
 have:fact n*1<=fact n*(n+1:Int):=Int.mul_le_mul_of_nonneg_left (by omega) (by omega)
 simp [fact]; omega
theorem zoc {n m:Nat} (h:n<=m):fact n<=fact m:=by
 induction m with
 | zero=>rw [show n=0 by omega]; omega
 | succ m ih=>rcases Nat.lt_or_ge n (m+1) with hl | hl
              .exact Int.le_trans (ih (by omega)) (znV m)
              .rw [show n=m+1 by omega]; omega
theorem znw {n:Nat} (h:n<=20):1<=fact n/\fact n<=9223372036854775807 :=
 ⟨ze9 n,Int.le_trans (zoc h) (by decide)⟩
theorem zjB (n:Nat) (h:n<=20):Con Tryz.prog 175 [.int n] (.int (fact n)):=by
 refine zab Tryz.mixed ⟨5,[],[],[]⟩ Tryz.func175 ?_
 rw [Tryz.ntmps175]
 simp [go_sem]
 refine zac (List.range' 2 20) (fun k:Nat=>[(3,.int (fact (k+1))),(4,.int (k+2))]) (fun k=>k<=n-1) (fun k=>n-k) 0 (by simp) (by simp [go_sem]; decide) (by simp [go_sem]) ?_
 intro k hk
 simp [go_sem]
 refine ⟨fun h2=>?_,fun h2=>?_⟩ <;> simp at h2
 .have e:fact (k+1)*((k:Int)+2)=fact (k+1+1):=by simp only [fact]; rw [show ((k+1:Nat):Int)+1=(k:Int)+2 by omega]
  have b:=znw (show k+1+1<=20 by omega)
  simp [go_sem,e]
  refine ⟨by omega,by omega,k+1,by omega,by omega,zaa _ _ _ (by simp),rfl,by omega⟩
 .simp [go_sem]
  rcases (show k=0/\n<=1\/k+1=n by omega) with ⟨rfl,_⟩ | hk
  .have:n=0\/n=1:=by omega
   rcases this with rfl | rfl <;> rfl
  .rw [hk]
end Go.Proofs.YthhdollpkieknaaGreat


namespace Go.Proofs.YthhdollpkieknaaGreat
open Go.Abs
end Go.Proofs.YthhdollpkieknaaGreat


namespace Go.Proofs.YthhdollpkieknaaGreat
open Go.Abs
def dotI:List Int->List Int->Int
 | x::xs,y::ys=>x*y+dotI xs ys
 | _,_=>0
theorem ziN:∀ {xs ys:List Int} {k:Nat},k<xs.length->k<ys.length->dotI (xs.take (k+1)) (ys.take (k+1))=dotI (xs.take k) (ys.take k)+xs[k]?.getD 0*ys[k]?.getD 0
 | x::xs,y::ys,0,_,_=>by simp [dotI]
 | x::xs,y::ys,k+1,h,h2=>by
  have:=ziN (xs:=xs) (ys:=ys) (k:=k) (by simpa using h) (by simpa using h2)
  simp only [List.take_succ_cons,dotI,this,List.getElem?_cons_succ]; omega
theorem zgK:∀ {xs ys:List Int},xs.length<=ys.length->dotI xs (ys.take xs.length)=dotI xs ys
 | [],ys,_=>by simp [dotI]
 | x::xs,[],h=>by simp at h
 | x::xs,y::ys,h=>by simp [dotI,zgK (xs:=xs) (ys:=ys) (by simpa using h)]
def Ns (xs:List Int):Prop:=∀ x∈xs,isN x
theorem Ns.get {xs:List Int} (h:Ns xs) (k:Nat):isN (xs[k]?.getD 0):=by
 rcases Nat.lt_or_ge k xs.length with hk | hk
 .simp [hk]; exact h _ (List.getElem_mem hk)
 .simp [hk]; exact ⟨by omega,by omega⟩
theorem Ns.take {xs:List Int} (h:Ns xs) (k:Nat):Ns (xs.take k):=fun x hx=>h x (List.mem_of_mem_take hx)
theorem Ns.snoc {xs:List Int} (h:Ns xs) {x:Int} (hx:isN x):Ns (xs++[x]):=fun y hy=>by
 rcases List.mem_append.1 hy with hy | hy
 .exact h y hy
 .simp at hy; subst hy; exact hx
theorem Ns.nil:Ns []:=by intro x hx; simp at hx
theorem zki (xs ys:List Int) (hl:xs.length<=ys.length) (h64:xs.length<=9223372036854775807) (hx:Ns xs) (hy:Ns ys):Con Tryz.prog 305 [.sl xs.length (avs xs),.sl ys.length (avs ys)] (.int (dotI xs ys%10007)):=by
 refine zab Tryz.mixed ⟨7,[],[],[]⟩ Tryz.func305 ?_
 rw [Tryz.ntmps305]
 simp [go_sem]
 refine zac (List.range' 5 25) (fun k:Nat=>[(5,.int (dotI (xs.take k) (ys.take k)%10007)),(6,.int k)]) (fun k=>k<=xs.length) (fun k=>xs.length-k) 0 (by simp) (by simp [go_sem,dotI]) (by simp [go_sem]) ?_
 intro k hk
 simp [go_sem]
 refine ⟨fun h=>?_,fun h=>?_⟩ <;> simp at h
 .have h2:k<ys.length:=by omega
  simp [go_sem,zap h,zap h2]
  refine ⟨by kernel_rfl,⟨h,by rintro rfl; simp at h⟩,⟨h2,by rintro rfl; simp at h2⟩,?_⟩
  refine CallD.of (zaZ _ _ (zaw (hx.get k) (hy.get k))) ?_
  simp [go_sem]
  refine CallD.of (zb8 _ _ (zdU (zai _) (zai _))) ?_
  simp [go_sem]
  refine ⟨by kernel_rfl,?_⟩
  simp [go_sem]
  refine ⟨by omega,k+1,by omega,by omega,zaa _ _ _ (by simp),?_,by omega⟩
  rw [ziN h h2]
 .have e:k=xs.length:=by omega
  subst e
  rw [List.take_length,zgK hl]
  simp [go_sem]
def tim (A:List (List Int)) (v:List Int):List Int:=A.map fun r=>dotI r v%10007
@[simp] theorem zx2 (A:List (List Int)) (v:List Int):(tim A v).length=A.length:=by simp [tim]
theorem zrt {A:List (List Int)} {v:List Int} {k:Nat} (h:k<A.length):tim (A.take (k+1)) v=tim (A.take k) v++[dotI (A[k]?.getD []) v%10007]:=by
 rw [tim,tim,List.take_add_one,List.getElem?_eq_getElem h]
 simp only [List.map_append,List.map_cons,List.map_nil,Option.toList_some,Option.getD_some]
theorem zye (A:List (List Int)) (v:List Int):Ns (tim A v):=by
 intro x hx
 simp [tim] at hx
 obtain ⟨r,_,rfl⟩:=hx
 exact zai _
def Mat (n:Nat) (A:List (List Int)):Prop:=∀ r∈A,r.length=n/\Ns r
theorem Mat.get {n:Nat} {A:List (List Int)} (h:Mat n A) {k:Nat} (hk:k<A.length):(A[k]?.getD []).length=n/\Ns (A[k]?.getD []):=by
 rw [List.getElem?_eq_getElem hk]; exact h _ (List.getElem_mem hk)
theorem zmc (A:List (List Int)) (v:List Int) (hA:Mat v.length A) (h64:v.length<=1048576) (hl:A.length<=1048576) (hv:Ns v) :
  Con Tryz.prog 350 [.sl A.length (mat A),.sl v.length (avs v)] (.own 2 A.length (avs (tim A v))):=by
 refine zab Tryz.mixed ⟨7,[],[],[]⟩ Tryz.func350 ?_
 rw [Tryz.ntmps350]
 simp [go_sem]
 refine zac (List.range' 5 25) (fun k:Nat=>[(5,.own 2 k (avs (tim (A.take k) v))),(6,.int k)]) (fun k=>k<=A.length) (fun k=>A.length-k) 0 (by simp) (by simp [go_sem,tim]) (by simp [go_sem]) ?_
 intro k hk
 simp [go_sem]
 refine ⟨fun h=>?_,fun h=>?_⟩ <;> simp at h
 .have g1:=(hA.get h).1
  have g2:=(hA.get h).2
  simp [go_sem,zak h]
  refine ⟨⟨h,by rintro rfl; simp at h⟩,?_⟩
  refine CallVC.of (zki _ v (by omega) (by omega) g2 hv) ?_
  simp [go_sem]
  refine ⟨⟨by omega,by omega⟩,by omega,k+1,by omega,by omega,zaa _ _ _ (by simp),?_,by omega⟩
  simp [zrt h,zal]
 .simp [go_sem]
  have e:k=A.length:=by omega
  subst e; simp
end Go.Proofs.YthhdollpkieknaaGreat


namespace Go.Proofs.YthhdollpkieknaaGreat
open Go.Abs
abbrev u64 (n:Int):AV:=.val (.int .u64 n)
theorem zc2 {x:Int} (h0:0<=x) (h1:x<18446744073709551616):IntKind.wrap .u64 x=x:=zd9 (by
 have e1:IntKind.min .u64=0:=by decide
 have e2:IntKind.max .u64=18446744073709551615:=by decide
 unfold inK; rw [e1,e2]; omega)
end Go.Proofs.YthhdollpkieknaaGreat


namespace Go.Proofs.YthhdollpkieknaaGreat
open Go.Abs
theorem zgo (a:Int):Con Tryz.prog 266 [.int a] (.bool (decide (0<=a/\a<=10006))):=by
 refine zab Tryz.mixed ⟨3,[],[],[]⟩ Tryz.func266 ?_
 rw [Tryz.ntmps266]
 simp [go_sem]
 refine CallVC.of (zsI _ _ _) ?_
 simp [go_sem]
theorem zoQ {xs:List Int} {i:Nat} (h:i<xs.length) (hb:¬ (0<=xs[i]?.getD 0/\xs[i]?.getD 0<=10006)):zgd xs=false:=by
 rw [List.getElem?_eq_getElem h] at hb
 simp only [Option.getD_some] at hb
 unfold zgd
 rw [List.all_eq_false]
 exact ⟨xs[i],List.getElem_mem h,by simpa using hb⟩
theorem zqi {xs:List Int} (h:∀ x∈xs,0<=x/\x<=10006):zgd xs=true:=by
 unfold zgd
 rw [List.all_eq_true]
 intro x hx
 simpa using h x hx
theorem zm7 {xs:List Int}:zgd xs=true ↔ Ns xs:=by
 unfold zgd Ns isN
 rw [List.all_eq_true]
 constructor
 .intro h x hx
  have:=h x hx
  simp at this; omega
 .intro h x hx
  have:=h x hx
  simp; omega
theorem zq7 {α:Type} {p:α->Prop} {xs:List α} {i:Nat} (h:i<xs.length) (h1:∀ x∈xs.take i,p x) (h2:p xs[i]):∀ x∈xs.take (i+1),p x:=by
 intro x hx
 rw [List.take_add_one,List.getElem?_eq_getElem h,Option.toList_some,List.mem_append,List.mem_singleton] at hx
 rcases hx with hx | rfl
 .exact h1 x hx
 .exact h2
theorem ziD (xs:List Int) (hl:xs.length<=9223372036854775807):Con Tryz.prog 208 [.sl xs.length (avs xs)] (.bool (zgd xs)):=by
 refine zab Tryz.mixed ⟨4,[],[],[]⟩ Tryz.func208 ?_
 rw [Tryz.ntmps208]
 simp [go_sem]
 refine zac (List.range' 2 14) (fun i:Nat=>[(3,.int i)]) (fun i=>i<=xs.length/\∀ x∈xs.take i,0<=x/\x<=10006) (fun i=>xs.length-i) 0 (by simp) (by simp [go_sem]) (by simp [go_sem]) ?_
 rintro i ⟨hi,hp⟩
 simp [go_sem]
 refine ⟨fun h=>?_,fun h=>?_⟩ <;> simp at h
 .simp [go_sem,zap h]
  refine ⟨⟨h,by rintro rfl; simp at h⟩,?_⟩
  refine CallVC.of (zgo _) ?_
  by_cases hb:0<=xs[i]?.getD 0/\xs[i]?.getD 0<=10006
  .simp [go_sem,hb]
   refine ⟨by omega,i+1,⟨by omega,?_⟩,by omega,zaa _ _ _ (by simp),by omega⟩
   rw [List.getElem?_eq_getElem h,Option.getD_some] at hb
   exact zq7 h hp hb
  .have e:decide (0<=xs[i]?.getD 0/\xs[i]?.getD 0<=10006)=false:=by simpa using hb
   rw [e]
   simp [go_sem]
   exact zoQ h hb
 .simp [go_sem]
  have e:i=xs.length:=by omega
  subst e
  rw [List.take_length] at hp
  exact zqi hp
theorem znx (n:Nat) (hn:n<=1000000):Con Tryz.prog 349 [.int n] (.own 2 n (avs (List.replicate n 1))):=by
 refine zab Tryz.mixed ⟨4,[],[],[]⟩ Tryz.func349 ?_
 rw [Tryz.ntmps349]
 simp [go_sem]
 refine zac (0::List.range' 3 9) (fun i:Nat=>[(0,.int (n-i:Nat)),(3,.own 2 i (avs (List.replicate i 1)))]) (fun i=>i<=n) (fun i=>n-i) 0 (by simp) (by simp [go_sem]) (by simp [go_sem]) ?_
 intro i hi
 simp [go_sem]
 refine ⟨fun h=>?_,fun h=>?_⟩ <;> simp at h
 .simp [go_sem]
  refine ⟨⟨by omega,by omega⟩,by omega,i+1,by omega,by omega,zaa _ _ _ (by simp),by omega,?_⟩
  simp [List.replicate_succ',zal]
 .simp [go_sem]
  have e:i=n:=by omega
  subst e; simp
structure Tab (A:List (List Int)) (B:List Int):Prop where
 pos:1<=B.length
 le:B.length<=8
 len:A.length=B.length
 b:Ns B
 a:Mat B.length A
end Go.Proofs.YthhdollpkieknaaGreat


namespace Go.Proofs.YthhdollpkieknaaGreat
open Go.Abs
abbrev Mon:=Int × List Int
def sumC {α:Type} (c:α->Nat):List α->Nat
 | []=>0
 | a::l=>c a+sumC c l
structure SzOk {α:Type} (g:Int->α->Int) (c:α->Nat):Prop where
 lo:∀ l a,-1<=g l a
 hi:∀ l a,0<=l->g l a<=l
 ok:∀ l a,0<=l->0<=g l a->(c a:Int)<=l-g l a
def cM (m:Mon):Nat:=m.2.length
def cP (p:List Mon):Nat:=p.length+sumC cM p
def cF (f:List (List Mon)):Nat:=f.length+sumC cP f
end Go.Proofs.YthhdollpkieknaaGreat


namespace Go.Proofs.YthhdollpkieknaaGreat
open Go.Abs
end Go.Proofs.YthhdollpkieknaaGreat


namespace Go.Proofs.YthhdollpkieknaaGreat
open Go.Abs
def ltL:List Int->List Int->Bool
 | _,[]=>false
 | [],_::_=>true
 | x::xs,y::ys=>if x=y then ltL xs ys else decide (x<y)
theorem zsz:∀ {a b:List Int} {i:Nat},i<a.length->i<b.length->a.take i=b.take i->a[i]?.getD 0≠b[i]?.getD 0->ltL a b=decide (a[i]?.getD 0<b[i]?.getD 0)
 | x::a,y::b,0,_,_,_,h=>by
  simp at h
  simp [ltL,h]
 | x::a,y::b,i+1,h1,h2,h3,h4=>by
  simp at h3
  simp only [ltL,if_pos h3.1]
  simpa using zsz (a:=a) (b:=b) (i:=i) (by simpa using h1) (by simpa using h2) h3.2 (by simpa using h4)
theorem zjG:∀ {a b:List Int} {i:Nat},a.take i=b.take i->i<=a.length->i<=b.length->(a.length<=i\/b.length<=i)->ltL a b=decide (a.length<b.length)
 | _,[],i,_,_,_,_=>by simp [ltL]
 | [],_::_,i,_,_,_,_=>by simp [ltL]
 | x::a,y::b,0,_,h1,h2,h3=>by simp at h3
 | x::a,y::b,i+1,h,h1,h2,h3=>by
  simp at h
  simp only [ltL,if_pos h.1]
  have:=zjG (a:=a) (b:=b) (i:=i) h.2 (by simpa using h1) (by simpa using h2) (by simpa using h3)
  rw [this]; simp
theorem zkW {a b:List Int} {i:Nat} (h1:i<a.length) (h2:i<b.length) (h:a.take i=b.take i) (e:a[i]?.getD 0=b[i]?.getD 0):a.take (i+1)=b.take (i+1):=by
 rw [List.getElem?_eq_getElem h1,List.getElem?_eq_getElem h2] at e
 simp at e
 rw [List.take_add_one,List.take_add_one,h,List.getElem?_eq_getElem h1,List.getElem?_eq_getElem h2,e]
theorem ziY (a b:List Int) (ha:a.length<=9223372036854775807) (hb:b.length<=9223372036854775807):Con Tryz.prog 225 [.sl a.length (avs a),.sl b.length (avs b)] (.bool (ltL a b)):=by
 refine zab Tryz.mixed ⟨6,[],[],[]⟩ Tryz.func225 ?_
 rw [Tryz.ntmps225]
 simp [go_sem]
 refine zac (4::5::List.range' 6 30) (fun i:Nat=>[(5,.int i)]) (fun i=>i<=a.length/\i<=b.length/\a.take i=b.take i) (fun i=>a.length-i) 0 (by simp) (by simp [go_sem]) (by simp [go_sem]) ?_
 rintro i ⟨hi,hj,he⟩
 by_cases h1:i<a.length
 .by_cases h2:i<b.length
  .have h1':(i:Int)<a.length:=by omega
   have h2':(i:Int)<b.length:=by omega
   by_cases hd:a[i]?.getD 0=b[i]?.getD 0
   .simp [go_sem,h1,h2,h1',h2',zap h1,zap h2,hd]
    refine ⟨by kernel_rfl,by rintro rfl; simp at h1,by rintro rfl; simp at h2,?_⟩
    have hd2:a[i]=b[i]:=by simpa [h1,h2] using hd
    refine ⟨by kernel_rfl,?_⟩
    simp [go_sem]
    simp [go_sem,hd2]
    refine ⟨by omega,i+1,⟨by omega,by omega,zkW h1 h2 he hd⟩,by omega,zaa _ _ _ (by simp),by omega⟩
   .simp [go_sem,h1,h2,h1',h2',zap h1,zap h2,hd]
    refine ⟨by kernel_rfl,by rintro rfl; simp at h1,by rintro rfl; simp at h2,?_⟩
    have hd2:¬ a[i]=b[i]:=by simpa [h1,h2] using hd
    refine ⟨by kernel_rfl,?_⟩
    simp [go_sem]
    simp [go_sem,hd2,zap h1,zap h2]
    refine ⟨by kernel_rfl,⟨h1,by rintro rfl; simp at h1⟩,⟨h2,by rintro rfl; simp at h2⟩,?_⟩
    refine ⟨by kernel_rfl,?_⟩
    simp [go_sem]
    rw [zsz h1 h2 he hd]
  .have h2':¬ (i:Int)<b.length:=by omega
   simp [go_sem,h1,h2,h2']
   rw [zjG he hi hj (.inr (by omega))]
 .simp [go_sem,h1]
  rw [zjG he hi hj (.inl (by omega))]
def degL:List Int->Int->Int
 | [],s=>s
 | x::xs,s=>if x<0\/100<x then 1000 else degL xs (s+x)
def monB (z:Int) (m:Mon):Bool:=decide (1<=m.1/\m.1<=10006) && decide ((m.2.length:Int)=z) && decide (degL m.2 0<=3)
def atB (z:Int) (p:List Mon) (j:Nat):Bool:=monB z (p[j]?.getD (0,[])) && (decide (j=0) || ltL (p[j-1]?.getD (0,[])).2 (p[j]?.getD (0,[])).2)
def zxF (z:Int) (p:List Mon):Bool:=(List.range p.length).all (atB z p)
end Go.Proofs.YthhdollpkieknaaGreat


namespace Go.Proofs.YthhdollpkieknaaGreat
open Go.Abs
structure MonOk (z:Int) (m:Mon):Prop where
 lo:1<=m.1
 hi:m.1<=10006
 len:(m.2.length:Int)=z
 pw:∀ x∈m.2,0<=x/\x<=3
 deg:m.2.sum<=3
theorem MonOk.get {z:Int} {m:Mon} (h:MonOk z m) (k:Nat):0<=m.2[k]?.getD 0/\m.2[k]?.getD 0<=3:=by
 rcases Nat.lt_or_ge k m.2.length with hk | hk
 .simp [hk]; exact h.pw _ (List.getElem_mem hk)
 .simp [hk]
structure FieldOk (z:Int) (f:List (List Mon)):Prop where
 lo:1<=z
 hi:z<=3
 len:(f.length:Int)=z
 part:∀ p∈f,zxF z p=true
end Go.Proofs.YthhdollpkieknaaGreat


namespace Go.Proofs.YthhdollpkieknaaGreat
open Go.Abs
def cmpI (x y:Int):Int:=if x<y then -1 else if y<x then 1 else 0
theorem znl [DrawK] (x:Int):Con Tryz.prog 286 [.int x] (.bool false):=by
 refine zab Tryz.mixed ⟨3,[],[],[]⟩ Tryz.func286 ?_
 rw [Tryz.ntmps286]
 simp [go_sem]
theorem zl1 [DrawK] (x y:Int):Con Tryz.prog 238 [.int x,.int y] (.int (cmpI x y)):=by
 refine zab Tryz.mixed ⟨7,[],[],[]⟩ Tryz.func238 ?_
 rw [Tryz.ntmps238]
 simp [go_sem]
 refine CallVC.of (znl _) ?_
 simp [go_sem]
 refine CallVC.of (znl _) ?_
 simp [go_sem]
 unfold cmpI
 by_cases h1:x<y
 .simp [go_sem,h1]
 .by_cases h2:y<x
  .simp [go_sem,h1,h2]
  .simp [go_sem,h1,h2]
def cmpL:List Int->List Int->Int
 | [],[]=>0
 | [],_::_ => -1
 | _::_,[]=>1
 | x::xs,y::ys=>if x=y then cmpL xs ys else cmpI x y
theorem zni {x y:Int} (h:x≠y):cmpI x y≠0:=by unfold cmpI; split; omega; split <;> omega
theorem zpk:∀ a b:List Int,decide (0<=cmpL a b)=!ltL a b
 | [],[]=>by simp [cmpL,ltL]
 | [],_::_=>by simp [cmpL,ltL]
 | _::_,[]=>by simp [cmpL,ltL]
 | x::xs,y::ys=>by
  rw [cmpL,ltL]
  by_cases h:x=y
  .rw [if_pos h,if_pos h]; exact zpk xs ys
  .rw [if_neg h,if_neg h]
   unfold cmpI
   by_cases h1:x<y
   .simp [h1]
   .have:y<x:=by omega
    simp [h1,this]
theorem zmE:∀ {a b:List Int} {i:Nat},i<a.length->i<b.length->a.take i=b.take i->a[i]?.getD 0≠b[i]?.getD 0->cmpL a b=cmpI (a[i]?.getD 0) (b[i]?.getD 0)
 | x::a,y::b,0,_,_,_,h=>by
  simp at h
  simp [cmpL,h]
 | x::a,y::b,i+1,h1,h2,h3,h4=>by
  simp at h3
  simp only [cmpL,if_pos h3.1]
  simpa using zmE (a:=a) (b:=b) (i:=i) (by simpa using h1) (by simpa using h2) h3.2 (by simpa using h4)
theorem zh3:∀ {a b:List Int} {i:Nat},i<a.length->b.length<=i->a.take b.length=b->cmpL a b=1
 | x::a,[],_,_,_,_=>by simp [cmpL]
 | x::a,y::b,0,_,h,_=>by simp at h
 | x::a,y::b,i+1,h1,h2,h3=>by
  simp at h3
  simp only [cmpL,if_pos h3.1]
  exact zh3 (a:=a) (b:=b) (i:=i) (by simpa using h1) (by simpa using h2) h3.2
theorem zlo:∀ {a b:List Int},a=b.take a.length->cmpL a b=if a.length<b.length then -1 else 0
 | [],[],_=>by simp [cmpL]
 | [],_::_,_=>by simp [cmpL]
 | x::a,[],h=>by simp at h
 | x::a,y::b,h=>by
  simp at h
  simp only [cmpL,if_pos h.1]
  rw [zlo h.2]; simp
theorem zid [DrawK] (a b:List Int) (ha:a.length<=9223372036854775807) (hb:b.length<=9223372036854775807):Con Tryz.prog 167 [.sl a.length (avs a),.sl b.length (avs b)] (.int (cmpL a b)):=by
 refine zab Tryz.mixed ⟨9,[],[],[]⟩ Tryz.func167 ?_
 rw [Tryz.ntmps167]
 simp [go_sem]
 refine zac (4::5::6::7::8::List.range' 11 20) (fun i:Nat=>[(11,.int i)]) (fun i=>i<=a.length/\i<=b.length/\a.take i=b.take i) (fun i=>a.length-i) 0 (by simp) (by simp [go_sem]) (by simp [go_sem]) ?_
 rintro i ⟨hi,hj,he⟩
 simp [go_sem]
 refine ⟨fun h=>?_,fun h=>?_⟩ <;> simp at h
 .have h1:=h
  simp [go_sem,zap h1]
  refine ⟨⟨h1,by rintro rfl; simp at h1⟩,?_⟩
  by_cases h2:i<b.length
  .have h2':¬ (b.length<=i):=by omega
   simp [go_sem,h2',zap h2]
   refine ⟨⟨h2,by rintro rfl; simp at h2⟩,?_⟩
   refine CallVC.of (zl1 _ _) ?_
   simp [go_sem]
   by_cases hd:a[i]?.getD 0=b[i]?.getD 0
   .have hc:cmpI (a[i]?.getD 0) (b[i]?.getD 0)=0:=by unfold cmpI; rw [if_neg (by omega),if_neg (by omega)]
    simp [go_sem,hc]
    refine ⟨by omega,i+1,⟨by omega,by omega,zkW h1 h2 he hd⟩,by omega,zaa _ _ _ (by simp),by omega⟩
   .have hc:=zni hd
    simp [go_sem,hc]
    rw [zmE h1 h2 he hd]
  .have h2':b.length<=i:=by omega
   have e:i=b.length:=by omega
   simp [go_sem,h2']
   rw [zh3 h1 h2' (by rw [<- e,he,e,List.take_length])]
 .simp [go_sem]
  have e:i=a.length:=by omega
  subst e
  rw [List.take_length] at he
  rw [zlo he]
  by_cases h3:a.length<b.length
  .simp [go_sem,h3]
  .simp [go_sem,h3]
end Go.Proofs.YthhdollpkieknaaGreat


namespace Go.Proofs.YthhdollpkieknaaGreat
open Go.Abs
end Go.Proofs.YthhdollpkieknaaGreat


namespace Go.Proofs.YthhdollpkieknaaGreat
open Go.Abs
theorem zhf:∀ a:List Int,ltL a a=false
 | []=>rfl
 | x::a=>by simp [ltL,zhf a]
theorem zbM:∀ {a b c:List Int},ltL a b=true->ltL b c=true->ltL a c=true
 | _,[],_,h,_=>by simp [ltL] at h
 | _,_::_,[],_,h=>by simp [ltL] at h
 | [],_::_,_::_,_,_=>rfl
 | x::a,y::b,z::c,h1,h2=>by
  simp only [ltL] at h1 h2 |-
  split at h1
  .rename_i e; subst e
   split at h2
   .rename_i e; subst e; rw [if_pos rfl]; exact zbM h1 h2
   .rename_i e; rw [if_neg e]; exact h2
  .rename_i e1
   simp only [decide_eq_true_eq] at h1
   split at h2
   .rename_i e; subst e; rw [if_neg e1]; simpa using h1
   .rename_i e
    simp only [decide_eq_true_eq] at h2
    rw [if_neg (by omega)]; simp; omega
end Go.Proofs.YthhdollpkieknaaGreat


namespace Go.Proofs.YthhdollpkieknaaGreat
open Go.Abs
end Go.Proofs.YthhdollpkieknaaGreat


namespace Go.Proofs.YthhdollpkieknaaGreat
abbrev Key3:=Int × Int × Int
def r4:List Int:=[0,1,2,3]
def box:List Key3:=r4.flatMap fun i=>r4.flatMap fun j=>r4.map fun k=>(i,j,k)
theorem zuv {k:Key3}:k∈box ↔ 0<=k.1/\k.1<=3/\0<=k.2.1/\k.2.1<=3/\0<=k.2.2/\k.2.2<=3:=by
 obtain ⟨a,b,c⟩:=k
 have h4:∀ x:Int,x∈r4 ↔ 0<=x/\x<=3:=fun x=>by simp [r4]; omega
 simp only [box,List.mem_flatMap,List.mem_map,Prod.mk.injEq]
 constructor
 .rintro ⟨i,hi,j,hj,k,hk,rfl,rfl,rfl⟩
  have:=(h4 i).1 hi; have:=(h4 j).1 hj; have:=(h4 k).1 hk
  omega
 .rintro ⟨h1,h2,h3,h5,h6,h7⟩
  exact ⟨a,(h4 a).2 ⟨h1,h2⟩,b,(h4 b).2 ⟨h3,h5⟩,c,(h4 c).2 ⟨h6,h7⟩,rfl,rfl,rfl⟩
end Go.Proofs.YthhdollpkieknaaGreat


namespace Go.Proofs.YthhdollpkieknaaGreat
open Go.Abs
end Go.Proofs.YthhdollpkieknaaGreat


namespace Go.Proofs.YthhdollpkieknaaGreat
open Go.Abs
structure VOk (n:Nat) (m:Mon):Prop where
 num:isN m.1
 len:m.2.length=n
 pw:∀ x∈m.2,0<=x/\x<=3
end Go.Proofs.YthhdollpkieknaaGreat


namespace Go.Proofs.YthhdollpkieknaaGreat
open Go.Abs
end Go.Proofs.YthhdollpkieknaaGreat


namespace Go.Proofs.YthhdollpkieknaaGreat
open Go.Abs
end Go.Proofs.YthhdollpkieknaaGreat


namespace Go.Proofs.YthhdollpkieknaaGreat
open Go.Abs
theorem VOk.low {n i:Nat} {m:Mon} (h:VOk n m) (hi:i<n) (hp:0<m.2[i]?.getD 0):VOk n (m.1*m.2[i]?.getD 0%10007,m.2.set i (m.2[i]?.getD 0-1)):=by
 have hl:=h.len
 refine ⟨zai _,by simpa using hl,fun x hx=>?_⟩
 rcases List.mem_or_eq_of_mem_set hx with hx | rfl
 .exact h.pw x hx
 .have hm:m.2[i]?.getD 0∈m.2:=by
   rw [List.getElem?_eq_getElem (by omega),Option.getD_some]; exact List.getElem_mem _
  have:=h.pw _ hm
  omega
end Go.Proofs.YthhdollpkieknaaGreat


namespace Go.Proofs.YthhdollpkieknaaGreat
open Go.Abs
def NN (k:Key):Prop:=0<=k.1/\0<=k.2.1/\0<=k.2.2
def Eqv (C D:Key->Int):Prop:=∀ k,NN k->C k%10007=D k%10007
theorem NN.box {k:Key} (h:k∈box):NN k:=by have:=zuv.1 h; exact ⟨by omega,by omega,by omega⟩
theorem Eqv.refl (C:Key->Int):Eqv C C:=fun _ _=>rfl
theorem Eqv.symm {C D:Key->Int} (h:Eqv C D):Eqv D C:=fun k hk=>(h k hk).symm
theorem Eqv.trans {C D E:Key->Int} (h:Eqv C D) (h2:Eqv D E):Eqv C E:=fun k hk=>(h k hk).trans (h2 k hk)
end Go.Proofs.YthhdollpkieknaaGreat


namespace Go.Proofs.YthhdollpkieknaaGreat
open Go.Abs
def tb (f:Nat->Int) (k:Nat):List Int:=(List.range k).map f
@[simp] theorem zvv (f:Nat->Int) (k:Nat):(tb f k).length=k:=by simp [tb]
@[simp] theorem zxN (f:Nat->Int):tb f 0=[]:=rfl
theorem zhb (f:Nat->Int) (k:Nat):tb f (k+1)=tb f k++[f k]:=by simp [tb,List.range_succ]
theorem zkJ (f:Nat->Int) {k i:Nat} (h:i<k):(tb f k)[i]?.getD 0=f i:=by simp [tb,h]
theorem tb_N {f:Nat->Int} {k:Nat} (h:∀ i,i<k->isN (f i)):Ns (tb f k):=by
 intro x hx
 simp [tb] at hx
 obtain ⟨i,hi,rfl⟩:=hx
 exact h i hi
theorem zbd {xs:List Int} {k:Nat} (h:k<xs.length):(avs xs)[k]?=some (AV.val (.int .i64 (xs[k]?.getD 0))):=by simp [avs,h]
def cv (a b:List Int) (n:Nat):Nat->Int
 | 0=>0
 | m+1=>cv a b n m+a[m]?.getD 0*b[n-m]?.getD 0
def es (b o:List Int) (n:Nat):Nat->Int
 | 0=>0
 | m+1=>es b o n m+(m+1)*(b[m+1]?.getD 0*o[n-(m+1)]?.getD 0%10007)
end Go.Proofs.YthhdollpkieknaaGreat


namespace Go.Proofs.YthhdollpkieknaaGreat
open Go.Abs
theorem zbp (xs:List Int) (hl:xs.length<=17592186044416):Con Tryz.prog 154 [.sl xs.length (avs xs)] (.own 2 xs.length (avs xs)):=by
 refine zab Tryz.mixed ⟨3,[],[],[]⟩ Tryz.func154 ?_
 rw [Tryz.ntmps154]
 simp [go_sem]
 try omega
theorem zci (a b:List Int) (ha:a.length<=9223372036854775807):Con Tryz.prog 248 [.sl a.length (avs a),.sl b.length (avs b)] (.bool (decide (a=b))):=by
 refine zab Tryz.mixed ⟨6,[],[],[]⟩ Tryz.func248 ?_
 rw [Tryz.ntmps248]
 simp [go_sem]
 refine ⟨fun h=>?_,fun h=>?_⟩ <;> simp at h <;> simp [go_sem]
 .rintro rfl; omega
 have hl:a.length=b.length:=by omega
 refine zac (4::5::List.range' 11 16) (fun i:Nat=>[(5,.int i)]) (fun i=>i<=a.length/\a.take i=b.take i) (fun i=>a.length-i) 0 (by simp) (by simp [go_sem]) (by simp [go_sem]) ?_
 intro i hi
 simp [go_sem]
 refine ⟨fun h=>?_,fun h=>?_⟩ <;> simp at h
 .have h2:i<b.length:=by omega
  simp [go_sem,zap h,zap h2]
  refine ⟨by kernel_rfl,⟨h,by rintro rfl; simp at h⟩,⟨h2,by rintro rfl; simp at h2⟩,?_⟩
  refine ⟨by kernel_rfl,?_⟩
  simp [go_sem]
  refine ⟨fun h3=>?_,fun h3=>?_⟩ <;> simp at h3 <;> simp [go_sem]
  .rintro rfl; exact h3 rfl
  .refine ⟨by omega,i+1,⟨by omega,?_⟩,by omega,zaa _ _ _ (by simp),by omega⟩
   rw [List.take_add_one,List.take_add_one,hi.2]
   rw [List.getElem?_eq_getElem h,List.getElem?_eq_getElem h2] at h3 |-
   simp only [Option.getD_some] at h3
   rw [h3]
 .simp [go_sem]
  have e:i=a.length:=by omega
  subst e
  have:=hi.2
  rw [List.take_length,hl,List.take_length] at this
  exact this
end Go.Proofs.YthhdollpkieknaaGreat


namespace Go.Proofs.YthhdollpkieknaaGreat
class CR (α:Type) extends Add α,Mul α where
 ofI:Int->α
 addC:∀ a b:α,a+b=b+a
 addA:∀ a b c:α,a+b+c=a+(b+c)
 add0:∀ a:α,a+ofI 0=a
 mulC:∀ a b:α,a*b=b*a
 mulA:∀ a b c:α,a*b*c=a*(b*c)
 mul1:∀ a:α,a*ofI 1=a
 mulD:∀ a b c:α,a*(b+c)=a*b+a*c
 mul0:∀ a:α,a*ofI 0=ofI 0
 ofAdd:∀ a b:Int,ofI (a+b)=ofI a+ofI b
 ofMul:∀ a b:Int,ofI (a*b)=ofI a*ofI b
namespace CR
section
variable {α:Type} [CR α]
instance:Std.Associative (α:=α) (·+·):=⟨addA⟩
instance:Std.Commutative (α:=α) (·+·):=⟨addC⟩
instance:Std.Associative (α:=α) (·*·):=⟨mulA⟩
instance:Std.Commutative (α:=α) (·*·):=⟨mulC⟩
theorem zadd (a:α):ofI 0+a=a:=by rw [addC,add0]
theorem zmul (a:α):ofI 0*a=ofI 0:=by rw [mulC,mul0]
end
end CR
open CR
instance:CR Int where
 ofI:=id
 addC:=Int.add_comm
 addA:=Int.add_assoc
 add0:=Int.add_zero
 mulC:=Int.mul_comm
 mulA:=Int.mul_assoc
 mul1:=Int.mul_one
 mulD:=Int.mul_add
 mul0:=Int.mul_zero
 ofAdd:=fun _ _=>rfl
 ofMul:=fun _ _=>rfl
abbrev Ser (α:Type):=Nat->α
def sh {α:Type} (a:Ser α):Ser α:=fun n=>a (n+1)
def cmul {α:Type} [CR α]:Nat->Ser α->Ser α->α
 | 0,a,b=>a 0*b 0
 | n+1,a,b=>a 0*b (n+1)+cmul n (sh a) b
section
variable {α:Type} [CR α]
theorem zld (n:Nat):∀ (a b c:Ser α),cmul n a (fun i=>b i+c i)=cmul n a b+cmul n a c:=by
 induction n with
 | zero=>intro a b c; exact mulD _ _ _
 | succ n ih=>intro a b c; simp only [cmul,ih,mulD]; ac_rfl
theorem zof (n:Nat):∀ (a b:Ser α),cmul (n+1) a b=cmul n a (sh b)+a (n+1)*b 0:=by
 induction n with
 | zero=>intro a b; rfl
 | succ n ih =>
  intro a b
  rw [cmul,ih,cmul]
  show a 0*b (n+1+1)+(cmul n (sh a) (sh b)+a (n+1+1)*b 0)=a 0*b (n+1+1)+cmul n (sh a) (sh b)+a (n+1+1)*b 0
  ac_rfl
theorem zcm (n:Nat):∀ (a b:Ser α),cmul n a b=cmul n b a:=by
 induction n with
 | zero=>intro a b; exact mulC _ _
 | succ n ih=>intro a b; rw [cmul,zof,ih,mulC,addC]
theorem znq (c:α) (n:Nat):∀ (a b:Ser α),cmul n (fun i=>c*a i) b=c*cmul n a b:=by
 induction n with
 | zero=>intro a b; exact mulA _ _ _
 | succ n ih =>
  intro a b
  have:=ih (sh a) b
  simp only [cmul,mulD]
  rw [<- this,mulA]; rfl
theorem zmY (n:Nat) (a b c:Ser α):cmul n (fun i=>a i+b i) c=cmul n a c+cmul n b c:=by
 rw [zcm n (fun i=>a i+b i) c,zld,zcm n c a,zcm n c b]
theorem zl6 (n:Nat):∀ (a b c:Ser α),cmul n (fun i=>cmul i a b) c=cmul n a (fun i=>cmul i b c):=by
 induction n with
 | zero=>intro a b c; exact mulA _ _ _
 | succ n ih =>
  intro a b c
  have e:sh (fun i=>cmul i a b)=fun i=>a 0*sh b i+cmul i (sh a) b:=rfl
  simp only [cmul]
  rw [e,zmY,znq,ih,mulD]
  show a 0*b 0*c (n+1)+_=_
  rw [mulA]; ac_rfl
def sOf (k:Int):Ser α:=fun n=>if n=0 then ofI k else ofI 0
theorem zfA (k:Int):∀ (n:Nat) (a:Ser α),cmul n a (sOf k)=a n*ofI k:=by
 intro n
 induction n with
 | zero=>intro a; rfl
 | succ n ih =>
  intro a
  rw [cmul,ih]
  show a 0*ofI 0+a (n+1)*ofI k=_
  rw [mul0,zadd]
instance:CR (Ser α) where
 add:=fun a b n=>a n+b n
 mul:=fun a b n=>cmul n a b
 ofI:=sOf
 addC:=fun a b=>funext fun n=>addC _ _
 addA:=fun a b c=>funext fun n=>addA _ _ _
 add0:=fun a=>funext fun n=>by show a n+(if n=0 then ofI 0 else ofI 0)=a n; rw [ite_self,add0]
 mulC:=fun a b=>funext fun n=>zcm n a b
 mulA:=fun a b c=>funext fun n=>zl6 n a b c
 mul1:=fun a=>funext fun n=>by show cmul n a (sOf 1)=a n; rw [zfA,mul1]
 mulD:=fun a b c=>funext fun n=>zld n a b c
 mul0:=fun a=>funext fun n=>by show cmul n a (sOf 0)=if n=0 then ofI 0 else ofI 0; rw [zfA,mul0,ite_self]
 ofAdd:=fun a b=>funext fun n=>by
  show (if n=0 then (ofI (a+b):α) else ofI 0)=(if n=0 then ofI a else ofI 0)+(if n=0 then ofI b else ofI 0)
  split
  .exact ofAdd _ _
  .rw [add0]
 ofMul:=fun a b=>funext fun n=>by
  show (if n=0 then (ofI (a*b):α) else ofI 0)=cmul n (sOf a) (sOf b)
  rw [zfA]
  show (if n=0 then (ofI (a*b):α) else ofI 0)=(if n=0 then ofI a else ofI 0)*ofI b
  split
  .exact ofMul _ _
  .rw [zmul]
theorem zm0 (a b:Ser α) (n:Nat):(a+b) n=a n+b n:=rfl
def pwr (a:α):Nat->α
 | 0=>ofI 1
 | n+1=>pwr a n*a
def sL {β:Type} (f:β->α):List β->α
 | []=>ofI 0
 | b::l=>f b+sL f l
def dx (k:Nat) (e:Nat->Nat):Nat->Nat:=fun j=>if j=k then e j-1 else e j
def mon (U:Nat->α) (e:Nat->Nat):Nat->α
 | 0=>ofI 1
 | d+1=>mon U e d*pwr (U d) (e d)
abbrev Trm:=Int × (Nat->Nat)
def ev (d:Nat) (U:Nat->α) (L:List Trm):α:=sL (fun m=>ofI m.1*mon U m.2 d) L
end
structure Cg (α:Type) [CR α] where
 r:α->α->Prop
 refl:∀ a,r a a
 symm:∀ {a b},r a b->r b a
 trans:∀ {a b c},r a b->r b c->r a c
 add:∀ {a b c d},r a b->r c d->r (a+c) (b+d)
 mul:∀ {a b c d},r a b->r c d->r (a*c) (b*d)
 of:∀ {a b:Int},a%10007=b%10007->r (ofI a) (ofI b)
def cgI:Cg Int where
 r:=fun a b=>a%10007=b%10007
 refl:=fun _=>rfl
 symm:=fun h=>h.symm
 trans:=fun h k=>h.trans k
 add:=fun h k=>by omega
 mul:=fun {a b c d} h k=>by rw [Int.mul_emod,h,k,<- Int.mul_emod]
 of:=fun h=>h
section
variable {α:Type} [CR α]
theorem zti (c:Cg α) {N:Nat}:∀ {n:Nat} {a b a' b':Ser α},n<N->(∀ i,i<N->c.r (a i) (a' i))->(∀ i,i<N->c.r (b i) (b' i))->c.r (cmul n a b) (cmul n a' b')
 | n,a,b,a',b',hn,ha,hb=>by
  have gen:∀ (n:Nat) (a b a' b':Ser α),(∀ i,i<=n->c.r (a i) (a' i))->(∀ i,i<=n->c.r (b i) (b' i))->c.r (cmul n a b) (cmul n a' b'):=by
   intro n
   induction n with
   | zero=>intro a b a' b' ha hb; exact c.mul (ha 0 (by omega)) (hb 0 (by omega))
   | succ n ih =>
    intro a b a' b' ha hb
    exact c.add (c.mul (ha 0 (by omega)) (hb (n+1) (by omega))) (ih _ _ _ _ (fun i hi=>ha (i+1) (by omega)) (fun i hi=>hb i (by omega)))
  exact gen n a b a' b' (fun i hi=>ha i (by omega)) (fun i hi=>hb i (by omega))
def cgS (c:Cg α) (N:Nat):Cg (Ser α) where
 r:=fun a b=>∀ n,n<N->c.r (a n) (b n)
 refl:=fun a n _=>c.refl _
 symm:=fun h n hn=>c.symm (h n hn)
 trans:=fun h k n hn=>c.trans (h n hn) (k n hn)
 add:=fun h k n hn=>c.add (h n hn) (k n hn)
 mul:=fun h k n hn=>zti c hn h k
 of:=fun {a b} h n hn=>by
  show c.r (if n=0 then ofI a else ofI 0) (if n=0 then ofI b else ofI 0)
  split
  .exact c.of h
  .exact c.refl _
theorem Cg.sL (c:Cg α) {β:Type} {f g:β->α}:∀ {l:List β},(∀ b∈l,c.r (f b) (g b))->c.r (sL f l) (sL g l)
 | [],_=>c.refl _
 | b::l,h=>c.add (h b (by simp)) (Cg.sL c (fun x hx=>h x (by simp [hx])))
theorem Cg.pwr (c:Cg α) {a b:α} (h:c.r a b):∀ n,c.r (pwr a n) (pwr b n)
 | 0=>c.refl _
 | n+1=>c.mul (Cg.pwr c h n) h
theorem Cg.mon (c:Cg α) {U V:Nat->α} (e:Nat->Nat):∀ {d:Nat},(∀ k,k<d->c.r (U k) (V k))->c.r (mon U e d) (mon V e d)
 | 0,_=>c.refl _
 | d+1,h=>c.mul (Cg.mon c e (fun k hk=>h k (by omega))) (Cg.pwr c (h d (by omega)) _)
theorem Cg.ev (c:Cg α) {d:Nat} {U V:Nat->α} (h:∀ k,k<d->c.r (U k) (V k)) (L:List Trm):c.r (ev d U L) (ev d V L) :=
 c.sL (fun m _=>c.mul (c.refl _) (c.mon m.2 h))
end
end Go.Proofs.YthhdollpkieknaaGreat


namespace Go.Proofs.YthhdollpkieknaaGreat
open CR
def ex (e:List Int):Nat->Nat:=fun k=>(e[k]?.getD 0).toNat
def tr (m:Mon):Trm:=(m.1,ex m.2)
structure WOk (n:Nat) (B:Int) (m:Mon):Prop where
 num:isN m.1
 len:m.2.length=n
 pw:∀ x∈m.2,0<=x/\x<=B
theorem WOk.le {n:Nat} {B C:Int} {m:Mon} (h:WOk n B m) (hBC:B<=C):WOk n C m:=⟨h.num,h.len,fun x hx=>⟨(h.pw x hx).1,Int.le_trans (h.pw x hx).2 hBC⟩⟩
theorem WOk.get {n:Nat} {B:Int} {m:Mon} (h:WOk n B m) (hB:0<=B) (k:Nat):0<=m.2[k]?.getD 0/\m.2[k]?.getD 0<=B:=by
 rcases Nat.lt_or_ge k m.2.length with hk | hk
 .simp [hk]; exact h.pw _ (List.getElem_mem hk)
 .simp [hk]; exact hB
section
variable {α:Type} [CR α]
theorem Cg.eq (c:Cg α) {a b:α} (h:a=b):c.r a b:=by rw [h]; exact c.refl _
def LOk (n:Nat) (L:List Mon):Prop:=∀ m∈L,m.2.length=n/\∀ x∈m.2,0<=x
theorem LOk.tl {n:Nat} {m:Mon} {L:List Mon} (h:LOk n (m::L)):LOk n L:=fun a ha=>h a (by simp [ha])
theorem LOk.hd {n:Nat} {m:Mon} {L:List Mon} (h:LOk n (m::L)):m.2.length=n/\∀ x∈m.2,0<=x:=h m (by simp)
end
end Go.Proofs.YthhdollpkieknaaGreat


namespace Go.Proofs.YthhdollpkieknaaGreat
open Go.Abs
theorem WOk.low {n i:Nat} {B:Int} {m:Mon} (h:WOk n B m) (hi:i<n) (hp:0<m.2[i]?.getD 0):WOk n B (m.1*m.2[i]?.getD 0%10007,m.2.set i (m.2[i]?.getD 0-1)):=by
 have hl:=h.len
 refine ⟨zai _,by simpa using hl,fun x hx=>?_⟩
 rcases List.mem_or_eq_of_mem_set hx with hx | rfl
 .exact h.pw x hx
 .have hm:m.2[i]?.getD 0∈m.2:=by
   rw [List.getElem?_eq_getElem (by omega),Option.getD_some]; exact List.getElem_mem _
  have:=h.pw _ hm
  omega
end Go.Proofs.YthhdollpkieknaaGreat


namespace Go.Proofs.YthhdollpkieknaaGreat
open Go.Abs
theorem zbf (A C:List (List Int)):omat (A++C)=omat A++omat C:=by simp [omat]
theorem zbg (r:List Int):omat [r]=[.own 2 r.length (avs r)]:=rfl
theorem zdN:omat []=[]:=rfl
end Go.Proofs.YthhdollpkieknaaGreat


namespace Go.Proofs.YthhdollpkieknaaGreat
open Go.Abs
end Go.Proofs.YthhdollpkieknaaGreat


namespace Go.Proofs.YthhdollpkieknaaGreat
open Go.Abs
def zfv (a b:List Int) (k:Int):List Int:=tb (fun i=>(a[i]?.getD 0+k%10007*b[i]?.getD 0)%10007) a.length
@[simp] theorem zpn (a b:List Int) (k:Int):(zfv a b k).length=a.length:=by simp [zfv]
theorem ztc (a b:List Int) (k:Int):Ns (zfv a b k):=tb_N fun i _=>zai _
def zh1 (a:List Int) (k:Int):List Int:=tb (fun i=>a[i]?.getD 0*(k%10007)%10007) a.length
@[simp] theorem zox (a:List Int) (k:Int):(zh1 a k).length=a.length:=by simp [zh1]
theorem zuJ (a:List Int) (k:Int):Ns (zh1 a k):=tb_N fun i _=>zai _
theorem zst (a b:List Int) (k:Int) (ha:Ns a) (hb:Ns b) (hk:fits k) (hl:a.length<=1048576) (hab:a.length<=b.length) :
  Con Tryz.prog 84 [.sl a.length (avs a),.sl b.length (avs b),.int k] (.own 2 a.length (avs (zfv a b k))):=by
 refine zab Tryz.mixed ⟨10,[],[],[]⟩ Tryz.func84 ?_
 rw [Tryz.ntmps84]
 simp [go_sem]
 refine zac (7::8::9::List.range' 13 19) (fun i:Nat=>[(7,.own 2 i (avs (tb (fun i=>(a[i]?.getD 0+k%10007*b[i]?.getD 0)%10007) i))),(13,.int i)]) (fun i=>i<=a.length) (fun i=>a.length-i) 0 (by simp) (by simp [go_sem]) (by simp [go_sem]) ?_
 intro i hi
 simp [go_sem]
 refine ⟨fun h=>?_,fun h=>?_⟩ <;> simp at h
 .have h2:i<b.length:=by omega
  have m1:=ziO (zai k) (hb.get i)
  have m2:=ha.get i
  have f1:fits (k%10007*b[i]?.getD 0):=⟨by omega,by omega⟩
  have f2:fits (a[i]?.getD 0+k%10007*b[i]?.getD 0):=by obtain ⟨x0,x1⟩:=m2; exact ⟨by omega,by omega⟩
  simp [go_sem,zap h,zap h2]
  refine ⟨⟨h,by rintro rfl; simp at h⟩,by kernel_rfl,?_⟩
  refine CallD.of (zbE _ hk.1 hk.2) ?_
  simp [go_sem]
  simp [go_sem,zap h,zap h2]
  refine ⟨⟨h2,by rintro rfl; simp at h2⟩,f1,f2,?_⟩
  refine CallD.of (zbE _ f2.1 f2.2) ?_
  simp [go_sem]
  refine ⟨by omega,?_⟩
  refine ⟨by kernel_rfl,?_⟩
  simp [go_sem]
  exact ⟨by omega,i+1,by omega,by omega,zaa _ _ _ (by simp),by simp [zhb,zal],by omega⟩
 .have e:i=a.length:=by omega
  subst e
  simp [go_sem]
  rfl
theorem zrb (a:List Int) (k:Int) (ha:Ns a) (hk:fits k) (hl:a.length<=1048576) :
  Con Tryz.prog 79 [.sl a.length (avs a),.int k] (.own 2 a.length (avs (zh1 a k))):=by
 refine zab Tryz.mixed ⟨8,[],[],[]⟩ Tryz.func79 ?_
 rw [Tryz.ntmps79]
 simp [go_sem]
 refine zac (5::7::List.range' 11 13) (fun i:Nat=>[(5,.own 2 i (avs (tb (fun i=>a[i]?.getD 0*(k%10007)%10007) i))),(11,.int i)]) (fun i=>i<=a.length) (fun i=>a.length-i) 0 (by simp) (by simp [go_sem]) (by simp [go_sem]) ?_
 intro i hi
 simp [go_sem]
 refine ⟨fun h=>?_,fun h=>?_⟩ <;> simp at h
 .have f1:=zaw (ha.get i) (zai k)
  simp [go_sem,zap h]
  refine ⟨⟨h,by rintro rfl; simp at h⟩,?_⟩
  refine CallVC.of (zbE _ hk.1 hk.2) ?_
  simp [go_sem]
  refine ⟨f1,?_⟩
  refine CallVC.of (zbE _ f1.1 f1.2) ?_
  simp [go_sem]
  exact ⟨by omega,by omega,i+1,by omega,by omega,zaa _ _ _ (by simp),by simp [zhb,zal],by omega⟩
 .have e:i=a.length:=by omega
  subst e
  simp [go_sem]
  rfl
theorem zn3 (xs:List Int) (hl:xs.length<=1048576):Con Tryz.prog 239 [.sl xs.length (avs xs)] (.own 2 xs.length (avs xs)):=by
 refine zgA Tryz.mixed ⟨3,[],[],[]⟩ Tryz.func239 ?_
 rw [Tryz.ntmps239]
 simp [go_sem]
 exact ⟨by omega,by omega⟩
end Go.Proofs.YthhdollpkieknaaGreat


namespace Go.Proofs.YthhdollpkieknaaGreat
open Go.Abs
end Go.Proofs.YthhdollpkieknaaGreat


namespace Go.Proofs.YthhdollpkieknaaGreat
open Go.Abs
theorem memD {α:Type} {l:List α} {i:Nat} (d:α) (h:i<l.length):l[i]?.getD d∈l:=by simp [h]
end Go.Proofs.YthhdollpkieknaaGreat


namespace Go.Proofs.YthhdollpkieknaaGreat
open Go.Abs
end Go.Proofs.YthhdollpkieknaaGreat


namespace Go.Proofs.YthhdollpkieknaaGreat
open Go.Abs
end Go.Proofs.YthhdollpkieknaaGreat


namespace Go.Proofs.YthhdollpkieknaaGreat
open Go.Abs Go.Shelf Go.Sort
theorem zg6:∀ {a b:List Int},a≠b->ltL a b=false->ltL b a=true
 | [],[],h,_=>absurd rfl h
 | [],y::b,_,h=>by simp [ltL] at h
 | x::a,[],_,_=>by simp [ltL]
 | x::a,y::b,h,h2=>by
  simp only [ltL] at h2 |-
  by_cases e:x=y
  .subst e
   simp only [if_true] at h2 |-
   exact zg6 (fun e=>h (by rw [e])) h2
  .rw [if_neg e] at h2
   rw [if_neg (fun x=>e x.symm)]
   simp at h2 |-
   omega
theorem zc5 (a b:List Int):decide (cmpL a b<0)=ltL a b:=by
 have h:=zpk a b
 cases hl:ltL a b <;> rw [hl] at h <;> simp at h |- <;> omega
end Go.Proofs.YthhdollpkieknaaGreat


namespace Go.Proofs.YthhdollpkieknaaGreat
open Go.Abs
@[simp] theorem zem (A:List (List Int)):frzL (mat A)=mat A:=by
 induction A with
 | nil=>rfl
 | cons r A ih=>simp only [mat,List.map_cons,frzL] at ih |-; rw [ih]; rfl
end Go.Proofs.YthhdollpkieknaaGreat


namespace Go.Proofs.YthhdollpkieknaaGreat
open Go.Abs
end Go.Proofs.YthhdollpkieknaaGreat


namespace Go.Proofs.YthhdollpkieknaaGreat
def okB (t:List Int) (j:Nat):Bool:=decide (1<=t[j]?.getD 0) && decide (t[j]?.getD 0<=t[j-1]?.getD 0+1)
def lv0 (t:List Int):Bool:=decide (0<t.length) && decide (t[0]?.getD 0=0) && (List.range t.length).all (fun j=>decide (j=0) || okB t j)
def lvB (t:List Int):Bool:=lv0 t && decide (t.length<=8)
def zcq (out:List (List Int)) (x:Int):List (List Int) :=
 let o:=if x=1 then out++[[]] else out
 o.set (o.length-1) (o[o.length-1]?.getD []++[x-1])
def brGo (out:List (List Int)):List Int->List (List Int)
 | []=>out
 | x::l=>brGo (zcq out x) l
def brs (t:List Int):List (List Int):=brGo [] (t.drop 1)
theorem zpM (out:List (List Int)) (l r:List Int):brGo out (l++r)=brGo (brGo out l) r:=by
 induction l generalizing out with
 | nil=>rfl
 | cons x l ih=>exact ih _
theorem zff {t:List Int} {i:Nat} (h1:1<=i) (h:i<t.length):brs (t.take (i+1))=zcq (brs (t.take i)) (t[i]?.getD 0):=by
 unfold brs
 have e:(t.take (i+1)).drop 1=(t.take i).drop 1++[t[i]?.getD 0]:=by
  rw [List.take_add_one,List.getElem?_eq_getElem h,Option.toList_some,List.drop_append_of_le_length (by simp; omega)]; rfl
 rw [e,zpM]; rfl
def Lv (t:List Int):Prop:=0<t.length/\t[0]?.getD 0=0/\∀ j,0<j->j<t.length->1<=t[j]?.getD 0/\t[j]?.getD 0<=t[j-1]?.getD 0+1
theorem zg0 {t:List Int} (h:lv0 t=true):Lv t:=by
 unfold lv0 at h
 simp only [Bool.and_eq_true,decide_eq_true_eq,List.all_eq_true] at h
 refine ⟨h.1.1,h.1.2,fun j h1 h2=>?_⟩
 have:=h.2 j (by simpa using h2)
 rw [decide_eq_false (by omega)] at this
 unfold okB at this
 simpa using this
theorem Lv.le {t:List Int} (h:Lv t):∀ j,j<t.length->0<=t[j]?.getD 0/\t[j]?.getD 0<=j
 | 0,_=>by rw [h.2.1]; omega
 | j+1,hj=>by
  have h1:=h.le j (by omega)
  have h2:=h.2.2 (j+1) (by omega) hj
  rw [Nat.add_sub_cancel] at h2
  omega
theorem Lv.snoc {t:List Int} {x:Int} (h:Lv t) (h1:1<=x) (h2:x<=t[t.length-1]?.getD 0+1):Lv (t++[x]):=by
 obtain ⟨k1,k2,k3⟩:=h
 refine ⟨by simp,by rw [List.getElem?_append_left k1]; exact k2,fun j hj hl=>?_⟩
 simp at hl
 by_cases e:j=t.length
 .subst e
  rw [List.getElem?_append_right (by omega),List.getElem?_append_left (by omega)]
  simp; exact ⟨h1,h2⟩
 .rw [List.getElem?_append_left (by omega),List.getElem?_append_left (by omega)]
  exact k3 j hj (by omega)
theorem zjk:Lv [0]:=⟨by simp,rfl,fun j h1 h2=>by simp at h2; omega⟩
def sumN:List (List Int)->Nat
 | []=>0
 | b::l=>b.length+sumN l
theorem zdI (a b:List (List Int)):sumN (a++b)=sumN a+sumN b:=by
 induction a with
 | nil=>simp [sumN]
 | cons x a ih=>simp [sumN,ih]; omega
theorem zhv {l:List (List Int)} {b:List Int} (h:b∈l):b.length<=sumN l:=by
 induction l with
 | nil=>simp at h
 | cons x l ih =>
  rw [sumN]
  rcases List.mem_cons.1 h with rfl | h
  .omega
  .have:=ih h; omega
theorem zqP {l:List (List Int)} (h:∀ b∈l,0<b.length):l.length<=sumN l:=by
 induction l with
 | nil=>simp
 | cons x l ih =>
  have h1:=h x (by simp)
  have h2:=ih (fun b hb=>h b (by simp [hb]))
  rw [sumN]; simp; omega
def BrI (out:List (List Int)) (p:Int) (n:Nat):Prop :=
 (∀ b∈out,Lv b)/\sumN out=n/\((out=[]/\p=0)\/∃ i l,out=i++[l]/\l[l.length-1]?.getD 0=p-1)
theorem zls {out:List (List Int)} {p x:Int} {n:Nat} (h:BrI out p n) (h1:1<=x) (h2:x<=p+1):BrI (zcq out x) x (n+1)/\(x≠1->out≠[]):=by
 obtain ⟨k1,k2,k3⟩:=h
 by_cases hx:x=1
 .subst hx
  have e:zcq out 1=out++[[0]]:=by
   unfold zcq
   simp only [if_true]
   rw [List.set_append_right _ _ (by simp),List.getElem?_append_right (by simp)]
   simp
  rw [e]
  refine ⟨⟨fun b hb=>?_,by rw [zdI,k2]; rfl,.inr ⟨out,[0],rfl,rfl⟩⟩,by simp⟩
  rcases List.mem_append.1 hb with hb | hb
  .exact k1 b hb
  .simp at hb; subst hb; exact zjk
 .rcases k3 with ⟨rfl,rfl⟩ | ⟨i,l,rfl,hl⟩
  .omega
  .have e:zcq (i++[l]) x=i++[l++[x-1]]:=by
    unfold zcq
    simp only [if_neg hx]
    rw [List.set_append_right _ _ (by simp),List.getElem?_append_right (by simp)]
    simp
   rw [e]
   have hLl:=k1 l (by simp)
   refine ⟨⟨fun b hb=>?_,?_,.inr ⟨i,_,rfl,by simp⟩⟩,by simp⟩
   .rcases List.mem_append.1 hb with hb | hb
    .exact k1 b (by simp [hb])
    .simp at hb; subst hb
     exact hLl.snoc (by omega) (by rw [hl]; omega)
   .rw [zdI] at k2 |-
    simp [sumN] at k2 |-; omega
theorem zl2 {t:List Int} (h:Lv t):∀ i,1<=i->i<=t.length->BrI (brs (t.take i)) (t[i-1]?.getD 0) (i-1)
 | 1,_,_=>by
  have e:brs (t.take 1)=[]:=by
   unfold brs
   cases t with
   | nil=>rfl
   | cons a t=>rfl
  rw [e]
  refine ⟨by simp,rfl,.inl ⟨rfl,?_⟩⟩
  simpa using h.2.1
 | i+2,_,hl=>by
  have ih:=zl2 h (i+1) (by omega) (by omega)
  have hb:=h.2.2 (i+1) (by omega) (by omega)
  rw [zff (by omega) (by omega)]
  exact (zls ih hb.1 hb.2).1
theorem zrT {t:List Int} (h:Lv t) {i:Nat} (h1:1<=i) (hl:i<t.length) (hx:t[i]?.getD 0≠1):brs (t.take i)≠[]:=by
 have ih:=zl2 h i h1 (by omega)
 have hb:=h.2.2 i (by omega) hl
 exact (zls ih hb.1 hb.2).2 hx
theorem zb9 {t:List Int} (h:Lv t) {b:List Int} (hb:b∈brs t):Lv b/\b.length<t.length:=by
 have hl:=h.1
 have:=zl2 h t.length (by omega) (by omega)
 rw [List.take_length] at this
 obtain ⟨k1,k2,_⟩:=this
 have:=zhv hb
 exact ⟨k1 b hb,by omega⟩
theorem ze5 {t:List Int} (h:Lv t) {i:Nat} (h1:1<=i) (hl:i<=t.length):(brs (t.take i)).length<i:=by
 obtain ⟨k1,k2,_⟩:=zl2 h i h1 hl
 have:=zqP (fun b hb=>(k1 b hb).1)
 omega
end Go.Proofs.YthhdollpkieknaaGreat


namespace Go.Proofs.YthhdollpkieknaaGreat
open Go.Abs
end Go.Proofs.YthhdollpkieknaaGreat


namespace Go.Proofs.YthhdollpkieknaaGreat
open Go.Abs
theorem zhO (A:List (List Int)) (k:Nat) (l:List Int):(omat A).set k (.own 2 l.length (avs l))=omat (A.set k l):=by
 simp [omat,List.map_set]
theorem zi8 {A:List (List Int)} (h:A≠[]):(omat A)[A.length-1]?=some (.own 2 (A[A.length-1]?.getD []).length (avs (A[A.length-1]?.getD []))):=by
 have hl:A.length-1<A.length:=by have:=List.length_pos_iff.2 h; omega
 simp [omat,hl]
theorem zgC (A:List (List Int)):zcq A 1=A++[[0]]:=by
 unfold zcq
 simp only [if_true]
 rw [List.set_append_right _ _ (by simp),List.getElem?_append_right (by simp)]
 simp
theorem zfF {A:List (List Int)} {x:Int} (h:x≠1):zcq A x=A.set (A.length-1) (A[A.length-1]?.getD []++[x-1]):=by
 unfold zcq; simp only [if_neg h]
theorem zc4 (t:List Int) (hl:t.length<=1048576) (ht:Lv t):Con Tryz.prog 267 [.sl t.length (avs t)] (.own 25 (brs t).length (omat (brs t))):=by
 refine zab Tryz.mixed ⟨6,[],[],[1000812990015]⟩ Tryz.func267 ?_
 rw [Tryz.ntmps267]
 simp [go_sem]
 refine zac (List.range' 3 36) (fun i:Nat=>[(3,.own 25 (brs (t.take i)).length (omat (brs (t.take i)))),(4,.int i)]) (fun i=>1<=i/\i<=t.length) (fun i=>t.length-i) 1 (by have:=ht.1; omega) (by simp [go_sem]; cases t <;> simp [brs,brGo,zdN]) (by simp [go_sem]) ?_
 rintro i ⟨h1,hi⟩
 simp [go_sem]
 refine ⟨fun h=>?_,fun h=>?_⟩ <;> simp at h
 .have hif:=h
  have hb:=zff h1 hif
  have hm:=ze5 ht h1 hi
  have hi2:=zl2 ht i h1 hi
  have hok:=ht.2.2 i h1 hif
  have hle:=ht.le i (by omega)
  by_cases hx:t[i]?.getD 0=1
  .rw [hx,zgC] at hb
   simp [go_sem,zap hif,hx]
   have e1:(brs (t.take i)).length+1=(brs (t.take (i+1))).length:=by rw [hb]; simp
   have e2:omat (brs (t.take i))++[AV.own 2 1 [AV.val (Value.int IntKind.i64 0)]]=omat (brs (t.take (i+1))):=by rw [hb,zbf,zbg]; rfl
   repeat' apply And.intro
   all_goals first
    | omega
    | exact ⟨i+1,⟨by omega,by omega⟩,by omega,zaa _ _ _ (by simp),⟨e1,e2⟩,by omega⟩
    | (intro e; rw [e] at hif; simp at hif; done)
    | kernel_rfl
  .have hne:=zrT ht h1 hif hx
   have hla:=zi8 hne
   rw [zfF hx] at hb
   generalize brs (t.take i)=O at *
   have hOl:1<=O.length:=List.length_pos_iff.2 hne
   have hlen:(O[O.length-1]?.getD []).length<=1048576:=by
    have:=zhv (l:=O) (b:=O[O.length-1]?.getD []) (by simp [show O.length-1<O.length by omega])
    have:=hi2.2.1
    omega
   have hsn:=zhO O (O.length-1) (O[O.length-1]?.getD []++[t[i]?.getD 0-1])
   rw [<- hb] at hsn
   generalize O[O.length-1]?.getD []=l at *
   simp [go_sem,zap hif,hx,hla]
   have e1:O.length=(brs (t.take (i+1))).length:=by rw [hb]; simp
   rw [zal,List.length_append,List.length_singleton] at hsn
   repeat' apply And.intro
   all_goals first
    | omega
    | exact ⟨i+1,⟨by omega,by omega⟩,by omega,zaa _ _ _ (by simp),⟨e1,hsn⟩,by omega⟩
    | (intro e; rw [e] at hif; simp at hif; done)
    | kernel_rfl
 .simp [go_sem]
  rw [List.take_of_length_le h]
  simp
theorem zb7 (t:List Int) (hl:t.length<=1048576) (ht:Lv t):Con Tryz.prog 170 [.sl t.length (avs t)] (.own 25 (brs t).length (omat (brs t))):=by
 have ht1:=ht.1
 have ed:List.take (t.length-1) (List.drop 1 (avs t))=avs (t.drop 1):=by
  rw [List.take_of_length_le (by simp)]; simp [avs]
 refine zab Tryz.mixed ⟨6,[],[],[]⟩ Tryz.func170 ?_
 rw [Tryz.ntmps170]
 simp [go_sem]
 refine ⟨by omega,?_⟩
 refine zac (3::5::List.range' 10 25) (fun i:Nat=>[(3,.own 25 (brs (t.take (i+1))).length (omat (brs (t.take (i+1))))),(10,.int i)]) (fun i=>i+1<=t.length) (fun i=>t.length-i) 0 (by omega) (by simp [go_sem]; cases t <;> simp [brs,brGo,zdN]) (by simp [go_sem]) ?_
 rintro i hi
 simp [go_sem]
 refine ⟨fun h=>?_,fun h=>?_⟩ <;> simp at h
 .have hif:i+1<t.length:=by omega
  have hda:List.drop i (List.take (t.length-1) (avs t).tail)=.val (.int .i64 (t[i+1]?.getD 0))::avs (t.drop (i+2)):=by
   rw [List.take_of_length_le (by simp),<- List.drop_one,List.drop_drop,Nat.add_comm 1 i,zap hif]; simp
  have hnn:¬ (avs t).tail=[]:=fun e=>by have:=congrArg List.length e; simp at this; omega
  have hn1:¬ t.length-1=0:=by omega
  have hn2:i<t.length-1:=by omega
  have hb:=zff (i:=i+1) (by omega) hif
  have hm:=ze5 ht (i:=i+1) (by omega) (by omega)
  have hi2:=zl2 ht (i+1) (by omega) (by omega)
  have hok:=ht.2.2 (i+1) (by omega) hif
  have hle:=ht.le (i+1) hif
  by_cases hx:t[i+1]?.getD 0=1
  .rw [hx,zgC] at hb
   have e1:(brs (t.take (i+1))).length+1=(brs (t.take (i+1+1))).length:=by rw [hb]; simp
   have e2:omat (brs (t.take (i+1)))++[AV.own 2 1 [AV.val (Value.int IntKind.i64 0)]]=omat (brs (t.take (i+1+1))):=by rw [hb,zbf,zbg]; rfl
   simp [go_sem,hda,hnn,hn1,hn2,hx]
   exact ⟨⟨by omega,by omega⟩,by omega,by omega,by omega,i+1,by omega,by omega,zaa _ _ _ (by simp),⟨e1,e2⟩,by omega⟩
  .have hne:=zrT ht (i:=i+1) (by omega) hif hx
   have hla:=zi8 hne
   rw [zfF hx] at hb
   generalize hO:brs (t.take (i+1))=O at *
   have hOl:1<=O.length:=List.length_pos_iff.2 hne
   have hlen:(O[O.length-1]?.getD []).length<=1048576:=by
    have:=zhv (l:=O) (b:=O[O.length-1]?.getD []) (by simp [show O.length-1<O.length by omega])
    have:=hi2.2.1
    omega
   have hsn:=zhO O (O.length-1) (O[O.length-1]?.getD []++[t[i+1]?.getD 0-1])
   rw [<- hb] at hsn
   generalize O[O.length-1]?.getD []=l at *
   have e1:O.length=(brs (t.take (i+1+1))).length:=by rw [hb]; simp
   rw [zal,List.length_append,List.length_singleton] at hsn
   simp [go_sem,hda,hnn,hn1,hn2,hx,hla]
   repeat' apply And.intro
   all_goals first
    | omega
    | exact ⟨i+1,by omega,by omega,zaa _ _ _ (by simp),⟨e1,hsn⟩,by omega⟩
 .simp [go_sem]
  have e:t.take (i+1)=t:=List.take_of_length_le (by omega)
  rw [e]
  simp
end Go.Proofs.YthhdollpkieknaaGreat


namespace Go.Proofs.YthhdollpkieknaaGreat
open Go.Abs
theorem zfu {t:List Int} (h:Lv t):(brs t).length<t.length:=by
 have h1:=h.1
 have:=ze5 h (i:=t.length) (by omega) (by omega)
 rwa [List.take_length] at this
theorem zix (A:List (List Int)) (i:Nat) (h:i<A.length):omat (A.take (i+1))=omat (A.take i)++[.own 2 (A[i]?.getD []).length (avs (A[i]?.getD []))]:=by
 rw [List.take_add_one,zbf]; simp [h,omat]
end Go.Proofs.YthhdollpkieknaaGreat


namespace Go.Proofs.YthhdollpkieknaaGreat
open Go.Abs
theorem zcw {α:Type} {P:List α->Prop} (h0:P []) (h1:∀ l a,P l->P (l++[a])) (l:List α):P l:=by
 rw [<- List.reverse_reverse l]
 induction l.reverse with
 | nil=>exact h0
 | cons a l ih=>rw [List.reverse_cons]; exact h1 _ _ ih
def atL (p:List Int):List (List Int)->Nat
 | []=>0
 | s::S=>if ltL s p=true then 0 else atL p S+1
theorem zr2 (p:List Int):∀ S,atL p S<=S.length
 | []=>by simp [atL]
 | s::S=>by have:=zr2 p S; rw [atL]; split <;> simp; omega
def insL (p:List Int) (S:List (List Int)):List (List Int):=S.take (atL p S)++p::S.drop (atL p S)
@[simp] theorem zqQ (p:List Int) (S:List (List Int)):(insL p S).length=S.length+1:=by have:=zr2 p S; simp [insL]; omega
theorem zlr {p x:List Int} {S:List (List Int)} (h:x∈insL p S):x=p\/x∈S:=by
 rcases List.mem_append.1 h with h | h
 .exact .inr (List.mem_of_mem_take h)
 .rcases List.mem_cons.1 h with h | h
  .exact .inl h
  .exact .inr (List.mem_of_mem_drop h)
theorem zrC (p:List Int) (S:List (List Int)):sumL (insL p S)=sumL S+p.length:=by
 have h:=congrArg sumL (List.take_append_drop (atL p S) S)
 rw [zdg] at h
 rw [insL,zdg,sumL]
 omega
def zay (S:List (List Int)):List Int:=0::S.flatMap fun b=>b.map (·+1)
theorem zcL (S:List (List Int)):(zay S).length=sumL S+1:=by
 have:∀ S:List (List Int),(S.flatMap fun b=>b.map (·+1)).length=sumL S:=by
  intro S
  induction S with
  | nil=>rfl
  | cons b S ih=>simp [sumL,ih]
 rw [zay,List.length_cons,this]
def canF:Nat->List Int->List Int
 | 0,_=>[]
 | n+1,t=>zay ((brs t).foldl (fun S b=>insL (canF n b) S) [])
def insA (n:Nat) (bs:List (List Int)):List (List Int):=bs.foldl (fun S b=>insL (canF n b) S) []
theorem zcr (n:Nat) (bs:List (List Int)) (b:List Int):insA n (bs++[b])=insL (canF n b) (insA n bs):=by simp [insA]
theorem zfa {n:Nat} {bs:List (List Int)}:∀ {x:List Int},x∈insA n bs->∃ b∈bs,x=canF n b:=by
 refine zcw (P:=fun bs=>∀ {x:List Int},x∈insA n bs->∃ b∈bs,x=canF n b) ?_ ?_ bs
 .intro x hx; simp [insA] at hx
 .intro l b ih x hx
  rw [zcr] at hx
  rcases zlr hx with h | h
  .exact ⟨b,by simp,h⟩
  .obtain ⟨c,hc,e⟩:=ih h
   exact ⟨c,by simp [hc],e⟩
theorem zfK (n:Nat) (bs:List (List Int)) (k:Nat) (h:bs.length<=k):(insA n bs).length<=k:=by
 have:∀ bs:List (List Int),(insA n bs).length=bs.length:=zcw rfl (fun l b ih=>by rw [zcr,zqQ,ih]; simp)
 rw [this]; exact h
theorem zhg (n:Nat):∀ (t:List Int),∀ x∈canF n t,0<=x/\x<=n:=by
 induction n with
 | zero=>intro t x hx; simp [canF] at hx
 | succ n ih =>
  intro t x hx
  rw [canF] at hx
  rcases List.mem_cons.1 hx with rfl | hx
  .omega
  .obtain ⟨b,hb,hx⟩:=List.mem_flatMap.1 hx
   obtain ⟨y,hy,rfl⟩:=List.mem_map.1 hx
   obtain ⟨c,hc,rfl⟩:=zfa (n:=n) (bs:=brs t) hb
   have:=ih c y hy
   omega
theorem zq9 {A:List (List Int)} {k:Nat} (h:k<A.length) (v:List Int):sumL (A.set k v)+(A[k]?.getD []).length=sumL A+v.length:=by
 induction A generalizing k with
 | nil=>simp at h
 | cons r A ih =>
  cases k with
  | zero=>simp [sumL]; omega
  | succ k=>have:=ih (k:=k) (by simpa using h); simp [sumL] at this |-; omega
theorem zgz {out:List (List Int)} {x:Int} (h:out≠[]\/x=1):sumL (zcq out x)=sumL out+1:=by
 unfold zcq
 simp only
 have ho:(if x=1 then out++[[]] else out)≠[]:=by
  split
  .simp
  .rcases h with h | h
   .exact h
   .contradiction
 have hs:sumL (if x=1 then out++[[]] else out)=sumL out:=by
  split
  .rw [zdg]; simp [sumL]
  .rfl
 generalize (if x=1 then out++[[]] else out)=o at *
 have hl:o.length-1<o.length:=by have:=List.length_pos_iff.2 ho; omega
 have:=zq9 hl (o[o.length-1]?.getD []++[x-1])
 simp at this
 omega
theorem zm9 {t:List Int} (h:Lv t):∀ i,1<=i->i<=t.length->sumL (brs (t.take i))+1=i/\(2<=i->brs (t.take i)≠[])
 | 0,h1,_=>by omega
 | 1,_,_=>by
  have:brs (t.take 1)=[]:=by
   unfold brs
   rw [List.drop_eq_nil_of_le (by simp; omega)]; rfl
  rw [this]
  exact ⟨rfl,by omega⟩
 | i+2,h1,h2=>by
  have ih:=zm9 h (i+1) (by omega) (by omega)
  rw [zff (by omega) (by omega)]
  have hne:brs (t.take (i+1))≠[]\/t[i+1]?.getD 0=1:=by
   by_cases e:i=0
   .subst e
    have h3:=h.2.2 1 (by omega) (by omega)
    rw [show 1-1=0 by omega,h.2.1] at h3
    exact .inr (by show t[1]?.getD 0=1; omega)
   .exact .inl (ih.2 (by omega))
  rw [zgz hne]
  refine ⟨by omega,fun _ e=>?_⟩
  have:=zgz hne
  rw [e] at this
  simp [sumL] at this
theorem zi5 {t:List Int} (h:Lv t):sumL (brs t)+1=t.length:=by
 have:=(zm9 h t.length h.1 (Nat.le_refl _)).1
 rwa [List.take_length] at this
theorem zaF:∀ (n:Nat) (t:List Int),Lv t->t.length<=n->(canF n t).length=t.length
 | 0,t,h,hl=>by have:=h.1; omega
 | n+1,t,h,hl=>by
  have gen:∀ bs:List (List Int),(∀ b∈bs,(canF n b).length=b.length)->sumL (insA n bs)=sumL bs:=by
   intro bs
   refine zcw (P:=fun bs=>(∀ b∈bs,(canF n b).length=b.length)->sumL (insA n bs)=sumL bs) (fun _=>rfl) ?_ bs
   intro l b ih hb
   rw [zcr,zrC,zdg,ih (fun c hc=>hb c (by simp [hc])),hb b (by simp)]
   simp [sumL]
  have e:(brs t).foldl (fun S b=>insL (canF n b) S) []=insA n (brs t):=rfl
  rw [canF,zcL,e,gen (brs t) (fun b hb=>by
   have:=zb9 h hb
   exact zaF n b this.1 (by have:=this.2; omega)),zi5 h]
theorem zhJ (A C:List (List Int)):mat (A++C)=mat A++mat C:=by simp [mat]
theorem zbD (A:List (List Int)) (k:Nat):(mat A).drop k=mat (A.drop k):=by simp [mat]
theorem zbz (A:List (List Int)) (k:Nat):(mat A).take k=mat (A.take k):=by simp [mat,List.map_take]
theorem zbn:∀ A:List (List Int),zaO (mat A)=false
 | []=>rfl
 | r::A=>by
  have:=zbn A
  simp only [mat,List.map_cons] at this |-
  rw [zaO,this]; rfl
theorem zou {A:List (List Int)} {b:List Int} (h:b∈A):b.length<=sumL A:=by
 induction A with
 | nil=>simp at h
 | cons r A ih =>
  rcases List.mem_cons.1 h with rfl | h
  .simp [sumL]
  .have:=ih h; simp only [sumL]; omega
theorem zaW:∀ (n:Nat) (t:List Int),n<=1000->Lv t->t.length<=n->Con Tryz.prog 250 [.sl t.length (avs t)] (.own 2 t.length (avs (canF n t)))
 | 0,t,_,h,hl=>by have:=h.1; omega
 | n+1,t,hn,h,hl=>by
  have hcl:=zaF (n+1) t h hl
  have cP:=zc4 t (by omega) h
  have bt:=zi5 h
  have ih:=fun b hb=>zaW n b (by omega) (zb9 h hb).1 (by have:=(zb9 h hb).2; omega)
  have hce:canF (n+1) t=zay (insA n (brs t)):=rfl
  rw [hce]
  have blen:=fun b (hb:b∈brs t)=>zaF n b (zb9 h hb).1 (by have:=(zb9 h hb).2; omega)
  have bvalid:=fun b (hb:b∈brs t)=>zb9 h hb
  have bm:=ze5 h h.1 (Nat.le_refl _)
  rw [List.take_length] at bm
  generalize brs t=bs at *
  refine zab Tryz.mixed ⟨12,[13,25,14,53],[],[]⟩ Tryz.func250 ?_
  rw [Tryz.ntmps250]
  simp [go_sem]
  refine CallVC.of (cP) ?_
  simp [go_sem]
  refine zac (4::5::6::7::8::List.range' 15 39) (fun i:Nat=>[(4,.sl (insA n (bs.take i)).length (mat (insA n (bs.take i)))),(5,.int i)]) (fun i=>i<=bs.length) (fun i=>bs.length-i) 0 (by simp) (by simp [go_sem,insA,mat]) (by simp [go_sem]) ?_
  intro i hi
  simp [go_sem]
  refine ⟨fun h=>?_,fun h=>?_⟩ <;> simp at h
  .have hif:i<bs.length:=by omega
   have hb:=memD [] hif
   have ht:insA n (bs.take (i+1))=insL (canF n (bs[i]?.getD [])) (insA n (bs.take i)):=by
    rw [List.take_add_one,List.getElem?_eq_getElem hif,Option.toList_some,zcr]; rfl
   have c1:=ih _ hb
   have l1:=blen _ hb
   have s1:=zou hb
   have sl:∀ s∈insA n (bs.take i),s.length<=1000:=fun s hs=>by
    obtain ⟨b,hb2,rfl⟩:=zfa hs
    have hb3:=List.mem_of_mem_take hb2
    have:=zou hb3
    rw [blen b hb3]; omega
   have il:(insA n (bs.take i)).length<=i:=zfK n _ _ (by simp; omega)
   generalize hN:insA n (bs.take (i+1))=S2 at *
   generalize insA n (bs.take i)=S at *
   simp [go_sem,zak hif]
   refine ⟨⟨hif,by rintro rfl; simp at hif⟩,?_⟩
   refine CallVC.of (c1) ?_
   simp [go_sem]
   rw [<- l1]
   generalize canF n (bs[i]?.getD [])=p at *
   refine zac (7::List.range' 26 15) (fun a:Nat=>[(7,.int a)]) (fun a=>a<=S.length/\atL p S=a+atL p (S.drop a)) (fun a=>S.length-a) 0 (by simp) (by simp [go_sem]) (by simp [go_sem]) ?_
   rintro a ⟨ha,hat⟩
   by_cases has:a<S.length
   .have has':(a:Int)<S.length:=by omega
    have hd:S.drop a=S[a]?.getD []::S.drop (a+1):=by rw [List.drop_eq_getElem_cons has]; simp [has]
    rw [hd,atL] at hat
    have hg:=zak has
    have hsl:=sl _ (memD [] has)
    have cL:=ziY (S[a]?.getD []) p (by omega) (by omega)
    by_cases hlt:ltL (S[a]?.getD []) p=true
    .rw [if_pos hlt] at hat
     rw [hlt] at cL
     have hS2:S2=S.take a++p::S.drop a:=by rw [ht,insL,hat,Nat.add_zero]
     simp [go_sem,has',hg]
     refine ⟨by rintro rfl; simp at has,?_⟩
     refine CallVC.of (cL) ?_
     simp [go_sem]
     simp [go_sem,zbD,zbz,zbn]
     refine ⟨by omega,⟨by omega,by omega⟩,by omega,⟨by omega,by omega,by omega⟩,⟨by omega,by omega,by omega,by omega⟩,⟨by omega,by omega⟩,i+1,by omega,by omega,(by repeat (first | exact zaa _ _ _ (by simp) | (refine Off.reset (by intro x hx; simp at hx |-; omega) (by simp) ?_; simp -failIfUnchanged [go_sem,zaa]))),?_,by omega⟩
     rw [hN,hS2]
     have em:frzL (mat (S.take a)++AV.sl p.length (avs p)::mat ((S.drop a).take (S.length-a)))=mat (S.take a++p::S.drop a):=by rw [show (S.drop a).take (S.length-a)=S.drop a from List.take_of_length_le (by simp),<- zem (S.take a++p::S.drop a),zhJ]; rfl
     exact ⟨by simp; omega,em⟩
    .rw [if_neg hlt] at hat
     have hlf:ltL (S[a]?.getD []) p=false:=by simpa using hlt
     rw [hlf] at cL
     simp [go_sem,has',hg]
     refine ⟨by rintro rfl; simp at has,?_⟩
     refine CallVC.of (cL) ?_
     simp [go_sem]
     exact ⟨by omega,a+1,⟨by omega,by omega⟩,by omega,zaa _ _ _ (by simp),by omega⟩
   .have has':¬ (a:Int)<S.length:=by omega
    have hd:S.drop a=[]:=List.drop_eq_nil_of_le (by omega)
    rw [hd,atL] at hat
    have hS2:S2=S.take a++p::S.drop a:=by rw [ht,insL,hat,Nat.add_zero]
    simp [go_sem,has',zbD,zbz,zbn]
    refine ⟨by omega,⟨by omega,by omega⟩,by omega,⟨by omega,by omega,by omega⟩,⟨by omega,by omega,by omega,by omega⟩,⟨by omega,by omega⟩,i+1,by omega,by omega,(by repeat (first | exact zaa _ _ _ (by simp) | (refine Off.reset (by intro x hx; simp at hx |-; omega) (by simp) ?_; simp -failIfUnchanged [go_sem,zaa]))),?_,by omega⟩
    rw [hN,hS2]
    have em:frzL (mat (S.take a)++AV.sl p.length (avs p)::mat ((S.drop a).take (S.length-a)))=mat (S.take a++p::S.drop a):=by rw [show (S.drop a).take (S.length-a)=S.drop a from List.take_of_length_le (by simp),<- zem (S.take a++p::S.drop a),zhJ]; rfl
    exact ⟨by simp; omega,em⟩
  .have e:i=bs.length:=by omega
   subst e
   rw [List.take_length]
   have tot:(zay (insA n bs)).length=t.length:=by rw [<- hce,hcl]
   rw [zcL] at tot
   have val:∀ x∈zay (insA n bs),0<=x/\x<=(n+1:Nat):=fun x hx=>by rw [<- hce] at hx; exact zhg (n+1) t x hx
   have sval:∀ s∈insA n bs,∀ x∈s,0<=x/\x<=n:=fun s hs x hx=>by
    obtain ⟨b,_,rfl⟩:=zfa hs
    exact zhg n b x hx
   clear hce hcl
   have Sl:(insA n bs).length<=bs.length:=zfK n bs _ (Nat.le_refl _)
   generalize insA n bs=S at *
   simp [go_sem]
   refine zac (9::10::11::List.range' 55 26) (fun i:Nat=>[(9,.own 2 (sumL (S.take i)+1) (avs (zay (S.take i)))),(10,.int i)]) (fun i=>i<=S.length) (fun i=>S.length-i) 0 (by simp) (by simp [go_sem,zay,sumL,avs]) (by simp [go_sem]) ?_
   intro i hi
   simp [go_sem]
   refine ⟨fun h=>?_,fun h=>?_⟩ <;> simp at h
   .have hif:i<S.length:=by omega
    have hs:=memD [] hif
    have sv:=sval _ hs
    have st:=zoK hif
    have sle:=ztP S (i+1)
    have rr:zay (S.take (i+1))=zay (S.take i)++(S[i]?.getD []).map (·+1):=by
     rw [zay,List.take_add_one,List.getElem?_eq_getElem hif,Option.toList_some,List.flatMap_append,List.flatMap_singleton]; rfl
    generalize hR:S[i]?.getD []=b at *
    simp [go_sem]
    refine zac (9::11::List.range' 61 20) (fun k:Nat=>[(9,.own 2 (sumL (S.take i)+1+k) (avs (zay (S.take i)++(b.take k).map (·+1)))),(11,.int k)]) (fun k=>k<=b.length) (fun k=>b.length-k) 0 (by simp) (by simp [go_sem]) (by simp [go_sem]) ?_
    intro k hk
    simp [go_sem,zak hif,hR]
    refine ⟨⟨hif,by rintro rfl; simp at hif⟩,?_⟩
    refine ⟨fun h=>?_,fun h=>?_⟩ <;> simp at h
    .have hkb:k<b.length:=by omega
     have hv:=sv _ (memD 0 hkb)
     simp [go_sem,zak hif,hR,zap hkb]
     have rl:=zcL (S.take i)
     refine ⟨⟨hif,by rintro rfl; simp at hif⟩,⟨hkb,by rintro rfl; simp at hkb⟩,⟨by omega,by omega⟩,⟨by omega,by omega,by omega⟩,⟨by omega,by omega⟩,k+1,by omega,by omega,zaa _ _ _ (by simp),?_,by omega⟩
     rw [List.take_add_one,List.getElem?_eq_getElem hkb]
     refine ⟨by omega,?_⟩
     rw [zmI,zmI,List.append_assoc]
     simp [hkb,avs]
    .have e:k=b.length:=by omega
     subst e
     simp [go_sem]
     refine ⟨by omega,i+1,by omega,by omega,(Off.reset (by intro x hx; simp at hx |-; omega) (by simp) (by simp [go_sem,zaa])),?_,by omega⟩
     rw [rr,show (b.map (·+1)).take b.length=b.map (·+1) from List.take_of_length_le (by simp)]; exact ⟨by omega,rfl⟩
   .have e:i=S.length:=by omega
    subst e
    rw [List.take_length]
    simp [go_sem]
    omega
end Go.Proofs.YthhdollpkieknaaGreat


namespace Go.Proofs.YthhdollpkieknaaGreat
open Go.Abs Go.Shelf Go.Sort
theorem zqn {a b:List Int} (h:ltL a b=true):ltL b a=false:=by
 cases h2:ltL b a with
 | false=>rfl
 | true=>have:=zbM h h2; rw [zhf] at this; simp at this
theorem znt (p:List Int) (S:List (List Int)):(insL p S).Perm (p::S):=by
 unfold insL
 exact List.perm_middle.trans (by rw [List.take_append_drop])
theorem zoy (p s:List Int) (S:List (List Int)):insL p (s::S)=if ltL s p=true then p::s::S else s::insL p S:=by
 unfold insL
 rw [atL]
 split <;> simp
theorem zkO (p:List Int):∀ {S:List (List Int)},S.Pairwise (fun a b=>ltL a b=false)->(insL p S).Pairwise (fun a b=>ltL a b=false)
 | [],_=>by simp [insL,atL]
 | s::S,h=>by
  obtain ⟨h1,h2⟩:=List.pairwise_cons.1 h
  rw [zoy]
  split
  .rename_i hs
   refine List.pairwise_cons.2 ⟨fun y hy=>?_,h⟩
   rcases List.mem_cons.1 hy with rfl | hy
   .exact zqn hs
   .cases hp:ltL p y with
    | false=>rfl
    | true=>have:=h1 y hy; rw [zbM hs hp] at this; exact this
  .rename_i hs
   refine List.pairwise_cons.2 ⟨fun y hy=>?_,zkO p h2⟩
   rcases zlr hy with rfl | hy
   .simpa using hs
   .exact h1 y hy
theorem zra (n:Nat) (bs:List (List Int)):(insA n bs).Pairwise (fun a b=>ltL a b=false) :=
 zcw (P:=fun bs=>(insA n bs).Pairwise (fun a b=>ltL a b=false)) List.Pairwise.nil (fun l a h=>by rw [zcr]; exact zkO _ h) bs
theorem ziK (n:Nat) (bs:List (List Int)):(insA n bs).Perm (bs.map (canF n)) :=
 zcw (P:=fun bs=>(insA n bs).Perm (bs.map (canF n))) (List.Perm.refl _) (fun l a h=>by
  rw [zcr,List.map_append]
  refine (znt _ _).trans ((h.cons _).trans ?_)
  exact (List.perm_append_comm (l₁:=[canF n a]) (l₂:=l.map (canF n)))) bs
theorem zlX {X L:List (List Int)} (hp:X.Perm L) (hX:X.Pairwise (fun a b=>ltL a b=false)) (hL:L.Pairwise (fun a b=>ltL a b=false)):X=L :=
 hp.eq_of_pairwise (fun a b _ _ h1 h2=>by
  by_cases e:a=b
  .exact e
  .have:=zg6 e h1; rw [h2] at this; simp at this) hX hL
theorem ziu [DrawK] (a b:List Int) (ha:a.length<=1000000) (hb:b.length<=1000000):Con Tryz.prog 197 [.sl a.length (avs a),.sl b.length (avs b)] (.int (cmpL b a)):=by
 refine zab Tryz.mixed ⟨5,[],[],[]⟩ Tryz.func197 ?_
 rw [Tryz.ntmps197]
 simp [go_sem]
 refine CallVC.of (zid b a (by omega) (by omega)) ?_
 simp [go_sem]
theorem ztI:SWO (Go.Proofs.ltOf fun a b:List Int=>cmpL b a):=by
 have e:(Go.Proofs.ltOf fun a b:List Int=>cmpL b a)=fun a b=>ltL b a:=by
  funext a b; exact zc5 _ _
 rw [e]
 refine ⟨fun m=>zhf _,fun x y z h1 h2=>zbM h2 h1,fun x y z h1 h2=>?_⟩
 cases h3:ltL z x with
 | false=>rfl
 | true =>
  by_cases e:x=y
  .rw [e] at h3; rw [h3] at h2; exact h2
  .have h4:=zg6 (fun x=>e x.symm) h1
   have:=zbM h3 h4
   rw [this] at h2; exact h2
theorem zco (X:List (List Int)):(X.flatMap fun x=>[AV.own 2 x.length (avs x)])=omat X:=by
 induction X with
 | nil=>rfl
 | cons x X ih=>simp only [List.flatMap_cons,ih,omat,List.map_cons,List.singleton_append]
theorem zjp (X L:List (List Int)) (hX:X.Perm L) (hS:L.Pairwise (fun a b=>ltL a b=false)) (hl:∀ m∈L,m.length<=1000000) (hn:L.length<=1048576) :
  MCon Tryz.prog 196 [.own 25 X.length (omat X),.val (.func (.func 197) #[] #[])] (.tup []) [.own 25 X.length (omat L),.any]:=by
 have hxl:=hX.length_eq
 have hm:∀ m∈X,m.length<=1000000:=fun m hm=>hl m (hX.mem_iff.1 hm)
 obtain ⟨ys,h1,h2,h3⟩:=zlO Tryz.sortTrees ⟨_,Tryz.func196,by decide,rfl⟩ (fun m:List Int=>.own 2 m.length (avs m)) (fun m n=>cmpL n m) ztI 197 25 (by kernel_rfl) X (by rw [zco]; exact zet X)
  (fun x hx y hy=>by simpa [frz] using @ziu ⟨1⟩ x y (hm x hx) (hm y hy)) (by omega)
 have e:ys=L:=zlX (h1.trans hX) (h2.imp fun {a b} h=>by
  have:=zc5 a b
  rw [<- this]; simpa using h) hS
 subst e
 rw [zco,zco] at h3
 exact h3
theorem zeX (S:List (List Int)) (hl:S.length<=1000) (hr:∀ b∈S,b.length<=1000/\∀ x∈b,0<=x/\x<=1000):Con Tryz.prog 198 [.sl S.length (mat S)] (.own 2 (zay S).length (avs (zay S))):=by
 have bl:∀ i,(zay (S.take i)).length<=1+i*1000:=fun i=>by
  rw [zcL]
  have:∀ T:List (List Int),(∀ b∈T,b.length<=1000)->sumL T<=T.length*1000:=by
   intro T
   induction T with
   | nil=>intro _; simp [sumL]
   | cons b T ih=>intro h; have:=h b (by simp); have:=ih (fun c hc=>h c (by simp [hc])); simp only [sumL,List.length_cons]; omega
  have h1:=this (S.take i) (fun b hb=>(hr b (List.mem_of_mem_take hb)).1)
  have h2:(S.take i).length<=i:=by rw [List.length_take]; omega
  have:=Nat.mul_le_mul_right 1000 h2
  omega
 refine zab Tryz.mixed ⟨8,[],[],[]⟩ Tryz.func198 ?_
 rw [Tryz.ntmps198]
 simp [go_sem]
 refine zac (3::5::7::List.range' 11 17) (fun i:Nat=>[(3,.own 2 (zay (S.take i)).length (avs (zay (S.take i)))),(11,.int i)]) (fun i=>i<=S.length) (fun i=>S.length-i) 0 (by simp) (by simp [go_sem,zay,avs]) (by simp [go_sem]) ?_
 intro i hi
 by_cases hiS:i<S.length
 .have hii:(i:Int)<S.length:=by omega
  have ne:¬ S=[]:=by rintro rfl; simp at hiS
  have md:=zak hiS
  obtain ⟨b1,b2⟩:=hr _ (show S[i]?.getD []∈S by simp [hiS])
  have sn:zay (S.take (i+1))=zay (S.take i)++(S[i]?.getD []).map (·+1):=by
   unfold zay
   rw [List.take_add_one,List.flatMap_append,List.getElem?_eq_getElem hiS]; simp
  have bli:=bl i
  generalize S[i]?.getD []=b at *
  generalize zay (S.take i)=R at *
  simp [go_sem,hii,md]
  refine ⟨ne,?_⟩
  refine zac (3::7::List.range' 17 10) (fun k:Nat=>[(3,.own 2 (R.length+k) (avs (R++(b.map (·+1)).take k))),(17,.int k)]) (fun k=>k<=b.length) (fun k=>b.length-k) 0 (by simp) (by simp [go_sem]) (by simp [go_sem]) ?_
  intro k hk
  by_cases hkb:k<b.length
  .have hki:(k:Int)<b.length:=by omega
   have nb:¬ b=[]:=by rintro rfl; simp at hkb
   have ad:=zap hkb
   have bx:=b2 _ (show b[k]?.getD 0∈b by simp [hkb])
   have tk:(b.map (·+1)).take (k+1)=(b.map (·+1)).take k++[b[k]?.getD 0+1]:=by
    rw [List.take_add_one]; simp [hkb]
   rw [List.getD_eq_getElem?_getD] at ad
   generalize b[k]?.getD 0=x at *
   simp [go_sem,hki,ad]
   exact ⟨nb,⟨by omega,by omega⟩,⟨by omega,by omega,by omega⟩,⟨by omega,by omega⟩,k+1,by omega,by omega,zaa _ _ _ (by simp),⟨by omega,by rw [tk,<- List.append_assoc,zal]⟩,by omega⟩
  .have e:k=b.length:=by omega
   subst e
   have hki:¬ (b.length:Int)<b.length:=by omega
   have tk:(b.map (·+1)).take b.length=b.map (·+1):=List.take_of_length_le (by simp)
   simp [go_sem,hki,tk]
   exact ⟨⟨by omega,by omega⟩,i+1,by omega,by omega,(Off.reset (by intro x hx; simp at hx |-; omega) (by simp) (by simp [go_sem,zaa])),by rw [sn]; simp,by omega⟩
 .have e:i=S.length:=by omega
  subst e
  have hii:¬ (S.length:Int)<S.length:=by omega
  rw [List.take_length]
  simp [go_sem,hii]
def cnB (n:Nat) (bs:List (List Int)) (i:Nat):List (List Int):=(bs.take i).map (canF n)++bs.drop i
theorem zri (n:Nat) (bs:List (List Int)):cnB n bs 0=bs:=by simp [cnB]
theorem ztt (n:Nat) (bs:List (List Int)):cnB n bs bs.length=bs.map (canF n):=by simp [cnB]
theorem zoo {A:List (List Int)} {k:Nat} (h:k<A.length):(omat A)[k]?=some (.own 2 (A[k]?.getD []).length (avs (A[k]?.getD []))):=by simp [omat,h]
theorem zwd (n:Nat) {bs:List (List Int)} {i:Nat} (hi:i<bs.length):(omat (cnB n bs i))[i]?=some (.own 2 (bs[i]?.getD []).length (avs (bs[i]?.getD []))):=by
 have h1:i<(cnB n bs i).length:=by simp [cnB]; omega
 rw [zoo h1]
 have e:(cnB n bs i)[i]?.getD []=bs[i]?.getD []:=by
  unfold cnB
  rw [List.getElem?_append_right (by simp; omega)]; simp [Nat.min_eq_left (Nat.le_of_lt hi)]
 rw [e]
theorem ztE (n:Nat) {bs:List (List Int)} {i:Nat} (hi:i<bs.length) (hc:(canF n (bs[i]?.getD [])).length=(bs[i]?.getD []).length) :
  (omat (cnB n bs i)).set i (.own 2 (bs[i]?.getD []).length (avs (canF n (bs[i]?.getD []))))=omat (cnB n bs (i+1)):=by
 have h:=zhO (cnB n bs i) i (canF n (bs[i]?.getD []))
 rw [hc] at h
 rw [h]
 congr 1
 unfold cnB
 have e1:bs.drop i=bs[i]?.getD []::bs.drop (i+1):=by rw [List.drop_eq_getElem_cons hi]; simp [hi]
 have e2:bs.take (i+1)=bs.take i++[bs[i]?.getD []]:=by rw [List.take_add_one]; simp [hi]
 rw [e1,e2,List.map_append,List.set_append_right _ _ (by simp; omega)]
 simp [Nat.min_eq_left (Nat.le_of_lt hi)]
theorem zbQ:∀ (n:Nat) (t:List Int),n<=100->Lv t->t.length<=n->Con Tryz.prog 106 [.sl t.length (avs t)] (.own 2 t.length (avs (canF n t))):=by
 intro n
 induction n with
 | zero=>intro t _ h1 h2; have:=h1.1; omega
 | succ n ih =>
  intro t hn hLv hl
  have cB:=zb7 t (by omega) hLv
  have cn:=zfu hLv
  have bo:=fun (b:List Int) hb=>zb9 hLv (b:=b) hb
  have cI:=fun (b:List Int) (hb:b∈brs t)=>ih b (by omega) (bo b hb).1 (by have:=(bo b hb).2; omega)
  have cl:=fun (b:List Int) (hb:b∈brs t)=>zaF n b (bo b hb).1 (by have:=(bo b hb).2; omega)
  have im:=fun x (hx:x∈insA n (brs t))=>zfa hx
  have il:(insA n (brs t)).length=(brs t).length:=by have:=(ziK n (brs t)).length_eq; simpa using this
  have xl:∀ x∈insA n (brs t),x.length<=100/\∀ y∈x,0<=y/\y<=1000:=fun x hx=>by
   obtain ⟨b,hb,rfl⟩:=im x hx
   have:=(bo b hb).2
   exact ⟨by rw [cl b hb]; omega,fun y hy=>by have:=zhg n b y hy; omega⟩
  have cS:=zjp ((brs t).map (canF n)) (insA n (brs t)) (ziK n (brs t)).symm (zra n _) (fun x hx=>by have:=(xl x hx).1; omega) (by omega)
  have cR:=zeX (insA n (brs t)) (by omega) (fun b hb=>⟨by have:=(xl b hb).1; omega,(xl b hb).2⟩)
  have rl:(zay (insA n (brs t))).length=t.length:=zaF (n+1) t hLv hl
  have e1:canF (n+1) t=zay (insA n (brs t)):=rfl
  rw [e1]
  rw [rl,il] at cR
  rw [List.length_map] at cS
  clear rl e1 xl im
  generalize insA n (brs t)=S at *
  refine zab Tryz.mixed ⟨6,[],[196],[]⟩ Tryz.func106 ?_
  rw [Tryz.ntmps106]
  simp [go_sem]
  refine CallVC.of (cB) ?_
  simp [go_sem]
  generalize brs t=bs at *
  refine zdR (3::4::5::8::List.range' 10 11) (4::5::List.range' 11 10) (fun i:Nat=>[(3,.own 25 bs.length (omat (cnB n bs i))),(8,.bor 3 []),(10,.int i)]) (fun i=>i<=bs.length) (fun i=>bs.length-i) 0 (by intro x i h1 h2; have:i=3\/i=8\/i=10:=(by simp at h1 h2; omega); rcases this with rfl | rfl | rfl <;> rfl) (by intro i h; simp at h |-; omega) (by simp) (by simp [go_sem,zri]) (by simp [go_sem,kl]) ?_
  intro i hi
  by_cases hib:i<bs.length
  .have hii:(i:Int)<bs.length:=by omega
   have gt:=zwd n hib
   have st:=ztE n hib (cl _ (by simp [hib]))
   have cc:=cI (bs[i]?.getD []) (by simp [hib])
   generalize bs[i]?.getD []=b at *
   simp [go_sem,hii,gt]
   have cbl:i<(cnB n bs i).length:=by simp [cnB]; omega
   refine CallVC.of (cc) ?_
   simp [go_sem]
   exact ⟨hib,cbl,⟨by omega,by omega⟩,i+1,by omega,by omega,zaa _ _ _ (by simp),by first | exact ⟨st,by omega⟩ | exact st | (refine ⟨?_⟩; exact st) | (simp; exact st),by simp [kl]⟩
  .have e:i=bs.length:=by omega
   subst e
   have hii:¬ (bs.length:Int)<bs.length:=by omega
   rw [ztt]
   simp [go_sem,hii]
   refine ⟨_,_,cS,?_⟩
   simp [go_sem]
   refine CallVC.of (cR) ?_
   simp [go_sem]
end Go.Proofs.YthhdollpkieknaaGreat


namespace Go.Proofs.YthhdollpkieknaaGreat
open Go.Abs
@[go_sem] theorem zxR (W:List Nat) (s:Nat) (p:List Nat):kl W (.bor s p)=if W.contains s then .any else .bor s p:=by rw [kl]
@[go_sem] theorem zxB (W:List Nat) (s:Nat) (p:List Nat) (o:Nat):kl W (.ptr s p o)=if W.contains s then .any else .ptr s p o:=by rw [kl]
theorem zb1 {A:List (List Int)} {k:Nat} (h:k<A.length):(omat A)[k]?=some (.own 2 (A[k]?.getD []).length (avs (A[k]?.getD []))):=by simp [omat,h]
end Go.Proofs.YthhdollpkieknaaGreat


namespace Go.Proofs.YthhdollpkieknaaGreat
open Go.Abs
end Go.Proofs.YthhdollpkieknaaGreat


namespace Go.Proofs.YthhdollpkieknaaGreat
open Go.Abs
end Go.Proofs.YthhdollpkieknaaGreat


namespace Go.Proofs.YthhdollpkieknaaGreat
open Go.Abs
end Go.Proofs.YthhdollpkieknaaGreat


namespace Go.Proofs.YthhdollpkieknaaGreat
open Go.Abs
theorem zfs (g:Nat->List Int) (i:Nat):omat ((List.range (i+1)).map g)=omat ((List.range i).map g)++[.own 2 (g i).length (avs (g i))]:=by
 rw [List.range_succ,List.map_append,zbf]; rfl
theorem zjh (a:List (List Int)) (hl:a.length<=1048576) (hr:∀ r∈a,r.length<=1048576) :
  Con Tryz.prog 222 [.sl a.length (mat a)] (.own 25 a.length (omat a)):=by
 refine zab Tryz.mixed ⟨6,[],[],[]⟩ Tryz.func222 ?_
 rw [Tryz.ntmps222]
 simp [go_sem]
 refine zac (3::5::List.range' 9 10) (fun i:Nat=>[(3,.own 25 i (omat (a.take i))),(9,.int i)]) (fun i=>i<=a.length) (fun i=>a.length-i) 0 (by simp) (by simp [go_sem,zdN]) (by simp [go_sem]) ?_
 intro i hi
 simp [go_sem]
 refine ⟨fun h=>?_,fun h=>?_⟩ <;> simp at h
 .simp [go_sem,zak h]
  refine ⟨⟨h,by rintro rfl; simp at h⟩,?_⟩
  refine CallVC.of (zn3 (a[i]?.getD []) (hr _ (by simp [h]))) ?_
  simp [go_sem]
  have ht:=zix a i h
  refine ⟨⟨by omega,by omega,by omega⟩,by omega,i+1,by omega,by omega,zaa _ _ _ (by simp),by rw [ht]; exact ⟨rfl,rfl⟩,by omega⟩
 .have e:i=a.length:=by omega
  subst e
  simp [go_sem]
theorem zic (a:List (List Int)) (hl:a.length<=1048576) (hr:∀ r∈a,r.length<=1048576) :
  Con Tryz.prog 227 [.sl a.length (mat a)] (.own 25 a.length (omat a)):=by
 refine zab Tryz.mixed ⟨5,[],[],[]⟩ Tryz.func227 ?_
 rw [Tryz.ntmps227]
 simp [go_sem]
 refine zac (3::4::List.range' 6 14) (fun i:Nat=>[(3,.own 25 i (omat (a.take i))),(4,.int i)]) (fun i=>i<=a.length) (fun i=>a.length-i) 0 (by simp) (by simp [go_sem,zdN]) (by simp [go_sem]) ?_
 intro i hi
 simp [go_sem]
 refine ⟨fun h=>?_,fun h=>?_⟩ <;> simp at h
 .simp [go_sem,zak h]
  refine ⟨⟨h,by rintro rfl; simp at h⟩,?_⟩
  refine CallVC.of (zbp (a[i]?.getD []) (by have:=hr _ (show a[i]?.getD []∈a by simp [h]); omega)) ?_
  simp [go_sem]
  have ht:=zix a i h
  refine ⟨⟨by omega,by omega,by omega⟩,by omega,i+1,by omega,by omega,zaa _ _ _ (by simp),by rw [ht]; exact ⟨rfl,rfl⟩,by omega⟩
 .have e:i=a.length:=by omega
  subst e
  simp [go_sem]
end Go.Proofs.YthhdollpkieknaaGreat


namespace Go.Proofs.YthhdollpkieknaaGreat
open Go.Abs Go.Shelf Go.Sort
def ltT (s t:List Int):Bool:=if s.length=t.length then ltL t s else decide (s.length<t.length)
def cmpT (s t:List Int):Int:=if s.length=t.length then cmpL t s else (s.length:Int)-t.length
theorem zkm (s t:List Int):decide (cmpT s t<0)=ltT s t:=by
 unfold cmpT ltT
 split
 .exact zc5 t s
 .congr 1; exact propext ⟨fun h=>by omega,fun h=>by omega⟩
theorem zoZ (s:List Int):ltT s s=false:=by unfold ltT; rw [if_pos rfl]; exact zhf s
theorem zdC {a b c:List Int} (h1:ltT a b=true) (h2:ltT b c=true):ltT a c=true:=by
 unfold ltT at *
 split at h1 <;> split at h2
 .rw [if_pos (by omega)]; exact zbM h2 h1
 .simp at h2; rw [if_neg (by omega)]; simp; omega
 .simp at h1; rw [if_neg (by omega)]; simp; omega
 .simp at h1 h2; rw [if_neg (by omega)]; simp; omega
theorem znF {a b:List Int} (e:a≠b) (h:ltT a b=false):ltT b a=true:=by
 unfold ltT at *
 split at h
 .rename_i hl
  rw [if_pos hl.symm]; exact zg6 (fun x=>e x.symm) h
 .rename_i hl
  simp at h; rw [if_neg (fun x=>hl x.symm)]; simp; omega
theorem zqu {a b:List Int} (h:ltT a b=true):ltT b a=false:=by
 cases h2:ltT b a with
 | false=>rfl
 | true=>have:=zdC h h2; rw [zoZ] at this; simp at this
def atT (p:List Int):List (List Int)->Nat
 | []=>0
 | s::S=>if ltT p s=true then 0 else atT p S+1
theorem zsg (p:List Int):∀ S,atT p S<=S.length
 | []=>by simp [atT]
 | s::S=>by have:=zsg p S; rw [atT]; split <;> simp; omega
def insT (p:List Int) (S:List (List Int)):List (List Int):=S.take (atT p S)++p::S.drop (atT p S)
@[simp] theorem zwT (p:List Int) (S:List (List Int)):(insT p S).length=S.length+1:=by have:=zsg p S; simp [insT]; omega
theorem zqX {p x:List Int} {S:List (List Int)} (h:x∈insT p S):x=p\/x∈S:=by
 rcases List.mem_append.1 h with h | h
 .exact .inr (List.mem_of_mem_take h)
 .rcases List.mem_cons.1 h with h | h
  .exact .inl h
  .exact .inr (List.mem_of_mem_drop h)
theorem zng (p:List Int) (S:List (List Int)):(insT p S).Perm (p::S):=by
 unfold insT
 exact List.perm_middle.trans (by rw [List.take_append_drop])
theorem znH (p s:List Int) (S:List (List Int)):insT p (s::S)=if ltT p s=true then p::s::S else s::insT p S:=by
 unfold insT
 rw [atT]
 split <;> simp
theorem zle (p:List Int):∀ {S:List (List Int)},S.Pairwise (fun a b=>ltT b a=false)->(insT p S).Pairwise (fun a b=>ltT b a=false)
 | [],_=>by simp [insT,atT]
 | s::S,h=>by
  obtain ⟨h1,h2⟩:=List.pairwise_cons.1 h
  rw [znH]
  split
  .rename_i hs
   refine List.pairwise_cons.2 ⟨fun y hy=>?_,h⟩
   rcases List.mem_cons.1 hy with rfl | hy
   .exact zqu hs
   .cases hp:ltT y p with
    | false=>rfl
    | true=>have:=h1 y hy; rw [zdC hp hs] at this; exact this
  .rename_i hs
   refine List.pairwise_cons.2 ⟨fun y hy=>?_,zle p h2⟩
   rcases zqX hy with rfl | hy
   .simpa using hs
   .exact h1 y hy
def srtT (bs:List (List Int)):List (List Int):=bs.foldl (fun S b=>insT b S) []
theorem zfV (bs:List (List Int)) (b:List Int):srtT (bs++[b])=insT b (srtT bs):=by simp [srtT]
theorem zpC (bs:List (List Int)):(srtT bs).Pairwise (fun a b=>ltT b a=false) :=
 zcw (P:=fun bs=>(srtT bs).Pairwise (fun a b=>ltT b a=false)) List.Pairwise.nil (fun l a h=>by rw [zfV]; exact zle _ h) bs
theorem za1 (bs:List (List Int)):(srtT bs).Perm bs :=
 zcw (P:=fun bs=>(srtT bs).Perm bs) (List.Perm.refl _) (fun l a h=>by
  rw [zfV]
  refine (zng _ _).trans ((h.cons _).trans ?_)
  exact (List.perm_append_comm (l₁:=[a]) (l₂:=l))) bs
@[simp] theorem zcy (bs:List (List Int)):(srtT bs).length=bs.length:=(za1 bs).length_eq
theorem zlG {X L:List (List Int)} (hp:X.Perm L) (hX:X.Pairwise (fun a b=>ltT b a=false)) (hL:L.Pairwise (fun a b=>ltT b a=false)):X=L :=
 hp.eq_of_pairwise (fun a b _ _ h1 h2=>by
  by_cases e:a=b
  .exact e
  .have:=znF e h2; rw [h1] at this; simp at this) hX hL
theorem zty:SWO (Go.Proofs.ltOf cmpT):=by
 have e:(Go.Proofs.ltOf cmpT)=ltT:=by
  funext a b; exact zkm _ _
 rw [e]
 refine ⟨fun m=>zoZ _,fun x y z h1 h2=>zdC h1 h2,fun x y z h1 h2=>?_⟩
 cases h3:ltT x z with
 | false=>rfl
 | true =>
  by_cases e:x=y
  .rw [e] at h3; rw [h3] at h2; exact h2
  .have h4:=znF e h1
   have:=zdC h4 h3
   rw [this] at h2; exact h2
theorem zba [DrawK] (a b:List Int) (ha:a.length<=1000000) (hb:b.length<=1000000):Con Tryz.prog 195 [.sl a.length (avs a),.sl b.length (avs b)] (.int (cmpT a b)):=by
 unfold cmpT
 by_cases h:a.length=b.length
 .have hi:(a.length:Int)=b.length:=by omega
  rw [if_pos h]
  have c:=zid b a (by omega) (by omega)
  refine zab Tryz.mixed ⟨5,[],[],[]⟩ Tryz.func195 ?_
  rw [Tryz.ntmps195]
  simp [go_sem,hi]
  refine CallVC.of (c) ?_
  simp [go_sem]
 .have hi:¬ (a.length:Int)=b.length:=by omega
  rw [if_neg h]
  refine zab Tryz.mixed ⟨5,[],[],[]⟩ Tryz.func195 ?_
  rw [Tryz.ntmps195]
  simp [go_sem,hi]
  omega
theorem zmp (X:List (List Int)) (hl:∀ m∈X,m.length<=1000000) (hn:X.length<=1048576) :
  MCon Tryz.prog 294 [.own 25 X.length (omat X),.int 0,.int X.length,.val (.func (.func 195) #[] #[])] (.tup []) [.own 25 X.length (omat (srtT X)),.any,.any,.any]:=by
 obtain ⟨ys,h1,h2,h3⟩:=zhr Tryz.insTrees ⟨_,Tryz.func294,by decide,rfl⟩ (fun m:List Int=>.own 2 m.length (avs m)) cmpT zty 195 25 (by kernel_rfl) X (by rw [zco]; exact zet X)
  (fun x hx y hy=>by simpa [frz] using @zba ⟨1⟩ x y (hl x hx) (hl y hy)) (by omega)
 have e:ys=srtT X:=zlG (h1.trans (za1 X).symm) (h2.imp fun {a b} h=>by
  have:=zkm b a
  rw [<- this]; simpa using h) (zpC X)
 subst e
 rw [zco,zco] at h3
 exact h3
theorem zpW (X:List (List Int)) (hl:∀ m∈X,m.length<=1000000) (hn:X.length<=19) :
  MCon Tryz.prog 287 [.own 25 X.length (omat X),.int X.length,.val (.func (.func 195) #[] #[])] (.tup []) [.own 25 X.length (omat (srtT X)),.any,.any]:=by
 have cI:=zmp X hl (by omega)
 have h1:¬ (20:Int)<=X.length:=by omega
 have h2:¬ (20:Int)<X.length:=by omega
 refine zbw Tryz.mixed ⟨10,[],[294],[]⟩ [0] Tryz.func287 ?_
 rw [Tryz.ntmps287]
 simp [go_sem]
 refine zac (7::8::List.range' 11 12) (fun _:Nat=>[(7,.int 0),(8,.int 20)]) (fun _=>True) (fun _=>0) 0 trivial (by simp [go_sem]) (by simp [go_sem]) ?_
 intro _ _
 simp [go_sem,h1]
 refine ⟨_,_,cI,?_⟩
 simp [go_sem]
 refine zac ([6,7,8,9]++List.range' 28 35) (fun _:Nat=>[(6,.int 20)]) (fun _=>True) (fun _=>0) 0 trivial (by simp [go_sem]) (by simp [go_sem]) ?_
 intro _ _
 simp [go_sem,h2]
theorem zi4 (X:List (List Int)) (hl:∀ m∈X,m.length<=1000000) (hn:X.length<=19) :
  MCon Tryz.prog 240 [.own 25 X.length (omat X),.val (.func (.func 195) #[] #[])] (.tup []) [.own 25 X.length (omat (srtT X)),.any]:=by
 have cI:=zpW X hl hn
 refine zbw Tryz.mixed ⟨4,[],[287],[]⟩ [0] Tryz.func240 ?_
 rw [Tryz.ntmps240]
 simp [go_sem]
 refine ⟨_,_,cI,?_⟩
 simp [go_sem]
theorem zes (X:List (List Int)) (hl:∀ m∈X,m.length<=1000000) (hn:X.length<=19) :
  Con Tryz.prog 169 [.sl X.length (mat X)] (.own 25 X.length (omat (srtT X))):=by
 have cC:=zjh X (by omega) (fun r h=>by have:=hl r h; omega)
 have cI:=zi4 X hl hn
 refine zab Tryz.mixed ⟨4,[],[240],[]⟩ Tryz.func169 ?_
 rw [Tryz.ntmps169]
 simp [go_sem]
 refine CallVC.of (cC) ?_
 simp [go_sem]
 refine ⟨_,_,cI,?_⟩
 simp [go_sem]
end Go.Proofs.YthhdollpkieknaaGreat


namespace Go.Proofs.YthhdollpkieknaaGreat
open Go.Abs
theorem zo9 (a b:List Int) (ha:a.length<=9223372036854775807):Con Tryz.prog 131 [.sl a.length (avs a),.sl b.length (avs b)] (.bool (decide (a=b))):=by
 by_cases hl:a.length=b.length
 .have hi:(a.length:Int)=b.length:=by omega
  refine zab Tryz.mixed ⟨7,[],[],[]⟩ Tryz.func131 ?_
  rw [Tryz.ntmps131]
  simp [go_sem,hi]
  refine zac (4::5::List.range' 13 13) (fun i:Nat=>[(13,.int i)]) (fun i=>i<=b.length/\a.take i=b.take i) (fun i=>b.length-i) 0 (by simp) (by simp [go_sem]) (by simp [go_sem]) ?_
  intro i hi
  simp [go_sem]
  refine ⟨fun h=>?_,fun h=>?_⟩ <;> simp at h
  .have h2:i<a.length:=by omega
   simp [go_sem,zap h,zap h2]
   refine ⟨by kernel_rfl,⟨h2,by rintro rfl; simp at h2⟩,⟨h,by rintro rfl; simp at h⟩,?_⟩
   refine ⟨by kernel_rfl,?_⟩
   simp [go_sem]
   refine ⟨fun h3=>?_,fun h3=>?_⟩ <;> simp at h3 <;> simp [go_sem]
   .rintro rfl; exact h3 rfl
   .refine ⟨by omega,i+1,⟨by omega,?_⟩,by omega,zaa _ _ _ (by simp),by omega⟩
    rw [List.take_add_one,List.take_add_one,hi.2]
    rw [List.getElem?_eq_getElem h,List.getElem?_eq_getElem h2] at h3 |-
    simp only [Option.getD_some] at h3
    rw [h3]
  .simp [go_sem]
   have e:i=b.length:=by omega
   subst e
   have:=hi.2
   rw [List.take_length,<- hl,List.take_length] at this
   exact this
 .have e:decide (a=b)=false:=by
   rw [decide_eq_false_iff_not]; intro h; exact hl (by rw [h])
  rw [e]
  have hi:¬ (a.length:Int)=b.length:=by omega
  refine zab Tryz.mixed ⟨7,[],[],[]⟩ Tryz.func131 ?_
  rw [Tryz.ntmps131]
  simp [go_sem,hi]
end Go.Proofs.YthhdollpkieknaaGreat


namespace Go.Proofs.YthhdollpkieknaaGreat
open Go.Abs
end Go.Proofs.YthhdollpkieknaaGreat


namespace Go.Proofs.YthhdollpkieknaaGreat
open Go.Abs
end Go.Proofs.YthhdollpkieknaaGreat


namespace Go.Proofs.YthhdollpkieknaaGreat
open Go.Abs
def hadS (s:Nat) (a v:List Int):List Int:=tb (fun j=>a[j]?.getD 0*v[j]?.getD 0%10007) s
@[simp] theorem zqj (s:Nat) (a v:List Int):(hadS s a v).length=s:=by simp [hadS]
theorem zvU (s:Nat) (a v:List Int):Ns (hadS s a v):=tb_N fun j _=>zai _
def hadL (s:Nat) (a:List Int):List (List Int)->List Int
 | []=>a
 | v::l=>hadL s (hadS s a v) l
theorem zpQ (s:Nat) (l r:List (List Int)):∀ a,hadL s a (l++r)=hadL s (hadL s a l) r:=by
 induction l with
 | nil=>intro a; rfl
 | cons v l ih=>intro a; exact ih _
theorem zo8 {s:Nat} {a:List Int} {l:List (List Int)} {i:Nat} (h:i<l.length):hadL s a (l.take (i+1))=hadS s (hadL s a (l.take i)) (l[i]?.getD []):=by
 rw [List.take_add_one,List.getElem?_eq_getElem h,Option.toList_some,zpQ]; rfl
theorem zoe {s:Nat} {a:List Int} (h:a.length=s/\Ns a) (l:List (List Int)):(hadL s a l).length=s/\Ns (hadL s a l):=by
 induction l generalizing a with
 | nil=>exact h
 | cons v l ih=>exact ih ⟨zqj _ _ _,zvU _ _ _⟩
def stwF (A:List (List Int)) (s:Nat):Nat->List Int->List Int
 | 0,_=>List.replicate s 1
 | m+1,t=>hadL s (List.replicate s 1) ((brs t).map fun b=>tim A (stwF A s m b))
theorem zka (s:Nat):(List.replicate s (1:Int)).length=s/\Ns (List.replicate s (1:Int)):=⟨by simp,fun x hx=>by
 rw [List.mem_replicate] at hx
 rw [hx.2]; exact ⟨by omega,by omega⟩⟩
theorem zog (A:List (List Int)) (s:Nat):∀ n t,(stwF A s n t).length=s/\Ns (stwF A s n t)
 | 0,t=>zka s
 | n+1,t=>zoe (zka s) _
def ovL (new old:List Int) (s j:Nat):List Int:=tb (fun k=>if k<j then new[k]?.getD 0 else old[k]?.getD 0) s
@[simp] theorem zjw (new old:List Int) (s j:Nat):(ovL new old s j).length=s:=by simp [ovL]
theorem zoG {new old:List Int} {s j:Nat} (h:j<s):(ovL new old s j)[j]?.getD 0=old[j]?.getD 0:=by
 unfold ovL; rw [zkJ _ h,if_neg (by omega)]
theorem zqf {new old:List Int} {s:Nat} (h:old.length=s):ovL new old s 0=old:=by
 refine List.ext_getElem (by simp [h]) fun k h1 h2=>?_
 simp [ovL,tb,h2]
theorem zmM {new old:List Int} {s:Nat} (h:new.length=s):ovL new old s s=new:=by
 refine List.ext_getElem (by simp [h]) fun k h1 h2=>?_
 have:k<s:=by omega
 simp [ovL,tb,h2,this]
theorem zpr {new old:List Int} {s j:Nat} (h:j<s):(ovL new old s j).set j (new[j]?.getD 0)=ovL new old s (j+1):=by
 refine List.ext_getElem (by simp) fun k h1 h2=>?_
 have hk:k<s:=by simpa using h2
 rw [List.getElem_set]
 by_cases e:j=k
 .subst e
  rw [if_pos rfl]
  simp [ovL,tb]
 .rw [if_neg e]
  have:k<j+1 ↔ k<j:=by omega
  simp [ovL,tb,this]
end Go.Proofs.YthhdollpkieknaaGreat


namespace Go.Proofs.YthhdollpkieknaaGreat
open Go.Abs
def pF (t:List Int):Nat->Option Nat
 | 0=>none
 | j+1=>if t[j]?.getD 0<=1 then pF t j else some j
def qF (t:List Int) (v:Int):Nat->Option Nat
 | 0=>none
 | j+1=>if t[j]?.getD 0=v then some j else qF t v j
def fiS (t:List Int) (d p:Nat):Nat->List Int
 | 0=>t
 | k+1=>(fiS t d p k).set (p+k) ((fiS t d p k)[p+k-d]?.getD 0)
@[simp] theorem zj5 (t:List Int) (d p:Nat):∀ k,(fiS t d p k).length=t.length
 | 0=>rfl
 | k+1=>by simp [fiS,zj5 t d p k]
def genT:Nat->List Int->List (List Int)
 | 0,_=>[]
 | k+1,t=>t::match pF t t.length with
  | none=>[]
  | some p=>match qF t (t[p]?.getD 0-1) p with
   | none=>[]
   | some q=>genT k (fiS t (p-q) p (t.length-p))
def chkT:Nat->List Int->Bool
 | 0,_=>false
 | k+1,t=>t.all (fun x=>decide (0<=x/\x<=100)) && match pF t t.length with
  | none=>true
  | some p=>match qF t (t[p]?.getD 0-1) p with
   | none=>false
   | some q=>chkT k (fiS t (p-q) p (t.length-p))
theorem zwA {t:List Int} {v:Int}:∀ {j q:Nat},qF t v j=some q->q<j/\t[q]?.getD 0=v
 | j+1,q,h=>by
  rw [qF] at h
  split at h
  .injection h with h; subst h; exact ⟨by omega,by assumption⟩
  .have:=zwA h; exact ⟨by omega,this.2⟩
theorem ziy (n F:Nat) (hn:n<=1000) (hF:F<=1000000) (hc:chkT F (upTo n)=true):Con Tryz.prog 168 [.int n] (.own 25 (genT F (upTo n)).length (omat (genT F (upTo n)))):=by
 refine zab Tryz.mixed ⟨9,[],[],[]⟩ Tryz.func168 ?_
 rw [Tryz.ntmps168]
 simp [go_sem]
 refine zac (3::5::List.range' 12 8) (fun i:Nat=>[(3,.own 2 i (avs (upTo i))),(12,.int i)]) (fun i=>i<=n) (fun i=>n-i) 0 (by simp) (by simp [go_sem,upTo]) (by simp [go_sem]) ?_
 intro i hi
 simp [go_sem]
 refine ⟨fun h=>?_,fun h=>?_⟩ <;> simp at h
 .simp [go_sem]
  refine ⟨⟨by omega,by omega⟩,by omega,i+1,by omega,by omega,zaa _ _ _ (by simp),by rw [znm,zal]; exact ⟨rfl,rfl⟩,by omega⟩
 .have e:i=n:=by omega
  subst e
  simp [go_sem]
  refine zac (2::3::4::6::7::8::List.range' 20 52) (fun x:Nat × List Int × List (List Int)=>[(3,.own 2 i (avs x.2.1)),(4,.own 25 x.2.2.length (omat x.2.2))]) (fun x=>x.2.2++genT x.1 x.2.1=genT F (upTo i)/\chkT x.1 x.2.1=true/\x.2.1.length=i/\x.2.2.length+x.1<=F) (fun x=>x.1) (F,upTo i,[]) ⟨by simp,hc,by simp,by simp⟩ (by simp [go_sem,zdN]) (by simp [go_sem]) ?_
  rintro ⟨k,t,done⟩ ⟨hg,hk,hl,hdl⟩
  simp only at hg hk hl hdl
  cases k with
  | zero=>simp [chkT] at hk
  | succ k =>
   rw [chkT] at hk
   rw [genT] at hg
   simp only [Bool.and_eq_true] at hk
   obtain ⟨hb,hk⟩:=hk
   have hb2:∀ j:Nat,0<=t[j]?.getD 0/\t[j]?.getD 0<=100:=fun j=>by
    rcases Nat.lt_or_ge j t.length with hj | hj
    .have:=(List.all_eq_true.1 hb) _ (List.getElem_mem hj)
     simp only [decide_eq_true_eq] at this
     simpa [hj] using this
    .simp [List.getElem?_eq_none hj]
   have cC:=zn3 t (by omega)
   rw [hl] at cC hk hg
   simp [go_sem]
   refine CallVC.of (cC) ?_
   simp [go_sem]
   refine ⟨⟨by omega,by omega⟩,⟨by omega,by omega⟩,?_⟩
   refine zac (6::List.range' 27 11) (fun j:Nat=>[(6,.int ((j:Int)-1))]) (fun j=>j<=i/\pF t i=pF t j) (fun j=>j) i ⟨by omega,rfl⟩ (by simp [go_sem]) (by simp [go_sem]) ?_
   rintro j ⟨hj,hpj⟩
   rcases j with _ | j
   .rw [hpj,pF] at hg
    simp [go_sem]
    rw [<- hg,zbf,zbg,hl]
    exact ⟨by simp,rfl⟩
   .have hjt:j<t.length:=by omega
    have ej:((j+1:Nat):Int)-1=j:=by omega
    have j0:(0:Int)<=j:=by omega
    by_cases ht:t[j]?.getD 0<=1
    .rw [pF,if_pos ht] at hpj
     simp [go_sem,ej,j0,zbd hjt,ht]
     exact ⟨by omega,⟨by omega,by omega⟩,j,⟨by omega,hpj⟩,by omega,zaa _ _ _ (by simp),by omega⟩
    .rw [pF,if_neg ht] at hpj
     rw [hpj] at hg hk
     simp only at hg hk
     have jn:¬ (j:Int)<0:=by omega
     cases hq:qF t (t[j]?.getD 0-1) j with
     | none=>rw [hq] at hk; simp at hk
     | some q =>
      rw [hq] at hg hk
      simp only at hg hk
      have hql:=zwA hq
      have b1:=hb2 j
      simp [go_sem,ej,j0,zbd hjt,ht,jn]
      refine ⟨by omega,⟨by omega,by omega⟩,?_⟩
      refine zac (7::List.range' 43 12) (fun r:Nat=>[(7,.int ((r:Int)-1))]) (fun r=>r<=j/\qF t (t[j]?.getD 0-1) r=some q) (fun r=>r) j ⟨by omega,hq⟩ (by simp [go_sem]) (by simp [go_sem]) ?_
      rintro r ⟨hr,hqr⟩
      rcases r with _ | r
      .simp [qF] at hqr
      .have hrt:r<t.length:=by omega
       have er:((r+1:Nat):Int)-1=r:=by omega
       by_cases hv:t[r]?.getD 0=t[j]?.getD 0-1
       .rw [qF,if_pos hv] at hqr
        injection hqr with hqr
        subst hqr
        simp [go_sem,er,zbd hrt,zbd hjt,hv]
        refine ⟨by kernel_rfl,by omega,by omega,⟨by omega,by omega⟩,?_⟩
        refine ⟨by kernel_rfl,?_⟩
        simp [go_sem]
        refine zac (3::8::List.range' 56 16) (fun e:Nat=>[(3,.own 2 i (avs (fiS t (j-r) j e))),(8,.int ((j+e:Nat):Int))]) (fun e=>j+e<=i) (fun e=>i-e) 0 (by omega) (by simp [go_sem,fiS]) (by simp [go_sem]) ?_
        intro e he
        simp [go_sem]
        refine ⟨fun h=>?_,fun h=>?_⟩ <;> simp at h
        .have hlf:=zj5 t (j-r) j e
         have k1:j+e-(j-r)<(fiS t (j-r) j e).length:=by omega
         have k2:j+e<(fiS t (j-r) j e).length:=by omega
         have ix:((j:Int)+e-(j-r))=((j+e-(j-r):Nat):Int):=by omega
         have hs:fiS t (j-r) j (e+1)=(fiS t (j-r) j e).set (j+e) ((fiS t (j-r) j e)[j+e-(j-r)]?.getD 0):=rfl
         generalize hF1:fiS t (j-r) j (e+1)=F1 at *
         generalize fiS t (j-r) j e=F0 at *
         have ix2:((j:Int)+e-(j-r)).toNat=j+e-(j-r):=by omega
         have ij2:((j:Int)+e).toNat=j+e:=by omega
         simp [go_sem,ix2,zbd k1,ij2]
         refine ⟨⟨by omega,by omega⟩,⟨by omega,by omega⟩,⟨by omega,by omega⟩,⟨by omega,by omega⟩,k2,⟨by omega,by omega⟩,e+1,by omega,by omega,zaa _ _ _ (by simp),?_,by omega⟩
         rw [hF1,hs,zaK]
        .have en:e=i-j:=by omega
         subst en
         have h1:done++[t]++genT k (fiS t (j-r) j (i-j))=genT F (upTo i):=by rw [<- hg]; simp
         simp [go_sem]
         refine ⟨k,fiS t (j-r) j (i-j),done++[t],⟨h1,hk,by rw [zj5]; exact hl,by simp; omega⟩,by omega,(by repeat (first | exact zaa _ _ _ (by simp) | (refine Off.reset (by intro x hx; simp at hx |-; omega) (by simp) ?_; simp -failIfUnchanged [go_sem,zaa]))),rfl,?_⟩
         rw [zbf,zbg,hl]
         exact ⟨by simp,rfl⟩
       .rw [qF,if_neg hv] at hqr
        simp [go_sem,er,zbd hrt,zbd hjt,hv]
        refine ⟨by kernel_rfl,by omega,by omega,⟨by omega,by omega⟩,?_⟩
        refine ⟨by kernel_rfl,?_⟩
        simp [go_sem]
        exact ⟨⟨by omega,by omega⟩,r,⟨by omega,hqr⟩,by omega,zaa _ _ _ (by simp),by omega⟩
end Go.Proofs.YthhdollpkieknaaGreat


namespace Go.Proofs.YthhdollpkieknaaGreat
open Go.Abs
def nlA (L:List (List Int)):AV:=match L with
 | []=>.val (.slice none 0 0)
 | _::_=>.own 25 L.length (omat L)
def grwL:Nat->List Int->List (List Int)->List (List Int)
 | 0,t,L=>if canF t.length t=t then L++[t] else L
 | k+1,t,L=>(List.range (t[t.length-1]?.getD 0+1).toNat).foldl (fun (L:List (List Int)) (i:Nat)=>grwL k (t++[t[t.length-1]?.getD 0+1-(i:Int)]) L) L
def grwI (k:Nat) (t:List Int) (m:Int) (L:List (List Int)) (i:Nat):List (List Int):=(List.range i).foldl (fun (L:List (List Int)) (i:Nat)=>grwL k (t++[m-(i:Int)]) L) L
theorem zh8 (k:Nat) (t:List Int) (m:Int) (L:List (List Int)) (i:Nat):grwI k t m L (i+1)=grwL k (t++[m-(i:Int)]) (grwI k t m L i):=by simp [grwI,List.range_succ]
theorem ziL (k:Nat) (t:List Int) (L:List (List Int)):grwL (k+1) t L=grwI k t (t[t.length-1]?.getD 0+1) L (t[t.length-1]?.getD 0+1).toNat:=rfl
theorem zgR:∀ n:Nat,1<=n->n<=6->chkT 200 (upTo n)=true/\genT 200 (upTo n)=grwL (n-1) [0] []/\(genT 200 (upTo n)).all lvB=true:=by
 have h:∀ n∈[1,2,3,4,5,6],(chkT 200 (upTo n) && decide (genT 200 (upTo n)=grwL (n-1) [0] []) && (genT 200 (upTo n)).all lvB)=true:=by decide +kernel
 intro n h1 h6
 have:=h n (by simp; omega)
 simp only [Bool.and_eq_true,decide_eq_true_eq] at this
 exact ⟨this.1.1,this.1.2,this.2⟩
theorem zjq {t:List Int} (h:Lv t) {x:Int} (h1:1<=x) (h2:x<=t[t.length-1]?.getD 0+1):Lv (t++[x]):=by
 have hp:=h.1
 refine ⟨by simp,by rw [List.getElem?_append_left hp]; exact h.2.1,fun j hj hl=>?_⟩
 simp at hl
 by_cases e:j=t.length
 .subst e
  rw [List.getElem?_append_right (Nat.le_refl _),List.getElem?_append_left (by omega),Nat.sub_self]
  exact ⟨h1,h2⟩
 .rw [List.getElem?_append_left (by omega),List.getElem?_append_left (by omega)]
  exact h.2.2 j hj (by omega)
theorem zmQ {t:List Int} (h:Lv t):0<=t[t.length-1]?.getD 0/\t[t.length-1]?.getD 0<t.length:=by
 have gen:∀ j,j<t.length->0<=t[j]?.getD 0/\t[j]?.getD 0<=j:=by
  intro j
  induction j with
  | zero=>intro _; rw [h.2.1]; omega
  | succ j ih=>intro hj; have:=ih (by omega); have h3:=h.2.2 (j+1) (by omega) hj; simp only [Nat.add_sub_cancel] at h3; omega
 have hp:=h.1
 have:=gen (t.length-1) (by omega)
 omega
theorem zjS {k:Nat} {t:List Int} {L:List (List Int)} (hg:∀ (x:Int) (L:List (List Int)),1<=x->x<=t[t.length-1]?.getD 0+1->(grwL k (t++[x]) L).length<=L.length+6 ^ k):∀ i:Nat,i<=(t[t.length-1]?.getD 0+1).toNat->(grwI k t (t[t.length-1]?.getD 0+1) L i).length<=L.length+i*6 ^ k
 | 0,_=>by simp [grwI]
 | i+1,hi=>by
  rw [zh8]
  have:=hg (t[t.length-1]?.getD 0+1-(i:Int)) (grwI k t (t[t.length-1]?.getD 0+1) L i) (by omega) (by omega)
  have:=zjS (L:=L) hg i (by omega)
  rw [Nat.add_mul]
  omega
theorem zkK:∀ (k:Nat) (t:List Int) (L:List (List Int)),Lv t->t.length+k<=6->(grwL k t L).length<=L.length+6 ^ k
 | 0,t,L,_,_=>by rw [grwL]; split <;> simp
 | k+1,t,L,h,hk=>by
  have hl:=zmQ h
  have gen:=zjS (k:=k) (t:=t) (L:=L) (fun x L h1 h2=>zkK k (t++[x]) L (zjq h h1 h2) (by simp; omega))
  rw [ziL]
  have h1:=gen _ (Nat.le_refl _)
  have h2:(t[t.length-1]?.getD 0+1).toNat*6 ^ k<=6*6 ^ k:=Nat.mul_le_mul_right _ (by omega)
  rw [Nat.pow_succ]
  omega
theorem zp1 (k:Nat) (t:List Int) (L:List (List Int)) (h:Lv t) (hk:t.length+(k+1)<=6) (i:Nat) (hi:i<=(t[t.length-1]?.getD 0+1).toNat):(grwI k t (t[t.length-1]?.getD 0+1) L i).length<=L.length+i*6 ^ k :=
 zjS (fun x L h1 h2=>zkK k (t++[x]) L (zjq h h1 h2) (by simp; omega)) i hi
@[simp] theorem zxH:nlA []=.val (.slice none 0 0):=rfl
@[simp] theorem zw5 (r:List Int) (L:List (List Int)):nlA (r::L)=.own 25 (L.length+1) (omat (r::L)):=rfl
theorem zsl (W:List Nat) (L:List (List Int)):kl W (nlA L)=nlA L:=by cases L <;> simp [go_sem]
theorem zij (n:Nat) (hn:n<=6):∀ (k:Nat) (t:List Int) (L:List (List Int)),Lv t->t.length+k=n->L.length+6 ^ k<=1000000->MCon Tryz.prog 272 [.own 2 t.length (avs t),.int n,nlA L] (nlA (grwL k t L)) [.any,.any,.any]
 | 0,t,L,h,hk,hL=>by
  have e:t.length=n:=by omega
  have hp:=h.1
  have hc:=zaW n t (by omega) h (by omega)
  have hl:=zaF n t h (by omega)
  rw [<- hl] at hc
  have hs:=zci (canF n t) t (by omega)
  have hO:=zbp t (by omega)
  rw [grwL,e]
  by_cases hcn:canF n t=t
  .rw [if_pos hcn]
   rw [hcn] at hc hs
   simp only [decide_true] at hs
   rw [e] at hc hs hO
   cases L with
   | nil =>
    rw [nlA,List.nil_append,nlA]
    refine zbw Tryz.mixed ⟨2,[],[272],[]⟩ [] Tryz.func272 ?_
    rw [Tryz.ntmps272]
    simp [go_sem]
    refine CallVC.of (hc) ?_
    simp [go_sem]
    refine CallVC.of (hs) ?_
    simp [go_sem]
    refine CallVC.of (hO) ?_
    simp [go_sem]
    rw [zbg,e]
   | cons r L =>
    rw [nlA,List.cons_append,nlA]
    refine zbw Tryz.mixed ⟨2,[],[272],[]⟩ [] Tryz.func272 ?_
    rw [Tryz.ntmps272]
    simp [go_sem]
    refine CallVC.of (hc) ?_
    simp [go_sem]
    refine CallVC.of (hs) ?_
    simp [go_sem]
    refine CallVC.of (hO) ?_
    simp [go_sem]
    simp at hL
    have em:omat (r::L)++[AV.own 2 n (avs t)]=omat (r::(L++[t])):=by rw [<- List.cons_append,zbf,zbg,e]
    refine ⟨⟨by omega,by omega⟩,em,?_⟩
    rw [em]; exact zet _
  .rw [if_neg hcn]
   simp only [hcn,decide_false] at hs
   rw [hl] at hc hs
   rw [e] at hc hs
   cases L with
   | nil =>
    rw [nlA]
    refine zbw Tryz.mixed ⟨2,[],[272],[]⟩ [] Tryz.func272 ?_
    rw [Tryz.ntmps272]
    simp [go_sem]
    refine CallVC.of (hc) ?_
    simp [go_sem]
    refine CallVC.of (hs) ?_
    simp [go_sem]
   | cons r L =>
    rw [nlA]
    refine zbw Tryz.mixed ⟨2,[],[272],[]⟩ [] Tryz.func272 ?_
    rw [Tryz.ntmps272]
    simp [go_sem]
    refine CallVC.of (hc) ?_
    simp [go_sem]
    refine CallVC.of (hs) ?_
    simp [go_sem]
 | k+1,t,L,h,hk,hL=>by
  have hp:=h.1
  have hl:=zmQ h
  have tn:¬ (t.length:Int)=n:=by omega
  have tn2:¬ t.length=n:=by omega
  have hO:=zbp t (by omega)
  have ht:t.length-1<t.length:=by omega
  have ex:((t.length:Int)-1)=((t.length-1:Nat):Int):=by omega
  rw [ziL]
  have glen:=fun (i:Nat) (hi:i<=(t[t.length-1]?.getD 0+1).toNat)=>zp1 k t L h (by omega) i hi
  have ih:=fun (i:Nat) (hi:i<(t[t.length-1]?.getD 0+1).toNat) (L1:List (List Int)) (h1:L1.length+6 ^ k<=1000000)=>zij n hn k (t++[t[t.length-1]?.getD 0+1-(i:Int)]) L1 (zjq h (by omega) (by omega)) (by simp; omega) h1
  generalize hm:t[t.length-1]?.getD 0=m at *
  have ib:∀ i:Nat,i<(m+1).toNat->(grwI k t (m+1) L i).length+6 ^ k<=1000000:=fun i hi=>by
   have:=glen i (by omega)
   have h6:(i+1)*6 ^ k<=6*6 ^ k:=Nat.mul_le_mul_right _ (by omega)
   rw [Nat.pow_succ] at hL
   rw [Nat.add_mul] at h6
   omega
  have Tr:∀ (S:St),S 2=nlA L->S 7=.val (.int .i64 (m+1))->Trk S ([(2,nlA (grwI k t (m+1) L 0)),(7,.int (m+1-(0:Nat)))]:List (Nat × AV)):=fun S h2 h7=>by
   simp [go_sem,grwI,h2,h7]
  obtain ⟨LL,hLL⟩:∃ LL,LL=L:=⟨_,rfl⟩
  have hR:grwI k t (m+1) L (m+1).toNat=grwI k t (m+1) LL (m+1).toNat:=by rw [hLL]
  rw [hR]
  rw [<- hLL] at Tr ib
  clear hR
  cases L
  all_goals
   refine zbw Tryz.mixed ⟨2,[],[272],[]⟩ [] Tryz.func272 ?_
   rw [Tryz.ntmps272]
   simp [go_sem]
   simp [go_sem,tn,tn2,ex,zbd ht,hm]
   refine ⟨by omega,ht,⟨by omega,by omega⟩,?_⟩
   refine zac (2::7::List.range' 29 12) (fun i:Nat=>[(2,nlA (grwI k t (m+1) LL i)),(7,.int (m+1-(i:Int)))]) (fun i=>i<=(m+1).toNat) (fun i=>(m+1).toNat-i) 0 (by simp) (Tr _ (by simp [go_sem,hLL]) (by simp [go_sem])) (by simp [go_sem,zsl]) ?_
   intro i hi
   simp [go_sem]
   refine ⟨fun h=>?_,fun h=>?_⟩ <;> simp at h
   .have him:i<(m+1).toNat:=by omega
    have i1:=ih i him _ (ib i him)
    have e1:=zh8 k t (m+1) LL i
    generalize hL2:grwI k t (m+1) LL (i+1)=L2 at *
    generalize grwI k t (m+1) LL i=L1 at *
    rw [<- e1] at i1
    simp only [List.length_append,List.length_singleton,zal] at i1
    cases L1 <;> cases L2
    all_goals
     simp [go_sem]
     refine CallVC.of (hO) ?_
     simp [go_sem]
     refine ⟨⟨by omega,by omega⟩,?_⟩
     refine ⟨_,_,i1,?_⟩
     simp [go_sem]
     refine ⟨⟨by omega,by omega⟩,i+1,by omega,by omega,zaa _ _ _ (by simp),?_,zsl _ _⟩
     rw [hL2]
     exact ⟨rfl,by omega⟩
   .have e:i=(m+1).toNat:=by omega
    subst e
    generalize grwI k t (m+1) LL (m+1).toNat=L1 at *
    cases L1
    all_goals
     simp [go_sem]
end Go.Proofs.YthhdollpkieknaaGreat


namespace Go.Proofs.YthhdollpkieknaaGreat
abbrev Mx:=Nat->Nat->Int
def sgd (i:Nat):Int:=if i%2=0 then 1 else -1
theorem zp4 (i:Nat):sgd (i+1) =-sgd i:=by
 unfold sgd
 by_cases h:i%2=0
 .rw [if_pos h,if_neg (by omega)]
 .rw [if_neg h,if_pos (by omega)]; rfl
def dsum (f:Nat->Int):Nat->Int
 | 0=>0
 | n+1=>dsum f n+f n
theorem zc1 {f g:Nat->Int}:∀ {n:Nat},(∀ i,i<n->f i=g i)->dsum f n=dsum g n
 | 0,_=>rfl
 | n+1,h=>by rw [dsum,dsum,zc1 (fun i hi=>h i (by omega)),h n (by omega)]
theorem zeW (f g:Nat->Int) (k:Int):∀ n:Nat,dsum (fun i=>f i+k*g i) n=dsum f n+k*dsum g n
 | 0=>by simp [dsum]
 | n+1=>by rw [dsum,dsum,dsum,zeW f g k n,Int.mul_add]; omega
theorem zfr {f:Nat->Int}:∀ {n:Nat},(∀ i,i<n->f i=0)->dsum f n=0
 | 0,_=>rfl
 | n+1,h=>by rw [dsum,zfr (fun i hi=>h i (by omega)),h n (by omega)]; rfl
theorem zdJ {f:Nat->Int} {k:Nat}:∀ {n:Nat},k<n->(∀ i,i<n->i≠k->f i=0)->dsum f n=f k
 | 0,h,_=>by omega
 | n+1,h,hz=>by
  rw [dsum]
  by_cases e:k=n
  .subst e
   rw [zfr (fun i hi=>hz i (by omega) (by omega)),Int.zero_add]
  .rw [zdJ (n:=n) (by omega) (fun i hi hne=>hz i (by omega) hne),hz n (by omega) (by omega),Int.add_zero]
theorem zlj {f:Nat->Int} {k:Nat}:∀ {n:Nat},k+1<n->(∀ i,i<n->i≠k->i≠k+1->f i=0)->dsum f n=f k+f (k+1)
 | 0,h,_=>by omega
 | n+1,h,hz=>by
  rw [dsum]
  by_cases e:k+1=n
  .subst e
   rw [zdJ (k:=k) (by omega) (fun i hi hne=>hz i (by omega) hne (by omega))]
  .rw [zlj (n:=n) (by omega) (fun i hi h1 h2=>hz i (by omega) h1 h2),hz n (by omega) (by omega) (by omega),Int.add_zero]
def mnr (M:Mx) (i:Nat):Mx:=fun r c=>M (if r<i then r else r+1) (c+1)
def det:Nat->Mx->Int
 | 0,_=>1
 | n+1,M=>dsum (fun i=>sgd i*M i 0*det n (mnr M i)) (n+1)
def updR (M:Mx) (i:Nat) (w:Nat->Int):Mx:=fun r=>if r=i then w else M r
theorem zbA (M:Mx) (i:Nat):updR M i (M i)=M:=funext fun r=>by
 unfold updR; split
 .rename_i h; rw [h]
 .rfl
theorem zbP (M:Mx) (i:Nat) (w:Nat->Int):updR M i w i=w:=by simp [updR]
theorem zbX (M:Mx) {i r:Nat} (w:Nat->Int) (h:r≠i):updR M i w r=M r:=by simp [updR,h]
theorem zqq (M:Mx) (i:Nat) (v w:Nat->Int):updR (updR M i v) i w=updR M i w:=funext fun r=>by
 unfold updR; split <;> rfl
theorem zbb (M:Mx) {i j:Nat} (h:i≠j) (v w:Nat->Int):updR (updR M i v) j w=updR (updR M j w) i v:=funext fun r=>by
 unfold updR
 by_cases h1:r=i
 .subst h1; rw [if_neg h,if_pos rfl,if_pos rfl]
 .rw [if_neg h1,if_neg h1]
theorem zqg (M:Mx) (i:Nat) (w:Nat->Int):mnr (updR M i w) i=mnr M i:=funext fun r=>funext fun c=>by
 unfold mnr updR
 rw [if_neg (by split <;> omega)]
theorem zwB (M:Mx) {i j:Nat} (w:Nat->Int) (h:j≠i):mnr (updR M i w) j=updR (mnr M j) (if i<j then i else i-1) (fun c=>w (c+1)):=funext fun r=>funext fun c=>by
 unfold mnr updR
 by_cases h1:(if r<j then r else r+1)=i
 .have h2:r=if i<j then i else i-1:=by
   split at h1 <;> split <;> omega
  rw [if_pos h1,if_pos h2]
 .have h2:¬ r=if i<j then i else i-1:=by
   split at h1 <;> split <;> omega
  rw [if_neg h1,if_neg h2]
theorem zfh {p:Int}:∀ {n:Nat} {M N:Mx},(∀ r c,r<n->c<n->M r c%p=N r c%p)->det n M%p=det n N%p
 | 0,_,_,_=>rfl
 | n+1,M,N,h=>by
  rw [det,det]
  have gen:∀ m:Nat,m<=n+1->dsum (fun i=>sgd i*M i 0*det n (mnr M i)) m%p=dsum (fun i=>sgd i*N i 0*det n (mnr N i)) m%p:=by
   intro m
   induction m with
   | zero=>intro _; rfl
   | succ m ih =>
    intro hm
    rw [dsum,dsum,Int.add_emod,ih (by omega),Int.add_emod (dsum (fun i=>sgd i*N i 0*det n (mnr N i)) m)]
    have e1:=h m 0 (by omega) (by omega)
    have e2:=zfh (p:=p) (n:=n) (M:=mnr M m) (N:=mnr N m) (fun r c hr hc=>h _ _ (by split <;> omega) (by omega))
    have e3:(sgd m*M m 0*det n (mnr M m))%p=(sgd m*N m 0*det n (mnr N m))%p:=by
     rw [Int.mul_emod,Int.mul_emod (sgd m),e1,e2,<- Int.mul_emod (sgd m),<- Int.mul_emod]
    rw [e3]
  exact gen _ (Nat.le_refl _)
theorem zcf:∀ {n:Nat} (M:Mx) {i:Nat} (u v:Nat->Int) (k:Int),i<n->det n (updR M i (fun c=>u c+k*v c))=det n (updR M i u)+k*det n (updR M i v)
 | 0,_,_,_,_,_,h=>by omega
 | n+1,M,i,u,v,k,h=>by
  rw [det,det,det,<- zeW]
  refine zc1 fun j hj=>?_
  by_cases e:j=i
  .subst e
   simp only [zqg,zbP]
   generalize det n (mnr M j)=d
   rw [Int.mul_add,Int.add_mul]
   congr 1
   ac_rfl
  .simp only [zwB M _ e,zbX M _ e]
   rw [zcf (n:=n) (mnr M j) (fun c=>u (c+1)) (fun c=>v (c+1)) k (by split <;> omega),Int.mul_add]
   congr 1
   ac_rfl
theorem zhE:∀ {n:Nat} (M:Mx) {i:Nat},i+1<n->M i=M (i+1)->det n M=0
 | 0,_,_,h,_=>by omega
 | n+1,M,i,h,he=>by
  rw [det,zlj (k:=i) h]
  .have hm:mnr M (i+1)=mnr M i:=funext fun r=>funext fun c=>by
    unfold mnr
    by_cases h1:r<i
    .rw [if_pos (by omega),if_pos h1]
    .by_cases h2:r=i
     .subst h2; rw [if_pos (by omega),if_neg (by omega),he]
     .rw [if_neg (by omega),if_neg (by omega)]
   rw [hm,<- he,zp4,Int.neg_mul,Int.neg_mul]
   omega
  .intro j hj h1 h2
   have hz:det n (mnr M j)=0:=by
    by_cases hlt:i<j
    .refine zhE (mnr M j) (i:=i) (by omega) (funext fun c=>?_)
     unfold mnr
     rw [if_pos hlt,if_pos (by omega),he]
    .obtain ⟨i',rfl⟩:∃ i',i=i'+1:=⟨i-1,by omega⟩
     refine zhE (mnr M j) (i:=i') (by omega) (funext fun c=>?_)
     unfold mnr
     rw [if_neg (by omega),if_neg (by omega),he]
   rw [hz,Int.mul_zero]
theorem zmB {n:Nat} (M:Mx) {i:Nat} (h:i+1<n) (u v:Nat->Int):det n (updR (updR M i u) (i+1) v) =-det n (updR (updR M i v) (i+1) u):=by
 have hne:i≠i+1:=by omega
 have z:=fun w:Nat->Int=>zhE (n:=n) (updR (updR M i w) (i+1) w) h (by rw [zbP,zbX _ _ hne,zbP])
 have s:=z (fun c=>u c+1*v c)
 rw [zcf _ u v 1 h,zbb _ hne,zbb _ hne,zcf _ u v 1 (by omega),zcf _ u v 1 (by omega)] at s
 have zu:=z u
 have zv:=z v
 rw [zbb _ hne] at zu zv
 rw [zbb _ hne,zbb (M) hne v u]
 omega
theorem zo5:∀ {n:Nat} (k:Nat) (M:Mx) {i:Nat},i+k+1<n->M i=M (i+k+1)->det n M=0
 | n,0,M,i,h,he=>zhE M h he
 | n,k+1,M,i,h,he=>by
  have hne:i+k+1≠i+(k+1)+1:=by omega
  have e0:M=updR (updR M (i+k+1) (M (i+k+1))) (i+k+1+1) (M (i+k+1+1)):=by rw [zbA,zbA]
  rw [e0,zmB M (i:=i+k+1) (by omega)]
  have:=zo5 k (updR (updR M (i+k+1) (M (i+k+1+1))) (i+k+1+1) (M (i+k+1))) (i:=i) (n:=n) (by omega) (by
   rw [zbX _ _ (show i≠i+k+1+1 by omega),zbX _ _ (show i≠i+k+1 by omega),zbX _ _ (show i+k+1≠i+k+1+1 by omega),zbP]
   exact he)
  rw [this]; rfl
theorem zlu {n:Nat} (M:Mx) {i j:Nat} (hi:i<n) (hj:j<n) (hne:i≠j) (he:M i=M j):det n M=0:=by
 by_cases h:i<j
 .have e:j=i+(j-i-1)+1:=by omega
  rw [e] at he
  exact zo5 (j-i-1) M (by omega) he
 .have e:i=j+(i-j-1)+1:=by omega
  rw [e] at he
  exact zo5 (i-j-1) M (by omega) he.symm
theorem ztA {n:Nat} (M:Mx) {i j:Nat} (hi:i<n) (hj:j<n) (hne:i≠j) (k:Int):det n (updR M i (fun c=>M i c+k*M j c))=det n M:=by
 rw [zcf M (M i) (M j) k hi,zbA,zlu (updR M i (M j)) hi hj hne (by rw [zbP,zbX _ _ (fun e=>hne e.symm)]),Int.mul_zero,Int.add_zero]
theorem zon {n:Nat} (M:Mx) {i:Nat} (hi:i<n) (hz:∀ c,M i c=0):det n M=0:=by
 have:=zcf M (M i) (M i) 1 hi
 have e:(fun c=>M i c+1*M i c)=M i:=funext fun c=>by rw [hz c]; rfl
 rw [e,zbA] at this
 omega
theorem zns {n:Nat} (M:Mx) {i:Nat} (hi:i<n) (k:Int):det n (updR M i (fun c=>k*M i c))=k*det n M:=by
 have:=zcf M (fun _=>0) (M i) k hi
 simp only [Int.zero_add] at this
 rw [this,zbA,zon (updR M i (fun _=>0)) hi (fun c=>by rw [zbP]),Int.zero_add]
theorem zp6 {n:Nat} (M:Mx) {i j:Nat} (hi:i<n) (hj:j<n) (hne:i≠j) (u v:Nat->Int):det n (updR (updR M i u) j v) =-det n (updR (updR M i v) j u):=by
 have z:=fun w:Nat->Int=>zlu (n:=n) (updR (updR M i w) j w) hi hj hne (by rw [zbP,zbX _ _ hne,zbP])
 have s:=z (fun c=>u c+1*v c)
 rw [zcf _ u v 1 hj,zbb _ hne,zbb _ hne,zcf _ u v 1 hi,zcf _ u v 1 hi] at s
 have zu:=z u
 have zv:=z v
 rw [zbb _ hne] at zu zv
 rw [zbb _ hne,zbb (M) hne v u]
 omega
def idM:Mx:=fun r c=>if r=c then 1 else 0
theorem zu5:mnr idM 0=idM:=funext fun r=>funext fun c=>by simp [mnr,idM]
theorem zjz:∀ n:Nat,det n idM=1
 | 0=>rfl
 | n+1=>by
  rw [det,zdJ (k:=0) (by omega) (fun i hi hne=>by simp [idM,hne]),zu5,zjz n]
  simp [sgd,idM]
def updC (M:Mx) (k:Nat) (b:Nat->Int):Mx:=fun r c=>if c=k then b r else M r c
theorem zmv:∀ {n k:Nat} (b:Nat->Int),k<n->det n (updC idM k b)=b k
 | 0,_,_,h=>by omega
 | n+1,0,b,_=>by
  rw [det,zdJ (k:=0) (by omega)]
  .have e:mnr (updC idM 0 b) 0=idM:=funext fun r=>funext fun c=>by simp [mnr,updC,idM]
   rw [e,zjz]
   simp [sgd,updC]
  .intro i hi hne
   rw [zon (mnr (updC idM 0 b) i) (i:=0) (by omega) (fun c=>by
    have:(0:Nat)<i:=by omega
    simp [mnr,updC,idM,this]),Int.mul_zero]
 | n+1,k+1,b,h=>by
  rw [det,zdJ (k:=0) (by omega)]
  .have e:mnr (updC idM (k+1) b) 0=updC idM k (fun r=>b (r+1)):=funext fun r=>funext fun c=>by simp [mnr,updC,idM]
   rw [e,zmv _ (by omega)]
   simp [sgd,updC,idM]
  .intro i hi hne
   have:updC idM (k+1) b i 0=0:=by simp [updC,idM,hne]
   rw [this]; simp
end Go.Proofs.YthhdollpkieknaaGreat


namespace Go.Proofs.YthhdollpkieknaaGreat
theorem zey (f:Nat->Int):∀ n,dsum f (n+1)=f 0+dsum (fun i=>f (i+1)) n
 | 0=>by simp [dsum]
 | n+1=>by rw [dsum,zey f n,dsum]; omega
theorem zhu (k:Int) (f:Nat->Int):∀ n,k*dsum f n=dsum (fun i=>k*f i) n
 | 0=>by simp [dsum]
 | n+1=>by rw [dsum,dsum,Int.mul_add,zhu k f n]
theorem ziX (f g:Nat->Int):∀ n,dsum (fun i=>f i+g i) n=dsum f n+dsum g n
 | 0=>by simp [dsum]
 | n+1=>by rw [dsum,dsum,dsum,ziX f g n]; omega
def clr (M:Mx) (i:Nat) (w:Nat->Int) (t:Nat):Mx:=fun r=>if r<t/\r≠i then fun c=>M r c+w r*M i c else M r
theorem zqR (M:Mx) (i:Nat) (w:Nat->Int):clr M i w 0=M:=funext fun r=>by unfold clr; rw [if_neg (by omega)]
theorem zpl {n:Nat} (M:Mx) {i:Nat} (hi:i<n) (w:Nat->Int):∀ t,t<=n->det n (clr M i w t)=det n M
 | 0,_=>by rw [zqR]
 | t+1,ht=>by
  rw [<- zpl M hi w t (by omega)]
  by_cases e:t=i
  .have:clr M i w (t+1)=clr M i w t:=funext fun r=>by
    unfold clr
    by_cases h:r<t/\r≠i
    .rw [if_pos h,if_pos ⟨by omega,h.2⟩]
    .rw [if_neg h,if_neg (by omega)]
   rw [this]
  .have hi2:clr M i w t i=M i:=by unfold clr; rw [if_neg (by omega)]
   have ht2:clr M i w t t=M t:=by unfold clr; rw [if_neg (by omega)]
   have:clr M i w (t+1)=updR (clr M i w t) t (fun c=>clr M i w t t c+w t*clr M i w t i c):=funext fun r=>by
    rw [hi2,ht2]
    unfold updR
    by_cases h:r=t
    .subst h; rw [if_pos rfl]; unfold clr; rw [if_pos ⟨by omega,e⟩]
    .rw [if_neg h]
     unfold clr
     by_cases h2:r<t/\r≠i
     .rw [if_pos h2,if_pos ⟨by omega,h2.2⟩]
     .rw [if_neg h2,if_neg (by omega)]
   rw [this,ztA _ (by omega) hi e]
theorem zcN {p:Int} {f g:Nat->Int}:∀ {n:Nat},(∀ i,i<n->f i%p=g i%p)->dsum f n%p=dsum g n%p
 | 0,_=>rfl
 | n+1,h=>by rw [dsum,dsum,Int.add_emod,zcN (fun i hi=>h i (by omega)),h n (by omega),<- Int.add_emod]
end Go.Proofs.YthhdollpkieknaaGreat


namespace Go.Proofs.YthhdollpkieknaaGreat
open Go.Abs CR
section
variable {α:Type}
def mnR (M:Nat->Nat->α) (i:Nat):Nat->Nat->α:=fun r c=>M (if r<i then r else r+1) (c+1)
end
section
variable {α:Type} [CR α]
def dR (f:Nat->α):Nat->α
 | 0=>ofI 0
 | n+1=>dR f n+f n
def dtR:Nat->(Nat->Nat->α)->α
 | 0,_=>ofI 1
 | n+1,M=>dR (fun i=>ofI (sgd i)*M i 0*dtR n (mnR M i)) (n+1)
end
end Go.Proofs.YthhdollpkieknaaGreat


namespace Go.Proofs.YthhdollpkieknaaGreat
open Go.Abs CR
section
variable {α:Type} [CR α]
end
end Go.Proofs.YthhdollpkieknaaGreat


namespace Go.Proofs.YthhdollpkieknaaGreat
open Go.Abs CR
section
variable {α:Type} [CR α]
end
end Go.Proofs.YthhdollpkieknaaGreat


namespace Go.Proofs.YthhdollpkieknaaGreat
open Go.Abs CR
theorem zkR (b:Ser Int):∀ (k:Nat) (a:Ser Int),(∀ i,a i=0)->cmul k a b=0
 | 0,a,h=>by show a 0*b 0=0; rw [h 0,Int.zero_mul]
 | k+1,a,h=>by
  show a 0*b (k+1)+cmul k (sh a) b=0
  rw [h 0,zkR b k (sh a) (fun i=>h (i+1)),Int.zero_mul]; rfl
theorem zp5 {a:Ser Int} (h:∀ i,a (i+2)=0) (b:Ser Int) (k:Nat):cmul (k+1) a b=a 0*b (k+1)+a 1*b k:=by
 show a 0*b (k+1)+cmul k (sh a) b=_
 congr 1
 cases k with
 | zero=>rfl
 | succ k =>
  show sh a 0*b (k+1)+cmul k (sh (sh a)) b=_
  rw [zkR b k (sh (sh a)) (fun i=>h i),Int.add_zero]; rfl
def Ev (z:Int) (d:Nat) (f:Ser Int) (v:Int):Prop:=(∀ k,d<k->f k=0)/\dsum (fun k=>f k*z ^ k) (d+1)=v
theorem Ev.zero (z:Int) (d:Nat):Ev z d (ofI 0) 0:=by
 have h0:∀ k,(ofI 0:Ser Int) k=0:=fun k=>by cases k <;> rfl
 exact ⟨fun k _=>h0 k,zfr fun k _=>by rw [h0,Int.zero_mul]⟩
theorem Ev.add {z:Int} {d:Nat} {f g:Ser Int} {v w:Int} (h:Ev z d f v) (k:Ev z d g w):Ev z d (f+g) (v+w):=by
 refine ⟨fun i hi=>by rw [zm0,h.1 i hi,k.1 i hi]; rfl,?_⟩
 rw [<- h.2,<- k.2,<- ziX]
 exact zc1 fun i hi=>by rw [zm0,Int.add_mul]
theorem Ev.lin {z:Int} {d:Nat} {f g:Ser Int} {w:Int} (hf:∀ i,f (i+2)=0) (k:Ev z d g w):Ev z (d+1) (f*g) ((f 0+f 1*z)*w):=by
 have at1:∀ i,(f*g) (i+1)=f 0*g (i+1)+f 1*g i:=fun i=>zp5 hf g i
 have at0:(f*g) 0=f 0*g 0:=rfl
 refine ⟨fun i hi=>?_,?_⟩
 .obtain ⟨j,rfl⟩:∃ j,i=j+1:=⟨i-1,by omega⟩
  rw [at1,k.1 (j+1) (by omega),k.1 j (by omega)]; omega
 .have e1:dsum (fun i=>(f*g) (i+1)*z ^ (i+1)) (d+1)=dsum (fun i=>f 0*(g (i+1)*z ^ (i+1))+(f 1*z)*(g i*z ^ i)) (d+1) :=
   zc1 fun i hi=>by
    rw [at1,Int.add_mul,Int.pow_succ]
    congr 1
    .rw [Int.mul_assoc]
    .rw [Int.mul_assoc,Int.mul_assoc]
     congr 1
     rw [<- Int.mul_assoc,Int.mul_comm]
  have e2:dsum (fun i=>g i*z ^ i) (d+1+1)=w:=by
   show dsum (fun i=>g i*z ^ i) (d+1)+g (d+1)*z ^ (d+1)=w
   rw [k.2,k.1 (d+1) (by omega),Int.zero_mul,Int.add_zero]
  rw [zey] at e2
  rw [zey,e1,zeW,at0,<- zhu,k.2,Int.add_mul]
  have e3:f 0*w=f 0*(g 0*z ^ 0)+f 0*dsum (fun i=>g (i+1)*z ^ (i+1)) (d+1):=by rw [<- Int.mul_add,e2]
  rw [e3,Int.mul_assoc (f 0) (g 0),Int.add_assoc]
theorem Ev.dR {z:Int} {d:Nat} {f:Nat->Ser Int} {v:Nat->Int}:∀ {n:Nat},(∀ i,i<n->Ev z d (f i) (v i))->Ev z d (dR f n) (dsum v n)
 | 0,_=>Ev.zero z d
 | n+1,h=>Ev.add (Ev.dR (n:=n) (fun i hi=>h i (by omega))) (h n (by omega))
theorem Ev.det {z:Int}:∀ (n:Nat) (A:Nat->Nat->Ser Int),(∀ r c i,A r c (i+2)=0)->Ev z n (dtR n A) (det n (fun r c=>A r c 0+A r c 1*z))
 | 0,A,_=>by
  refine ⟨fun k hk=>?_,?_⟩
  .obtain ⟨j,rfl⟩:∃ j,k=j+1:=⟨k-1,by omega⟩
   rfl
  .show (0:Int)+1*z ^ 0=1
   rw [Int.pow_zero]; rfl
 | n+1,A,h=>by
  rw [dtR,Go.Proofs.YthhdollpkieknaaGreat.det]
  refine Ev.dR fun i hi=>?_
  have q:=Ev.lin (f:=ofI (sgd i)*A i 0) (fun t=>by
   show cmul (t+2) (sOf (sgd i)) (A i 0)=0
   rw [zcm,zfA,h,Int.zero_mul]) (Ev.det (z:=z) n (mnR A i) (fun r c t=>h _ _ _))
  have e:∀ t,(ofI (sgd i)*A i 0) t=sgd i*A i 0 t:=fun t=>by
   show cmul t (sOf (sgd i)) (A i 0)=_
   rw [zcm,zfA]; exact Int.mul_comm _ _
  rw [e,e,Int.mul_assoc,<- Int.mul_add] at q
  exact q
end Go.Proofs.YthhdollpkieknaaGreat


namespace Go.Proofs.YthhdollpkieknaaGreat
open Go.Abs CR
section
variable {α:Type} [CR α]
end
def serEq (a b:Ser Int):Prop:=∀ k,a k%10007=b k%10007
theorem zhx {a b c d:Int} (h:a%10007=b%10007) (k:c%10007=d%10007):(a*c)%10007=(b*d)%10007:=by
 rw [Int.mul_emod,h,k,<- Int.mul_emod]
theorem zpZ {a b c d:Int} (h:a%10007=b%10007) (k:c%10007=d%10007):(a+c)%10007=(b+d)%10007:=by
 rw [Int.add_emod,h,k,<- Int.add_emod]
theorem zrk (n:Nat):∀ {a b c d:Ser Int},(∀ i,i<=n->a i%10007=b i%10007)->(∀ i,i<=n->c i%10007=d i%10007)->cmul n a c%10007=cmul n b d%10007:=by
 induction n with
 | zero=>intro a b c d h k; exact zhx (h 0 (Nat.le_refl _)) (k 0 (Nat.le_refl _))
 | succ n ih =>
  intro a b c d h k
  rw [cmul,cmul]
  exact zpZ (zhx (h 0 (by omega)) (k (n+1) (by omega))) (ih (fun i hi=>h (i+1) (by omega)) (fun i hi=>k i (by omega)))
end Go.Proofs.YthhdollpkieknaaGreat


namespace Go.Proofs.YthhdollpkieknaaGreat
def sel (W:Mx) (g:Nat->Nat):Mx:=fun r c=>W r (g c)
theorem zjC (W:Mx) (i:Nat) (w:Nat->Int) (g:Nat->Nat):sel (updR W i w) g=updR (sel W g) i (fun c=>w (g c)):=funext fun r=>funext fun c=>by
 unfold sel updR; split <;> rfl
theorem ztB (W:Mx) (i:Nat) (w:Nat->Int) (t:Nat) (g:Nat->Nat):sel (clr W i w t) g=clr (sel W g) i w t:=funext fun r=>funext fun c=>by
 unfold sel clr; split <;> rfl
def RowEq (n w:Nat) (W W':Mx):Prop:=∃ s t:Int,s*t%10007=1/\∀ g:Nat->Nat,(∀ c,c<n->g c<w)->det n (sel W g)*s%10007=det n (sel W' g)%10007
theorem RowEq.refl (n w:Nat) (W:Mx):RowEq n w W W:=⟨1,1,rfl,fun g hg=>by rw [Int.mul_one]⟩
theorem zcO (a b:Int):a%10007*b%10007=a*b%10007:=by rw [Int.mul_emod,Int.emod_emod_of_dvd _ (Int.dvd_refl _),<- Int.mul_emod]
theorem zd1 (a b:Int):a*(b%10007)%10007=a*b%10007:=by rw [Int.mul_emod,Int.emod_emod_of_dvd _ (Int.dvd_refl _),<- Int.mul_emod]
theorem RowEq.trans {n w:Nat} {W X Y:Mx} (h:RowEq n w W X) (k:RowEq n w X Y):RowEq n w W Y:=by
 obtain ⟨s,t,h1,h2⟩:=h
 obtain ⟨s',t',k1,k2⟩:=k
 refine ⟨s*s',t*t',?_,fun g hg=>?_⟩
 .have e:s*s'*(t*t')=(s*t)*(s'*t'):=by ac_rfl
  rw [e,Int.mul_emod,h1,k1]; rfl
 .rw [<- k2 g hg,<- Int.mul_assoc,<- zcO,h2 g hg,zcO]
theorem RowEq.cong {n w:Nat} {W W':Mx} (h:∀ r c,r<n->c<w->W r c%10007=W' r c%10007):RowEq n w W W' :=
 ⟨1,1,rfl,fun g hg=>by rw [Int.mul_one]; exact zfh fun r c hr hc=>h r (g c) hr (hg c hc)⟩
theorem RowEq.clr {n w:Nat} (W:Mx) {i:Nat} (hi:i<n) (u:Nat->Int):RowEq n w W (clr W i u n) :=
 ⟨1,1,rfl,fun g hg=>by rw [Int.mul_one,ztB,zpl _ hi u n (Nat.le_refl _)]⟩
theorem RowEq.scale {n w:Nat} (W:Mx) {i:Nat} (hi:i<n) {k k':Int} (hk:k*k'%10007=1):RowEq n w W (updR W i (fun c=>k*W i c)) :=
 ⟨k,k',hk,fun g hg=>by
  rw [zjC]
  have:=zns (sel W g) hi k
  have e:(fun c=>k*sel W g i c)=fun c=>k*W i (g c):=rfl
  rw [e] at this
  rw [this,Int.mul_comm]⟩
theorem RowEq.swap {n w:Nat} (W:Mx) {i j:Nat} (hi:i<n) (hj:j<n) (hne:i≠j):RowEq n w W (updR (updR W i (W j)) j (W i)) :=
 ⟨-1,-1,rfl,fun g hg=>by
  rw [zjC,zjC]
  have e:sel W g=updR (updR (sel W g) i (fun c=>W i (g c))) j (fun c=>W j (g c)):=by
   have e1:(fun c=>W i (g c))=sel W g i:=rfl
   have e2:(fun c=>W j (g c))=sel W g j:=rfl
   rw [e1,e2,zbA,zbA]
  have h:=zp6 (sel W g) hi hj hne (fun c=>W j (g c)) (fun c=>W i (g c))
  rw [h,<- e]
  congr 1
  omega⟩
theorem RowEq.full {n:Nat} {W W':Mx} (h:RowEq n (n+1) W W') (hid:∀ r c,r<n->c<n->W' r c%10007=idM r c%10007) :
  ∃ s:Int,det n W*s%10007=1/\∀ k,k<n->W' k n%10007=det n (updC W k (fun r=>W r n))*s%10007:=by
 obtain ⟨s,t,h1,h2⟩:=h
 refine ⟨s,?_,fun k hk=>?_⟩
 .have:=h2 id (fun c hc=>by show c<n+1; omega)
  have e:∀ X:Mx,sel X id=X:=fun X=>rfl
  rw [e,e,zfh (p:=10007) (N:=idM) hid,zjz] at this
  exact this
 .have:=h2 (fun c=>if c=k then n else c) (fun c hc=>by show (if c=k then n else c)<n+1; split <;> omega)
  have e:sel W (fun c=>if c=k then n else c)=updC W k (fun r=>W r n):=funext fun r=>funext fun c=>by
   by_cases hc:c=k
   .simp [sel,updC,hc]
   .simp [sel,updC,hc]
  rw [e] at this
  rw [this,zfh (p:=10007) (N:=updC idM k (fun r=>W' r n)),zmv _ hk]
  intro r c hr hc
  by_cases hck:c=k
  .simp [sel,updC,hck]
  .simp [sel,updC,hck]; exact hid r c hr hc
end Go.Proofs.YthhdollpkieknaaGreat


namespace Go.Proofs.YthhdollpkieknaaGreat
open Go.Abs
def mx (m:List (List Int)):Mx:=fun r c=>(m[r]?.getD [])[c]?.getD 0
def swp (m:List (List Int)) (i d:Nat):List (List Int):=if i=d then m else (m.set i (m[d]?.getD [])).set d (m[i]?.getD [])
def scl (m:List (List Int)) (d k:Nat):List (List Int):=m.set d (zh1 (m[d]?.getD []) (pw (mx m d k) 10005))
def elD (m:List (List Int)) (d k:Nat):List (List Int):=(List.range m.length).map fun r=>if r=d then m[d]?.getD [] else zfv (m[r]?.getD []) (m[d]?.getD []) (- mx m r k)
def Rws (w:Nat) (m:List (List Int)):Prop:=∀ r∈m,r.length=w/\Ns r
theorem Rws.at {w:Nat} {m:List (List Int)} (h:Rws w m) {i:Nat} (hi:i<m.length):(m[i]?.getD []).length=w/\Ns (m[i]?.getD []):=h _ (by simp [hi])
theorem Rws.set {w:Nat} {m:List (List Int)} (h:Rws w m) {i:Nat} {r:List Int} (hr:r.length=w/\Ns r):Rws w (m.set i r):=fun x hx=>by
 rcases List.mem_or_eq_of_mem_set hx with hx | rfl
 .exact h x hx
 .exact hr
@[simp] theorem zsV (m:List (List Int)) (i d:Nat):(swp m i d).length=m.length:=by unfold swp; split <;> simp
@[simp] theorem zsN (m:List (List Int)) (d k:Nat):(scl m d k).length=m.length:=by simp [scl]
@[simp] theorem zt5 (m:List (List Int)) (d k:Nat):(elD m d k).length=m.length:=by simp [elD]
theorem zwb {w:Nat} {m:List (List Int)} (h:Rws w m) {i d:Nat} (hi:i<m.length) (hd:d<m.length):Rws w (swp m i d):=by
 unfold swp
 split
 .exact h
 .exact (h.set (h.at hd)).set (h.at hi)
theorem zvw {w:Nat} {m:List (List Int)} (h:Rws w m) {d k:Nat} (hd:d<m.length):Rws w (scl m d k):=h.set ⟨by rw [zox]; exact (h.at hd).1,zuJ _ _⟩
theorem zvy {w:Nat} {m:List (List Int)} (h:Rws w m) {d k:Nat} (hd:d<m.length):Rws w (elD m d k):=fun x hx=>by
 obtain ⟨r,hr,rfl⟩:=List.mem_map.1 hx
 have hr2:r<m.length:=by simpa using hr
 split
 .exact h.at hd
 .exact ⟨by rw [zpn]; exact (h.at hr2).1,ztc _ _ _⟩
theorem zsa {m:List (List Int)} {i d:Nat} (hi:i<m.length) (hd:d<m.length):mx (swp m i d)=updR (updR (mx m) i (mx m d)) d (mx m i):=funext fun r=>funext fun c=>by
 unfold swp
 split
 .rename_i e; subst e; rw [zqq,zbA]
 .rename_i e
  unfold mx updR
  by_cases h1:r=d
  .subst h1
   rw [List.getElem?_set_self (by simpa using hd),if_pos rfl]; rfl
  .rw [List.getElem?_set_ne (fun x=>h1 x.symm),if_neg h1]
   by_cases h2:r=i
   .subst h2; rw [List.getElem?_set_self hi,if_pos rfl]; rfl
   .rw [List.getElem?_set_ne (fun x=>h2 x.symm),if_neg h2]
theorem zmH {w:Nat} {m:List (List Int)} (h:Rws w m) {d k:Nat} (hd:d<m.length) {r c:Nat} (hc:c<w):mx (scl m d k) r c=if r=d then mx m d c*(pw (mx m d k) 10005%10007)%10007 else mx m r c:=by
 unfold scl
 show ((m.set d (zh1 (m[d]?.getD []) (pw (mx m d k) 10005)))[r]?.getD [])[c]?.getD 0=_
 by_cases e:r=d
 .subst e
  rw [List.getElem?_set_self hd,if_pos rfl]
  exact zkJ (fun i=>(m[r]?.getD [])[i]?.getD 0*(pw (mx m r k) 10005%10007)%10007) (by rw [(h.at hd).1]; exact hc)
 .rw [List.getElem?_set_ne (fun x=>e x.symm),if_neg e]; rfl
theorem zpe {w:Nat} {m:List (List Int)} (h:Rws w m) {d k:Nat} {r c:Nat} (hr:r<m.length) (hc:c<w):mx (elD m d k) r c=if r=d then mx m d c else (mx m r c+(- mx m r k)%10007*mx m d c)%10007:=by
 have e0:(elD m d k)[r]?.getD []=if r=d then m[d]?.getD [] else zfv (m[r]?.getD []) (m[d]?.getD []) (- mx m r k):=by simp [elD,hr]
 show ((elD m d k)[r]?.getD [])[c]?.getD 0=_
 rw [e0]
 by_cases e:r=d
 .rw [if_pos e,if_pos e]; rfl
 .rw [if_neg e,if_neg e]
  exact zkJ (fun i=>((m[r]?.getD [])[i]?.getD 0+(- mx m r k)%10007*(m[d]?.getD [])[i]?.getD 0)%10007) (by rw [(h.at hr).1]; exact hc)
end Go.Proofs.YthhdollpkieknaaGreat


namespace Go.Proofs.YthhdollpkieknaaGreat
open Go.Abs
theorem pw_N (a k:Int):isN (pw a k):=zai _
def sg (odd:Bool) (k:Nat):Int:=if odd=true/\k%2=1 then -1 else 1
end Go.Proofs.YthhdollpkieknaaGreat


namespace Go.Proofs.YthhdollpkieknaaGreat
def fp:Nat->Nat->Nat->Nat
 | 0,_,_=>1
 | f+1,a,n=>Nat.rec (1%10007) (fun _ _=>Nat.rec (fp f (Nat.mod (Nat.mul a a) 10007) (Nat.div n 2)) (fun _ _=>Nat.mod (Nat.mul a (fp f (Nat.mod (Nat.mul a a) 10007) (Nat.div n 2))) 10007) (Nat.mod n 2)) n
def chB (g:Nat->Nat):Nat->Nat->Bool
 | 0,lo=>Nat.beq (g lo) 1
 | d+1,lo=>and (chB g d lo) (chB g d (lo+2 ^ d))
def ivN (a:Nat):Nat:=a*fp 15 a 10005%10007
theorem zvG:∀ (f a n:Nat),n<2 ^ f->fp f a n=a ^ n%10007
 | 0,a,n,h=>by
  have:n=0:=by simp at h; exact h
  subst this; rfl
 | f+1,a,0,_=>by show 1%10007=a ^ 0%10007; rw [Nat.pow_zero]
 | f+1,a,n+1,h=>by
  have hh:(n+1) / 2<2 ^ f:=by rw [Nat.pow_succ] at h; omega
  have ih:=zvG f (a*a%10007) ((n+1) / 2) hh
  have sq:(a*a%10007) ^ ((n+1) / 2)%10007=a ^ (2*((n+1) / 2))%10007:=by
   rw [<- Nat.pow_mod,Nat.pow_mul,Nat.pow_two]
  rw [sq] at ih
  have e0:fp (f+1) a (n+1)=Nat.rec (fp f (a*a%10007) ((n+1) / 2)) (fun _ _=>a*fp f (a*a%10007) ((n+1) / 2)%10007) ((n+1)%2):=rfl
  rw [e0,ih]
  rcases Nat.mod_two_eq_zero_or_one (n+1) with h2 | h2
  .rw [h2]
   show a ^ (2*((n+1) / 2))%10007=a ^ (n+1)%10007
   rw [show 2*((n+1) / 2)=n+1 by omega]
  .rw [h2]
   show a*(a ^ (2*((n+1) / 2))%10007)%10007=a ^ (n+1)%10007
   rw [show n+1=2*((n+1) / 2)+1 by omega,Nat.pow_succ,Nat.mul_mod,Nat.mod_mod,<- Nat.mul_mod,Nat.mul_comm]
   rw [show (2*((n+1) / 2)+1) / 2=(n+1) / 2 by omega]
theorem zfZ (g:Nat->Nat):∀ (d lo:Nat),chB g d lo=true->∀ a,lo<=a->a<lo+2 ^ d->g a=1
 | 0,lo,h,a,h1,h2=>by
  have:a=lo:=by simp at h2; omega
  subst this
  rw [chB] at h
  exact Nat.eq_of_beq_eq_true h
 | d+1,lo,h,a,h1,h2=>by
  rw [chB,Bool.and_eq_true] at h
  rw [Nat.pow_succ] at h2
  by_cases hl:a<lo+2 ^ d
  .exact zfZ g d lo h.1 a h1 hl
  .exact zfZ g d (lo+2 ^ d) h.2 a (by omega) (by omega)
theorem zxo:chB ivN 13 1=true:=by decide +kernel
theorem zxf:chB ivN 10 8193=true:=by decide +kernel
theorem zxk:chB ivN 9 9217=true:=by decide +kernel
theorem zyb:chB ivN 8 9495=true:=by decide +kernel
theorem zxD:chB ivN 8 9751=true:=by decide +kernel
theorem zuA {a:Nat} (h0:a≠0) (h:a<10007):ivN a=1:=by
 by_cases h1:a<8193
 .exact zfZ ivN 13 1 zxo a (by omega) (by omega)
 by_cases h2:a<9217
 .exact zfZ ivN 10 8193 zxf a (by omega) (by omega)
 by_cases h3:a<9729
 .exact zfZ ivN 9 9217 zxk a (by omega) (by omega)
 by_cases h4:a<9751
 .exact zfZ ivN 8 9495 zyb a (by omega) (by omega)
 .exact zfZ ivN 8 9751 zxD a (by omega) (by omega)
theorem zvt (n e:Nat) (he:e<2 ^ 15):((fp 15 n e:Nat):Int)=pw (n:Int) (e:Int):=by
 rw [zvG 15 n e he]
 unfold pw
 rw [Int.toNat_natCast,Int.natCast_emod,Int.natCast_pow]; rfl
theorem zrm (n:Nat):((fp 15 n 10005:Nat):Int)=pw (n:Int) 10005:=zvt n 10005 (by decide)
theorem zr1 {a:Int} (h:isN a) (h0:a≠0):a*pw a 10005%10007=1:=by
 obtain ⟨n,rfl⟩:∃ n:Nat,a=n:=⟨a.toNat,by have:=h.1; omega⟩
 have hn:n<10007:=by have:=h.2; omega
 have hv:=zuA (a:=n) (by omega) hn
 rw [<- zrm,<- Int.natCast_mul]
 unfold ivN at hv
 generalize n*fp 15 n 10005=z at *
 omega
end Go.Proofs.YthhdollpkieknaaGreat


namespace Go.Proofs.YthhdollpkieknaaGreat
open Go.Abs
structure GI (n w:Nat) (W0:Mx) (m:List (List Int)) (done k:Nat):Prop where
 len:m.length=n
 rws:Rws w m
 eqv:RowEq n w W0 (mx m)
 dle:done<=n
 piv:∃ piv:Nat->Nat,(∀ j,j<done->piv j<k/\∀ r,r<n->mx m r (piv j)=if r=j then 1 else 0)/\(∀ j,j+1<done->piv j<piv (j+1))/\(∀ j,j<done->∀ c,c<piv j->mx m j c=0)
 low:∀ r,done<=r->r<n->∀ c,c<k->mx m r c=0
theorem GI.skip {n w:Nat} {W0:Mx} {m:List (List Int)} {done k:Nat} (h:GI n w W0 m done k) (hz:∀ r,done<=r->r<n->mx m r k=0):GI n w W0 m done (k+1):=by
 obtain ⟨h1,h2,h3,h4,⟨p,p1,p2,p3⟩,h6⟩:=h
 refine ⟨h1,h2,h3,h4,⟨p,fun j hj=>⟨by have:=(p1 j hj).1; omega,(p1 j hj).2⟩,p2,p3⟩,fun r hr hn c hc=>?_⟩
 by_cases e:c=k
 .subst e; exact hz r hr hn
 .exact h6 r hr hn c (by omega)
theorem mx_N {w:Nat} {m:List (List Int)} (h:Rws w m) {r:Nat} (hr:r<m.length) (c:Nat):isN (mx m r c):=(h.at hr).2.get c
theorem GI.step {n w:Nat} {W0:Mx} {m:List (List Int)} {done k i:Nat} (h:GI n w W0 m done k) (hk:k<w) (hd:done<n) (h1:done<=i) (h2:i<n) (hne:mx m i k≠0) :
  GI n w W0 (elD (scl (swp m i done) done k) done k) (done+1) (k+1):=by
 obtain ⟨hl,hr,he,hdl,⟨p,p1,p2,p3⟩,hlow⟩:=h
 have il:i<m.length:=by omega
 have dl:done<m.length:=by omega
 have sm:=zsa il dl
 have sr:=zwb hr il dl
 have sl:=zsV m i done
 have se:RowEq n w W0 (mx (swp m i done)):=by
  by_cases e:i=done
  .have:swp m i done=m:=by unfold swp; rw [if_pos e]
   rw [this]; exact he
  .rw [sm]; exact he.trans (RowEq.swap _ h2 hd e)
 have sd:∀ c,mx (swp m i done) done c=mx m i c:=fun c=>by rw [sm,zbP]
 have slow:∀ r,done<=r->r<n->∀ c,c<k->mx (swp m i done) r c=0:=fun r hr1 hr2 c hc=>by
  rw [sm]
  unfold updR
  by_cases a1:r=done
  .rw [if_pos a1]; exact hlow i h1 h2 c hc
  .rw [if_neg a1]
   by_cases a2:r=i
   .rw [if_pos a2]; exact hlow done (Nat.le_refl _) hd c hc
   .rw [if_neg a2]; exact hlow r hr1 hr2 c hc
 have sup:∀ r,r<done->mx (swp m i done) r=mx m r:=fun r hr1=>by
  rw [sm,zbX _ _ (by omega),zbX _ _ (by omega)]
 have snz:mx (swp m i done) done k≠0:=by rw [sd]; exact hne
 generalize swp m i done=a at *
 have al:a.length=n:=by omega
 have ad:done<a.length:=by omega
 have cr:=zvw (k:=k) sr ad
 have cl:=zsN a done k
 have cat:=fun r c (hc:c<w)=>zmH (k:=k) sr ad (r:=r) hc
 have iv:=zr1 (mx_N sr ad k) snz
 have ce:RowEq n w (mx a) (mx (scl a done k)):=by
  refine (RowEq.scale (mx a) hd (k:=pw (mx a done k) 10005) (k':=mx a done k) (by rw [Int.mul_comm]; exact iv)).trans (RowEq.cong fun r c hr1 hc=>?_)
  rw [cat r c hc]
  unfold updR
  by_cases e:r=done
  .subst e
   rw [if_pos rfl,if_pos rfl,zd1,Int.emod_emod_of_dvd _ (Int.dvd_refl _),Int.mul_comm]
  .rw [if_neg e,if_neg e]
 have ck:mx (scl a done k) done k=1:=by rw [cat _ _ hk,if_pos rfl,zd1]; exact iv
 have cz:∀ c,c<k->mx (scl a done k) done c=0:=fun c hc=>by
  rw [cat _ _ (by omega),if_pos rfl,slow done (Nat.le_refl _) hd c hc]; simp
 have co:∀ r c,r≠done->c<w->mx (scl a done k) r c=mx a r c:=fun r c hr1 hc=>by rw [cat _ _ hc,if_neg hr1]
 generalize scl a done k=b at *
 have bl:b.length=n:=by omega
 have bd:done<b.length:=by omega
 have er:=zvy (k:=k) cr bd
 have el:=zt5 b done k
 have eat:=fun r c (hr1:r<n) (hc:c<w)=>zpe (d:=done) (k:=k) cr (r:=r) (c:=c) (by omega) hc
 have ee:RowEq n w (mx b) (mx (elD b done k)):=by
  refine (RowEq.clr (mx b) hd (fun r =>-mx b r k)).trans (RowEq.cong fun r c hr1 hc=>?_)
  rw [eat r c hr1 hc]
  unfold clr
  by_cases e:r=done
  .subst e; rw [if_neg (by omega),if_pos rfl]
  .rw [if_pos ⟨hr1,e⟩,if_neg e,Int.emod_emod_of_dvd _ (Int.dvd_refl _),Int.add_emod,Int.add_emod (mx b r c),zcO]
 have keep:∀ r c,r<n->c<w->mx b done c=0->mx (elD b done k) r c=mx b r c:=fun r c hr1 hc hz=>by
  rw [eat r c hr1 hc]
  by_cases e:r=done
  .rw [if_pos e,e]
  .rw [if_neg e,hz,Int.mul_zero,Int.add_zero]
   have:=mx_N cr (show r<b.length by omega) c
   exact Int.emod_eq_of_lt this.1 (by have:=this.2; omega)
 have fin:∀ r,r<n->mx (elD b done k) r k=if r=done then 1 else 0:=fun r hr1=>by
  rw [eat r k hr1 hk,ck]
  by_cases e:r=done
  .rw [if_pos e,if_pos e]
  .rw [if_neg e,if_neg e,Int.mul_one]; omega
 refine ⟨by omega,er,(se.trans ce).trans ee,by omega,⟨fun j=>if j=done then k else p j,fun j hj=>?_,fun j hj=>?_,fun j hj c hc=>?_⟩,fun r hr1 hr2 c hc=>?_⟩
 .by_cases e:j=done
  .subst e
   simp only [if_true]
   exact ⟨by omega,fin⟩
  .have hjd:j<done:=by omega
   have q:=p1 j hjd
   simp only [if_neg e]
   refine ⟨by omega,fun r hr1=>?_⟩
   rw [keep r (p j) hr1 (by omega) (cz _ q.1)]
   by_cases e2:r=done
   .subst e2; rw [cz _ q.1,if_neg (by omega)]
   .rw [co r (p j) e2 (by omega)]
    by_cases e3:r<done
    .rw [sup r e3]; exact q.2 r hr1
    .rw [slow r (by omega) hr1 (p j) q.1,if_neg (by omega)]
 .by_cases e:j+1=done
  .have q:=p1 j (by omega)
   simp only [if_pos e,if_neg (show ¬ j=done by omega)]
   exact q.1
  .simp only [if_neg e,if_neg (show ¬ j=done by omega)]
   exact p2 j (by omega)
 .by_cases e:j=done
  .subst e
   simp only [if_true] at hc
   rw [keep j c (by omega) (by omega) (cz c hc),cz c hc]
  .have hjd:j<done:=by omega
   have q:=p1 j hjd
   simp only [if_neg e] at hc
   rw [keep j c (by omega) (by omega) (cz c (by omega)),co j c e (by omega),sup j hjd]
   exact p3 j hjd c hc
 .by_cases e:c=k
  .subst e; rw [fin r hr2,if_neg (by omega)]
  .rw [keep r c hr2 (by omega) (cz c (by omega)),co r c (by omega) (by omega)]
   exact slow r (by omega) hr2 c (by omega)
end Go.Proofs.YthhdollpkieknaaGreat


namespace Go.Proofs.YthhdollpkieknaaGreat
open Go.Abs
def ldF (r:List Int):Nat->Nat->Nat
 | 0,i=>i
 | f+1,i=>if r[i]?.getD 0=0 then ldF r f (i+1) else i
theorem zsf (r:List Int):∀ f i,i<=ldF r f i/\ldF r f i<=i+f
 | 0,i=>by simp [ldF]
 | f+1,i=>by
  rw [ldF]
  split
  .have:=zsf r f (i+1); omega
  .omega
theorem zkt (r:List Int):∀ f i j,i<=j->j<ldF r f i->r[j]?.getD 0=0
 | 0,i,j,h1,h2=>by rw [ldF] at h2; omega
 | f+1,i,j,h1,h2=>by
  rw [ldF] at h2
  split at h2
  .rename_i h
   by_cases e:j=i
   .subst e; exact h
   .exact zkt r f (i+1) j (by omega) h2
  .omega
theorem zpv (r:List Int):∀ f i,ldF r f i<i+f->r[ldF r f i]?.getD 0≠0
 | 0,i,h=>by rw [ldF] at h; omega
 | f+1,i,h=>by
  rw [ldF] at h |-
  split
  .rename_i hz
   rw [if_pos hz] at h
   exact zpv r f (i+1) (by omega)
  .rename_i hz; exact hz
def zua (r:List Int):Nat:=ldF r r.length 0
def oneB (n:Nat) (m:List (List Int)) (done:Nat):Bool:=decide (done=n) && decide (zua (m[n-1]?.getD [])=n-1)
theorem zpx {p:Nat->Nat} {n:Nat} (h:∀ j,j+1<n->p j<p (j+1)):∀ j,j<n->j<=p j
 | 0,_=>by omega
 | j+1,hj=>by have:=zpx h j (by omega); have:=h j hj; omega
theorem zsx {p:Nat->Nat} {n:Nat} (h:∀ j,j+1<n->p j<p (j+1)):∀ t j,j+t+1=n->p j+t<=p (n-1)
 | 0,j,hj=>by rw [show n-1=j by omega]; omega
 | t+1,j,hj=>by have:=zsx h t (j+1) (by omega); have:=h j (by omega); omega
theorem GI.one {n:Nat} {W0:Mx} {m:List (List Int)} {done k:Nat} (h:GI n (n+1) W0 m done k) (hn:0<n) (hk:k<=n+1) (ho:oneB n m done=true):∀ r c,r<n->c<n->mx m r c=idM r c:=by
 unfold oneB at ho
 simp only [Bool.and_eq_true,decide_eq_true_eq] at ho
 obtain ⟨hd,hl⟩:=ho
 subst hd
 obtain ⟨p,p1,p2,p3⟩:=h.piv
 have rl:=(h.rws.at (i:=done-1) (by rw [h.len]; omega)).1
 have hne:=zpv (m[done-1]?.getD []) (m[done-1]?.getD []).length 0 (by
  have:ldF (m[done-1]?.getD []) (m[done-1]?.getD []).length 0=done-1:=hl
  omega)
 have hl2:ldF (m[done-1]?.getD []) (m[done-1]?.getD []).length 0=done-1:=hl
 rw [hl2] at hne
 have hp:p (done-1)<=done-1:=by
  rcases Nat.lt_or_ge (done-1) (p (done-1)) with hlt | hge
  .exact (hne (p3 (done-1) (by omega) (done-1) hlt)).elim
  .exact hge
 intro r c hr hc
 have g1:=zpx p2 c hc
 have g2:=zsx p2 (done-1-c) c (by omega)
 have e:p c=c:=by omega
 have:=(p1 c hc).2 r hr
 rw [e] at this
 exact this
theorem GI.none {n:Nat} {W0:Mx} {m:List (List Int)} {done k:Nat} (h:GI n (n+1) W0 m done k) (hn:0<n) (hk:k<=n+1) (hf:k=n+1\/done=n) (ho:oneB n m done=false):∃ i,i<n/\∀ c,c<n->mx m i c=0:=by
 refine ⟨n-1,by omega,fun c hc=>?_⟩
 have hdl:=h.dle
 by_cases hd:done=n
 .subst hd
  obtain ⟨p,p1,p2,p3⟩:=h.piv
  have rl:=(h.rws.at (i:=done-1) (by rw [h.len]; omega)).1
  have g1:=zpx p2 (done-1) (by omega)
  have q:=p1 (done-1) (by omega)
  by_cases e:p (done-1)=done-1
  .have e1:mx m (done-1) (done-1)=1:=by
    have:=q.2 (done-1) (by omega)
    rw [e,if_pos rfl] at this
    exact this
   have l1:=zsf (m[done-1]?.getD []) (m[done-1]?.getD []).length 0
   have hl:zua (m[done-1]?.getD [])=done-1:=by
    unfold zua
    rcases Nat.lt_trichotomy (ldF (m[done-1]?.getD []) (m[done-1]?.getD []).length 0) (done-1) with hlt | heq | hgt
    .have:=zpv (m[done-1]?.getD []) (m[done-1]?.getD []).length 0 (by omega)
     exact (this (p3 (done-1) (by omega) _ (by omega))).elim
    .exact heq
    .have:=zkt (m[done-1]?.getD []) (m[done-1]?.getD []).length 0 (done-1) (by omega) hgt
     have e2:mx m (done-1) (done-1)=0:=this
     rw [e1] at e2; omega
   unfold oneB at ho
   rw [hl] at ho
   simp at ho
  .exact p3 (done-1) (by omega) c (by omega)
 .exact h.low (n-1) (by omega) (by omega) c (by omega)
end Go.Proofs.YthhdollpkieknaaGreat


namespace Go.Proofs.YthhdollpkieknaaGreat
open Go.Abs
end Go.Proofs.YthhdollpkieknaaGreat


namespace Go.Proofs.YthhdollpkieknaaGreat
open Go.Abs
end Go.Proofs.YthhdollpkieknaaGreat


namespace Go.Proofs.YthhdollpkieknaaGreat
open Go.Abs
end Go.Proofs.YthhdollpkieknaaGreat


namespace Go.Proofs.YthhdollpkieknaaGreat
open Go.Abs
def Nul (n w:Nat) (m:List (List Int)) (x:Nat->Int):Prop:=∀ r,r<n->dsum (fun c=>mx m r c*x c) w%10007=0
theorem Nul.swp {n w:Nat} {m:List (List Int)} {x:Nat->Int} (h:Nul n w m x) (hl:m.length=n) {i d:Nat} (hi:i<n) (hd:d<n):Nul n w (swp m i d) x:=by
 intro r hr
 rw [zsa (by omega) (by omega)]
 by_cases e1:r=d
 .subst e1; rw [zbP]; exact h i hi
 .rw [zbX _ _ e1]
  by_cases e2:r=i
  .subst e2; rw [zbP]; exact h d hd
  .rw [zbX _ _ e2]; exact h r hr
theorem Nul.scl {n w:Nat} {m:List (List Int)} {x:Nat->Int} (h:Nul n w m x) (hl:m.length=n) (hr:Rws w m) {d k:Nat} (hd:d<n):Nul n w (scl m d k) x:=by
 intro r hrn
 by_cases e:r=d
 .subst e
  have e1:dsum (fun c=>mx (Go.Proofs.YthhdollpkieknaaGreat.scl m r k) r c*x c) w%10007=dsum (fun c=>(pw (mx m r k) 10005%10007)*(mx m r c*x c)) w%10007:=zcN fun c hc=>by
   rw [zmH hr (by omega) hc,if_pos rfl,zcO]
   congr 1
   rw [Int.mul_comm (mx m r c),Int.mul_assoc]
  rw [e1,<- zhu,<- zd1,h r hrn]; simp
 .have e1:dsum (fun c=>mx (Go.Proofs.YthhdollpkieknaaGreat.scl m d k) r c*x c) w%10007=dsum (fun c=>mx m r c*x c) w%10007:=zcN fun c hc=>by
   rw [zmH hr (by omega) hc,if_neg e]
  rw [e1]; exact h r hrn
theorem Nul.elD {n w:Nat} {m:List (List Int)} {x:Nat->Int} (h:Nul n w m x) (hl:m.length=n) (hr:Rws w m) {d k:Nat} (hd:d<n):Nul n w (elD m d k) x:=by
 intro r hrn
 by_cases e:r=d
 .have e1:dsum (fun c=>mx (Go.Proofs.YthhdollpkieknaaGreat.elD m d k) r c*x c) w%10007=dsum (fun c=>mx m d c*x c) w%10007:=zcN fun c hc=>by
   rw [zpe hr (by omega) hc,if_pos e]
  rw [e1]; exact h d hd
 .have e1:dsum (fun c=>mx (Go.Proofs.YthhdollpkieknaaGreat.elD m d k) r c*x c) w%10007=dsum (fun c=>mx m r c*x c+((- mx m r k)%10007)*(mx m d c*x c)) w%10007:=zcN fun c hc=>by
   rw [zpe hr (by omega) hc,if_neg e,zcO,Int.add_mul,Int.mul_assoc]
  rw [e1,zeW,Int.add_emod,h r hrn,<- zd1,h d hd]; simp
end Go.Proofs.YthhdollpkieknaaGreat


namespace Go.Proofs.YthhdollpkieknaaGreat
open Go.Abs
end Go.Proofs.YthhdollpkieknaaGreat


namespace Go.Proofs.YthhdollpkieknaaGreat
open Go.Abs
end Go.Proofs.YthhdollpkieknaaGreat


namespace Go.Proofs.YthhdollpkieknaaGreat
open Go.Abs
end Go.Proofs.YthhdollpkieknaaGreat


namespace Go.Proofs.YthhdollpkieknaaGreat
open Go.Abs
end Go.Proofs.YthhdollpkieknaaGreat


namespace Go.Proofs.YthhdollpkieknaaGreat
open Go.Abs
end Go.Proofs.YthhdollpkieknaaGreat


namespace Go.Proofs.YthhdollpkieknaaGreat
open Go.Abs
end Go.Proofs.YthhdollpkieknaaGreat


namespace Go.Proofs.YthhdollpkieknaaGreat
open Go.Abs
end Go.Proofs.YthhdollpkieknaaGreat


namespace Go.Proofs.YthhdollpkieknaaGreat
open Go.Abs
theorem Tab.rws {A:List (List Int)} {B:List Int} (h:Tab A B):Rws B.length A:=h.a
end Go.Proofs.YthhdollpkieknaaGreat


namespace Go.Proofs.YthhdollpkieknaaGreat
open Go.Abs CR
end Go.Proofs.YthhdollpkieknaaGreat


namespace Go.Proofs.YthhdollpkieknaaGreat
open Go.Abs CR
def sgS (a:Ser Int):Ser Int:=fun k=>sgd k*a k
structure Adj (A:List (List Int)) (B:List Int) (A':List (List Int)) (B':List Int):Prop where
 tab:Tab A' B'
 len:B'.length=B.length
 a:∀ r c,r<B.length->c<B.length->mx A' r c%10007=(B[B.length-1-c]?.getD 0-mx A (B.length-1-r) (B.length-1-c))%10007
 b:∀ r,r<B.length->B'[r]?.getD 0%10007=B[B.length-1-r]?.getD 0%10007
theorem serEq.sg {a b:Ser Int} (h:serEq a b):serEq (sgS a) (sgS b):=fun k=>zhx rfl (h k)
theorem serEq.mul {a b c d:Ser Int} (h:serEq a b) (k:serEq c d):serEq (a*c) (b*d):=fun i=>zrk i (fun j _=>h j) (fun j _=>k j)
theorem serEq.eq {a b c:Ser Int} (h:serEq a b) (k:b=c):serEq a c:=k ▸ h
end Go.Proofs.YthhdollpkieknaaGreat


namespace Go.Proofs.YthhdollpkieknaaGreat
open Go.Abs
def denF:Nat->List Int->Int
 | 0,_=>0
 | n+1,t=>(brs t).foldl (fun o b=>o*denF n b) t.length
def denK (n:Nat) (t:List Int) (j:Nat):Int:=((brs t).take j).foldl (fun o b=>o*denF n b) t.length
def zhI:Nat->List Int->Bool
 | 0,_=>false
 | n+1,t=>(brs t).all (zhI n) && (List.range ((brs t).length+1)).all fun j=>decide (0<=denK n t j/\denK n t j<=1000000)
theorem zi7 (n:Nat) {t:List Int} {j:Nat} (h:j<(brs t).length):denK n t (j+1)=denK n t j*denF n ((brs t)[j]?.getD []):=by
 unfold denK
 rw [List.take_add_one,List.foldl_append]
 simp [h]
theorem ziw:∀ (n:Nat) (t:List Int),Lv t->t.length<=1048576->zhI n t=true->Con Tryz.prog 164 [.sl t.length (avs t)] (.int (denF n t))
 | 0,t,hL,hl,hd=>by simp [zhI] at hd
 | n+1,t,hL,hl,hd=>by
  have cL:=ze0 t.length (avs t) (by omega)
  have cB:=zb7 t hl hL
  rw [zhI,Bool.and_eq_true] at hd
  obtain ⟨hd1,hd2⟩:=hd
  have ih:=fun b (hb:b∈brs t)=>ziw n b (zb9 hL hb).1 (by have:=(zb9 hL hb).2; omega) (List.all_eq_true.1 hd1 b hb)
  have bd:∀ j,j<=(brs t).length->0<=denK n t j/\denK n t j<=1000000:=fun j hj=>by
   have:=List.all_eq_true.1 hd2 j (by simp; omega)
   simpa using this
  have hs:=fun j (h:j<(brs t).length)=>zi7 n h
  have k0:denK n t 0=t.length:=by simp [denK]
  have ke:denK n t (brs t).length=denF (n+1) t:=by rw [denK,List.take_length,denF]
  have hcnt:(brs t).length<t.length:=zfu hL
  rw [<- ke]
  generalize denK n t=K at *
  generalize brs t=L at *
  refine zab Tryz.mixed ⟨6,[],[],[]⟩ Tryz.func164 ?_
  rw [Tryz.ntmps164]
  simp [go_sem]
  refine CallVC.of (cL) ?_
  simp [go_sem]
  refine CallVC.of (cB) ?_
  simp [go_sem]
  refine zac ([3,5]++List.range' 11 9) (fun i:Nat=>[(3,.int (K i)),(11,.int i)]) (fun i=>i<=L.length) (fun i=>L.length-i) 0 (by simp) (by simp [go_sem,k0]) (by simp [go_sem]) ?_
  intro i hi
  by_cases hiL:i<L.length
  .have hii:(i:Int)<L.length:=by omega
   have hb:L[i]?.getD []∈L:=by simp [hiL]
   have cD:=ih _ hb
   have hg:=zb1 hiL
   have b0:=bd i hi
   have b1:=bd (i+1) hiL
   have h1:=hs i hiL
   generalize denF n (L[i]?.getD [])=d at *
   generalize hk1:K (i+1)=k1 at *
   generalize K i=k at *
   simp [go_sem,hii,hg]
   refine CallVC.of (cD) ?_
   simp [go_sem]
   rw [<- h1]
   exact ⟨⟨by omega,by omega⟩,⟨by omega,by omega⟩,i+1,by omega,by omega,zaa _ _ _ (by simp),hk1.symm,by omega⟩
  .have e:i=L.length:=by omega
   subst e
   have hii:¬ (L.length:Int)<L.length:=by omega
   simp [go_sem,hii]
def trN (k:Nat):List (List Int):=(List.range k).flatMap fun i=>genT 200 (upTo (i+1))
theorem zd2 (k:Nat):trN (k+1)=trN k++genT 200 (upTo (k+1)):=by simp [trN,List.range_succ]
theorem zhq:∀ k,k<=6->(trN k).length<=100:=by decide +kernel
theorem zaJ:(trN 6).length=37:=by decide +kernel
def lvC (t:List Int):Bool:=decide (0<t.length) && decide (t[0]?.getD 0=0) && (List.range t.length).all fun j=>decide (j=0) || decide (1<=t[j]?.getD 0/\t[j]?.getD 0<=t[j-1]?.getD 0+1)
theorem zgB {t:List Int} (h:lvC t=true):Lv t:=by
 unfold lvC at h
 simp only [Bool.and_eq_true,decide_eq_true_eq,List.all_eq_true,Bool.or_eq_true,List.mem_range] at h
 exact ⟨h.1.1,h.1.2,fun j h1 h2=>(h.2 j h2).resolve_left (by omega)⟩
theorem ztW:(trN 6).all (fun t=>lvC t && decide (t.length<=6) && zhI 8 t)=true:=by decide +kernel
theorem zeK {t:List Int} (h:t∈trN 6):Lv t/\t.length<=6/\zhI 8 t=true:=by
 have:=List.all_eq_true.1 ztW t h
 simp only [Bool.and_eq_true,decide_eq_true_eq] at this
 exact ⟨zgB this.1.1,this.1.2,this.2⟩
theorem zn8 (n:Nat) (hn:n<=6):Con Tryz.prog 80 [.int n] (.own 25 (trN n).length (omat (trN n))):=by
 refine zab Tryz.mixed ⟨5,[],[],[]⟩ Tryz.func80 ?_
 rw [Tryz.ntmps80]
 simp [go_sem]
 refine zac ([3,4]++List.range' 6 9) (fun i:Nat=>[(3,.own 25 (trN i).length (omat (trN i))),(4,.int (i+1))]) (fun i=>i<=n) (fun i=>n-i) 0 (by simp) (by simp [go_sem,trN,omat]) (by simp [go_sem]) ?_
 intro i hi
 have l0:=zhq i (by omega)
 by_cases hin:i<n
 .have hii:(i:Int)+1<=n:=by omega
  have cT:=ziy (i+1) 200 (by omega) (by omega) (zgR (i+1) (by omega) (by omega)).1
  have l1:=zhq (i+1) (by omega)
  have ts:=zd2 i
  have tl:=congrArg List.length ts
  rw [List.length_append] at tl
  have ot:omat (trN (i+1))=omat (trN i)++omat (genT 200 (upTo (i+1))):=by rw [ts]; simp [omat]
  have ec:((i+1:Nat):Int)=(i:Int)+1:=by omega
  rw [ec] at cT
  generalize genT 200 (upTo (i+1))=G at *
  simp [go_sem,hii]
  refine CallVC.of (cT) ?_
  simp [go_sem]
  exact ⟨⟨by omega,by omega⟩,⟨by omega,by omega⟩,i+1,by omega,by omega,zaa _ _ _ (by simp),by rw [tl,ot]; exact ⟨rfl,rfl⟩,by omega⟩
 .have e:i=n:=by omega
  subst e
  have hii:¬ (i:Int)+1<=i:=by omega
  simp [go_sem,hii]
end Go.Proofs.YthhdollpkieknaaGreat


namespace Go.Proofs.YthhdollpkieknaaGreat
open Go.Abs
theorem zh4 [DrawK] (F:List (List Int)) (hl:F.length<=1000) (hr:∀ r∈F,r.length<=1000):Con Tryz.prog 324 [.sl F.length (mat F)] (.int (sumN F)):=by
 have bd:∀ i,i<=F.length->sumN (F.take i)<=1000*i:=fun i=>by
  induction i with
  | zero=>intro _; simp [sumN]
  | succ i ih =>
   intro hi
   have h1:=ih (by omega)
   have h2:F.take (i+1)=F.take i++[F[i]?.getD []]:=by
    rw [List.take_succ_eq_append_getElem (by omega),List.getElem?_eq_getElem (by omega)]; rfl
   rw [h2,zdI]
   have h3:=hr _ (memD [] (show i<F.length by omega))
   have h4:sumN [F[i]?.getD []]=(F[i]?.getD []).length:=by simp [sumN]
   omega
 refine zab Tryz.mixed ⟨6,[],[],[]⟩ Tryz.func324 ?_
 rw [Tryz.ntmps324]
 simp [go_sem]
 refine zac (3::5::List.range' 8 9) (fun i:Nat=>[(3,.int (sumN (F.take i))),(8,.int i)]) (fun i=>i<=F.length) (fun i=>F.length-i) 0 (by simp) (by simp [go_sem,sumN]) (by simp [go_sem]) ?_
 intro i hi
 by_cases h:i<F.length
 .have hii:(i:Int)<F.length:=by omega
  have ne:¬ F=[]:=by rintro rfl; simp at h
  have b1:=bd i hi
  have b2:=bd (i+1) h
  have h2:F.take (i+1)=F.take i++[F[i]?.getD []]:=by
   rw [List.take_succ_eq_append_getElem h,List.getElem?_eq_getElem h]; rfl
  have h4:sumN (F.take (i+1))=sumN (F.take i)+(F[i]?.getD []).length:=by rw [h2,zdI]; simp [sumN]
  simp [go_sem,hii,zak h]
  exact ⟨ne,⟨by omega,by omega⟩,⟨by omega,by omega⟩,i+1,by omega,by omega,zaa _ _ _ (by simp),by rw [h4]; omega,by omega⟩
 .have e:i=F.length:=by omega
  subst e
  rw [List.take_length]
  simp [go_sem]
def zaV:List (List Int)->List (List Int)->Int
 | [],[]=>0
 | [],_::_ => -1
 | _::_,[]=>1
 | a::f,b::g=>if cmpT a b=0 then zaV f g else cmpT a b
theorem zgD:∀ (f g:List (List Int)) (i:Nat),i<=f.length->i<=g.length->(∀ j,j<i->cmpT (f[j]?.getD []) (g[j]?.getD [])=0)->zaV f g=zaV (f.drop i) (g.drop i)
 | f,g,0,_,_,_=>rfl
 | a::f,b::g,i+1,h1,h2,h=>by
  have h0:cmpT a b=0:=h 0 (by omega)
  rw [zaV,if_pos h0,List.drop_succ_cons,List.drop_succ_cons]
  exact zgD f g i (by simpa using h1) (by simpa using h2) (fun j hj=>by simpa using h (j+1) (by omega))
theorem zdX [DrawK] (f g:List (List Int)) (hf:f.length<=1000) (hg:g.length<=1000) (rf:∀ r∈f,r.length<=1000) (rg:∀ r∈g,r.length<=1000) :
  Con Tryz.prog 246 [.sl f.length (mat f),.sl g.length (mat g),.val (.func (.func 195) #[] #[])] (.int (zaV f g)):=by
 refine zab Tryz.mixed ⟨11,[],[],[]⟩ Tryz.func246 ?_
 rw [Tryz.ntmps246]
 simp [go_sem]
 refine zac (List.range' 6 5++List.range' 13 21) (fun i:Nat=>[(13,.int i)]) (fun i=>i<=f.length/\i<=g.length/\∀ j,j<i->cmpT (f[j]?.getD []) (g[j]?.getD [])=0) (fun i=>f.length-i) 0 (by simp) (by simp [go_sem]) (by simp [go_sem]) ?_
 rintro i ⟨hi,hg2,hz⟩
 have sk:=zgD f g i hi hg2 hz
 by_cases h:i<f.length
 .have hii:(i:Int)<f.length:=by omega
  have nf:¬ f=[]:=by rintro rfl; simp at h
  have df:f.drop i=f[i]?.getD []::f.drop (i+1):=by rw [List.drop_eq_getElem_cons h]; simp [h]
  by_cases h2:i<g.length
  .have ng:¬ g=[]:=by rintro rfl; simp at h2
   have hgi:¬ (g.length:Int)<=i:=by omega
   have dg:g.drop i=g[i]?.getD []::g.drop (i+1):=by rw [List.drop_eq_getElem_cons h2]; simp [h2]
   have cT:=zba (f[i]?.getD []) (g[i]?.getD []) (by have:=rf _ (memD [] h); omega) (by have:=rg _ (memD [] h2); omega)
   rw [df,dg,zaV] at sk
   have m1:=zak h
   have m2:=zak h2
   by_cases c0:cmpT (f[i]?.getD []) (g[i]?.getD [])=0
   .rw [c0] at cT
    rw [if_pos c0] at sk
    simp [go_sem,hii,m1,m2,hgi]
    repeat refine ⟨by first | omega | exact nf | exact ng | exact ⟨h,nf⟩ | exact ⟨h2,ng⟩,?_⟩
    refine CallVC.of (cT) ?_
    simp [go_sem]
    refine ⟨⟨by omega,by omega⟩,i+1,⟨by omega,by omega,fun j hj=>?_⟩,by omega,zaa _ _ _ (by simp),by omega⟩
    rcases Nat.lt_or_ge j i with hji | hji
    .exact hz j hji
    .have:j=i:=by omega
     subst this; exact c0
   .rw [if_neg c0] at sk
    rw [sk]
    generalize cmpT (f[i]?.getD []) (g[i]?.getD [])=e at *
    simp [go_sem,hii,m1,m2,hgi]
    repeat refine ⟨by first | omega | exact nf | exact ng | exact ⟨h,nf⟩ | exact ⟨h2,ng⟩,?_⟩
    refine CallVC.of (cT) ?_
    simp [go_sem]
    simp [go_sem,c0]
  .have hgi:(g.length:Int)<=i:=by omega
   rw [df,show g.drop i=[] from List.drop_eq_nil_of_le (by omega),zaV] at sk
   rw [sk]
   simp [go_sem,hii,zak h,hgi]
   repeat refine ⟨by first | omega | exact nf | exact ⟨h,nf⟩,?_⟩
   exact nf
 .have e:i=f.length:=by omega
  subst e
  rw [List.drop_eq_nil_of_le (Nat.le_refl _)] at sk
  by_cases h2:f.length<g.length
  .have dg:g.drop f.length=g[f.length]?.getD []::g.drop (f.length+1):=by rw [List.drop_eq_getElem_cons h2]; simp [h2]
   rw [dg,zaV] at sk
   rw [sk]
   simp [go_sem,h2]
  .rw [List.drop_eq_nil_of_le (by omega),zaV] at sk
   rw [sk]
   simp [go_sem,h2]
theorem zcF [DrawK] (f g:List (List Int)) (hf:f.length<=1000) (hg:g.length<=1000) (rf:∀ r∈f,r.length<=1000) (rg:∀ r∈g,r.length<=1000) :
  Con Tryz.prog 283 [.sl f.length (mat f),.sl g.length (mat g)] (.int (if f.length=g.length then zaV f g else (f.length:Int)-g.length)):=by
 have cC:=zdX f g hf hg rf rg
 by_cases e:f.length=g.length
 .rw [if_pos e]
  rw [e] at cC
  refine zab Tryz.mixed ⟨5,[],[],[]⟩ Tryz.func283 ?_
  rw [Tryz.ntmps283]
  simp [go_sem]
  simp [go_sem,e]
  refine CallVC.of (cC) ?_
  simp [go_sem]
 .rw [if_neg e]
  have ei:¬ (f.length:Int)=g.length:=by omega
  refine zab Tryz.mixed ⟨5,[],[],[]⟩ Tryz.func283 ?_
  rw [Tryz.ntmps283]
  simp [go_sem]
  simp [go_sem,ei]
  omega
def zhl (f g:List (List Int)):Int:=if f.length=g.length then zaV f g else (f.length:Int)-g.length
def zgn (f g:List (List Int)):Int:=if (sumN f:Int)-sumN g=0 then zhl f g else (sumN f:Int)-sumN g
theorem zjR {F:List (List Int)} {b:Nat} (hr:∀ r∈F,r.length<=b):sumN F<=b*F.length:=by
 induction F with
 | nil=>simp [sumN]
 | cons r F ih =>
  have h1:=ih (fun s hs=>hr s (by simp [hs]))
  have h2:=hr r (by simp)
  simp only [sumN,List.length_cons,Nat.mul_succ]
  omega
theorem zeS [DrawK] (f g:List (List Int)) (hf:f.length<=1000) (hg:g.length<=1000) (rf:∀ r∈f,r.length<=1000) (rg:∀ r∈g,r.length<=1000) :
  Con Tryz.prog 282 [.sl f.length (mat f),.sl g.length (mat g)] (.int (zgn f g)):=by
 have c1:=zh4 f hf rf
 have c2:=zh4 g hg rg
 have c3:=zcF f g hf hg rf rg
 have b1:=zjR rf
 have b2:=zjR rg
 unfold zgn
 have e3:(if f.length=g.length then zaV f g else (f.length:Int)-g.length)=zhl f g:=rfl
 rw [e3] at c3
 generalize zhl f g=w at *
 generalize sumN f=a at *
 generalize sumN g=b at *
 by_cases e:(a:Int)-b=0
 .rw [if_pos e]
  refine zab Tryz.mixed ⟨6,[],[],[]⟩ Tryz.func282 ?_
  rw [Tryz.ntmps282]
  simp [go_sem]
  refine CallVC.of (c1) ?_
  simp [go_sem]
  refine CallVC.of (c2) ?_
  simp [go_sem]
  refine ⟨⟨by omega,by omega⟩,?_⟩
  simp [go_sem,e]
  refine CallVC.of (c3) ?_
  simp [go_sem]
 .rw [if_neg e]
  refine zab Tryz.mixed ⟨6,[],[],[]⟩ Tryz.func282 ?_
  rw [Tryz.ntmps282]
  simp [go_sem]
  refine CallVC.of (c1) ?_
  simp [go_sem]
  refine CallVC.of (c2) ?_
  simp [go_sem]
  refine ⟨⟨by omega,by omega⟩,?_⟩
  simp [go_sem,e]
abbrev Spl:=List (List Int) × List (List Int) × Int
def zbZ (s r:Spl):Int:=if zgn s.1 r.1=0 then zhl s.2.1 r.2.1 else zgn s.1 r.1
def spA (s:Spl):List AV:=[.own 25 s.1.length (omat s.1),.own 25 s.2.1.length (omat s.2.1),.int s.2.2]
def spF (s:Spl):List AV:=[.sl s.1.length (mat s.1),.sl s.2.1.length (mat s.2.1),.int s.2.2]
theorem zpo (s:Spl):frzL (spA s)=spF s:=by simp [spA,spF,frzL,frz]
def SpOk (s:Spl):Prop:=(s.1.length<=100/\∀ r∈s.1,r.length<=100)/\(s.2.1.length<=100/\∀ r∈s.2.1,r.length<=100)
theorem zf8 [DrawK] (s r:Spl) (hs:SpOk s) (hr:SpOk r):Con Tryz.prog 281 [.agg (spF s),.agg (spF r)] (.int (zbZ s r)):=by
 obtain ⟨⟨s1,s2⟩,s3,s4⟩:=hs
 obtain ⟨⟨r1,r2⟩,r3,r4⟩:=hr
 have c1:=zeS s.1 r.1 (by omega) (by omega) (fun x hx=>by have:=s2 x hx; omega) (fun x hx=>by have:=r2 x hx; omega)
 have c2:=zcF s.2.1 r.2.1 (by omega) (by omega) (fun x hx=>by have:=s4 x hx; omega) (fun x hx=>by have:=r4 x hx; omega)
 have e3:(if s.2.1.length=r.2.1.length then zaV s.2.1 r.2.1 else (s.2.1.length:Int)-r.2.1.length)=zhl s.2.1 r.2.1:=rfl
 rw [e3] at c2
 unfold zbZ spF
 generalize zhl s.2.1 r.2.1=w at *
 generalize zgn s.1 r.1=v at *
 by_cases v0:v=0
 .rw [if_pos v0]
  refine zab Tryz.mixed ⟨6,[],[],[]⟩ Tryz.func281 ?_
  rw [Tryz.ntmps281]
  simp [go_sem]
  refine CallVC.of (c1) ?_
  simp [go_sem]
  simp [go_sem,v0]
  refine CallVC.of (c2) ?_
  simp [go_sem]
 .rw [if_neg v0]
  refine zab Tryz.mixed ⟨6,[],[],[]⟩ Tryz.func281 ?_
  rw [Tryz.ntmps281]
  simp [go_sem]
  refine CallVC.of (c1) ?_
  simp [go_sem]
  simp [go_sem,v0]
end Go.Proofs.YthhdollpkieknaaGreat


namespace Go.Proofs.YthhdollpkieknaaGreat
open Go.Abs Go.Shelf Go.Sort
structure LinC {α:Type} (c:α->α->Int):Prop where
 zero:∀ a b,c a b=0 ↔ a=b
 anti:∀ a b,c a b<0 ↔ 0<c b a
 trans:∀ a b d,c a b<0->c b d<0->c a d<0
theorem LinC.self {α:Type} {c:α->α->Int} (h:LinC c) (a:α):c a a=0:=(h.zero a a).2 rfl
theorem ziF:∀ a b:List Int,cmpL a b=0 ↔ a=b
 | [],[]=>by simp [cmpL]
 | [],_::_=>by simp [cmpL]
 | _::_,[]=>by simp [cmpL]
 | x::xs,y::ys=>by
  rw [cmpL]
  by_cases h:x=y
  .rw [if_pos h,ziF xs ys]; simp [h]
  .rw [if_neg h]; simp [h,zni h]
theorem zir:∀ a b:List Int,cmpL a b<0 ↔ 0<cmpL b a
 | [],[]=>by simp [cmpL]
 | [],_::_=>by simp [cmpL]
 | _::_,[]=>by simp [cmpL]
 | x::xs,y::ys=>by
  rw [cmpL,cmpL]
  by_cases h:x=y
  .rw [if_pos h,if_pos h.symm]; exact zir xs ys
  .rw [if_neg h,if_neg (fun e=>h e.symm)]
   by_cases h1:x<y
   .have h2:¬ y<x:=by omega
    simp [cmpI,h1,h2]
   .have h2:y<x:=by omega
    simp [cmpI,h1,h2]
theorem linLx:LinC cmpL where
 zero:=ziF
 anti:=zir
 trans a b d h1 h2:=by
  have:=zbM (a:=a) (b:=b) (c:=d) (by rw [<- zc5]; simpa using h1) (by rw [<- zc5]; simpa using h2)
  rw [<- zc5] at this; simpa using this
theorem LinC.flip {α:Type} {c:α->α->Int} (h:LinC c):LinC (fun a b=>c b a) :=
 ⟨fun a b=>(h.zero b a).trans eq_comm,fun a b=>h.anti b a,fun a b d h1 h2=>h.trans d b a h2 h1⟩
theorem LinC.key {α:Type} {c:α->α->Int} (h:LinC c) (k:α->Nat):LinC (fun a b=>if k a=k b then c a b else (k a:Int)-k b) where
 zero a b:=by
  by_cases e:k a=k b
  .simp only [if_pos e]; exact h.zero a b
  .simp only [if_neg e]; exact ⟨fun x=>by omega,fun x=>(e (by rw [x])).elim⟩
 anti a b:=by
  by_cases e:k a=k b
  .simp only [if_pos e,if_pos e.symm]; exact h.anti a b
  .have e2:¬ k b=k a:=fun x=>e x.symm
   simp only [if_neg e,if_neg e2]; omega
 trans a b d h1 h2:=by
  by_cases e:k a=k b
  .by_cases e2:k b=k d
   .simp only [if_pos e] at h1; simp only [if_pos e2] at h2; simp only [if_pos (e.trans e2)]; exact h.trans _ _ _ h1 h2
   .simp only [if_neg e2] at h2; have e3:¬ k a=k d:=by omega
    simp only [if_neg e3]; omega
  .simp only [if_neg e] at h1
   by_cases e2:k b=k d
   .have e3:¬ k a=k d:=by omega
    simp only [if_neg e3]; omega
   .simp only [if_neg e2] at h2; have e3:¬ k a=k d:=by omega
    simp only [if_neg e3]; omega
theorem LinC.pair {α β:Type} {c:α->α->Int} {d:β->β->Int} (h:LinC c) (k:LinC d):LinC (fun p q:α × β=>if c p.1 q.1=0 then d p.2 q.2 else c p.1 q.1) where
 zero p q:=by
  obtain ⟨a,x⟩:=p; obtain ⟨b,y⟩:=q
  by_cases e:c a b=0
  .have e1:=(h.zero a b).1 e
   simp only [if_pos e]; rw [k.zero]; simp [e1]
  .have e1:¬ a=b:=fun x=>e ((h.zero a b).2 x)
   simp only [if_neg e]; simp [e,e1]
 anti p q:=by
  obtain ⟨a,x⟩:=p; obtain ⟨b,y⟩:=q
  by_cases e:c a b=0
  .have e2:c b a=0:=(h.zero b a).2 ((h.zero a b).1 e).symm
   simp only [if_pos e,if_pos e2]; exact k.anti x y
  .have e2:¬ c b a=0:=fun x=>e ((h.zero a b).2 ((h.zero b a).1 x).symm)
   simp only [if_neg e,if_neg e2]; exact h.anti a b
 trans p q r h1 h2:=by
  obtain ⟨a,x⟩:=p; obtain ⟨b,y⟩:=q; obtain ⟨d,z⟩:=r
  by_cases e:c a b=0
  .have e1:=(h.zero a b).1 e
   simp only [if_pos e] at h1
   by_cases e2:c b d=0
   .simp only [if_pos e2] at h2; rw [<- e1] at e2; simp only [if_pos e2]; exact k.trans _ _ _ h1 h2
   .simp only [if_neg e2] at h2; rw [<- e1] at e2 h2; simp only [if_neg e2]; exact h2
  .simp only [if_neg e] at h1
   by_cases e2:c b d=0
   .have e3:=(h.zero b d).1 e2
    rw [e3] at h1 e; simp only [if_neg e]; exact h1
   .simp only [if_neg e2] at h2
    have h3:=h.trans a b d h1 h2
    have e3:¬ c a d=0:=by omega
    simp only [if_neg e3]; exact h3
theorem LinC.swo {α β:Type} {c:β->β->Int} (h:LinC c) (k:α->β):SWO (Go.Proofs.ltOf fun a b=>c (k a) (k b)):=by
 refine ⟨fun a=>?_,fun x y z h1 h2=>?_,fun x y z h1 h2=>?_⟩
 .show decide (c (k a) (k a)<0)=false
  rw [h.self]; rfl
 .have h1:decide (c (k x) (k y)<0)=true:=h1
  have h2:decide (c (k y) (k z)<0)=true:=h2
  show decide (c (k x) (k z)<0)=true
  rw [decide_eq_true_eq] at *
  exact h.trans _ _ _ h1 h2
 .have h1:decide (c (k x) (k y)<0)=false:=h1
  have h2:decide (c (k y) (k z)<0)=false:=h2
  show decide (c (k x) (k z)<0)=false
  rw [decide_eq_false_iff_not] at *
  intro h3
  by_cases e:c (k x) (k y)=0
  .rw [(h.zero _ _).1 e] at h3; exact h2 h3
  .have h4:c (k y) (k x)<0:=(h.anti _ _).2 (by omega)
   exact h2 (h.trans _ _ _ h4 h3)
theorem linT:LinC cmpT:=linLx.flip.key List.length
theorem zgF:∀ f g,zaV f g=0 ↔ f=g
 | [],[]=>by simp [zaV]
 | [],_::_=>by simp [zaV]
 | _::_,[]=>by simp [zaV]
 | a::f,b::g=>by
  rw [zaV]
  by_cases h:cmpT a b=0
  .rw [if_pos h,zgF f g]; simp [(linT.zero a b).1 h]
  .have e:¬ a=b:=fun e=>h ((linT.zero a b).2 e)
   rw [if_neg h]; simp [h,e]
theorem zgE:∀ f g,zaV f g<0 ↔ 0<zaV g f
 | [],[]=>by simp [zaV]
 | [],_::_=>by simp [zaV]
 | _::_,[]=>by simp [zaV]
 | a::f,b::g=>by
  rw [zaV,zaV]
  by_cases h:cmpT a b=0
  .have h2:cmpT b a=0:=(linT.zero b a).2 ((linT.zero a b).1 h).symm
   rw [if_pos h,if_pos h2]; exact zgE f g
  .have h2:¬ cmpT b a=0:=fun x=>h ((linT.zero a b).2 ((linT.zero b a).1 x).symm)
   rw [if_neg h,if_neg h2]; exact linT.anti a b
theorem zfS:∀ f g k,zaV f g<0->zaV g k<0->zaV f k<0
 | [],[],k,h1,_=>by simp [zaV] at h1
 | [],b::g,[],_,h2=>by simp [zaV] at h2
 | [],b::g,d::k,_,_=>by simp [zaV]
 | a::f,[],k,h1,_=>by simp [zaV] at h1
 | a::f,b::g,[],_,h2=>by simp [zaV] at h2
 | a::f,b::g,d::k,h1,h2=>by
  rw [zaV] at h1 h2 |-
  by_cases e1:cmpT a b=0
  .have e:=(linT.zero a b).1 e1
   rw [if_pos e1] at h1
   rw [<- e] at h2
   by_cases e2:cmpT a d=0
   .rw [if_pos e2] at h2 |-; exact zfS f g k h1 h2
   .rw [if_neg e2] at h2 |-; exact h2
  .rw [if_neg e1] at h1
   by_cases e2:cmpT b d=0
   .rw [(linT.zero b d).1 e2] at h1 e1
    rw [if_neg e1]; exact h1
   .rw [if_neg e2] at h2
    have h3:=linT.trans a b d h1 h2
    rw [if_neg (by omega)]; exact h3
theorem linFs:LinC zaV:=⟨zgF,zgE,zfS⟩
theorem linTr:LinC zhl:=linFs.key List.length
theorem linFo:LinC zgn:=by
 have e:zgn=fun f g=>if sumN f=sumN g then zhl f g else (sumN f:Int)-sumN g:=by
  funext f g
  unfold zgn
  by_cases e:sumN f=sumN g
  .rw [if_pos (by omega),if_pos e]
  .rw [if_neg (by omega),if_neg e]
 rw [e]; exact linTr.key sumN
theorem linSp:LinC (fun p q:List (List Int) × List (List Int)=>if zgn p.1 q.1=0 then zhl p.2 q.2 else zgn p.1 q.1):=linFo.pair linTr
def keyS (s:Spl):List (List Int) × List (List Int):=(s.1,s.2.1)
theorem zvQ:SWO (Go.Proofs.ltOf zbZ):=linSp.swo keyS
theorem spT {a b d:Spl} (h1:zbZ a b<0) (h2:zbZ b d<0):zbZ a d<0:=linSp.trans (keyS a) (keyS b) (keyS d) h1 h2
theorem spI (a:Spl):¬ zbZ a a<0:=by
 have:zbZ a a=0:=linSp.self (keyS a)
 omega
theorem spZ {a b:Spl}:zbZ a b=0 ↔ keyS a=keyS b:=linSp.zero (keyS a) (keyS b)
theorem spAn {a b:Spl}:zbZ a b<0 ↔ 0<zbZ b a:=linSp.anti (keyS a) (keyS b)
def insS (p:Spl):List Spl->List Spl
 | []=>[p]
 | s::S=>if zbZ p s<0 then p::s::S else s::insS p S
def srtS:List Spl->List Spl
 | []=>[]
 | s::S=>insS s (srtS S)
theorem zfG (p:Spl):∀ S,(insS p S).Perm (p::S)
 | []=>.refl _
 | s::S=>by
  rw [insS]; split
  .exact .refl _
  .exact ((zfG p S).cons s).trans (.swap _ _ _)
theorem zcG:∀ S,(srtS S).Perm S
 | []=>.refl _
 | s::S=>(zfG s _).trans ((zcG S).cons s)
theorem zqt (S:List Spl):(srtS S).length=S.length:=(zcG S).length_eq
theorem zkN (p:Spl):∀ S:List Spl,S.Pairwise (fun x y=>¬ zbZ y x<0)->(insS p S).Pairwise (fun x y=>¬ zbZ y x<0)
 | [],_=>by simp [insS]
 | s::S,h=>by
  obtain ⟨h1,h2⟩:=List.pairwise_cons.1 h
  rw [insS]; split
  .rename_i hl
   refine .cons (fun y hy=>?_) h
   rcases List.mem_cons.1 hy with e | hy
   .rw [e]; intro hc; exact spI p (spT hl hc)
   .intro hc; exact h1 y hy (spT hc hl)
  .rename_i hl
   refine .cons (fun y hy=>?_) (zkN p S h2)
   rcases List.mem_cons.1 ((zfG p S).mem_iff.1 hy) with e | hy
   .rw [e]; exact hl
   .exact h1 y hy
theorem zkL:∀ S:List Spl,(srtS S).Pairwise (fun x y=>¬ zbZ y x<0)
 | []=>.nil
 | s::S=>zkN s _ (zkL S)
theorem zj3 {ys X:List Spl} (hp:ys.Perm X) (h1:∀ s∈X,s.2.2=1) (hy:ys.Pairwise (fun x y=>¬ zbZ y x<0)):ys=srtS X :=
 (hp.trans (zcG X).symm).eq_of_pairwise (fun a b ha hb k1 k2=>by
  have e1:=h1 a (hp.mem_iff.1 ha)
  have e2:=h1 b ((zcG X).mem_iff.1 hb)
  have z:zbZ a b=0:=by
   have k3:¬ 0<zbZ a b:=fun x=>k1 (spAn.2 x)
   omega
  have k:=spZ.1 z
  obtain ⟨a1,a2,a3⟩:=a
  obtain ⟨b1,b2,b3⟩:=b
  simp only [keyS,Prod.mk.injEq] at k e1 e2
  rw [k.1,k.2,e1,e2]) hy (zkL X)
def zgm (out:List Spl) (s:Spl):List Spl:=match out.getLast? with
 | some l=>if zbZ l s=0 then out.set (out.length-1) (l.1,l.2.1,l.2.2+1) else out++[s]
 | none=>[s]
def gthS (L:List Spl):List Spl:=L.foldl zgm []
theorem ziC (L:List Spl) (s:Spl):gthS (L++[s])=zgm (gthS L) s:=by simp [gthS]
theorem zoB (out:List Spl) (s:Spl):(zgm out s).length<=out.length+1:=by
 unfold zgm
 split
 .split <;> simp
 .simp
theorem zqY (L:List Spl):(gthS L).length<=L.length/\(∀ l∈gthS L,∃ s∈L,keyS l=keyS s)/\((∀ s∈L,s.2.2=1)->∀ l∈gthS L,0<=l.2.2/\l.2.2<=L.length):=by
 refine zcw (P:=fun L=>(gthS L).length<=L.length/\(∀ l∈gthS L,∃ s∈L,keyS l=keyS s)/\((∀ s∈L,s.2.2=1)->∀ l∈gthS L,0<=l.2.2/\l.2.2<=L.length)) ⟨by simp [gthS],by simp [gthS],by simp [gthS]⟩ (fun L s ih=>?_) L
 obtain ⟨i1,i2,i3⟩:=ih
 rw [ziC]
 have hl:=zoB (gthS L) s
 refine ⟨by rw [List.length_append,List.length_singleton]; omega,fun l hm=>?_,fun h1 l hm=>?_⟩
 .unfold zgm at hm
  split at hm
  .rename_i l0 hl0
   split at hm
   .rcases List.mem_or_eq_of_mem_set hm with hm | e
    .obtain ⟨t,t1,t2⟩:=i2 l hm
     exact ⟨t,by simp [t1],t2⟩
    .obtain ⟨t,t1,t2⟩:=i2 l0 (List.mem_of_getLast? hl0)
     exact ⟨t,by simp [t1],by rw [e,<- t2]; rfl⟩
   .rcases List.mem_append.1 hm with hm | hm
    .obtain ⟨t,t1,t2⟩:=i2 l hm
     exact ⟨t,by simp [t1],t2⟩
    .rw [List.mem_singleton] at hm
     exact ⟨s,by simp,by rw [hm]⟩
  .rw [List.mem_singleton] at hm
   exact ⟨s,by simp,by rw [hm]⟩
 .have j3:=i3 (fun t ht=>h1 t (by simp [ht]))
  have hs:=h1 s (by simp)
  rw [List.length_append,List.length_singleton]
  unfold zgm at hm
  split at hm
  .rename_i l0 hl0
   split at hm
   .rcases List.mem_or_eq_of_mem_set hm with hm | e
    .have:=j3 l hm; omega
    .have:=j3 l0 (List.mem_of_getLast? hl0)
     rw [e]; simp only; omega
   .rcases List.mem_append.1 hm with hm | hm
    .have:=j3 l hm; omega
    .rw [List.mem_singleton] at hm; rw [hm]; omega
  .rw [List.mem_singleton] at hm; rw [hm]; omega
end Go.Proofs.YthhdollpkieknaaGreat


namespace Go.Proofs.YthhdollpkieknaaGreat
open Go.Abs
def zbL (L M:List Spl):List Spl:=L.flatMap fun s=>M.map fun c=>(s.1++c.1,s.2.1++c.2.1,(0:Int))
def spl:Nat->List Int->List Spl
 | 0,_=>[]
 | n+1,t=>((brs t).foldl (fun L b=>zbL L (spl n b)) [([],[],0)]).map (fun s=>(s.1,[canF (n+1) (zay s.2.1)],s.2.2))++[([canF (n+1) t],[],0)]
def fldS (n:Nat) (bs:List (List Int)):List Spl:=bs.foldl (fun L b=>zbL L (spl n b)) [([],[],0)]
theorem zpb (n:Nat) (bs:List (List Int)) (b:List Int):fldS n (bs++[b])=zbL (fldS n bs) (spl n b):=by simp [fldS]
theorem zk3 (n:Nat) (t:List Int):spl (n+1) t=(fldS n (brs t)).map (fun s=>(s.1,[canF (n+1) (zay s.2.1)],s.2.2))++[([canF (n+1) t],[],0)]:=rfl
theorem zmr (L M:List Spl) (s:Spl):zbL (L++[s]) M=zbL L M++M.map fun c=>(s.1++c.1,s.2.1++c.2.1,(0:Int)):=by simp [zbL]
theorem zph (L M:List Spl):(zbL L M).length=L.length*M.length:=by
 induction L with
 | nil=>simp [zbL]
 | cons s L ih =>
  have e:zbL (s::L) M=(M.map fun c=>(s.1++c.1,s.2.1++c.2.1,(0:Int)))++zbL L M:=rfl
  rw [e,List.length_append,ih,List.length_map,List.length_cons,Nat.succ_mul]; omega
def smS (s:Spl):Bool:=decide (s.1.length<=100) && decide (s.2.1.length<=100) && decide (s.2.2=0)
def rtS (n:Nat) (s:Spl):Bool:=lvC (zay s.2.1) && decide ((zay s.2.1).length<=n) && s.2.1.all (fun b=>decide (b.length<=100) && b.all (fun x=>decide (0<=x) && decide (x<=100)))
def zjJ:Nat->List Int->Bool
 | 0,_=>false
 | n+1,t=>decide (n+1<=100) && lvC t && decide (t.length<=n+1) && (brs t).all (zjJ n) && (brs t).all (fun b=>decide ((spl n b).length<=100) && (spl n b).all smS) &&
   (List.range ((brs t).length+1)).all (fun i=>decide ((fldS n ((brs t).take i)).length<=100) && (fldS n ((brs t).take i)).all smS) && (fldS n (brs t)).all (rtS (n+1))
theorem zdZ {s:Spl} (h:smS s=true):s.1.length<=100/\s.2.1.length<=100/\s.2.2=0:=by
 simp [smS] at h; exact ⟨h.1.1,h.1.2,h.2⟩
theorem zkj {n:Nat} {s:Spl} (h:rtS n s=true):Lv (zay s.2.1)/\(zay s.2.1).length<=n/\∀ b∈s.2.1,b.length<=100/\∀ x∈b,0<=x/\x<=100:=by
 simp only [rtS,Bool.and_eq_true,decide_eq_true_eq,List.all_eq_true] at h
 exact ⟨zgB h.1.1,h.1.2,h.2⟩
theorem zmo {n:Nat} {t:List Int} (h:zjJ (n+1) t=true):n+1<=100/\Lv t/\t.length<=n+1/\(∀ b∈brs t,zjJ n b=true/\(spl n b).length<=100/\∀ s∈spl n b,smS s=true) /\
  (∀ i,i<=(brs t).length->(fldS n ((brs t).take i)).length<=100/\∀ s∈fldS n ((brs t).take i),smS s=true)/\∀ s∈fldS n (brs t),rtS (n+1) s=true:=by
 simp only [zjJ,Bool.and_eq_true,decide_eq_true_eq,List.all_eq_true,List.mem_range] at h
 obtain ⟨⟨⟨⟨⟨⟨h1,h2⟩,h3⟩,h4⟩,h5⟩,h6⟩,h7⟩:=h
 exact ⟨h1,zgB h2,h3,fun b hb=>⟨h4 b hb,(h5 b hb).1,(h5 b hb).2⟩,fun i hi=>h6 i (by omega),h7⟩
theorem znK:(trN 6).all (zjJ 6)=true:=by kernel_rfl
end Go.Proofs.YthhdollpkieknaaGreat


namespace Go.Proofs.YthhdollpkieknaaGreat
open Go.RowKit Go.Shelf Go.Lib Go.Abs
end Go.Proofs.YthhdollpkieknaaGreat


namespace Go.Proofs.YthhdollpkieknaaGreat
open Go.Abs
def bsG (L:List (List Int)) (t:List Int):Nat->Nat->Nat->Nat
 | 0,i,_=>i
 | n+1,i,j=>if i<j then (if cmpT (L[(i+j) / 2]?.getD []) t<0 then bsG L t n ((i+j) / 2+1) j else bsG L t n i ((i+j) / 2)) else i
def bsI (L:List (List Int)) (t:List Int):Nat:=bsG L t (L.length+1) 0 L.length
theorem ze4 (L:List (List Int)) (t:List Int):∀ (n m i j:Nat),j-i<n->j-i<m->bsG L t n i j=bsG L t m i j
 | 0,m,i,j,h,_=>by omega
 | n+1,0,i,j,_,h=>by omega
 | n+1,m+1,i,j,h1,h2=>by
  rw [bsG,bsG]
  by_cases hij:i<j
  .rw [if_pos hij,if_pos hij]
   by_cases hc:cmpT (L[(i+j) / 2]?.getD []) t<0
   .rw [if_pos hc,if_pos hc]; exact ze4 L t n m _ _ (by omega) (by omega)
   .rw [if_neg hc,if_neg hc]; exact ze4 L t n m _ _ (by omega) (by omega)
  .rw [if_neg hij,if_neg hij]
theorem zmy (L:List (List Int)) (t:List Int):∀ (n i j:Nat),i<=j->i<=bsG L t n i j/\bsG L t n i j<=j
 | 0,i,j,h=>⟨Nat.le_refl _,h⟩
 | n+1,i,j,h=>by
  rw [bsG]
  by_cases hij:i<j
  .rw [if_pos hij]
   by_cases hc:cmpT (L[(i+j) / 2]?.getD []) t<0
   .rw [if_pos hc]
    have:=zmy L t n ((i+j) / 2+1) j (by omega)
    omega
   .rw [if_neg hc]
    have:=zmy L t n i ((i+j) / 2) (by omega)
    omega
  .rw [if_neg hij]; omega
theorem shr1 {a:Nat} (h:a<1000000000):shrI IntKind.u64 (a:Int) 1=((a / 2:Nat):Int):=by
 have e:(2:Int) ^ min (1:Int).toNat IntKind.u64.bits=2:=by decide
 unfold shrI
 rw [e,Int.fdiv_eq_ediv_of_nonneg _ (by decide)]
 omega
theorem zgr (L:List (List Int)) (t:List Int) (hL:L.length<=1000) (hr:∀ r∈L,r.length<=1000) (ht:t.length<=1000) :
  Con Tryz.prog 194 [.sl L.length (mat L),.sl t.length (avs t),.val (.func (.func 195) #[] #[])] (.tup [.int (bsI L t),.bool (decide (bsI L t<L.length) && decide (cmpT (L[bsI L t]?.getD []) t=0))]):=by
 refine zab Tryz.mixed ⟨12,[],[],[]⟩ Tryz.func194 ?_
 rw [Tryz.ntmps194]
 simp [go_sem]
 refine zac (List.range' 9 3++List.range' 15 20) (fun x:Nat × Nat=>[(9,.int x.1),(10,.int x.2)]) (fun x=>x.1<=x.2/\x.2<=L.length/\bsG L t (x.2-x.1+1) x.1 x.2=bsI L t) (fun x=>x.2-x.1) (0,L.length) ⟨by simp,by simp,rfl⟩ (by simp [go_sem]) (by simp [go_sem]) ?_
 rintro ⟨i,j⟩ ⟨h1,h2,h3⟩
 simp only at h1 h2 h3
 by_cases hij:i<j
 .have hii:(i:Int)<j:=by omega
  have hh:(i+j) / 2<L.length:=by omega
  have cT:=zba (L[(i+j) / 2]?.getD []) t (by have:=hr _ (memD [] hh); omega) (by omega)
  rw [bsG,if_pos hij] at h3
  have hsh:shrI IntKind.u64 (IntKind.u64.wrap ((i:Int)+j)) 1=(((i+j) / 2:Nat):Int):=by
   have w:IntKind.u64.wrap ((i:Int)+j)=((i+j:Nat):Int):=by
    rw [zc2 (by omega) (by omega)]; omega
   rw [w]
   exact shr1 (by omega)
  have hnL:¬ L=[]:=by rintro rfl; simp at hh
  have md:=zak hh
  have k1:i<=(i+j) / 2:=by omega
  have k2:(i+j) / 2<j:=by omega
  generalize (i+j) / 2=k at *
  by_cases c0:cmpT (L[k]?.getD []) t<0
  .rw [if_pos c0,ze4 L t (j-i) (j-(k+1)+1) _ _ (by omega) (by omega)] at h3
   generalize cmpT (L[k]?.getD []) t=e at *
   simp [go_sem,hii,hsh,md]
   refine ⟨⟨by omega,by omega⟩,by omega,⟨hh,hnL⟩,?_⟩
   refine CallVC.of (cT) ?_
   simp [go_sem]
   simp [go_sem,c0]
   exact ⟨⟨by omega,by omega⟩,k+1,j,⟨by omega,h2,h3⟩,by omega,zaa _ _ _ (by simp),by omega,rfl⟩
  .rw [if_neg c0,ze4 L t (j-i) (k-i+1) _ _ (by omega) (by omega)] at h3
   generalize cmpT (L[k]?.getD []) t=e at *
   simp [go_sem,hii,hsh,md]
   refine ⟨⟨by omega,by omega⟩,by omega,⟨hh,hnL⟩,?_⟩
   refine CallVC.of (cT) ?_
   simp [go_sem]
   simp [go_sem,c0]
   exact ⟨i,k,⟨by omega,by omega,h3⟩,by omega,zaa _ _ _ (by simp),rfl,rfl⟩
 .have e:i=j:=by omega
  subst e
  have hii:¬ (i:Int)<i:=by omega
  rw [bsG,if_neg (by omega)] at h3
  rw [<- h3]
  by_cases hi:i<L.length
  .have hiL:(i:Int)<L.length:=by omega
   have hnL:¬ L=[]:=by rintro rfl; simp at hi
   have cT:=zba (L[i]?.getD []) t (by have:=hr _ (memD [] hi); omega) (by omega)
   have md:=zak hi
   generalize cmpT (L[i]?.getD []) t=e at *
   simp [go_sem,hii,hiL,md]
   refine ⟨hnL,?_⟩
   refine CallVC.of (cT) ?_
   simp [go_sem]
   simp [hi]
  .have hiL:¬ (i:Int)<L.length:=by omega
   simp [go_sem,hii,hiL]
   omega
def ixT (L:List (List Int)) (t:List Int):Int:=if bsI L t<L.length/\cmpT (L[bsI L t]?.getD []) t=0 then bsI L t else -1
theorem zwx (L:List (List Int)) (t:List Int):bsI L t<=L.length:=(zmy L t _ 0 L.length (by omega)).2
theorem zfn (L:List (List Int)) (t:List Int) : -1<=ixT L t/\ixT L t<=L.length:=by
 have:=zwx L t
 unfold ixT
 split <;> omega
theorem zoW (L:List (List Int)) (t:List Int) (hL:L.length<=1000) (hr:∀ r∈L,r.length<=1000) (ht:t.length<=1000) :
  Con Tryz.prog 105 [.sl L.length (mat L),.sl t.length (avs t)] (.int (ixT L t)):=by
 have c1:=zgr L t hL hr ht
 unfold ixT
 by_cases h:bsI L t<L.length/\cmpT (L[bsI L t]?.getD []) t=0
 .rw [if_pos h]
  rw [decide_eq_true h.1,decide_eq_true h.2] at c1
  generalize bsI L t=i at *
  refine zab Tryz.mixed ⟨7,[],[],[]⟩ Tryz.func105 ?_
  rw [Tryz.ntmps105]
  simp [go_sem]
  refine CallVC.of (c1) ?_
  simp [go_sem]
 .rw [if_neg h]
  have e:(decide (bsI L t<L.length) && decide (cmpT (L[bsI L t]?.getD []) t=0))=false:=by
   cases e1:decide (bsI L t<L.length) with
   | false=>rfl
   | true =>
    cases e2:decide (cmpT (L[bsI L t]?.getD []) t=0) with
    | false=>rfl
    | true=>exact (h ⟨of_decide_eq_true e1,of_decide_eq_true e2⟩).elim
  rw [e] at c1
  generalize bsI L t=i at *
  refine zab Tryz.mixed ⟨7,[],[],[]⟩ Tryz.func105 ?_
  rw [Tryz.ntmps105]
  simp [go_sem]
  refine CallVC.of (c1) ?_
  simp [go_sem]
theorem zeA (L:List (List Int)) (n:Nat) (cs:List AV) (t:List Int) (hL:L.length<=1000) (hr:∀ r∈L,r.length<=1000) (ht:t.length<=1000) :
  Con Tryz.prog 162 [.agg [.sl L.length (mat L),.sl n cs],.sl t.length (avs t)] (.int (ixT L t+1)):=by
 have c1:=zoW L t hL hr ht
 have b:=zfn L t
 generalize ixT L t=e at *
 refine zab Tryz.mixed ⟨5,[],[],[]⟩ Tryz.func162 ?_
 rw [Tryz.ntmps162]
 simp [go_sem]
 refine CallVC.of (c1) ?_
 simp [go_sem]
 omega
end Go.Proofs.YthhdollpkieknaaGreat


namespace Go.Proofs.YthhdollpkieknaaGreat
open Go.Abs Go.Shelf Go.Sort
theorem zgy:∀ X:List Spl,zav (X.flatMap spA)=true
 | []=>rfl
 | s::X=>by
  have:=zgy X
  simp only [List.flatMap_cons,spA,List.cons_append,List.nil_append]
  simp [zav,zax,this]
theorem zke:∀ X:List Spl,frzL (X.flatMap spA)=X.flatMap spF
 | []=>rfl
 | s::X=>by
  have:=zke X
  simp only [List.flatMap_cons,spA,spF,List.cons_append,List.nil_append]
  simp [frzL,frz,this]
theorem znA (X:List Spl) (h1:∀ s∈X,s.2.2=1) (hok:∀ s∈X,SpOk s) (hn:X.length<=1048576) :
  MCon Tryz.prog 284 [.own 198 X.length (X.flatMap spA),.val (.func (.func 281) #[] #[])] (.tup []) [.own 198 X.length ((srtS X).flatMap spA),.any]:=by
 obtain ⟨ys,p1,p2,p3⟩:=znM Tryz.sortSplits 3 Tryz.isAgg198 Tryz.sizeOf198 ⟨_,Tryz.func284,by decide,rfl⟩ spA zbZ zvQ 281 198 (by kernel_rfl) X (fun _ _=>rfl) (zgy X)
  (fun x hx y hy=>by rw [zpo,zpo]; exact @zf8 ⟨1⟩ x y (hok x hx) (hok y hy)) (by omega)
 have e:ys=srtS X:=zj3 p1 h1 p2
 subst e
 exact p3
def cntF (s:Spl):Spl:=(srtT s.1,srtT s.2.1,1)
def mixS (L:List Spl) (i:Nat):List AV:=((L.map cntF).take i).flatMap spA++(L.drop i).flatMap spF
theorem zj7 (X:List Spl):(X.flatMap spA).length=X.length*3:=by
 induction X with
 | nil=>rfl
 | cons s X ih=>rw [List.flatMap_cons,List.length_append,ih]; simp [spA]; omega
theorem zaM (X:List Spl):(X.flatMap spF).length=X.length*3:=by
 induction X with
 | nil=>rfl
 | cons s X ih=>rw [List.flatMap_cons,List.length_append,ih]; simp [spF]; omega
theorem set3 (R:List AV) (x1 x2 x3 y1 y2 y3:AV):∀ P:List AV,(((P++x1::x2::x3::R).set P.length y1).set (P.length+1) y2).set (P.length+1+1) y3=P++y1::y2::y3::R
 | []=>rfl
 | p::P=>by
  have:=set3 R x1 x2 x3 y1 y2 y3 P
  simp only [List.cons_append,List.length_cons,List.set_cons_succ]
  rw [this]
theorem zv5 (x1 x2 x3 y3:AV):∀ P:List AV,(P++[x1,x2,x3]).set (P.length+2) y3=P++[x1,x2,y3]
 | []=>rfl
 | p::P=>by
  have:=zv5 x1 x2 x3 y3 P
  show p::(P++[x1,x2,x3]).set (P.length+2) y3=p::(P++[x1,x2,y3])
  rw [this]
theorem zl7 (O:List Spl) (l s:Spl):zgm (O++[l]) s=if zbZ l s=0 then O++[(l.1,l.2.1,l.2.2+1)] else O++[l]++[s]:=by
 have e:∀ O:List Spl,(O++[l]).set O.length (l.1,l.2.1,l.2.2+1)=O++[(l.1,l.2.1,l.2.2+1)]:=fun O=>by
  induction O with
  | nil=>rfl
  | cons o O ih=>rw [List.cons_append,List.length_cons,List.set_cons_succ,ih]; rfl
 unfold zgm
 rw [List.getLast?_concat]
 simp only [List.length_append,List.length_singleton,Nat.add_sub_cancel,e]
theorem zth (L:List Spl) {i:Nat} (h:i<L.length) {a b:List (List Int)} {k:Int} (hsp:L[i]?.getD ([],[],0)=(a,b,k)) :
  (((mixS L i).set (i*3) (AV.own 25 a.length (omat (srtT a)))).set (i*3+1) (AV.own 25 b.length (omat (srtT b)))).set (i*3+1+1) (AV.val (Value.int IntKind.i64 1))=mixS L (i+1):=by
 have e1:(((L.map cntF).take i).flatMap spA).length=i*3:=by rw [zj7,List.length_take,List.length_map,Nat.min_eq_left (by omega)]
 have e2:L.drop i=(a,b,k)::L.drop (i+1):=by rw [List.drop_eq_getElem_cons h,<- hsp]; simp [h]
 have e3:(L.map cntF).take (i+1)=(L.map cntF).take i++[cntF (a,b,k)]:=by
  rw [List.take_succ_eq_append_getElem (by simpa using h),List.getElem_map]
  congr 2
  rw [<- hsp]; simp [h]
 unfold mixS
 rw [e2,e3,List.flatMap_cons,List.flatMap_append,<- e1]
 refine (set3 _ _ _ _ _ _ _ _).trans ?_
 simp [cntF,spA]
theorem zl9 (L:List Spl) (hok:∀ s∈L,(s.1.length<=19/\∀ r∈s.1,r.length<=100)/\(s.2.1.length<=19/\∀ r∈s.2.1,r.length<=100)) (hn:L.length<=1000) :
  GCon Tryz.prog 236 [.own 198 L.length (L.flatMap spF)] (.own 198 (gthS (srtS (L.map cntF))).length ((gthS (srtS (L.map cntF))).flatMap spF)) [.any]:=by
 have cS:=znA (L.map cntF) (fun s hs=>by obtain ⟨t,_,rfl⟩:=List.mem_map.1 hs; rfl) (fun s hs=>by
  obtain ⟨t,ht,rfl⟩:=List.mem_map.1 hs
  have h:=hok t ht
  refine ⟨⟨by simp [cntF]; omega,fun r hr=>h.1.2 r ((za1 _).mem_iff.1 hr)⟩,by simp [cntF]; omega,fun r hr=>h.2.2 r ((za1 _).mem_iff.1 hr)⟩) (by simp; omega)
 rw [List.length_map] at cS
 refine zaf Tryz.mixed ⟨10,[32],[284],[]⟩ [] Tryz.func236 ?_
 rw [Tryz.ntmps236]
 simp [go_sem]
 refine zdR (0::3::4::10::List.range' 12 16) (3::4::List.range' 13 15) (fun i:Nat=>[(0,.own 198 L.length (mixS L i)),(10,.bor 0 []),(12,.int i)]) (fun i=>i<=L.length) (fun i=>L.length-i) 0 (by intro x i h1 h2; have:i=0\/i=10\/i=12:=(by simp at h1 h2; omega); rcases this with rfl | rfl | rfl <;> rfl) (by intro i h; simp at h |-; omega) (by simp) (by simp [go_sem,mixS]) (by simp [go_sem,kl]) ?_
 intro i hi
 by_cases h:i<L.length
 .have hii:(i:Int)<L.length:=by omega
  have hs:=hok (L[i]?.getD ([],[],0)) (memD _ h)
  have c1:=zes (L[i]?.getD ([],[],0)).1 (fun m hm=>by have:=hs.1.2 m hm; omega) hs.1.1
  have c2:=zes (L[i]?.getD ([],[],0)).2.1 (fun m hm=>by have:=hs.2.2 m hm; omega) hs.2.1
  have dr:(mixS L i).drop (i*3)=spF (L[i]?.getD ([],[],0))++(L.drop (i+1)).flatMap spF:=by
   have e1:(((L.map cntF).take i).flatMap spA).length=i*3:=by rw [zj7,List.length_take,List.length_map,Nat.min_eq_left (by omega)]
   have e2:L.drop i=L[i]?.getD ([],[],0)::L.drop (i+1):=by rw [List.drop_eq_getElem_cons h]; simp [h]
   unfold mixS
   rw [List.drop_append_of_le_length (by omega),e2,List.flatMap_cons,List.drop_eq_nil_of_le (by omega),List.nil_append]
  generalize hsp:L[i]?.getD ([],[],0)=s at *
  obtain ⟨a,b,k⟩:=s
  simp only [spF] at dr c1 c2
  have ml:(mixS L i).length=L.length*3:=by
   unfold mixS
   rw [List.length_append,zj7,zaM,List.length_take,List.length_map,List.length_drop,Nat.min_eq_left (by omega)]; omega
  have nm:¬ mixS L i=[]:=by intro e; rw [e] at ml; simp at ml; omega
  simp [go_sem,hii,dr]
  refine ⟨⟨nm,by omega⟩,by kernel_rfl,?_⟩
  refine CallD.of (c1) ?_
  simp [go_sem]
  refine CallD.of (c2) ?_
  simp [go_sem]
  refine ⟨h,⟨by omega,nm⟩,?_⟩
  refine ⟨by kernel_rfl,?_⟩
  simp [go_sem]
  refine ⟨⟨by omega,by omega⟩,i+1,by omega,by omega,zaa _ _ _ (by simp),zth L h hsp,by omega⟩
 .have e:i=L.length:=by omega
  subst e
  have hii:¬ (L.length:Int)<L.length:=by omega
  have e0:mixS L L.length=(L.map cntF).flatMap spA:=by
   unfold mixS
   rw [List.take_of_length_le (by simp),List.drop_eq_nil_of_le (Nat.le_refl _)]; simp
  rw [e0]
  have sl:(srtS (L.map cntF)).length=L.length:=by rw [zqt,List.length_map]
  have so:∀ s∈srtS (L.map cntF),s.2.2=1/\SpOk s:=fun s hs=>by
   obtain ⟨t,ht,rfl⟩:=List.mem_map.1 ((zcG _).mem_iff.1 hs)
   have h:=hok t ht
   exact ⟨rfl,⟨by simp [cntF]; omega,fun r hr=>h.1.2 r ((za1 _).mem_iff.1 hr)⟩,by simp [cntF]; omega,fun r hr=>h.2.2 r ((za1 _).mem_iff.1 hr)⟩
  simp [go_sem,hii]
  refine ⟨_,_,cS,?_⟩
  simp [go_sem]
  generalize srtS (L.map cntF)=S at *
  simp [go_sem,zke]
  refine zac (6::8::9::List.range' 34 33) (fun i:Nat=>[(6,.own 198 (gthS (S.take i)).length ((gthS (S.take i)).flatMap spF)),(34,.int i)]) (fun i=>i<=L.length) (fun i=>L.length-i) 0 (by simp) (by simp [go_sem,gthS]) (by simp [go_sem]) ?_
  intro i hi
  by_cases hi2:i<L.length
  .have hii:(i:Int)<L.length:=by omega
   have hS:i<S.length:=by omega
   have dr:(S.flatMap spF).drop (i*3)=spF (S[i]?.getD ([],[],0))++(S.drop (i+1)).flatMap spF:=by
    have e1:((S.take i).flatMap spF).length=i*3:=by rw [zaM,List.length_take,Nat.min_eq_left (by omega)]
    have e2:S.drop i=S[i]?.getD ([],[],0)::S.drop (i+1):=by rw [List.drop_eq_getElem_cons hS]; simp [hS]
    have e3:S.flatMap spF=(S.take i).flatMap spF++(S.drop i).flatMap spF:=by rw [<- List.flatMap_append,List.take_append_drop]
    rw [e3,List.drop_append_of_le_length (by omega),e2,List.flatMap_cons,List.drop_eq_nil_of_le (by omega),List.nil_append]
   have hs:=so _ (memD ([],[],0) hS)
   generalize hsp:S[i]?.getD ([],[],0)=s at *
   obtain ⟨a,b,k⟩:=s
   obtain ⟨hk,hs⟩:=hs
   simp only at hk
   subst hk
   simp only [spF] at dr
   have ml:(S.flatMap spF).length=L.length*3:=by rw [zaM,sl]
   have nm:¬ S.flatMap spF=[]:=by intro e; rw [e] at ml; simp at ml; omega
   have gs:gthS (S.take (i+1))=zgm (gthS (S.take i)) (a,b,1):=by
    rw [List.take_succ_eq_append_getElem hS,ziC]
    congr 1
    rw [<- hsp,List.getElem?_eq_getElem hS]; rfl
   have iv:=zqY (S.take i)
   generalize S.flatMap spF=M at *
   rcases (List.eq_nil_or_concat (gthS (S.take i))) with ho | ⟨O,l,ho⟩
   .rw [ho,show zgm [] (a,b,1)=[(a,b,1)] from rfl] at gs
    rw [ho]
    simp [go_sem,hii,dr]
    refine ⟨nm,by kernel_rfl,?_⟩
    refine ⟨by kernel_rfl,?_⟩
    simp [go_sem]
    refine ⟨⟨by omega,by omega⟩,i+1,by omega,by omega,zaa _ _ _ (by simp),?_⟩
    rw [gs]
    exact ⟨⟨rfl,by simp [spF]⟩,by omega⟩
   .rw [List.concat_eq_append] at ho
    rw [ho] at iv
    rw [ho,zl7] at gs
    rw [ho]
    obtain ⟨i1,i2,i3⟩:=iv
    have kb:=i3 (fun s hs=>(so s (List.mem_of_mem_take hs)).1) l (by simp)
    have hl:SpOk l:=by
     obtain ⟨t,t1,t2⟩:=i2 l (by simp)
     have:=(so t (List.mem_of_mem_take t1)).2
     simp only [keyS,Prod.mk.injEq] at t2
     unfold SpOk
     rw [t2.1,t2.2]; exact this
    have cG:=zf8 l (a,b,1) hl hs
    have cl:((O++[l]).flatMap spF).length=(O.length+1)*3:=by rw [zaM]; simp
    have cd:((O++[l]).flatMap spF).drop (O.length*3)=[.sl l.1.length (mat l.1),.sl l.2.1.length (mat l.2.1),.int l.2.2]:=by
     rw [List.flatMap_append,List.drop_append_of_le_length (by rw [zaM]; omega),List.drop_eq_nil_of_le (by rw [zaM]; omega)]
     simp [spF]
    have cs:∀ y,((O++[l]).flatMap spF).set (O.length*3+2) y=O.flatMap spF++[.sl l.1.length (mat l.1),.sl l.2.1.length (mat l.2.1),y]:=fun y=>by
     have e:=zv5 (.sl l.1.length (mat l.1)) (.sl l.2.1.length (mat l.2.1)) (.int l.2.2) y (O.flatMap spF)
     rw [zaM] at e
     rw [<- e,List.flatMap_append]; simp [spF]
    have ol:(O++[l]).length=O.length+1:=by simp
    have i1':O.length+1<=i:=by
     rw [ol,List.length_take] at i1; omega
    rw [List.length_take] at i3
    simp only [spF] at cG
    rw [ol]
    generalize hC:(O++[l]).flatMap spF=C at *
    have cg:C[O.length*3+2]?=some (.val (.int .i64 l.2.2)):=by rw [<- List.getElem?_drop,cd]; rfl
    have nC:¬ C=[]:=by intro e; rw [e] at cl; simp at cl
    have hd:0<O.length+1:=by omega
    generalize hv:zbZ l (a,b,1)=v at *
    by_cases hz:v=0
    .rw [if_pos hz] at gs
     subst hz
     simp [go_sem,hii,dr,hd,cd]
     refine ⟨nm,by kernel_rfl,?_⟩
     refine ⟨by omega,by omega,⟨nC,by omega⟩,?_⟩
     refine CallD.of (cG) ?_
     simp [go_sem]
     refine ⟨by kernel_rfl,?_⟩
     simp [go_sem]
     simp [go_sem,cg]
     have tl:(S.take i).length<=i:=by rw [List.length_take]; omega
     have kk:0<=l.2.2/\l.2.2<=1000:=by omega
     refine ⟨by omega,by omega,nC,⟨by omega,by omega⟩,by omega,nC,by omega,⟨by omega,by omega⟩,i+1,by omega,by omega,zaa _ _ _ (by simp),?_⟩
     rw [gs,cs]
     refine ⟨⟨by simp,?_⟩,by omega⟩
     rw [List.flatMap_append]
     simp [spF]
    .rw [if_neg hz] at gs
     simp [go_sem,hii,dr,hd,cd]
     refine ⟨nm,by kernel_rfl,?_⟩
     refine ⟨by omega,by omega,⟨nC,by omega⟩,?_⟩
     refine CallD.of (cG) ?_
     simp [go_sem]
     simp [go_sem,hz]
     refine ⟨by kernel_rfl,?_⟩
     simp [go_sem]
     refine ⟨⟨by rw [cl],by omega,by omega⟩,⟨by omega,by omega⟩,i+1,by omega,by omega,zaa _ _ _ (by simp),?_⟩
     rw [gs]
     refine ⟨⟨by simp,?_⟩,by omega⟩
     rw [List.flatMap_append,hC]
     simp [spF]
  .have e:i=S.length:=by omega
   subst e
   have hii:¬ (S.length:Int)<L.length:=by omega
   rw [List.take_length]
   simp [go_sem,hii]
end Go.Proofs.YthhdollpkieknaaGreat


namespace Go.Proofs.YthhdollpkieknaaGreat
open Go.RowKit Go.Shelf Go.Lib Go.Abs
theorem zjm (n:Nat) (h0:0<n) (hn:n<=1048576) (i:TypeInfo) (z:Value) (hi:Tryz.prog.info? 25=some i) (hz:i.zero=some z) (hs:0<i.size) (hb:i.bytes=24) (w:World) :
  Calls Tryz.prog 326 #[.slice none 0 0,.int .i64 n] w fun e w' =>
   e=.returned (.slice (some ⟨w.heap.size,0,none⟩) 0 (grownCap w n 0 25)) /\
   w'=w.drew.alloc (.cells (([]:List Value).toArray++Builtin.zeroCells z.cells n++Builtin.zeroCells z.cells (grownCap w n 0 25-n)) 25):=by
 have h1:¬ ((n:Int)<0):=by omega
 have h2:wrap64 (n:Int)=n:=by unfold wrap64; omega
 have h4:(n:Int) > 0:=by omega
 have hrz:∀ ty,(Builtin.append_ #[24,3] ty #[.slice none 0 0,.int .i64 (n:Int)]).run Tryz.prog w =
   .ok (.slice (some ⟨w.heap.size,0,none⟩) n (grownCap w n 0 25)) (w.drew.alloc (.cells (([]:List Value).toArray++Builtin.zeroCells z.cells n++Builtin.zeroCells z.cells (grownCap w n 0 25-n)) 25)):=fun ty=>by
  have h:=Lib.run_append_grow_zeros w 24 3 ty 25 i z .i64 .i64 Tryz.underlying24 Tryz.underlying3 hi hz none 0 0 [] (run_firstCells_none w.drew i.size 0 0 0) n h0 hs (by omega) (by omega)
   (by rw [hb]; omega) (by
    rw [hb]
    have:=growslice_fits (need:=0+n) (old:=0) (bytes:=24) (by omega) (by omega)
    exact this)
  simp only [Nat.zero_add] at h
  exact h
 have hGn:n<=grownCap w n 0 25:=grownCap_ge w _ _ _
 obtain ⟨G,hG⟩:∃ G,G=grownCap w n 0 25:=⟨_,rfl⟩
 rw [<- hG] at hrz hGn |-
 have hG63:G<=9223372036854775807:=by
  have:=grownCap_le_maxLen w n 0 25 (by unfold maxLen; omega)
  rw [<- hG] at this
  unfold maxLen at this
  omega
 clear hG
 go_enter Tryz.func326,Tryz.ntmps326
 go_wp2_with (at_builtin; refine Lib.wpList_append_run _ rfl _ _ _ _ rfl _ _ rfl rfl _ _ (hrz _) ?_)
 all_goals (go_ret; exact ⟨rfl,rfl⟩)
theorem ztz (n:Nat) (h0:0<n) (hn:n<=1048576):Con Tryz.prog 326 [.val (.slice none 0 0),.int n] (.own 25 0 []):=by
 refine ⟨⟨_,Tryz.func326,by decide,rfl⟩,fun w vs hl ha=>?_⟩
 have k:=ha (fun _=>undef) (fun _=>[])
 generalize hoz:([]:List Nat)=oz at k
 obtain ⟨i,z,hi,hz,hs,hb,hzs,_,hce⟩:=zaR Tryz.info25
 cases k with
 | cons c v o cs vs os hc ht =>
  cases ht with
  | cons c2 v2 o2 cs2 vs2 os2 hc2 ht2 =>
   have e2:vs2=[]:=by simpa using hl
   subst e2
   cases hc2 with
   | cell _ _ _ hc2 =>
    cases hc2 with
    | val _ _ =>
     cases hc with
     | cell _ _ _ hc =>
      cases hc with
      | val _ _ =>
       refine (zjm n h0 hn i z hi hz (by omega) hb w).mono ?_
       rintro e w' ⟨rfl,rfl⟩
       have hge:n<=grownCap w n 0 25:=grownCap_ge w _ _ _
       have hrep:RepC Tryz.prog (w.drew.alloc (.cells (([]:List Value).toArray++Builtin.zeroCells z.cells n++Builtin.zeroCells z.cells (grownCap w n 0 25-n)) 25)) (fun _=>False) (.own 25 0 []) (.slice (some ⟨w.heap.size,0,none⟩) 0 (grownCap w n 0 25)) [w.heap.size] :=
        .own _ _ 0 _ _ _ _ (zdw w _) (by omega) (by rw [hce]; simp [size_zeroCells,hzs,<- Nat.add_mul]; omega) (.nil _)
       refine ⟨_,[w.heap.size],rfl,⟨rfl,rfl,rfl,by simp,fun b hb=>zdn w _ b hb,by first | exact Nat.le_refl _ | exact zbk _⟩,fun tm oss=>.cell _ _ _ (hrep.mono (fun _ h=>h.elim) (fun _ _=>rfl)),by simp,by simp⟩
inductive NW:AV->AV->Prop
 | same (c:AV):NW c c
 | nil:NW (.val (.slice none 0 0)) (.sl 0 [])
inductive NWL:List AV->List AV->Prop
 | nil:NWL [] []
 | cons {c c':AV} {cs cs':List AV} (h:NW c c') (t:NWL cs cs'):NWL (c::cs) (c'::cs')
theorem NW.rep {P:Program} {w:World} {F:Nat->Prop} {c c':AV} {v:Value} {os:List Nat} (h:NW c c') (hr:RepC P w F c v os):RepC P w F c' v os:=by
 cases h with
 | same=>exact hr
 | nil=>cases hr with
  | val _ _=>exact .sl0 none 0
theorem NWL.rep {P:Program} {w:World} {F:Nat->Prop} {cs cs':List AV} (h:NWL cs cs'):∀ {vs:List Value} {os:List Nat},RepL P w F cs vs os->RepL P w F cs' vs os:=by
 induction h with
 | nil=>intro vs os hr; exact hr
 | cons h _ ih =>
  intro vs os hr
  cases hr with
  | cons _ v os _ vs os' h1 h2=>exact .cons _ _ _ _ _ _ (h.rep h1) (ih h2)
theorem GCon.nwArg {P:Program} {f:FuncId} {e:TypeId} {n:Nat} {cs cs':List AV} {r:AV} {outs:List AV} (hw:NWL cs cs') (h:GCon P f [.own e n cs'] r outs):GCon P f [.own e n cs] r outs:=by
 refine ⟨h.1,fun w vs os F0 hl hnd ho hF hr=>h.2 w vs os F0 hl hnd ho hF fun tm oss=>?_⟩
 have k:=hr tm oss
 cases k with
 | cons c v o cs1 vs os2 hc ht =>
  refine .cons _ _ _ _ _ _ ?_ ht
  cases hc with
  | cell _ _ _ hc =>
   refine .cell _ _ _ ?_
   cases hc with
   | own0=>cases hw; exact .own0 _
   | own b _ _ cap c _ os3 hb hn2 hc2 hl2=>exact .own b _ _ cap c _ os3 hb hn2 hc2 (hw.rep hl2)
theorem GCon.own0 {P:Program} {f:FuncId} {args:List AV} {outs:List AV} (e:TypeId) (h:GCon P f args (.val (.slice none 0 0)) outs):GCon P f args (.own e 0 []) outs:=by
 refine ⟨h.1,fun w vs os F0 hl hn ho hF hr=>(h.2 w vs os F0 hl hn ho hF hr).mono ?_⟩
 rintro x w' ⟨v,orr,oo,F',h1,h2,h3,h4,h5,h6⟩
 refine ⟨v,orr,oo,F',h1,h2,h3,h4,fun tm oss=>?_,h6⟩
 have k:=h5 tm oss
 cases k with
 | cell _ _ _ hc=>cases hc with
  | val _ _=>exact .cell _ _ _ (.own0 e)
theorem NWL.app {a b:List AV} (h:NWL a b):∀ p:List AV,NWL (p++a) (p++b)
 | []=>h
 | c::p=>.cons (.same c) (NWL.app h p)
theorem GCon.nwRes {P:Program} {f:FuncId} {args:List AV} {e:TypeId} {n:Nat} {cs cs':List AV} {outs:List AV} (hw:NWL cs cs') (h:GCon P f args (.own e n cs) outs):GCon P f args (.own e n cs') outs:=by
 refine ⟨h.1,fun w vs os F0 hl hn ho hF hr=>(h.2 w vs os F0 hl hn ho hF hr).mono ?_⟩
 rintro x w' ⟨v,orr,oo,F',h1,h2,h3,h4,h5,h6⟩
 refine ⟨v,orr,oo,F',h1,h2,h3,h4,fun tm oss=>?_,h6⟩
 have k:=h5 tm oss
 cases k with
 | cell _ _ _ hc =>
  refine .cell _ _ _ ?_
  cases hc with
  | own0=>cases hw; exact .own0 _
  | own b _ _ cap c _ os3 hb hn2 hc2 hl2=>exact .own b _ _ cap c _ os3 hb hn2 hc2 (hw.rep hl2)
def szC (x y:List (List Int)) (i:Nat):Nat:=if i=0 then 0 else if i=1 then x.length else x.length+y.length
def flC (x y:List (List Int)) (i:Nat):List (List Int):=if i=0 then [] else if i=1 then x else x++y
theorem zjI (x y:List (List Int)) (h0:0<x.length+y.length) (hn:x.length+y.length<=1000) :
  GCon Tryz.prog 285 [.own 24 2 [.sl x.length (mat x),.sl y.length (mat y)]] (.own 25 (x++y).length (mat (x++y))) [.any]:=by
 have cG:=Con.gfz (ztz (x.length+y.length) h0 (by omega)) (by simp [zaO,zbC]) rfl
 refine zaf Tryz.mixed ⟨9,[],[1000000+326],[]⟩ [] Tryz.func285 ?_
 rw [Tryz.ntmps285]
 simp [go_sem]
 refine zac ([3,5]++List.range' 11 12) (fun i:Nat=>[(3,.int (szC x y i)),(11,.int i)]) (fun i=>i<=2) (fun i=>2-i) 0 (by simp) (by simp [go_sem,szC]) (by simp [go_sem]) ?_
 intro i hi
 have hc:i=0\/i=1\/i=2:=by omega
 rcases hc with rfl | rfl | rfl
 .have hs:¬ ((x.length:Int)<0):=by omega
  simp [go_sem,szC,hs]
  exact ⟨by omega,1,by omega,by omega,zaa _ _ _ (by simp),by simp,by omega⟩
 .have hs:¬ ((x.length:Int)+y.length<0):=by omega
  simp [go_sem,szC,hs]
  exact ⟨⟨by omega,by omega⟩,2,by omega,by omega,zaa _ _ _ (by simp),by simp,by omega⟩
 .have e2:(x.length:Int)+y.length=((x.length+y.length:Nat):Int):=by omega
  simp [go_sem,szC]
  rw [e2]
  refine ⟨_,_,cG,?_⟩
  simp [go_sem]
  refine zac ([6,8]++List.range' 27 8) (fun i:Nat=>[(6,.own 25 (flC x y i).length (mat (flC x y i))),(27,.int i)]) (fun i=>i<=2) (fun i=>2-i) 0 (by simp) (by simp [go_sem,flC,mat,frzL]) (by simp [go_sem]) ?_
  intro i hi
  have hc:i=0\/i=1\/i=2:=by omega
  rcases hc with rfl | rfl | rfl
  .simp [go_sem,flC,mat]
   exact ⟨⟨by omega,by omega⟩,1,by omega,by omega,zaa _ _ _ (by simp),by simp,by omega⟩
  .simp [go_sem,flC,mat]
   exact ⟨⟨by omega,by omega⟩,2,by omega,by omega,zaa _ _ _ (by simp),by simp,by omega⟩
  .simp [go_sem,flC]
theorem zis (w:World) :
  Calls Tryz.prog 326 #[.slice none 0 0,.int .i64 0] w fun e w'=>e=.returned (.slice none 0 0)/\w'=w:=by
 have h2:wrap64 (0:Int)=0:=by unfold wrap64; omega
 go_enter Tryz.func326,Tryz.ntmps326
 go_wp2
 all_goals (go_ret; exact ⟨rfl,rfl⟩)
theorem znB:GCon Tryz.prog 326 [.val (.slice none 0 0),.int 0] (.val (.slice none 0 0)) [.any,.any]:=by
 refine ⟨⟨_,Tryz.func326,by decide,rfl⟩,fun w vs os F0 hl hnd ho hF hr=>?_⟩
 have k:=hr (fun _=>undef) (fun _=>[])
 cases k with
 | cons c v o cs vs os1 hc ht =>
  cases ht with
  | cons c2 v2 o2 cs2 vs2 os2 hc2 ht2 =>
   have e2:vs2=[]:=by simpa using hl
   subst e2
   cases hc2 with
   | cell _ _ _ hc2 =>
    cases hc2 with
    | val _ _ =>
     cases hc with
     | cell _ _ _ hc =>
      cases hc with
      | val _ _ =>
       refine (zis w).mono ?_
       rintro e w' ⟨rfl,rfl⟩
       exact ⟨_,[],[],F0,rfl,Ext.refl _ _,fun _ h=>h,fun _ h=>.inl h,fun tm oss=>.cell _ _ _ (.val _ rfl),fun tm oss=>.cons _ _ [] _ _ [] (.any _) (.cons _ _ [] _ _ [] (.any _) (.nil _)),rfl,by simp,by simp⟩
theorem zkc :
  GCon Tryz.prog 285 [.own 24 2 [.sl 0 [],.sl 0 []]] (.own 25 0 []) [.any]:=by
 have cG:=GCon.own0 25 znB
 refine zaf Tryz.mixed ⟨9,[],[1000000+326],[]⟩ [] Tryz.func285 ?_
 rw [Tryz.ntmps285]
 simp [go_sem]
 refine zac ([3,5]++List.range' 11 12) (fun i:Nat=>[(3,.int 0),(11,.int i)]) (fun i=>i<=2) (fun i=>2-i) 0 (by simp) (by simp [go_sem]) (by simp [go_sem]) ?_
 intro i hi
 have hc:i=0\/i=1\/i=2:=by omega
 rcases hc with rfl | rfl | rfl
 .simp [go_sem]
  exact ⟨1,by omega,by omega,zaa _ _ _ (by simp),by omega⟩
 .simp [go_sem]
  exact ⟨2,by omega,by omega,zaa _ _ _ (by simp),by omega⟩
 .simp [go_sem]
  refine ⟨_,_,cG,?_⟩
  simp [go_sem]
  refine zac ([6,8]++List.range' 27 8) (fun i:Nat=>[(6,.own 25 0 []),(27,.int i)]) (fun i=>i<=2) (fun i=>2-i) 0 (by simp) (by simp [go_sem]) (by simp [go_sem]) ?_
  intro i hi
  have hc:i=0\/i=1\/i=2:=by omega
  rcases hc with rfl | rfl | rfl
  .simp [go_sem]
   exact ⟨1,by omega,by omega,zaa _ _ _ (by simp),by omega⟩
  .simp [go_sem]
   exact ⟨2,by omega,by omega,zaa _ _ _ (by simp),by omega⟩
  .simp [go_sem]
theorem zgb (x y:List (List Int)) (hn:x.length+y.length<=1000) :
  GCon Tryz.prog 285 [.own 24 2 [.sl x.length (mat x),.sl y.length (mat y)]] (.own 25 (x++y).length (mat (x++y))) [.any]:=by
 by_cases h0:0<x.length+y.length
 .exact zjI x y h0 hn
 .have e1:x=[]:=List.length_eq_zero_iff.1 (by omega)
  have e2:y=[]:=List.length_eq_zero_iff.1 (by omega)
  subst e1 e2
  exact zkc
theorem zje (y:List (List Int)) (hn:y.length<=1000) :
  GCon Tryz.prog 285 [.own 24 2 [.val (.slice none 0 0),.sl y.length (mat y)]] (.own 25 y.length (mat y)) [.any] :=
 GCon.nwArg (.cons .nil (.cons (.same _) .nil)) (zgb [] y (by simpa using hn))
end Go.Proofs.YthhdollpkieknaaGreat


namespace Go.Proofs.YthhdollpkieknaaGreat
open Go.Abs
def canS (n:Nat) (s:Spl):Spl:=(s.1,[canF (n+1) (zay s.2.1)],s.2.2)
def lfS (n:Nat) (j:Nat):AV:=.own 198 1 [.val (.slice none 0 0),if j=0 then .val (.slice none 0 0) else .sl 1 (mat [canF (n+1) (zay [])]),.int 0]
theorem zgt {n:Nat} {t:List Int} (h1:n+1<=100) (h2:Lv t) (h3:t.length<=n+1) (hb:brs t=[]) :
  GCon Tryz.prog 237 [.sl t.length (avs t)] (.own 198 (spl (n+1) t).length ((spl (n+1) t).flatMap spF)) [.any]:=by
 have cB:=zb7 t (by omega) h2
 have cT:=zbQ (n+1) t h1 h2 h3
 have cR:=zeX [] (by simp) (by simp)
 have cK:=zbQ (n+1) (zay []) h1 zjk (by simp [zay])
 rw [zk3,hb]
 rw [hb] at cB
 refine GCon.nwRes (n:=2) (cs:=[.val (.slice none 0 0),.sl 1 (mat [canF (n+1) (zay [])]),.int 0,.sl 1 (mat [canF (n+1) t]),.val (.slice none 0 0),.int 0]) (.cons .nil (.cons (.same _) (.cons (.same _) (.cons (.same _) (.cons .nil (.cons (.same _) .nil)))))) ?_
 refine zaf Tryz.mixed ⟨6,[16,23,42,48,69,76],[],[]⟩ [] Tryz.func237 ?_
 rw [Tryz.ntmps237]
 simp [go_sem]
 refine CallVC.of (cB) ?_
 simp [go_sem]
 refine zac (3::5::6::8::10::List.range' 18 38) (fun i:Nat=>[(3,lfS n 0),(18,.int 0)]) (fun _=>True) (fun _=>0) 0 trivial (by simp [go_sem,lfS]) (by simp [go_sem,lfS]) ?_
 intro _ _
 simp [go_sem,lfS]
 refine zdR (3::11::12::56::List.range' 58 15) (11::12::List.range' 59 14) (fun j:Nat=>[(3,lfS n j),(56,.bor 3 []),(58,.int j)]) (fun j=>j<=1) (fun j=>1-j) 0 (by intro x i h1 h2; have:i=3\/i=56\/i=58:=(by simp at h1 h2; omega); rcases this with rfl | rfl | rfl <;> rfl) (by intro i h; simp at h |-; omega) (by simp) (by simp [go_sem,lfS]) (by simp [go_sem,kl,lfS]) ?_
 intro j hj
 have hj01:j=0\/j=1:=by omega
 rcases hj01 with rfl | rfl
 .simp [go_sem,lfS]
  refine CallVC.of (cR) ?_
  simp [go_sem]
  refine CallVC.of (cK) ?_
  simp [go_sem]
  have cl:(canF (n+1) (zay [])).length=1:=zaF (n+1) (zay []) zjk (by simp [zay])
  refine ⟨1,by omega,by omega,zaa _ _ _ (by simp),?_⟩
  have cl2:(canF (n+1) [0]).length=1:=cl
  simp [lfS,mat,cl2,zay]
 .simp [go_sem,lfS]
  refine CallVC.of (cT) ?_
  simp [go_sem]
  simp [mat,zaF (n+1) t h2 h3]
end Go.Proofs.YthhdollpkieknaaGreat


namespace Go.Proofs.YthhdollpkieknaaGreat
open Go.Abs
theorem zhW:∀ X:List Spl,frzL (X.flatMap spF)=X.flatMap spF
 | []=>rfl
 | s::X=>by
  have:=zhW X
  simp only [List.flatMap_cons,spF,List.cons_append,List.nil_append]
  simp [frzL,frz,this]
theorem ze3 {L:List Spl} {i:Nat} (h:i<L.length):(L.flatMap spF).drop (i*3)=spF (L[i]?.getD ([],[],0))++(L.drop (i+1)).flatMap spF:=by
 have e1:((L.take i).flatMap spF).length=i*3:=by rw [zaM,List.length_take,Nat.min_eq_left (by omega)]
 have e2:L.drop i=L[i]?.getD ([],[],0)::L.drop (i+1):=by rw [List.drop_eq_getElem_cons h]; simp [h]
 have e3:L.flatMap spF=(L.take i).flatMap spF++(L.drop i).flatMap spF:=by rw [<- List.flatMap_append,List.take_append_drop]
 rw [e3,List.drop_append_of_le_length (by omega),e2,List.flatMap_cons,List.drop_eq_nil_of_le (by omega),List.nil_append]
def xS (n:Nat) (bs:List (List Int)) (i:Nat):AV:=if i=0 then .own 198 1 [.val (.slice none 0 0),.val (.slice none 0 0),.int 0] else .own 198 (fldS n (bs.take i)).length ((fldS n (bs.take i)).flatMap spF)
def mxT (n:Nat) (L:List Spl) (j:Nat):List AV:=((L.take j).map (canS n)).flatMap spF++(L.drop j).flatMap spF
theorem zrd (n:Nat) (L:List Spl):mxT n L 0=L.flatMap spF:=by simp [mxT]
theorem ztL (n:Nat) (L:List Spl):mxT n L L.length=(L.map (canS n)).flatMap spF:=by simp [mxT]
theorem zus (n:Nat) (L:List Spl) {j:Nat} (h:j<=L.length):(mxT n L j).length=L.length*3:=by
 unfold mxT
 rw [List.length_append,zaM,zaM,List.length_map,List.length_take,List.length_drop,Nat.min_eq_left h]; omega
theorem zrJ (n:Nat) {L:List Spl} {j:Nat} (h:j<L.length):(mxT n L j).drop (j*3)=spF (L[j]?.getD ([],[],0))++(L.drop (j+1)).flatMap spF:=by
 have e1:(((L.take j).map (canS n)).flatMap spF).length=j*3:=by rw [zaM,List.length_map,List.length_take,Nat.min_eq_left (by omega)]
 have e2:L.drop j=L[j]?.getD ([],[],0)::L.drop (j+1):=by rw [List.drop_eq_getElem_cons h]; simp [h]
 unfold mxT
 rw [List.drop_append_of_le_length (by omega),e2,List.flatMap_cons,List.drop_eq_nil_of_le (by omega),List.nil_append]
theorem set1 (R:List AV) (x1 x2 y:AV):∀ P:List AV,(P++x1::x2::R).set (P.length+1) y=P++x1::y::R
 | []=>rfl
 | p::P=>by
  have:=set1 R x1 x2 y P
  simp only [List.cons_append,List.length_cons,List.set_cons_succ]
  rw [this]
theorem zsJ (n:Nat) {L:List Spl} {j:Nat} (h:j<L.length):(mxT n L j).set (j*3+1) (.sl 1 (mat [canF (n+1) (zay (L[j]?.getD ([],[],0)).2.1)]))=mxT n L (j+1):=by
 have e1:(((L.take j).map (canS n)).flatMap spF).length=j*3:=by rw [zaM,List.length_map,List.length_take,Nat.min_eq_left (by omega)]
 have e2:L.drop j=L[j]?.getD ([],[],0)::L.drop (j+1):=by rw [List.drop_eq_getElem_cons h]; simp [h]
 have e3:L.take (j+1)=L.take j++[L[j]?.getD ([],[],0)]:=by
  rw [List.take_succ_eq_append_getElem h,List.getElem?_eq_getElem h]; rfl
 unfold mxT
 rw [e2,e3,List.flatMap_cons,List.map_append,List.flatMap_append,<- e1]
 refine (set1 _ _ _ _ _).trans ?_
 simp [canS,spF]
def zS (M:List Spl) (j:Nat):AV:=if j=0 then .own 198 0 [] else .own 198 M.length (M.flatMap spF)
theorem zjA:∀ (n:Nat) (t:List Int),zjJ n t=true ->
  GCon Tryz.prog 237 [.sl t.length (avs t)] (.own 198 (spl n t).length ((spl n t).flatMap spF)) [.any]:=by
 intro n
 induction n with
 | zero=>intro t h; simp [zjJ] at h
 | succ n ih =>
  intro t h
  obtain ⟨h1,h2,h3,h4,h5,h6⟩:=zmo h
  have cB:=zb7 t (by omega) h2
  by_cases hb:brs t=[]
  .exact zgt h1 h2 h3 hb
  rw [zk3]
  refine GCon.nwRes (cs:=((fldS n (brs t)).map (canS n)).flatMap spF++[.sl 1 (mat [canF (n+1) t]),.val (.slice none 0 0),.int 0]) (by rw [List.flatMap_append]; exact NWL.app (.cons (.same _) (.cons .nil (.cons (.same _) .nil))) _) ?_
  have cT:=zbQ (n+1) t h1 h2 h3
  refine zaf Tryz.mixed ⟨6,[16,23,42,48,69,76],[1000000+237,1000000+285],[]⟩ [] Tryz.func237 ?_
  rw [Tryz.ntmps237]
  simp [go_sem]
  refine CallVC.of (cB) ?_
  simp [go_sem]
  have bl:(brs t).length<t.length:=zfu h2
  generalize brs t=bs at *
  refine zac (3::5::6::8::10::List.range' 18 38) (fun i:Nat=>[(3,xS n bs i),(18,.int i)]) (fun i=>i<=bs.length) (fun i=>bs.length-i) 0 (by simp) (by simp [go_sem,xS]) (by simp [go_sem,xS]) ?_
  intro i hi
  by_cases hib:i<bs.length
  .have hii:(i:Int)<bs.length:=by omega
   have hm:bs[i]?.getD []∈bs:=memD [] hib
   obtain ⟨b1,b2,b3⟩:=h4 _ hm
   have cI:=ih _ b1
   have md:=zak hib
   have sn:fldS n (bs.take (i+1))=zbL (fldS n (bs.take i)) (spl n (bs[i]?.getD [])):=by
    rw [List.take_succ_eq_append_getElem hib,zpb,List.getElem?_eq_getElem hib]; rfl
   obtain ⟨l1,l2⟩:=h5 i hi
   obtain ⟨l3,l4⟩:=h5 (i+1) (by omega)
   rw [sn] at l3 l4
   generalize bs[i]?.getD []=b at *
   generalize spl n b=M at *
   by_cases hi0:i=0
   .have hx:xS n bs i=.own 198 1 [.val (.slice none 0 0),.val (.slice none 0 0),.int 0]:=by unfold xS; rw [if_pos hi0]
    rw [hx]
    have L0:fldS n (bs.take i)=[([],[],0)]:=by rw [hi0]; simp [fldS]
    have M0:zbL [([],[],0)] M=M:=by
     have e:zbL [([],[],0)] M=M.map fun c=>(c.1,c.2.1,(0:Int)):=by simp [zbL]
     rw [e]
     refine (List.map_congr_left (g:=id) fun c hc=>?_).trans (List.map_id _)
     obtain ⟨_,_,c3⟩:=zdZ (b3 c hc)
     obtain ⟨a,b,c⟩:=c
     simp only at c3
     subst c3; rfl
    rw [L0,M0] at sn
    have hx1:xS n bs (i+1)=.own 198 M.length (M.flatMap spF):=by unfold xS; rw [if_neg (by omega),sn]
    simp [go_sem,hii,md,frzL,frz]
    refine ⟨hb,?_⟩
    refine zac (6::8::10::List.range' 25 29) (fun j:Nat=>[(6,zS M j),(25,.int j)]) (fun j=>j<=1) (fun j=>1-j) 0 (by simp) (by simp [go_sem,zS]) (by simp [go_sem,zS]) ?_
    intro j hj
    have hj01:j=0\/j=1:=by omega
    rcases hj01 with rfl | rfl
    .simp [go_sem,zS]
     refine ⟨_,_,cI,?_⟩
     simp [go_sem]
     refine zac (6::10::List.range' 32 21) (fun k:Nat=>[(6,.own 198 k ((M.take k).flatMap spF)),(32,.int k)]) (fun k=>k<=M.length) (fun k=>M.length-k) 0 (by simp) (by simp [go_sem]) (by simp [go_sem]) ?_
     intro k hk
     by_cases hkm:k<M.length
     .have hki:(k:Int)<M.length:=by omega
      have dr2:=ze3 hkm
      have nM:¬ M.flatMap spF=[]:=by intro e; have:=zaM M; rw [e] at this; simp at this; omega
      obtain ⟨c1,c2,c3⟩:=zdZ (b3 _ (memD ([],[],0) hkm))
      have tk:M.take (k+1)=M.take k++[M[k]?.getD ([],[],0)]:=by
       rw [List.take_succ_eq_append_getElem hkm,List.getElem?_eq_getElem hkm]; rfl
      have cA:=zje (M[k]?.getD ([],[],0)).1 (by omega)
      have cC:=zje (M[k]?.getD ([],[],0)).2.1 (by omega)
      generalize M[k]?.getD ([],[],0)=c at *
      obtain ⟨ca,cb,cc⟩:=c
      simp only [spF] at dr2
      simp only at c1 c2 c3 tk cA cC
      subst c3
      have cl:=zaM (M.take k)
      rw [List.length_take,Nat.min_eq_left (by omega)] at cl
      have lM:=zaM M
      generalize hC:(M.take k).flatMap spF=C at *
      generalize hMC:M.flatMap spF=MC at *
      simp [go_sem,hki,dr2]
      refine ⟨⟨nM,by omega⟩,by kernel_rfl,?_⟩
      refine ⟨_,_,cA,?_⟩
      simp [go_sem]
      refine ⟨_,_,cC,?_⟩
      simp [go_sem]
      refine ⟨⟨by rw [cl],by omega,by omega⟩,?_⟩
      refine ⟨by kernel_rfl,?_⟩
      simp [go_sem]
      refine ⟨⟨by omega,by omega⟩,k+1,by omega,by omega,zaa _ _ _ (by simp),?_⟩
      refine ⟨⟨by omega,?_⟩,by omega⟩
      rw [tk,List.flatMap_append,hC]
      simp [spF]
     .have e:k=M.length:=by omega
      subst e
      have hki:¬ (M.length:Int)<M.length:=by omega
      rw [List.take_length]
      simp [go_sem,hki]
      exact ⟨1,by omega,by omega,(Off.reset (by intro x hx; simp at hx |-; omega) (by simp) (by simp [go_sem,zaa])),by simp [zS],by simp [zS,go_sem]⟩
    .simp [go_sem,zS]
     exact ⟨⟨by omega,by omega⟩,i+1,by omega,by omega,(Off.reset (by intro x hx; simp at hx |-; omega) (by simp) (by simp [go_sem,zaa])),⟨by rw [hx1],by omega⟩,by simp [hx1,go_sem]⟩
   .have hx:xS n bs i=.own 198 (fldS n (bs.take i)).length ((fldS n (bs.take i)).flatMap spF):=by unfold xS; rw [if_neg hi0]
    rw [hx]
    generalize fldS n (bs.take i)=L at *
    simp [go_sem,hii,md,zhW]
    refine ⟨hb,?_⟩
    refine zac (6::8::10::List.range' 25 29) (fun j:Nat=>[(6,.own 198 (zbL (L.take j) M).length ((zbL (L.take j) M).flatMap spF)),(25,.int j)]) (fun j=>j<=L.length) (fun j=>L.length-j) 0 (by simp) (by simp [go_sem,zbL]) (by simp [go_sem]) ?_
    intro j hj
    by_cases hjl:j<L.length
    .have hji:(j:Int)<L.length:=by omega
     have dr:=ze3 hjl
     have ms:zbL (L.take (j+1)) M=zbL (L.take j) M++M.map fun c=>((L[j]?.getD ([],[],0)).1++c.1,(L[j]?.getD ([],[],0)).2.1++c.2.1,(0:Int)):=by
      rw [List.take_succ_eq_append_getElem hjl,zmr,List.getElem?_eq_getElem hjl]; rfl
     have nL:¬ L.flatMap spF=[]:=by intro e; have:=zaM L; rw [e] at this; simp at this; omega
     have lL:=zaM L
     obtain ⟨s1,s2,s3⟩:=zdZ (l2 _ (memD ([],[],0) hjl))
     have ml:(zbL (L.take j) M).length+M.length<=10000:=by
      rw [zph,List.length_take,Nat.min_eq_left (by omega)]
      have:=Nat.mul_le_mul (show j<=99 by omega) b2
      omega
     generalize L[j]?.getD ([],[],0)=s at *
     obtain ⟨sa,sb,sc⟩:=s
     simp only [spF] at dr
     simp only at s1 s2 s3 ms
     subst s3
     generalize zbL (L.take j) M=A at *
     generalize L.flatMap spF=LC at *
     simp [go_sem,hji,dr]
     refine ⟨nL,?_⟩
     refine ⟨_,_,cI,?_⟩
     simp [go_sem]
     refine zac (6::10::List.range' 32 21) (fun k:Nat=>[(6,.own 198 (A.length+k) ((A++(M.take k).map fun c=>(sa++c.1,sb++c.2.1,(0:Int))).flatMap spF)),(32,.int k)]) (fun k=>k<=M.length) (fun k=>M.length-k) 0 (by simp) (by simp [go_sem]) (by simp [go_sem]) ?_
     intro k hk
     by_cases hkm:k<M.length
     .have hki:(k:Int)<M.length:=by omega
      have dr2:=ze3 hkm
      have nM:¬ M.flatMap spF=[]:=by intro e; have:=zaM M; rw [e] at this; simp at this; omega
      obtain ⟨c1,c2,c3⟩:=zdZ (b3 _ (memD ([],[],0) hkm))
      have tk:(M.take (k+1)).map (fun c=>(sa++c.1,sb++c.2.1,(0:Int)))=(M.take k).map (fun c=>(sa++c.1,sb++c.2.1,(0:Int)))++[(sa++(M[k]?.getD ([],[],0)).1,sb++(M[k]?.getD ([],[],0)).2.1,0)]:=by
       rw [List.take_succ_eq_append_getElem hkm,List.map_append,List.getElem?_eq_getElem hkm]; rfl
      have cA:=zgb sa (M[k]?.getD ([],[],0)).1 (by omega)
      have cC:=zgb sb (M[k]?.getD ([],[],0)).2.1 (by omega)
      generalize M[k]?.getD ([],[],0)=c at *
      obtain ⟨ca,cb,cc⟩:=c
      simp only [spF] at dr2
      simp only at c1 c2 c3 tk cA cC
      subst c3
      have al:(A++(M.take k).map fun c=>(sa++c.1,sb++c.2.1,(0:Int))).length=A.length+k:=by rw [List.length_append,List.length_map,List.length_take]; omega
      have cl:=zaM (A++(M.take k).map fun c=>(sa++c.1,sb++c.2.1,(0:Int)))
      generalize hC:(A++(M.take k).map fun c=>(sa++c.1,sb++c.2.1,(0:Int))).flatMap spF=C at *
      have lM:=zaM M
      generalize hMC:M.flatMap spF=MC at *
      simp [go_sem,hki,dr2]
      refine ⟨⟨nM,by omega⟩,by kernel_rfl,?_⟩
      refine ⟨_,_,cA,?_⟩
      simp [go_sem]
      refine ⟨_,_,cC,?_⟩
      simp [go_sem]
      refine ⟨⟨by rw [cl,al],by omega,by omega⟩,?_⟩
      refine ⟨by kernel_rfl,?_⟩
      simp [go_sem]
      refine ⟨⟨by omega,by omega⟩,k+1,by omega,by omega,zaa _ _ _ (by simp),?_⟩
      refine ⟨⟨by omega,?_⟩,by omega⟩
      rw [<- List.map_take,tk,List.flatMap_append,<- List.append_assoc,<- List.flatMap_append,hC]
      simp [spF]
     .have e:k=M.length:=by omega
      subst e
      have hki:¬ (M.length:Int)<M.length:=by omega
      rw [List.take_length]
      simp [go_sem,hki]
      refine ⟨⟨by omega,by omega⟩,j+1,by omega,by omega,(Off.reset (by intro x hx; simp at hx |-; omega) (by simp) (by simp [go_sem,zaa])),?_⟩
      rw [ms]
      exact ⟨⟨by simp,by rw [List.flatMap_append]⟩,by omega⟩
    .have e:j=L.length:=by omega
     subst e
     have hji:¬ (L.length:Int)<L.length:=by omega
     rw [List.take_length]
     have hx1:xS n bs (i+1)=.own 198 (zbL L M).length ((zbL L M).flatMap spF):=by unfold xS; rw [if_neg (by omega),sn]
     simp [go_sem,hji]
     exact ⟨⟨by omega,by omega⟩,i+1,by omega,by omega,(Off.reset (by intro x hx; simp at hx |-; omega) (by simp) (by simp [go_sem,zaa])),⟨by rw [hx1],by omega⟩,by simp [hx1,go_sem]⟩
  .have e:i=bs.length:=by omega
   subst e
   have hl0:¬ bs.length=0:=by intro e; exact hb (List.length_eq_zero_iff.1 e)
   have hx:xS n bs bs.length=.own 198 (fldS n bs).length ((fldS n bs).flatMap spF):=by unfold xS; rw [if_neg hl0,List.take_length]
   have hii:¬ (bs.length:Int)<bs.length:=by omega
   obtain ⟨l1,l2⟩:=h5 bs.length (Nat.le_refl _)
   rw [List.take_length] at l1 l2
   rw [hx]
   generalize fldS n bs=L at *
   simp [go_sem,hii]
   refine zdR (3::11::12::56::List.range' 58 15) (11::12::List.range' 59 14) (fun j:Nat=>[(3,.own 198 L.length (mxT n L j)),(56,.bor 3 []),(58,.int j)]) (fun j=>j<=L.length) (fun j=>L.length-j) 0 (by intro x i h1 h2; have:i=3\/i=56\/i=58:=(by simp at h1 h2; omega); rcases this with rfl | rfl | rfl <;> rfl) (by intro i h; simp at h |-; omega) (by simp) (by simp [go_sem,zrd]) (by simp [go_sem,kl]) ?_
   intro j hj
   by_cases hjl:j<L.length
   .have hji:(j:Int)<L.length:=by omega
    obtain ⟨s1,s2,s3⟩:=zdZ (l2 _ (memD ([],[],0) hjl))
    obtain ⟨r1,r2,r3⟩:=zkj (h6 _ (memD ([],[],0) hjl))
    have dr:=zrJ n hjl
    have st:=zsJ n hjl
    have ml:=zus n L hj
    have nm:¬ mxT n L j=[]:=by intro e; rw [e] at ml; simp at ml; omega
    have cR:=zeX (L[j]?.getD ([],[],0)).2.1 (by omega) (fun b hb=>⟨by have:=(r3 b hb).1; omega,fun x hx=>by have:=(r3 b hb).2 x hx; omega⟩)
    have cK:=zbQ (n+1) _ h1 r1 r2
    generalize L[j]?.getD ([],[],0)=s at *
    obtain ⟨sa,sb,sc⟩:=s
    simp only [spF] at dr
    simp only at s1 s2 s3 cR cK st
    simp [go_sem,hji,dr]
    refine ⟨⟨nm,by omega⟩,?_⟩
    refine CallVC.of (cR) ?_
    simp [go_sem]
    refine CallVC.of (cK) ?_
    simp [go_sem]
    simp only at r1 r2
    have e:mat [canF (n+1) (zay sb)]=[.sl (zay sb).length (avs (canF (n+1) (zay sb)))]:=by simp [mat,zaF (n+1) (zay sb) r1 r2]
    rw [e] at st
    refine ⟨hjl,nm,by omega,⟨by omega,by omega⟩,j+1,by omega,by omega,zaa _ _ _ (by simp),?_⟩
    first
     | exact ⟨st,by omega⟩
     | (refine ⟨?_,by omega⟩; simpa using st)
     | simp [st]
   .have e:j=L.length:=by omega
    subst e
    have hji:¬ (L.length:Int)<L.length:=by omega
    rw [ztL]
    simp [go_sem,hji]
    refine CallVC.of (cT) ?_
    simp [go_sem]
    refine ⟨⟨?_,by omega,by omega⟩,by simp [mat,zaF (n+1) t h2 h3]⟩
    have:=zaM (L.map (canS n))
    simpa using this
end Go.Proofs.YthhdollpkieknaaGreat


namespace Go.Proofs.YthhdollpkieknaaGreat
open Go.Abs
mutual
inductive NX:AV->AV->Prop
 | same (c:AV):NX c c
 | nil:NX (.val (.slice none 0 0)) (.sl 0 [])
 | sl (n:Nat) {cs cs':List AV} (h:NXL cs cs'):NX (.sl n cs) (.sl n cs')
 | own (e:TypeId) (n:Nat) {cs cs':List AV} (h:NXL cs cs'):NX (.own e n cs) (.own e n cs')
inductive NXL:List AV->List AV->Prop
 | nil:NXL [] []
 | cons {c c':AV} {cs cs':List AV} (h:NX c c') (t:NXL cs cs'):NXL (c::cs) (c'::cs')
end
theorem NXL.same:∀ l:List AV,NXL l l
 | []=>.nil
 | c::l=>.cons (.same c) (NXL.same l)
theorem NXL.app {a b:List AV} (h:NXL a b):∀ {p q:List AV},NXL p q->NXL (p++a) (q++b)
 | _,_,.nil=>h
 | _,_,.cons k t=>.cons k (NXL.app h t)
theorem NXL.ne {a b:List AV} (h:NXL a b) (e:b=[]):a=[]:=by
 cases h with
 | nil=>rfl
 | cons=>simp at e
section
variable {P:Program} {w:World} {F:Nat->Prop}
mutual
theorem NX.rep {c c':AV} {v:Value} {os:List Nat} (h:NX c c') (hr:RepC P w F c v os):RepC P w F c' v os:=by
 cases h with
 | same=>exact hr
 | nil=>cases hr with
  | val _ _=>exact .sl0 none 0
 | sl n h=>cases hr with
  | sl0 base cap=>cases h; exact .sl0 base cap
  | sl b off n cap c e fr cs hF hb hl hn=>exact .sl b off n cap c e fr _ hF hb (NXL.rep h hl) hn
 | own e n h=>cases hr with
  | own0=>cases h; exact .own0 _
  | own b _ _ cap c _ os3 hb hn hc hl=>exact .own b _ _ cap c _ os3 hb hn hc (NXL.rep h hl)
theorem NXL.rep {cs cs':List AV} {vs:List Value} {os:List Nat} (h:NXL cs cs') (hr:RepL P w F cs vs os):RepL P w F cs' vs os:=by
 cases h with
 | nil=>exact hr
 | cons h t=>cases hr with
  | cons _ v os _ vs os' h1 h2=>exact .cons _ _ _ _ _ _ (NX.rep h h1) (NXL.rep t h2)
end
theorem NX.repT {tm:Nat->Value} {oss:Nat->List Nat} {c c':AV} {v:Value} {os:List Nat} (h:NX c c') (hr:RepT P w F tm oss c v os):RepT P w F tm oss c' v os:=by
 cases h with
 | same=>exact hr
 | nil=>cases hr with
  | cell _ _ _ hc=>exact .cell _ _ _ (NX.rep .nil hc)
 | sl n h=>cases hr with
  | cell _ _ _ hc=>exact .cell _ _ _ (NX.rep (.sl n h) hc)
 | own e n h=>cases hr with
  | cell _ _ _ hc=>exact .cell _ _ _ (NX.rep (.own e n h) hc)
theorem NXL.len {cs cs':List AV} (h:NXL cs cs'):cs'.length=cs.length:=by
 induction cs generalizing cs' with
 | nil=>cases h; rfl
 | cons c cs ih=>cases h with
  | cons h t=>rw [List.length_cons,List.length_cons,ih t]
theorem NXL.repT {tm:Nat->Value} {oss:Nat->List Nat} {cs cs':List AV} {vs:List Value} {os:List Nat} (h:NXL cs cs') (hr:RepTL P w F tm oss cs vs os):RepTL P w F tm oss cs' vs os:=by
 induction cs generalizing cs' vs os with
 | nil=>cases h; exact hr
 | cons c cs ih=>cases h with
  | cons h t=>cases hr with
   | cons _ v os _ vs os' h1 h2=>exact .cons _ _ _ _ _ _ (h.repT h1) (ih t h2)
end
theorem GCon.nx [DrawK] {P:Program} {f:FuncId} {args:List AV} {r r':AV} {outs:List AV} (hw:NX r r') (h:GCon P f args r outs):GCon P f args r' outs:=by
 refine ⟨h.1,fun w vs os F0 hl hn ho hF hr=>(h.2 w vs os F0 hl hn ho hF hr).mono ?_⟩
 rintro x w' ⟨v,orr,oo,F',h1,h2,h3,h4,h5,h6⟩
 exact ⟨v,orr,oo,F',h1,h2,h3,h4,fun tm oss=>hw.repT (h5 tm oss),h6⟩
theorem GCon.nxA [DrawK] {P:Program} {f:FuncId} {args:List AV} {cs cs':List AV} {outs:List AV} (hw:NXL cs cs') (h:GCon P f args (.agg cs) outs):GCon P f args (.agg cs') outs:=by
 refine ⟨h.1,fun w vs os F0 hl hn ho hF hr=>(h.2 w vs os F0 hl hn ho hF hr).mono ?_⟩
 rintro x w' ⟨v,orr,oo,F',h1,h2,h3,h4,h5,h6⟩
 refine ⟨v,orr,oo,F',h1,h2,h3,h4,fun tm oss=>?_,h6⟩
 have k:=h5 tm oss
 cases k with
 | cell _ _ _ hc=>cases hc
 | agg _ vs2 os2 hl2 hc=>exact .agg _ _ _ (by rw [hw.len]; exact hl2) (hw.repT hc)
theorem RCon.toG [DrawK] {P:Program} {f:FuncId} {args:List AV} {r:AV} {outs:List AV} (h:RCon P f args fun x o=>x=r/\o=outs):GCon P f args r outs:=by
 refine ⟨h.1,fun w vs os F0 hl hn ho hF hr=>(h.2 w vs os F0 hl hn ho hF hr).mono ?_⟩
 rintro x w' ⟨_,_,⟨rfl,rfl⟩,k⟩
 exact k
theorem GCon.nxL [DrawK] {P:Program} {f:FuncId} {args args':List AV} {r:AV} {outs:List AV} (hw:NXL args args') (h:GCon P f args' r outs):GCon P f args r outs :=
 ⟨h.1,fun w vs os F0 hl hn ho hF hr=>h.2 w vs os F0 (by rw [hw.len]; exact hl) hn ho hF fun tm oss=>hw.repT (hr tm oss)⟩
theorem GCon.frzA [DrawK] {P:Program} {f:FuncId} {args:List AV} {r:AV} {outs:List AV} (h:GCon P f (frzL args) r outs):GCon P f args r (args.map fun _=>.any):=by
 refine ⟨h.1,fun w vs os F0 hl hn ho hF hr=>?_⟩
 have outs:∀ (w':World) (F':Nat->Prop) (vs:List Value) (args:List AV),args.length=vs.length->∀ tm oss,RepTL P w' F' tm oss (args.map fun _=>AV.any) vs []:=by
  intro w' F' vs
  induction vs with
  | nil=>intro args hl tm oss; rw [List.length_eq_zero_iff.1 hl]; exact .nil _
  | cons v vs ih=>intro args hl tm oss; cases args with
   | nil=>simp at hl
   | cons c args=>exact .cons _ _ [] _ _ [] (.any _) (ih args (by simpa using hl) tm oss)
 refine (h.2 w vs [] (fun b=>F0 b\/b∈os) (by rw [zbW,List.length_map]; exact hl) List.nodup_nil (by simp) (fun b hb=>hb.elim (hF b) fun hx=>(ho b hx).1) (fun tm oss=>RepTL.frz (fun b hb=>.inl hb) (hr tm oss) (fun b hb=>.inr hb))).mono ?_
 rintro x w' ⟨v,orr,oo,F',h1,h2,h3,h4,h5,h6,h7,h8,h9⟩
 have h10:=fun b hb=>h9 b (.inl hb)
 refine ⟨v,orr,[],F',h1,⟨h2.os,h2.tape,h2.output,h2.size,fun k hk=>h2.block k ⟨hk.1,by simp⟩,h2.drawn⟩,fun b hb=>h3 b (.inl hb),fun b hb=>?_,h5,fun tm oss=>outs w' F' vs args hl tm oss,by rw [List.length_map]; exact hl,?_,fun b hb=>?_⟩
 .rcases h4 b hb with (hx | hx) | ⟨hx,hy⟩
  .exact .inl hx
  .have k1:=(ho b hx).1
   have k2:=h2.size
   exact .inr ⟨.inl hx,Nat.lt_of_lt_of_le k1 k2⟩
  .exact .inr ⟨.inr (by simpa using hx),hy⟩
 .rw [List.append_nil]; exact (List.nodup_append.1 h8).1
 .have hb:b∈orr:=by simpa using hb
  obtain ⟨k1,k2,k3⟩:=h10 b hb
  exact ⟨.inr (by simpa using k1),k2,k3⟩
theorem GCon.frzR [DrawK] {P:Program} {f:FuncId} {args:List AV} {r r':AV} {outs:List AV} (h:GCon P f args r outs) (e:frz r=r'):GCon P f args r' outs:=by
 subst e
 refine ⟨h.1,fun w vs os F0 hl hn ho hF hr=>(h.2 w vs os F0 hl hn ho hF hr).mono ?_⟩
 rintro x w' ⟨v,orr,oo,F',h1,h2,h3,h4,h5,h6,h7,h8,h9⟩
 refine ⟨v,[],oo,fun b=>F' b\/b∈orr,h1,h2,fun b hb=>.inl (h3 b hb),fun b hb=>?_,fun tm oss=>(h5 tm oss).frz (fun b hb=>.inl hb) (fun b hb=>.inr hb),fun tm oss=>?_,h7,?_,fun b hb=>?_⟩
 .rcases hb with hb | hb
  .exact h4 b hb
  .have:=h9 b (.inl hb)
   exact .inr ⟨this.1,this.2.1⟩
 .have:=RepTL.kl (w':=w') (F':=fun b=>F' b\/b∈orr) (tm':=tm) (oss':=oss) [] (fun b hb=>.inl hb) (fun _ _ _ _ h=>h) (h6 tm oss) (fun _ _=>rfl)
  rwa [zcV] at this
 .exact (List.nodup_append.1 h8).2.1
 .have hb:b∈oo:=by simpa using hb
  obtain ⟨k1,k2,k3⟩:=h9 b (.inr hb)
  refine ⟨k1,k2,fun hf=>?_⟩
  rcases hf with hf | hf
  .exact k3 hf
  .exact (List.nodup_append.1 h8).2.2 b hf b hb rfl
end Go.Proofs.YthhdollpkieknaaGreat


namespace Go.Proofs.YthhdollpkieknaaGreat
open Go.Abs
def gokS (s:Spl):Bool:=(decide (s.1.length<=19) && s.1.all fun r=>decide (r.length<=100)) && (decide (s.2.1.length<=19) && s.2.1.all fun r=>decide (r.length<=100))
def cutL (t:List Int):List Spl:=gthS (srtS ((spl 6 t).map cntF))
theorem zun:(trN 6).all (fun t=>decide ((spl 6 t).length<=1000) && (spl 6 t).all gokS)=true:=by kernel_rfl
theorem zrD:(trN 6).all (fun t=>decide ((cutL t).length<=100) && (cutL t).all fun s=>decide (s.1.length<=6) && (s.1.all (fun r=>decide (r.length<=6)) && (decide (s.2.1.length<=1) && (s.2.1.all (fun r=>decide (1<=r.length) && decide (r.length<=6)) && (decide (0<=s.2.2) && decide (s.2.2<=100))))))=true:=by kernel_rfl
theorem zsc {t:List Int} (h:t∈trN 6):(∀ s∈spl 6 t,(s.1.length<=19/\∀ r∈s.1,r.length<=100)/\(s.2.1.length<=19/\∀ r∈s.2.1,r.length<=100))/\(spl 6 t).length<=1000:=by
 have k:=List.all_eq_true.1 zun t h
 simp only [Bool.and_eq_true,decide_eq_true_eq,List.all_eq_true,gokS] at k
 exact ⟨fun s hs=>k.2 s hs,k.1⟩
theorem zoS {t:List Int} (h:t∈trN 6):(cutL t).length<=100/\∀ s∈cutL t,s.1.length<=6/\(∀ r∈s.1,r.length<=6)/\s.2.1.length<=1/\(∀ r∈s.2.1,1<=r.length/\r.length<=6)/\0<=s.2.2/\s.2.2<=100:=by
 have k:=List.all_eq_true.1 zrD t h
 simp only [Bool.and_eq_true,decide_eq_true_eq,List.all_eq_true] at k
 exact k
def tkL (s:Spl):List Int:=s.2.1.headD []
def cuX (s:Spl):List AV:=[.sl s.1.length (mat s.1),if s.2.1=[] then .val (.slice none 0 0) else .sl (tkL s).length (avs (tkL s)),.int s.2.2]
def cuF (s:Spl):List AV:=[.sl s.1.length (mat s.1),.sl (tkL s).length (avs (tkL s)),.int s.2.2]
theorem zvp:∀ L:List Spl,NXL (L.flatMap cuX) (L.flatMap cuF)
 | []=>.nil
 | s::L=>by
  rw [List.flatMap_cons,List.flatMap_cons]
  refine NXL.app (zvp L) (.cons (.same _) (.cons ?_ (.cons (.same _) .nil)))
  by_cases h:s.2.1=[]
  .rw [if_pos h]
   have e:tkL s=[]:=by unfold tkL; rw [h]; rfl
   rw [e]
   exact .nil
  .rw [if_neg h]; exact .same _
theorem ztv (X:List Spl):(X.flatMap cuX).length=X.length*3:=by
 induction X with
 | nil=>rfl
 | cons s X ih=>rw [List.flatMap_cons,List.length_append,ih]; simp [cuX]; omega
theorem zqV {t:List Int} (h:t∈trN 6):GCon Tryz.prog 161 [.sl t.length (avs t)] (.own 148 (cutL t).length ((cutL t).flatMap cuF)) [.any]:=by
 have cS:=zjA 6 t (List.all_eq_true.1 znK t h)
 have cG:=zl9 (spl 6 t) (zsc h).1 (zsc h).2
 obtain ⟨b1,b2⟩:=zoS h
 refine GCon.nx (.own _ _ (zvp _)) ?_
 unfold cutL at *
 generalize spl 6 t=Z at *
 generalize gthS (srtS (Z.map cntF))=L at *
 refine zaf Tryz.mixed ⟨7,[],[1000000+237,1000000+236],[]⟩ [] Tryz.func161 ?_
 rw [Tryz.ntmps161]
 simp [go_sem]
 refine ⟨_,_,cS,?_⟩
 simp [go_sem]
 refine ⟨_,_,cG,?_⟩
 simp [go_sem]
 refine zac (3::5::6::List.range' 12 23) (fun i:Nat=>[(3,.own 148 i ((L.take i).flatMap cuX)),(12,.int i)]) (fun i=>i<=L.length) (fun i=>L.length-i) 0 (by simp) (by simp [go_sem]) (by simp [go_sem]) ?_
 intro i hi
 by_cases hib:i<L.length
 .have hii:(i:Int)<L.length:=by omega
  have dr:=ze3 hib
  have nL:¬ L.flatMap spF=[]:=by intro e; have:=zaM L; rw [e] at this; simp at this; omega
  have hm:=memD ([],[],0) hib
  obtain ⟨c1,c2,c3,c4,c5,c6⟩:=b2 _ hm
  have tk:L.take (i+1)=L.take i++[L[i]?.getD ([],[],0)]:=by
   rw [List.take_succ_eq_append_getElem hib,List.getElem?_eq_getElem hib]; rfl
  have cl:=ztv (L.take i)
  rw [List.length_take,Nat.min_eq_left (by omega)] at cl
  have lL:=zaM L
  generalize L[i]?.getD ([],[],0)=s at *
  obtain ⟨a,b,k⟩:=s
  simp only [spF] at dr
  simp only at c1 c2 c3 c4 c5 c6
  generalize hC:(L.take i).flatMap cuX=C at *
  generalize hMC:L.flatMap spF=MC at *
  cases b with
  | nil =>
   simp [go_sem,hii,dr]
   refine ⟨⟨nL,by omega⟩,?_⟩
   refine ⟨⟨by rw [cl],by omega,by omega⟩,⟨by omega,by omega⟩,i+1,by omega,by omega,zaa _ _ _ (by simp),?_⟩
   rw [tk,List.flatMap_append,hC]
   refine ⟨⟨by omega,?_⟩,by omega⟩
   simp [cuX,tkL]
  | cons r b =>
   have e:b=[]:=List.length_eq_zero_iff.1 (by simpa using c3)
   subst e
   simp [go_sem,hii,dr,mat]
   refine ⟨⟨nL,by omega⟩,?_⟩
   refine ⟨⟨by rw [cl],by omega,by omega⟩,⟨by omega,by omega⟩,i+1,by omega,by omega,zaa _ _ _ (by simp),?_⟩
   rw [tk,List.flatMap_append,hC]
   refine ⟨⟨by omega,?_⟩,by omega⟩
   simp [cuX,tkL,mat]
 .have e:i=L.length:=by omega
  subst e
  have hii:¬ (L.length:Int)<L.length:=by omega
  rw [List.take_length]
  simp [go_sem,hii]
end Go.Proofs.YthhdollpkieknaaGreat

