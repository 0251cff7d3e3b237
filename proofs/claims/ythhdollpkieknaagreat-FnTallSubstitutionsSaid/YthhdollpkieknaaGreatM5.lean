/- Texts of the own layer and contracts, part 5: C0 C1 C4 C5 C6 C7 C8 C2 C9 C10 C11 C12 C13 N0 N1 P0 F0 F1 F2 F3 F4 F5 F6 P1 P2 P3 P4 P5 P6 F7 Q0 G0 G1 Q1 Q2 L3 Q9 Q10 Q11 Q12 Q13 Q3 Q4 Q5 P7 Q6 Q7 Q8 Q14 Q15 Q16 Q17 Q18 B0 B1 B10 B11 B12 B13 E8 B2 B3 C3 B4 B5 B6 B7 B8 B9 B14 B15 B16 R1 R2 R3 R7 R8 R9 E9 R4 C14 W16 N11 Q29 Q35 Q37 V0 Q42 V14 W31 V13 W32 W17 Q41 Q43 E11 N8 W44 E41 E42 N3 W45 W46 N9 W48 W47 N10. -/
import Derived.RangeFuncNested
import Derived.RangeFuncBox
import Derived.RangeFuncBound
import Derived.RangeFuncCalls
import Derived.RangeFuncLeaves
import Derived.Shelf.Abstract
import Derived.WalkKit
import Derived.OwnWalkIn
import Derived.TacticsInMore
import Derived.LoopNIn
import Derived.LoopIn
import Derived.Stop.RegionWithIn
import Derived.Lib.AppendZerosOnto
import Derived.Lib.Walk
import Derived.Shelf.RegionOpenPlain
import Derived.Lib.SliceRun
import Derived.Test.YthhdollpkieknaaGreatM4
set_option linter.unusedSectionVars false
set_option linter.unusedVariables false
set_option linter.unusedSimpArgs false
set_option maxHeartbeats 4000000
set_option maxRecDepth 100000
namespace Go.Abs
def avs (xs:List Int):List AV:=xs.map AV.int
@[simp] theorem zsq (xs:List Int):(avs xs).length=xs.length:=by simp [avs]
@[simp] theorem zr6:avs []=[]:=rfl
theorem zaE (xs:List Int) (x:Int):avs (xs++[x])=avs xs++[.val (.int .i64 x)]:=by simp [avs]
theorem zcv (xs:List Int) (x:Int):avs (x::xs)=.val (.int .i64 x)::avs xs:=by simp [avs]
theorem zkw (xs ys:List Int):avs (xs++ys)=avs xs++avs ys:=by simp [avs]
theorem zaq {xs:List Int} {k:Nat} (h:k<xs.length):(avs xs).drop k=.val (.int .i64 (xs.getD k 0))::avs (xs.drop (k+1)):=by
 rw [avs,<- List.map_drop,List.drop_eq_getElem_cons h,List.map_cons]; simp [h,avs]
@[simp] theorem zrZ {xs ys:List Int}:(avs xs=avs ys)=(xs=ys):=by
 apply propext
 constructor
 .intro h
  induction xs generalizing ys with
  | nil=>cases ys with
   | nil=>rfl
   | cons y ys=>simp [avs] at h
  | cons x xs ih=>cases ys with
   | nil=>simp [avs] at h
   | cons y ys =>
    rw [zcv,zcv] at h
    injection h with h1 h2
    injection h1 with h1
    injection h1 with _ h1
    rw [h1,ih h2]
 .rintro rfl; rfl
theorem zaM (xs:List Int) (k:Nat) (x:Int):(avs xs).set k (.val (.int .i64 x))=avs (xs.set k x):=by
 simp [avs,List.map_set]
theorem zms (n:Nat) (x:Int):List.replicate n (AV.val (.int .i64 x))=avs (List.replicate n x):=by simp [avs]
@[simp] theorem zqO (xs:List Int):zap (avs xs)=true:=by
 induction xs with
 | nil=>rfl
 | cons x xs ih=>simp [zcv,zap,ih,zar]
@[simp] theorem zfs (xs:List Int):frzL (avs xs)=avs xs:=by
 induction xs with
 | nil=>rfl
 | cons x xs ih=>simp [zcv,frzL,ih,frz]
@[simp] theorem zsX (W:List Nat) (xs:List Int):klL W (avs xs)=avs xs:=by
 induction xs with
 | nil=>rfl
 | cons x xs ih=>simp [zcv,klL,ih,kl]
@[simp] theorem zse (xs:List Int):zaD (avs xs)=false:=by
 induction xs with
 | nil=>rfl
 | cons x xs ih=>simp [zcv,zaD,ih,zbg]
@[simp] theorem zsT {xs:List Int}:(avs xs=[])=(xs=[]):=by
 cases xs <;> simp [avs]
theorem zoN {n:Int} (h:0<=n) (m:Int):n.tmod m=n%m:=Int.tmod_eq_emod_of_nonneg h
theorem zo9 {n:Int} (h:0<=n) (m:Int):n.tdiv m=n / m:=Int.tdiv_eq_ediv_of_nonneg h
theorem zhG (n:Int):(n.tmod 10007+10007).tmod 10007=n%10007:=by
 rw [Int.tmod_eq_emod,Int.tmod_eq_emod]; split <;> split <;> simp_all <;> omega
theorem zhK (n:Int) : -10007<n.tmod 10007/\n.tmod 10007<10007:=by
 constructor
 .rw [Int.tmod_eq_emod]; split <;> simp_all <;> omega
 .exact Int.tmod_lt_of_pos n (by omega)
end Go.Abs


namespace Go.Proofs.YthhdollpkieknaaGreat
open Go.Abs
theorem zce (n a b:Int):Con Tryz.prog 103 [.int n,.int a,.int b] (.bool (decide (a<=n) && decide (n<=b))):=by
 refine zab Tryz.mixed ⟨4,[],[],[]⟩ Tryz.func103 ?_
 rw [Tryz.ntmps103]
 simp [go_sem]
 refine ⟨fun h=>?_,fun h=>?_⟩ <;> simp at h <;> simp [go_sem,h] <;> omega
theorem zot (n a b:Int):Con Tryz.prog 119 [.int n,.int a,.int b] (.bool (decide (a<=n) && decide (n<=b))):=by
 refine zab Tryz.mixed ⟨4,[],[],[]⟩ Tryz.func119 ?_
 rw [Tryz.ntmps119]
 simp [go_sem]
 refine ⟨fun h=>?_,fun h=>?_⟩ <;> simp at h <;> simp [go_sem,h] <;> omega
def upTo (k:Nat):List Int:=(List.range k).map fun (i:Nat)=>(i:Int)
theorem zf6 (k:Nat):upTo (k+1)=upTo k++[(k:Int)]:=by simp [upTo,List.range_succ]
@[simp] theorem zrp (k:Nat):(upTo k).length=k:=by simp [upTo]
def tall (n:Int):AV:=if 1<=n/\n<=8 then .tup [.own 2 n.toNat (avs (upTo n.toNat)),.int 0] else .tup [.val (.slice none 0 0),.int 2]
theorem zjD (n:Int):Con Tryz.prog 31 [.int n] (tall n):=by
 unfold tall
 by_cases hn:1<=n/\n<=8
 .rw [if_pos hn]
  refine zab Tryz.mixed ⟨5,[],[],[]⟩ Tryz.func31 ?_
  rw [Tryz.ntmps31]
  simp [go_sem]
  refine CallVC.of (zce _ _ _) ?_
  simp [go_sem]
  refine ⟨fun h=>?_,fun _=>?_⟩
  .simp at h; omega
  simp [go_sem]
  refine zac [12,13,5,14,15,16,17,4,18,11] (fun k:Nat=>[(4,.own 2 k (avs (upTo k))),(11,.int k)]) (fun k=>(k:Int)<=n) (fun k=>n.toNat-k) 0 (by omega) (by simp [go_sem,upTo]) (by simp [go_sem]) ?_
  intro k hk
  simp [go_sem]
  refine ⟨fun h=>?_,fun h=>?_⟩ <;> simp at h <;> simp [go_sem]
  .refine ⟨by omega,by omega,k+1,by omega,by omega,zaa _ _ _ (by simp),?_⟩
   simp [zf6,zaE]
  .have:n.toNat=k:=by omega
   simp [this]
 .rw [if_neg hn]
  refine zab Tryz.mixed ⟨5,[],[],[]⟩ Tryz.func31 ?_
  rw [Tryz.ntmps31]
  simp [go_sem]
  refine CallVC.of (zce _ _ _) ?_
  simp [go_sem]
  refine ⟨fun h=>?_,fun h=>?_⟩ <;> simp at h <;> simp [go_sem]
  omega
def held (xs:List Int) (k:Int):Int:=if xs=(List.range xs.length).map (fun (i:Nat)=>k+i) then k+xs.length else -1
end Go.Proofs.YthhdollpkieknaaGreat


namespace Go.Proofs.YthhdollpkieknaaGreat
open Go.Abs
def idxF {α:Type} (p:α->Bool):List α->Int
 | [] => -1
 | x::xs=>if p x then 0 else if idxF p xs = -1 then -1 else idxF p xs+1
theorem zg8 {α:Type} (p:α->Bool):∀ xs:List α,-1<=idxF p xs/\idxF p xs<xs.length
 | []=>by simp [idxF]
 | x::xs=>by
  have:=zg8 p xs
  simp only [idxF,List.length_cons]
  split
  .omega
  .split <;> omega
theorem zmE {α:Type} (p:α->Bool) (xs:List α):decide (0<=idxF p xs)=xs.any p:=by
 induction xs with
 | nil=>simp [idxF]
 | cons x xs ih =>
  have:=zg8 p xs
  simp only [idxF,List.any_cons,<- ih]
  by_cases hp:p x=true
  .simp [hp]
  .simp only [hp]
   simp
   split
   .rename_i e; simp [e]
   .by_cases h:0<=idxF p xs <;> simp [h] <;> omega
theorem zg0 {α:Type} (p:α->Bool):∀ (xs:List α) (i:Nat),(∀ x∈xs.take i,p x=false)->i<=xs.length->(idxF p xs=if idxF p (xs.drop i) = -1 then -1 else idxF p (xs.drop i)+i)
 | xs,0,h,hl=>by simp
 | [],i+1,h,hl=>by simp at hl
 | x::xs,i+1,h,hl=>by
  have h1:p x=false:=h x (by simp)
  have h2:=zg0 p xs i (fun y hy=>h y (by simp [hy])) (by simpa using hl)
  simp only [idxF,h1,List.drop_succ_cons]
  have:=(zg8 p (xs.drop i)).1
  simp
  rw [h2]
  split
  .simp
  .rename_i hne
   rw [if_neg (by omega)]
   omega
theorem zgI (g:FuncId) (p:Int->Bool) (xs:List Int) (hl:xs.length<=9223372036854775807) (hg:∀ x∈xs,Con Tryz.prog g [.int x] (.bool (p x))) :
  Con Tryz.prog 277 [.sl xs.length (avs xs),.val (.func (.func g) #[] #[])] (.int (idxF p xs)):=by
 refine zab Tryz.mixed ⟨6,[],[],[]⟩ Tryz.func277 ?_
 rw [Tryz.ntmps277]
 simp [go_sem]
 refine zac (5::List.range' 8 20) (fun i:Nat=>[(8,.int i)]) (fun i=>i<=xs.length/\∀ x∈xs.take i,p x=false) (fun i=>xs.length-i) 0 (by simp) (by simp [go_sem]) (by simp [go_sem]) ?_
 rintro i ⟨hi,hf⟩
 simp [go_sem]
 have sk:=zg0 p xs i hf hi
 refine ⟨fun h=>?_,fun h=>?_⟩ <;> simp at h
 .have hx:xs[i]?.getD 0∈xs:=by simp [h]
  have hd:xs.drop i=xs[i]?.getD 0::xs.drop (i+1):=by rw [List.drop_eq_getElem_cons h]; simp [h]
  simp [go_sem,zaq h]
  refine ⟨⟨h,by rintro rfl; simp at h⟩,CallVC.of (hg _ hx) ?_⟩
  simp [go_sem]
  refine ⟨fun h2=>?_,fun h2=>?_⟩ <;> simp [go_sem]
  .rw [sk,hd]; simp [idxF,h2]
  .refine ⟨by omega,i+1,⟨by omega,?_⟩,by omega,zaa _ _ _ (by simp),by omega⟩
   intro x hx2
   rw [List.take_add_one,List.getElem?_eq_getElem h,Option.toList_some,List.mem_append,List.mem_singleton] at hx2
   rcases hx2 with hx2 | hx2
   .exact hf x hx2
   .rw [hx2]; simpa [h] using h2
 .simp [go_sem]
  rw [sk,List.drop_eq_nil_of_le h]; simp [idxF]
theorem zd5 (g:FuncId) (p:Int->Bool) (xs:List Int) (hl:xs.length<=9223372036854775807) (hg:∀ x∈xs,Con Tryz.prog g [.int x] (.bool (p x))) :
  Con Tryz.prog 231 [.sl xs.length (avs xs),.val (.func (.func g) #[] #[])] (.bool (xs.any p)):=by
 refine zab Tryz.mixed ⟨5,[],[],[]⟩ Tryz.func231 ?_
 rw [Tryz.ntmps231]
 simp [go_sem]
 refine CallVC.of (zgI g p xs hl hg) ?_
 simp [go_sem,zmE]
theorem zfk (a:Int):Con Tryz.prog 93 [.int a] (.bool (decide (0<=a/\a<=10006))):=by
 refine zab Tryz.mixed ⟨3,[],[],[]⟩ Tryz.func93 ?_
 rw [Tryz.ntmps93]
 simp [go_sem]
 refine CallVC.of (zce _ _ _) ?_
 simp [go_sem]
theorem zhw (a:Int):Con Tryz.prog 232 [.int a] (.bool (!decide (0<=a/\a<=10006))):=by
 refine zab Tryz.mixed ⟨3,[],[],[]⟩ Tryz.func232 ?_
 rw [Tryz.ntmps232]
 simp [go_sem]
 refine CallVC.of (zfk _) ?_
 simp [go_sem]
def zdF (xs:List Int):Bool:=xs.all fun a=>decide (0<=a/\a<=10006)
theorem zb1 (xs:List Int) (hl:xs.length<=9223372036854775807):Con Tryz.prog 156 [.sl xs.length (avs xs)] (.bool (zdF xs)):=by
 refine zab Tryz.mixed ⟨3,[],[],[]⟩ Tryz.func156 ?_
 rw [Tryz.ntmps156]
 simp [go_sem]
 refine CallVC.of (zd5 _ _ xs hl (fun x _=>zhw x)) ?_
 simp [go_sem,zdF,List.not_any_eq_all_not]
end Go.Proofs.YthhdollpkieknaaGreat


namespace Go.Proofs.YthhdollpkieknaaGreat
open Go.Abs
def mat (xss:List (List Int)):List AV:=xss.map fun r=>.sl r.length (avs r)
@[simp] theorem zrQ (xss:List (List Int)):(mat xss).length=xss.length:=by simp [mat]
theorem zat {xss:List (List Int)} {k:Nat} (h:k<xss.length):(mat xss).drop k=.sl (xss[k]?.getD []).length (avs (xss[k]?.getD []))::mat (xss.drop (k+1)):=by
 rw [mat,<- List.map_drop,List.drop_eq_getElem_cons h,List.map_cons]; simp [h,mat]
@[simp] theorem zsV {xss:List (List Int)}:(mat xss=[])=(xss=[]):=by cases xss <;> simp [mat]
theorem ziX (n:Nat) (cs:List AV) (hn:n<=9223372036854775807):Con Tryz.prog 155 [.sl n cs] (.int n):=by
 refine zab Tryz.mixed ⟨3,[],[],[]⟩ Tryz.func155 ?_
 rw [Tryz.ntmps155]
 simp [go_sem]
 try omega
end Go.Proofs.YthhdollpkieknaaGreat


namespace Go.Proofs.YthhdollpkieknaaGreat
open Go.Abs
end Go.Proofs.YthhdollpkieknaaGreat


namespace Go.Proofs.YthhdollpkieknaaGreat
open Go.Abs
def omat (A:List (List Int)):List AV:=A.map fun r=>.own 2 r.length (avs r)
@[simp] theorem zrE (A:List (List Int)):(omat A).length=A.length:=by simp [omat]
@[simp] theorem zrA (A:List (List Int)):frzL (omat A)=mat A:=by
 induction A with
 | nil=>rfl
 | cons r A ih=>simp only [omat,mat,List.map_cons,frzL] at ih |-; rw [ih]; simp [frz]
@[simp] theorem zdo (A:List (List Int)):zap (omat A)=true:=by
 induction A with
 | nil=>rfl
 | cons r A ih=>simp only [omat,List.map_cons,zap] at ih |-; rw [ih]; simp [zar]
end Go.Proofs.YthhdollpkieknaaGreat


namespace Go.Proofs.YthhdollpkieknaaGreat
open Go.Abs
def sumL:List (List Int)->Nat
 | []=>0
 | r::rs=>r.length+sumL rs
theorem zct (A C:List (List Int)):sumL (A++C)=sumL A+sumL C:=by
 induction A with
 | nil=>simp [sumL]
 | cons r A ih=>simp [sumL,ih]; omega
theorem zl8 {A:List (List Int)} {i:Nat} (h:i<A.length):sumL (A.take (i+1))=sumL (A.take i)+(A[i]?.getD []).length:=by
 rw [List.take_add_one,zct]; simp [h,sumL]
theorem zoQ (A:List (List Int)) (i:Nat):sumL (A.take i)<=sumL A:=by
 have:=congrArg sumL (List.take_append_drop i A)
 rw [zct] at this; omega
end Go.Proofs.YthhdollpkieknaaGreat


namespace Go.Proofs.YthhdollpkieknaaGreat
open Go.Abs
def pw (a k:Int):Int:=a ^ k.toNat%10007
theorem zeL (n:Int) (h0 : -9223372036854775808<=n) (h1:n<=9223372036854775807):Con Tryz.prog 81 [.int n] (.int (n%10007)):=by
 have e:=zhG n
 have b:=zhK n
 refine zab Tryz.mixed ⟨3,[],[],[]⟩ Tryz.func81 ?_
 rw [Tryz.ntmps81]
 simp [go_sem,e]
 omega
theorem zdI (n:Int) (h0 : -9223372036854775808<=n) (h1:n<=9223372036854775807):Con Tryz.prog 214 [.int n] (.int (n%10007)):=by
 have e:=zhG n
 have b:=zhK n
 refine zab Tryz.mixed ⟨3,[],[],[]⟩ Tryz.func214 ?_
 rw [Tryz.ntmps214]
 simp [go_sem,e]
 omega
def fits (n:Int):Prop := -9223372036854775808<=n/\n<=9223372036854775807
theorem zcU (a b:Int) (h:fits (a*b)):Con Tryz.prog 124 [.int a,.int b] (.int (a*b%10007)):=by
 refine zab Tryz.mixed ⟨5,[],[],[]⟩ Tryz.func124 ?_
 rw [Tryz.ntmps124]
 simp [go_sem]
 refine ⟨h,CallVC.of (zdI _ h.1 h.2) ?_⟩
 simp [go_sem]
theorem ziF (a b:Int) (h:fits (a+b)):Con Tryz.prog 192 [.int a,.int b] (.int ((a+b)%10007)):=by
 refine zab Tryz.mixed ⟨5,[],[],[]⟩ Tryz.func192 ?_
 rw [Tryz.ntmps192]
 simp [go_sem]
 refine ⟨h,CallVC.of (zdI _ h.1 h.2) ?_⟩
 simp [go_sem]
def isN (a:Int):Prop:=0<=a/\a<10007
theorem zaG (n:Int):isN (n%10007):=⟨Int.emod_nonneg _ (by omega),Int.emod_lt_of_pos _ (by omega)⟩
theorem zf7 {a b:Int} (ha:isN a) (hb:isN b):0<=a*b/\a*b<=100120036:=by
 obtain ⟨a0,a1⟩:=ha
 obtain ⟨b0,b1⟩:=hb
 exact ⟨Int.mul_nonneg a0 b0,Int.le_trans (Int.mul_le_mul_of_nonneg_right (show a<=10006 by omega) b0) (by omega)⟩
theorem zaS {a b:Int} (ha:isN a) (hb:isN b):fits (a*b):=by
 have:=zf7 ha hb
 exact ⟨by omega,by omega⟩
theorem zpm (a:Int) (k:Nat):(a%10007) ^ k%10007=a ^ k%10007:=by
 induction k with
 | zero=>simp
 | succ k ih=>rw [Int.pow_succ,Int.pow_succ,Int.mul_emod,ih,Int.emod_emod,<- Int.mul_emod]
theorem zrh (a:Int) (q:Nat):(a*a) ^ q=a ^ (2*q):=by
 induction q with
 | zero=>simp
 | succ q ih=>rw [Int.pow_succ,ih,show 2*(q+1)=2*q+1+1 by omega,Int.pow_succ,Int.pow_succ,Int.mul_assoc]
theorem zgi (o x:Int):o*(x%10007)%10007=o*x%10007:=by
 rw [Int.mul_emod,Int.emod_emod,<- Int.mul_emod]
theorem zlo (o x:Int):(x%10007)*o%10007=x*o%10007:=by
 rw [Int.mul_emod,Int.emod_emod,<- Int.mul_emod]
theorem zhp (o a:Int) (q:Nat):o*(a*a%10007) ^ q%10007=o*a ^ (2*q)%10007:=by
 rw [<- zgi,zpm,zgi,zrh]
theorem zol (o a:Int) (q:Nat):(o*a%10007)*(a*a%10007) ^ q%10007=o*a ^ (2*q+1)%10007:=by
 rw [zhp,zlo,Int.pow_succ,Int.mul_assoc,Int.mul_comm (a ^ (2*q)) a]
theorem zbM (j:Nat):(j:Int).tdiv 2=((j / 2:Nat):Int):=by rw [zo9 (by omega)]; omega
theorem zcu (j:Nat):(j:Int).tmod 2=((j%2:Nat):Int):=by rw [zoN (by omega)]; omega
theorem zrN (a k:Int) (ha:isN a) (hk:0<=k) (hk2:k<=9223372036854775807):Con Tryz.prog 116 [.int a,.int k] (.int (pw a k)):=by
 refine zab Tryz.mixed ⟨6,[],[],[]⟩ Tryz.func116 ?_
 rw [Tryz.ntmps116]
 simp [go_sem]
 refine zac (0::1::List.range' 4 30) (fun x:Int × Nat × Int=>[(0,.int x.1),(1,.int x.2.1),(5,.int x.2.2)])
  (fun x=>isN x.1/\(x.2.1:Int)<=9223372036854775807/\isN x.2.2/\x.2.2*x.1 ^ x.2.1%10007=a ^ k.toNat%10007) (fun x=>x.2.1) (a,k.toNat,1) ⟨ha,by simp; omega,⟨by simp,by simp⟩,by simp⟩ (by simp [go_sem]; omega) (by simp [go_sem]) ?_
 rintro ⟨b,j,o⟩ ⟨hb,hj,ho,he⟩
 simp only at hb hj ho he
 have f1:=zaS hb hb
 have f2:=zaS ho hb
 simp [go_sem]
 refine ⟨fun h=>?_,fun h=>?_⟩ <;> simp at h
 .simp [go_sem,zbM,zcu]
  refine ⟨fun h2=>?_,fun h2=>?_⟩ <;> simp at h2 <;> simp [go_sem]
  .refine ⟨f2,CallVC.of (zeL _ f2.1 f2.2) ?_⟩
   simp [go_sem]
   refine ⟨f1,CallVC.of (zeL _ f1.1 f1.2) ?_⟩
   simp [go_sem,zbM,zcu]
   refine ⟨by omega,b*b%10007,j / 2,o*b%10007,⟨zaG _,by omega,zaG _,?_⟩,by omega,zaa _ _ _ (by simp),rfl,by omega,rfl⟩
   rw [zol,show 2*(j / 2)+1=j by omega,he]
  .refine ⟨f1,CallVC.of (zeL _ f1.1 f1.2) ?_⟩
   simp [go_sem,zbM,zcu]
   refine ⟨by omega,b*b%10007,j / 2,o,⟨zaG _,by omega,ho,?_⟩,by omega,zaa _ _ _ (by simp),rfl,by omega,rfl⟩
   rw [zhp,show 2*(j / 2)=j by omega,he]
 .simp [go_sem]
  subst h
  unfold pw
  rw [<- he]
  simp
  rw [Int.emod_eq_of_lt ho.1 ho.2]
theorem zmU (a k:Int) (ha:isN a) (hk:0<=k) (hk2:k<=9223372036854775807):Con Tryz.prog 122 [.int a,.int k] (.int (pw a k)):=by
 refine zab Tryz.mixed ⟨6,[],[],[]⟩ Tryz.func122 ?_
 rw [Tryz.ntmps122]
 simp [go_sem]
 refine zac (0::1::List.range' 4 30) (fun x:Int × Nat × Int=>[(0,.int x.1),(1,.int x.2.1),(5,.int x.2.2)])
  (fun x=>isN x.1/\(x.2.1:Int)<=9223372036854775807/\isN x.2.2/\x.2.2*x.1 ^ x.2.1%10007=a ^ k.toNat%10007) (fun x=>x.2.1) (a,k.toNat,1) ⟨ha,by simp; omega,⟨by simp,by simp⟩,by simp⟩ (by simp [go_sem]; omega) (by simp [go_sem]) ?_
 rintro ⟨b,j,o⟩ ⟨hb,hj,ho,he⟩
 simp only at hb hj ho he
 have f1:=zaS hb hb
 have f2:=zaS ho hb
 simp [go_sem]
 refine ⟨fun h=>?_,fun h=>?_⟩ <;> simp at h
 .simp [go_sem,zbM,zcu]
  refine ⟨fun h2=>?_,fun h2=>?_⟩ <;> simp at h2 <;> simp [go_sem]
  .refine CallVC.of (zcU _ _ f2) ?_
   simp [go_sem]
   refine CallVC.of (zcU _ _ f1) ?_
   simp [go_sem,zbM,zcu]
   refine ⟨by omega,b*b%10007,j / 2,o*b%10007,⟨zaG _,by omega,zaG _,?_⟩,by omega,zaa _ _ _ (by simp),rfl,by omega,rfl⟩
   rw [zol,show 2*(j / 2)+1=j by omega,he]
  .refine CallVC.of (zcU _ _ f1) ?_
   simp [go_sem,zbM,zcu]
   refine ⟨by omega,b*b%10007,j / 2,o,⟨zaG _,by omega,ho,?_⟩,by omega,zaa _ _ _ (by simp),rfl,by omega,rfl⟩
   rw [zhp,show 2*(j / 2)=j by omega,he]
 .simp [go_sem]
  subst h
  unfold pw
  rw [<- he]
  simp
  rw [Int.emod_eq_of_lt ho.1 ho.2]
theorem znU (a:Int) (ha:isN a):Con Tryz.prog 126 [.int a] (.int (pw a 10005)):=by
 refine zab Tryz.mixed ⟨3,[],[],[]⟩ Tryz.func126 ?_
 rw [Tryz.ntmps126]
 simp [go_sem]
 refine CallVC.of (zmU _ _ ha (by omega) (by omega)) ?_
 simp [go_sem]
end Go.Proofs.YthhdollpkieknaaGreat


namespace Go.Proofs.YthhdollpkieknaaGreat
open Go.Abs
end Go.Proofs.YthhdollpkieknaaGreat


namespace Go.Proofs.YthhdollpkieknaaGreat
open Go.Abs
def Ns (xs:List Int):Prop:=∀ x∈xs,isN x
theorem Ns.get {xs:List Int} (h:Ns xs) (k:Nat):isN (xs[k]?.getD 0):=by
 rcases Nat.lt_or_ge k xs.length with hk | hk
 .simp [hk]; exact h _ (List.getElem_mem hk)
 .simp [hk]; exact ⟨by omega,by omega⟩
theorem Ns.take {xs:List Int} (h:Ns xs) (k:Nat):Ns (xs.take k):=fun x hx=>h x (List.mem_of_mem_take hx)
theorem Ns.snoc {xs:List Int} (h:Ns xs) {x:Int} (hx:isN x):Ns (xs++[x]):=fun y hy=>by
 rcases List.mem_append.1 hy with hy | hy
 .exact h y hy
 .simp at hy; subst hy; exact hx
theorem Ns.nil:Ns []:=by intro x hx; simp at hx
def Mat (n:Nat) (A:List (List Int)):Prop:=∀ r∈A,r.length=n/\Ns r
theorem Mat.get {n:Nat} {A:List (List Int)} (h:Mat n A) {k:Nat} (hk:k<A.length):(A[k]?.getD []).length=n/\Ns (A[k]?.getD []):=by
 rw [List.getElem?_eq_getElem hk]; exact h _ (List.getElem_mem hk)
end Go.Proofs.YthhdollpkieknaaGreat


namespace Go.Proofs.YthhdollpkieknaaGreat
open Go.Abs
abbrev u64 (n:Int):AV:=.val (.int .u64 n)
theorem zcp {x:Int} (h0:0<=x) (h1:x<18446744073709551616):IntKind.wrap .u64 x=x:=zdn (by
 have e1:IntKind.min .u64=0:=by decide
 have e2:IntKind.max .u64=18446744073709551615:=by decide
 unfold inK; rw [e1,e2]; omega)
end Go.Proofs.YthhdollpkieknaaGreat


namespace Go.Proofs.YthhdollpkieknaaGreat
open Go.Abs
theorem zeO (a:Int):Con Tryz.prog 266 [.int a] (.bool (decide (0<=a/\a<=10006))):=by
 refine zab Tryz.mixed ⟨3,[],[],[]⟩ Tryz.func266 ?_
 rw [Tryz.ntmps266]
 simp [go_sem]
 refine CallVC.of (zot _ _ _) ?_
 simp [go_sem]
theorem zkf {xs:List Int} {i:Nat} (h:i<xs.length) (hb:¬ (0<=xs[i]?.getD 0/\xs[i]?.getD 0<=10006)):zdF xs=false:=by
 rw [List.getElem?_eq_getElem h] at hb
 simp only [Option.getD_some] at hb
 unfold zdF
 rw [List.all_eq_false]
 exact ⟨xs[i],List.getElem_mem h,by simpa using hb⟩
theorem zmM {xs:List Int} (h:∀ x∈xs,0<=x/\x<=10006):zdF xs=true:=by
 unfold zdF
 rw [List.all_eq_true]
 intro x hx
 simpa using h x hx
theorem zhN {xs:List Int}:zdF xs=true ↔ Ns xs:=by
 unfold zdF Ns isN
 rw [List.all_eq_true]
 constructor
 .intro h x hx
  have:=h x hx
  simp at this; omega
 .intro h x hx
  have:=h x hx
  simp; omega
theorem zmm {α:Type} {p:α->Prop} {xs:List α} {i:Nat} (h:i<xs.length) (h1:∀ x∈xs.take i,p x) (h2:p xs[i]):∀ x∈xs.take (i+1),p x:=by
 intro x hx
 rw [List.take_add_one,List.getElem?_eq_getElem h,Option.toList_some,List.mem_append,List.mem_singleton] at hx
 rcases hx with hx | rfl
 .exact h1 x hx
 .exact h2
theorem zgo (xs:List Int) (hl:xs.length<=9223372036854775807):Con Tryz.prog 208 [.sl xs.length (avs xs)] (.bool (zdF xs)):=by
 refine zab Tryz.mixed ⟨4,[],[],[]⟩ Tryz.func208 ?_
 rw [Tryz.ntmps208]
 simp [go_sem]
 refine zac (List.range' 2 14) (fun i:Nat=>[(3,.int i)]) (fun i=>i<=xs.length/\∀ x∈xs.take i,0<=x/\x<=10006) (fun i=>xs.length-i) 0 (by simp) (by simp [go_sem]) (by simp [go_sem]) ?_
 rintro i ⟨hi,hp⟩
 simp [go_sem]
 refine ⟨fun h=>?_,fun h=>?_⟩ <;> simp at h
 .simp [go_sem,zaq h]
  refine ⟨⟨h,by rintro rfl; simp at h⟩,?_⟩
  refine CallVC.of (zeO _) ?_
  by_cases hb:0<=xs[i]?.getD 0/\xs[i]?.getD 0<=10006
  .simp [go_sem,hb]
   refine ⟨by omega,i+1,⟨by omega,?_⟩,by omega,zaa _ _ _ (by simp),by omega⟩
   rw [List.getElem?_eq_getElem h,Option.getD_some] at hb
   exact zmm h hp hb
  .have e:decide (0<=xs[i]?.getD 0/\xs[i]?.getD 0<=10006)=false:=by simpa using hb
   rw [e]
   simp [go_sem]
   exact zkf h hb
 .simp [go_sem]
  have e:i=xs.length:=by omega
  subst e
  rw [List.take_length] at hp
  exact zmM hp
structure Tab (A:List (List Int)) (B:List Int):Prop where
 pos:1<=B.length
 le:B.length<=8
 len:A.length=B.length
 b:Ns B
 a:Mat B.length A
end Go.Proofs.YthhdollpkieknaaGreat


namespace Go.Proofs.YthhdollpkieknaaGreat
open Go.Abs
def tb (f:Nat->Int) (k:Nat):List Int:=(List.range k).map f
@[simp] theorem zsH (f:Nat->Int) (k:Nat):(tb f k).length=k:=by simp [tb]
@[simp] theorem zsa (f:Nat->Int):tb f 0=[]:=rfl
theorem zlr (f:Nat->Int) {k i:Nat} (h:i<k):(tb f k)[i]?.getD 0=f i:=by simp [tb,h]
theorem tb_N {f:Nat->Int} {k:Nat} (h:∀ i,i<k->isN (f i)):Ns (tb f k):=by
 intro x hx
 simp [tb] at hx
 obtain ⟨i,hi,rfl⟩:=hx
 exact h i hi
theorem zca {xs:List Int} {k:Nat} (h:k<xs.length):(avs xs)[k]?=some (AV.val (.int .i64 (xs[k]?.getD 0))):=by simp [avs,h]
def cv (a b:List Int) (n:Nat):Nat->Int
 | 0=>0
 | m+1=>cv a b n m+a[m]?.getD 0*b[n-m]?.getD 0
def mulS (a b:List Int):List Int:=tb (fun n=>cv a b n (n+1)%10007) a.length
@[simp] theorem zi4 (a b:List Int):(mulS a b).length=a.length:=by simp [mulS]
theorem zog (a b:List Int):Ns (mulS a b):=tb_N fun i _=>zaG _
def es (b o:List Int) (n:Nat):Nat->Int
 | 0=>0
 | m+1=>es b o n m+(m+1)*(b[m+1]?.getD 0*o[n-(m+1)]?.getD 0%10007)
end Go.Proofs.YthhdollpkieknaaGreat


namespace Go.Proofs.YthhdollpkieknaaGreat
open Go.RowKit Go.Shelf Go.Abs
attribute [local go_sem] Oper.semAt_some
def upto {α:Type} (f:Nat->α) (k:Nat):List α:=(List.range k).map f
theorem zgM {α:Type} (f:Nat->α) (k:Nat):upto f (k+1)=upto f k++[f k]:=by simp [upto,List.range_succ]
theorem zhD {α:Type} (f:Nat->α) (k:Nat):(upto f k).length=k:=by simp [upto]
abbrev BkT:=Int × { a:Int // isN a }
def bkF {zs:List Int} (hN:Ns zs) (len:Nat) (j:Nat):BkT:=((len:Int)-1-j,⟨zs[len-1-j]?.getD 0,hN.get _⟩)
def KpC (Bs b:Nat) (A B:World):Prop:=(∀ v,A.cell? ⟨Bs,0,none⟩=some v->B.cell? ⟨Bs,0,none⟩=some v)/\∀ j v,A.cell? ⟨b,j,none⟩=some v->B.cell? ⟨b,j,none⟩=some v
theorem KpC.trans {Bs b:Nat} {A B C:World} (h:KpC Bs b A B) (k:KpC Bs b B C):KpC Bs b A C:=⟨fun v hv=>k.1 v (h.1 v hv),fun j v hv=>k.2 j v (h.2 j v hv)⟩
theorem KpC.book {Bs b:Nat} (W:World) (l:Nat) (o o':Obj) (hl:W.heap[l]?=some o) (ho:o.isCells=false):KpC Bs b W (W.putObj l o') :=
 ⟨fun v hv=>cell_kept hv (grownBy_putObj' W l o') (fun r e=>by cases e; exact ⟨o,hl,ho⟩),fun j v hv=>cell_kept hv (grownBy_putObj' W l o') (fun r e=>by cases e; exact ⟨o,hl,ho⟩)⟩
theorem KpC.refl (Bs b:Nat) (W:World):KpC Bs b W W:=⟨fun _ h=>h,fun _ _ h=>h⟩
theorem zmW (F:Fence) (n:Nat) (h7:F.fn 255) (hro:F.round=none) (hn:1<=n) (l Bs b off len cap:Nat) (zs:List Int) (hN:Ns zs) (hreach:len*8<=140737488351232) (J Jx:List BkT->World->Prop)
  (hY:∀ pre x W,J pre W->pre.length<len->YieldAt F (n-1) Tryz.prog l #[.int .i64 x.1,.int .i64 x.2.1] W fun e W' =>
   (e=.returned (.bool true)/\J (pre++[x]) W'/\KpC Bs b W W')\/(e=.returned (.bool false)/\Jx (pre++[x]) W'))
  (W:World) (hBs:W.cell? ⟨Bs,0,none⟩=some (.slice (some ⟨b,off,none⟩) len cap)) (hc:∀ j,j<len->W.cell? ⟨b,off+j,none⟩=some (.int .i64 (zs[j]?.getD 0))) (h0:J [] W) :
  CallsIn F n Tryz.prog 255 #[.func (.yield l) #[] #[],.pointer (some ⟨Bs,0,none⟩)] W fun e W'=>(∃ v,e=.returned v) /\
   ((∃ ys,ys=upto (bkF hN len) len/\J ys W')\/(∃ pre,(∃ k,k<=len/\pre=upto (bkF hN len) k)/\Jx pre W')):=by
 refine callsIn_of_wp Tryz.func255 rfl h7 ?_ hro
 simp only [Tryz.ntmps255,List.size_toArray,List.length_cons,List.length_nil,Nat.reduceAdd,Nat.reduceSub,Array.replicate_succ,Array.replicate_zero,List.push_toArray,List.append_toArray,List.nil_append,List.cons_append]
 gi_wp2
 gi_loopw [3] (fun i wr=>∃ k:Nat,k<=len/\i=.int .i64 ((len:Int)-1-k)/\J (upto (bkF hN len) k) wr/\KpC Bs b W wr)
  (fun i _=>(intOf i+1).toNat)
 case atStart =>
  exact ⟨0,Nat.zero_le _,by simp,h0,KpC.refl _ _ _⟩
 case round =>
  obtain ⟨k,hk,rfl,hJs,hnx⟩:=hrel
  have hBx:wr.cell? ⟨Bs,0,none⟩=some (.slice (some ⟨b,off,none⟩) len cap):=hnx.1 _ hBs
  by_cases hlt:k<len
  .have hcx:wr.cell? ⟨b,off+(len-1-k),none⟩=some (.int .i64 (zs[len-1-k]?.getD 0)):=hnx.2 _ _ (hc _ (by omega))
   obtain ⟨fn,tmps,assign,body,hy,hR⟩:=hY _ (bkF hN len k) wr hJs (by rw [zhD]; exact hlt)
   dsimp only [bkF] at hy
   have ek:(len:Int)-1-k=((len-1-k:Nat):Int):=by omega
   have hlt2:len-1-k<len:=by omega
   rw [ek] at hy
   gi_wp2
   refine hR.mono ?_
   rintro e W3 (⟨rfl,hJ3,hk3⟩ | ⟨rfl,hJx3⟩)
   .gi_wp2
    go_roundw
    case rel=>exact ⟨k+1,by omega,by simp; omega,by rw [zgM]; exact hJ3,hnx.trans hk3⟩
    case measure=>simp [intOf]; omega
   .gi_wp2
    refine bodyPost_ret (results_none rfl _ _ _) rfl ?_
    exact ⟨⟨_,rfl⟩,.inr ⟨_,⟨k+1,by omega,(zgM _ _).symm⟩,hJx3⟩⟩
  .obtain rfl:k=len:=by omega
   gi_wp2
   go_end0
   exact ⟨⟨_,rfl⟩,.inl ⟨_,rfl,hJs⟩⟩
theorem zlE (F:Fence) (n:Nat) (h5:F.fn 200) (hro:F.round=none) (a:Option Addr) (len cap:Nat) (w:World) :
  CallsIn F n Tryz.prog 200 #[.slice a len cap] w fun e w'=>e=.returned (.func (.func 255) #[] #[.pointer (some ⟨w.heap.size,0,none⟩)])/\w'=w.alloc (.cells #[.slice a len cap] 25):=by
 refine callsIn_of_wp Tryz.func200 rfl h5 ?_ hro
 simp only [Tryz.ntmps200,List.size_toArray,List.length_cons,List.length_nil,Nat.reduceAdd,Nat.reduceSub,Array.replicate_succ,Array.replicate_zero,List.push_toArray,List.append_toArray,List.nil_append,List.cons_append]
 gi_wp2
 go_ret
 exact ⟨rfl,rfl⟩
theorem zjJ (F:Fence) (n:Nat) (h7:F.fn 255) (hro:F.round=none) (hn:1<=n) (Bs b off cap:Nat) (zs:List Int) (hN:Ns zs) (hreach:zs.length*8<=140737488351232) (w:World) (hBs:Bs<w.heap.size) (hb:b<w.heap.size)
  (hc:w.cell? ⟨Bs,0,none⟩=some (.slice (some ⟨b,off,none⟩) zs.length cap)) (hz:∀ j,j<zs.length->w.cell? ⟨b,off+j,none⟩=some (.int .i64 (zs[j]?.getD 0))) :
  SeqStopsK F n Tryz.prog 255 #[.pointer (some ⟨Bs,0,none⟩)] (fun x:BkT=>#[Value.int .i64 x.1,Value.int .i64 x.2.1]) (KpC Bs b) (fun ys=>ys=upto (bkF hN zs.length) zs.length)
   (fun pre=>∃ k,k<=zs.length/\pre=upto (bkF hN zs.length) k) zs.length w:=fun l J Jx W hW _ _ hY h0 =>
 zmW F n h7 hro hn l Bs b off zs.length cap zs hN hreach J Jx hY W ((hW.cell (p:=⟨Bs,0,none⟩) hBs).trans hc) (fun j hj=>(hW.cell (p:=⟨b,off+j,none⟩) hb).trans (hz j hj)) h0
end Go.Proofs.YthhdollpkieknaaGreat


namespace Go.Proofs.YthhdollpkieknaaGreat
open Go.RowKit Go.Shelf Go.Abs
attribute [local go_sem] Oper.semAt_some
theorem Con.int1 {f:FuncId} {x y:Int} (h:Con Tryz.prog f [.int x] (.int y)) (w:World) :
  Calls Tryz.prog f #[.int .i64 x] w fun e w'=>e=.returned (.int .i64 y)/\Below w.heap.size w w':=by
 refine (h.2 w [.int .i64 x] rfl (fun tm oss=>.cons _ _ [] _ _ [] (.cell _ _ _ (.val _ rfl)) (.nil _))).mono ?_
 rintro e w' ⟨v,os,rfl,hx,hr,_⟩
 exact ⟨by rw [(hr (fun _=>undef) (fun _=>[])).val_eq],hx.below⟩
theorem zfQ {P:Program} {w:World} {F:Nat->Prop}:∀ {zs:List Int} {vs:List Value} {os:List Nat},RepL P w F (avs zs) vs os->∀ j,j<zs.length->vs[j]?=some (.int .i64 (zs[j]?.getD 0))
 | [],_,_,_,j,hj=>by simp at hj
 | z::zs,vs,os,h,j,hj=>by
  have e:avs (z::zs)=.val (.int .i64 z)::avs zs:=rfl
  rw [e] at h
  cases h with
  | cons c v o cs vs os' h t =>
   cases h with
   | val _ _ =>
    cases j with
    | zero=>rfl
    | succ j=>exact zfQ t j (by simpa using hj)
theorem zkk {zs:List Int} (hN:Ns zs):(upto (bkF hN zs.length) zs.length).map (·.2.1)=zs.reverse:=by
 refine List.ext_getElem (by simp [upto]) fun k h1 h2=>?_
 have hk:k<zs.length:=by simpa using h2
 have h3:zs.length-1-k<zs.length:=by omega
 simp [upto,bkF,h3]
end Go.Proofs.YthhdollpkieknaaGreat


namespace Go.Proofs.YthhdollpkieknaaGreat
abbrev Key3:=Int × Int × Int
def r4:List Int:=[0,1,2,3]
def box:List Key3:=r4.flatMap fun i=>r4.flatMap fun j=>r4.map fun k=>(i,j,k)
theorem zoI {k:Key3}:k∈box ↔ 0<=k.1/\k.1<=3/\0<=k.2.1/\k.2.1<=3/\0<=k.2.2/\k.2.2<=3:=by
 obtain ⟨a,b,c⟩:=k
 have h4:∀ x:Int,x∈r4 ↔ 0<=x/\x<=3:=fun x=>by simp [r4]; omega
 simp only [box,List.mem_flatMap,List.mem_map,Prod.mk.injEq]
 constructor
 .rintro ⟨i,hi,j,hj,k,hk,rfl,rfl,rfl⟩
  have:=(h4 i).1 hi; have:=(h4 j).1 hj; have:=(h4 k).1 hk
  omega
 .rintro ⟨h1,h2,h3,h5,h6,h7⟩
  exact ⟨a,(h4 a).2 ⟨h1,h2⟩,b,(h4 b).2 ⟨h3,h5⟩,c,(h4 c).2 ⟨h6,h7⟩,rfl,rfl,rfl⟩
end Go.Proofs.YthhdollpkieknaaGreat


namespace Go.Proofs.YthhdollpkieknaaGreat
open Go.Abs
abbrev Mon:=Int × List Int
def sumC {α:Type} (c:α->Nat):List α->Nat
 | []=>0
 | a::l=>c a+sumC c l
structure SzOk {α:Type} (g:Int->α->Int) (c:α->Nat):Prop where
 lo:∀ l a,-1<=g l a
 hi:∀ l a,0<=l->g l a<=l
 ok:∀ l a,0<=l->0<=g l a->(c a:Int)<=l-g l a
def cM (m:Mon):Nat:=m.2.length
def cP (p:List Mon):Nat:=p.length+sumC cM p
def cF (f:List (List Mon)):Nat:=f.length+sumC cP f
end Go.Proofs.YthhdollpkieknaaGreat


namespace Go.Proofs.YthhdollpkieknaaGreat
open Go.Abs
end Go.Proofs.YthhdollpkieknaaGreat


namespace Go.Proofs.YthhdollpkieknaaGreat
open Go.Abs
def ltL:List Int->List Int->Bool
 | _,[]=>false
 | [],_::_=>true
 | x::xs,y::ys=>if x=y then ltL xs ys else decide (x<y)
theorem zn3:∀ {a b:List Int} {i:Nat},i<a.length->i<b.length->a.take i=b.take i->a[i]?.getD 0≠b[i]?.getD 0->ltL a b=decide (a[i]?.getD 0<b[i]?.getD 0)
 | x::a,y::b,0,_,_,_,h=>by
  simp at h
  simp [ltL,h]
 | x::a,y::b,i+1,h1,h2,h3,h4=>by
  simp at h3
  simp only [ltL,if_pos h3.1]
  simpa using zn3 (a:=a) (b:=b) (i:=i) (by simpa using h1) (by simpa using h2) h3.2 (by simpa using h4)
theorem zhg:∀ {a b:List Int} {i:Nat},a.take i=b.take i->i<=a.length->i<=b.length->(a.length<=i\/b.length<=i)->ltL a b=decide (a.length<b.length)
 | _,[],i,_,_,_,_=>by simp [ltL]
 | [],_::_,i,_,_,_,_=>by simp [ltL]
 | x::a,y::b,0,_,h1,h2,h3=>by simp at h3
 | x::a,y::b,i+1,h,h1,h2,h3=>by
  simp at h
  simp only [ltL,if_pos h.1]
  have:=zhg (a:=a) (b:=b) (i:=i) h.2 (by simpa using h1) (by simpa using h2) (by simpa using h3)
  rw [this]; simp
theorem zio {a b:List Int} {i:Nat} (h1:i<a.length) (h2:i<b.length) (h:a.take i=b.take i) (e:a[i]?.getD 0=b[i]?.getD 0):a.take (i+1)=b.take (i+1):=by
 rw [List.getElem?_eq_getElem h1,List.getElem?_eq_getElem h2] at e
 simp at e
 rw [List.take_add_one,List.take_add_one,h,List.getElem?_eq_getElem h1,List.getElem?_eq_getElem h2,e]
theorem zgP (a b:List Int) (ha:a.length<=9223372036854775807) (hb:b.length<=9223372036854775807):Con Tryz.prog 225 [.sl a.length (avs a),.sl b.length (avs b)] (.bool (ltL a b)):=by
 refine zab Tryz.mixed ⟨6,[],[],[]⟩ Tryz.func225 ?_
 rw [Tryz.ntmps225]
 simp [go_sem]
 refine zac (4::5::List.range' 6 30) (fun i:Nat=>[(5,.int i)]) (fun i=>i<=a.length/\i<=b.length/\a.take i=b.take i) (fun i=>a.length-i) 0 (by simp) (by simp [go_sem]) (by simp [go_sem]) ?_
 rintro i ⟨hi,hj,he⟩
 by_cases h1:i<a.length
 .by_cases h2:i<b.length
  .have h1':(i:Int)<a.length:=by omega
   have h2':(i:Int)<b.length:=by omega
   by_cases hd:a[i]?.getD 0=b[i]?.getD 0
   .simp [go_sem,h1,h2,h1',h2',zaq h1,zaq h2,hd]
    refine ⟨by kernel_rfl,by rintro rfl; simp at h1,by rintro rfl; simp at h2,?_⟩
    have hd2:a[i]=b[i]:=by simpa [h1,h2] using hd
    refine ⟨by kernel_rfl,?_⟩
    simp [go_sem]
    simp [go_sem,hd2]
    refine ⟨by omega,i+1,⟨by omega,by omega,zio h1 h2 he hd⟩,by omega,zaa _ _ _ (by simp),by omega⟩
   .simp [go_sem,h1,h2,h1',h2',zaq h1,zaq h2,hd]
    refine ⟨by kernel_rfl,by rintro rfl; simp at h1,by rintro rfl; simp at h2,?_⟩
    have hd2:¬ a[i]=b[i]:=by simpa [h1,h2] using hd
    refine ⟨by kernel_rfl,?_⟩
    simp [go_sem]
    simp [go_sem,hd2,zaq h1,zaq h2]
    refine ⟨by kernel_rfl,⟨h1,by rintro rfl; simp at h1⟩,⟨h2,by rintro rfl; simp at h2⟩,?_⟩
    refine ⟨by kernel_rfl,?_⟩
    simp [go_sem]
    rw [zn3 h1 h2 he hd]
  .have h2':¬ (i:Int)<b.length:=by omega
   simp [go_sem,h1,h2,h2']
   rw [zhg he hi hj (.inr (by omega))]
 .simp [go_sem,h1]
  rw [zhg he hi hj (.inl (by omega))]
def degL:List Int->Int->Int
 | [],s=>s
 | x::xs,s=>if x<0\/100<x then 1000 else degL xs (s+x)
def monB (z:Int) (m:Mon):Bool:=decide (1<=m.1/\m.1<=10006) && decide ((m.2.length:Int)=z) && decide (degL m.2 0<=3)
def atB (z:Int) (p:List Mon) (j:Nat):Bool:=monB z (p[j]?.getD (0,[])) && (decide (j=0) || ltL (p[j-1]?.getD (0,[])).2 (p[j]?.getD (0,[])).2)
def zsy (z:Int) (p:List Mon):Bool:=(List.range p.length).all (atB z p)
end Go.Proofs.YthhdollpkieknaaGreat


namespace Go.Proofs.YthhdollpkieknaaGreat
open Go.Abs
structure MonOk (z:Int) (m:Mon):Prop where
 lo:1<=m.1
 hi:m.1<=10006
 len:(m.2.length:Int)=z
 pw:∀ x∈m.2,0<=x/\x<=3
 deg:m.2.sum<=3
theorem MonOk.get {z:Int} {m:Mon} (h:MonOk z m) (k:Nat):0<=m.2[k]?.getD 0/\m.2[k]?.getD 0<=3:=by
 rcases Nat.lt_or_ge k m.2.length with hk | hk
 .simp [hk]; exact h.pw _ (List.getElem_mem hk)
 .simp [hk]
structure FieldOk (z:Int) (f:List (List Mon)):Prop where
 lo:1<=z
 hi:z<=3
 len:(f.length:Int)=z
 part:∀ p∈f,zsy z p=true
end Go.Proofs.YthhdollpkieknaaGreat


namespace Go.Proofs.YthhdollpkieknaaGreat
open Go.Abs
def cmpI (x y:Int):Int:=if x<y then -1 else if y<x then 1 else 0
theorem zj5 [DrawK] (x:Int):Con Tryz.prog 286 [.int x] (.bool false):=by
 refine zab Tryz.mixed ⟨3,[],[],[]⟩ Tryz.func286 ?_
 rw [Tryz.ntmps286]
 simp [go_sem]
theorem zja [DrawK] (x y:Int):Con Tryz.prog 238 [.int x,.int y] (.int (cmpI x y)):=by
 refine zab Tryz.mixed ⟨7,[],[],[]⟩ Tryz.func238 ?_
 rw [Tryz.ntmps238]
 simp [go_sem]
 refine CallVC.of (zj5 _) ?_
 simp [go_sem]
 refine CallVC.of (zj5 _) ?_
 simp [go_sem]
 unfold cmpI
 by_cases h1:x<y
 .simp [go_sem,h1]
 .by_cases h2:y<x
  .simp [go_sem,h1,h2]
  .simp [go_sem,h1,h2]
def cmpL:List Int->List Int->Int
 | [],[]=>0
 | [],_::_ => -1
 | _::_,[]=>1
 | x::xs,y::ys=>if x=y then cmpL xs ys else cmpI x y
theorem zlq {x y:Int} (h:x≠y):cmpI x y≠0:=by unfold cmpI; split; omega; split <;> omega
theorem zlg:∀ a b:List Int,decide (0<=cmpL a b)=!ltL a b
 | [],[]=>by simp [cmpL,ltL]
 | [],_::_=>by simp [cmpL,ltL]
 | _::_,[]=>by simp [cmpL,ltL]
 | x::xs,y::ys=>by
  rw [cmpL,ltL]
  by_cases h:x=y
  .rw [if_pos h,if_pos h]; exact zlg xs ys
  .rw [if_neg h,if_neg h]
   unfold cmpI
   by_cases h1:x<y
   .simp [h1]
   .have:y<x:=by omega
    simp [h1,this]
theorem zkK:∀ {a b:List Int} {i:Nat},i<a.length->i<b.length->a.take i=b.take i->a[i]?.getD 0≠b[i]?.getD 0->cmpL a b=cmpI (a[i]?.getD 0) (b[i]?.getD 0)
 | x::a,y::b,0,_,_,_,h=>by
  simp at h
  simp [cmpL,h]
 | x::a,y::b,i+1,h1,h2,h3,h4=>by
  simp at h3
  simp only [cmpL,if_pos h3.1]
  simpa using zkK (a:=a) (b:=b) (i:=i) (by simpa using h1) (by simpa using h2) h3.2 (by simpa using h4)
theorem zgx:∀ {a b:List Int} {i:Nat},i<a.length->b.length<=i->a.take b.length=b->cmpL a b=1
 | x::a,[],_,_,_,_=>by simp [cmpL]
 | x::a,y::b,0,_,h,_=>by simp at h
 | x::a,y::b,i+1,h1,h2,h3=>by
  simp at h3
  simp only [cmpL,if_pos h3.1]
  exact zgx (a:=a) (b:=b) (i:=i) (by simpa using h1) (by simpa using h2) h3.2
theorem zh0:∀ {a b:List Int},a=b.take a.length->cmpL a b=if a.length<b.length then -1 else 0
 | [],[],_=>by simp [cmpL]
 | [],_::_,_=>by simp [cmpL]
 | x::a,[],h=>by simp at h
 | x::a,y::b,h=>by
  simp at h
  simp only [cmpL,if_pos h.1]
  rw [zh0 h.2]; simp
theorem zgr [DrawK] (a b:List Int) (ha:a.length<=9223372036854775807) (hb:b.length<=9223372036854775807):Con Tryz.prog 167 [.sl a.length (avs a),.sl b.length (avs b)] (.int (cmpL a b)):=by
 refine zab Tryz.mixed ⟨9,[],[],[]⟩ Tryz.func167 ?_
 rw [Tryz.ntmps167]
 simp [go_sem]
 refine zac (4::5::6::7::8::List.range' 11 20) (fun i:Nat=>[(11,.int i)]) (fun i=>i<=a.length/\i<=b.length/\a.take i=b.take i) (fun i=>a.length-i) 0 (by simp) (by simp [go_sem]) (by simp [go_sem]) ?_
 rintro i ⟨hi,hj,he⟩
 simp [go_sem]
 refine ⟨fun h=>?_,fun h=>?_⟩ <;> simp at h
 .have h1:=h
  simp [go_sem,zaq h1]
  refine ⟨⟨h1,by rintro rfl; simp at h1⟩,?_⟩
  by_cases h2:i<b.length
  .have h2':¬ (b.length<=i):=by omega
   simp [go_sem,h2',zaq h2]
   refine ⟨⟨h2,by rintro rfl; simp at h2⟩,?_⟩
   refine CallVC.of (zja _ _) ?_
   simp [go_sem]
   by_cases hd:a[i]?.getD 0=b[i]?.getD 0
   .have hc:cmpI (a[i]?.getD 0) (b[i]?.getD 0)=0:=by unfold cmpI; rw [if_neg (by omega),if_neg (by omega)]
    simp [go_sem,hc]
    refine ⟨by omega,i+1,⟨by omega,by omega,zio h1 h2 he hd⟩,by omega,zaa _ _ _ (by simp),by omega⟩
   .have hc:=zlq hd
    simp [go_sem,hc]
    rw [zkK h1 h2 he hd]
  .have h2':b.length<=i:=by omega
   have e:i=b.length:=by omega
   simp [go_sem,h2']
   rw [zgx h1 h2' (by rw [<- e,he,e,List.take_length])]
 .simp [go_sem]
  have e:i=a.length:=by omega
  subst e
  rw [List.take_length] at he
  rw [zh0 he]
  by_cases h3:a.length<b.length
  .simp [go_sem,h3]
  .simp [go_sem,h3]
end Go.Proofs.YthhdollpkieknaaGreat


namespace Go.Proofs.YthhdollpkieknaaGreat
open Go.Abs
end Go.Proofs.YthhdollpkieknaaGreat


namespace Go.Proofs.YthhdollpkieknaaGreat
open Go.Abs
theorem zfO:∀ a:List Int,ltL a a=false
 | []=>rfl
 | x::a=>by simp [ltL,zfO a]
theorem zbl:∀ {a b c:List Int},ltL a b=true->ltL b c=true->ltL a c=true
 | _,[],_,h,_=>by simp [ltL] at h
 | _,_::_,[],_,h=>by simp [ltL] at h
 | [],_::_,_::_,_,_=>rfl
 | x::a,y::b,z::c,h1,h2=>by
  simp only [ltL] at h1 h2 |-
  split at h1
  .rename_i e; subst e
   split at h2
   .rename_i e; subst e; rw [if_pos rfl]; exact zbl h1 h2
   .rename_i e; rw [if_neg e]; exact h2
  .rename_i e1
   simp only [decide_eq_true_eq] at h1
   split at h2
   .rename_i e; subst e; rw [if_neg e1]; simpa using h1
   .rename_i e
    simp only [decide_eq_true_eq] at h2
    rw [if_neg (by omega)]; simp; omega
end Go.Proofs.YthhdollpkieknaaGreat


namespace Go.Proofs.YthhdollpkieknaaGreat
open Go.Abs
end Go.Proofs.YthhdollpkieknaaGreat


namespace Go.Proofs.YthhdollpkieknaaGreat
open Go.Abs
structure VOk (n:Nat) (m:Mon):Prop where
 num:isN m.1
 len:m.2.length=n
 pw:∀ x∈m.2,0<=x/\x<=3
end Go.Proofs.YthhdollpkieknaaGreat


namespace Go.Proofs.YthhdollpkieknaaGreat
open Go.Abs
end Go.Proofs.YthhdollpkieknaaGreat


namespace Go.Proofs.YthhdollpkieknaaGreat
open Go.Abs
end Go.Proofs.YthhdollpkieknaaGreat


namespace Go.Proofs.YthhdollpkieknaaGreat
open Go.Abs
theorem VOk.low {n i:Nat} {m:Mon} (h:VOk n m) (hi:i<n) (hp:0<m.2[i]?.getD 0):VOk n (m.1*m.2[i]?.getD 0%10007,m.2.set i (m.2[i]?.getD 0-1)):=by
 have hl:=h.len
 refine ⟨zaG _,by simpa using hl,fun x hx=>?_⟩
 rcases List.mem_or_eq_of_mem_set hx with hx | rfl
 .exact h.pw x hx
 .have hm:m.2[i]?.getD 0∈m.2:=by
   rw [List.getElem?_eq_getElem (by omega),Option.getD_some]; exact List.getElem_mem _
  have:=h.pw _ hm
  omega
end Go.Proofs.YthhdollpkieknaaGreat


namespace Go.Proofs.YthhdollpkieknaaGreat
open Go.Abs
def NN (k:Key):Prop:=0<=k.1/\0<=k.2.1/\0<=k.2.2
def Eqv (C D:Key->Int):Prop:=∀ k,NN k->C k%10007=D k%10007
theorem NN.box {k:Key} (h:k∈box):NN k:=by have:=zoI.1 h; exact ⟨by omega,by omega,by omega⟩
theorem Eqv.refl (C:Key->Int):Eqv C C:=fun _ _=>rfl
theorem Eqv.symm {C D:Key->Int} (h:Eqv C D):Eqv D C:=fun k hk=>(h k hk).symm
theorem Eqv.trans {C D E:Key->Int} (h:Eqv C D) (h2:Eqv D E):Eqv C E:=fun k hk=>(h k hk).trans (h2 k hk)
end Go.Proofs.YthhdollpkieknaaGreat


namespace Go.Proofs.YthhdollpkieknaaGreat
open Go.Abs
end Go.Proofs.YthhdollpkieknaaGreat


namespace Go.Proofs.YthhdollpkieknaaGreat
open Go.Abs
theorem zfL (xs:List Int) (hl:xs.length<=17592186044416):Con Tryz.prog 154 [.sl xs.length (avs xs)] (.own 2 xs.length (avs xs)):=by
 refine zab Tryz.mixed ⟨3,[],[],[]⟩ Tryz.func154 ?_
 rw [Tryz.ntmps154]
 simp [go_sem]
 try omega
theorem zgU (a b:List Int) (ha:a.length<=9223372036854775807):Con Tryz.prog 248 [.sl a.length (avs a),.sl b.length (avs b)] (.bool (decide (a=b))):=by
 refine zab Tryz.mixed ⟨6,[],[],[]⟩ Tryz.func248 ?_
 rw [Tryz.ntmps248]
 simp [go_sem]
 refine ⟨fun h=>?_,fun h=>?_⟩ <;> simp at h <;> simp [go_sem]
 .rintro rfl; omega
 have hl:a.length=b.length:=by omega
 refine zac (4::5::List.range' 11 16) (fun i:Nat=>[(5,.int i)]) (fun i=>i<=a.length/\a.take i=b.take i) (fun i=>a.length-i) 0 (by simp) (by simp [go_sem]) (by simp [go_sem]) ?_
 intro i hi
 simp [go_sem]
 refine ⟨fun h=>?_,fun h=>?_⟩ <;> simp at h
 .have h2:i<b.length:=by omega
  simp [go_sem,zaq h,zaq h2]
  refine ⟨by kernel_rfl,⟨h,by rintro rfl; simp at h⟩,⟨h2,by rintro rfl; simp at h2⟩,?_⟩
  refine ⟨by kernel_rfl,?_⟩
  simp [go_sem]
  refine ⟨fun h3=>?_,fun h3=>?_⟩ <;> simp at h3 <;> simp [go_sem]
  .rintro rfl; exact h3 rfl
  .refine ⟨by omega,i+1,⟨by omega,?_⟩,by omega,zaa _ _ _ (by simp),by omega⟩
   rw [List.take_add_one,List.take_add_one,hi.2]
   rw [List.getElem?_eq_getElem h,List.getElem?_eq_getElem h2] at h3 |-
   simp only [Option.getD_some] at h3
   rw [h3]
 .simp [go_sem]
  have e:i=a.length:=by omega
  subst e
  have:=hi.2
  rw [List.take_length,hl,List.take_length] at this
  exact this
end Go.Proofs.YthhdollpkieknaaGreat


namespace Go.Proofs.YthhdollpkieknaaGreat
class CR (α:Type) extends Add α,Mul α where
 ofI:Int->α
 addC:∀ a b:α,a+b=b+a
 addA:∀ a b c:α,a+b+c=a+(b+c)
 add0:∀ a:α,a+ofI 0=a
 mulC:∀ a b:α,a*b=b*a
 mulA:∀ a b c:α,a*b*c=a*(b*c)
 mul1:∀ a:α,a*ofI 1=a
 mulD:∀ a b c:α,a*(b+c)=a*b+a*c
 mul0:∀ a:α,a*ofI 0=ofI 0
 ofAdd:∀ a b:Int,ofI (a+b)=ofI a+ofI b
 ofMul:∀ a b:Int,ofI (a*b)=ofI a*ofI b
namespace CR
section
variable {α:Type} [CR α]
instance:Std.Associative (α:=α) (·+·):=⟨addA⟩
instance:Std.Commutative (α:=α) (·+·):=⟨addC⟩
instance:Std.Associative (α:=α) (·*·):=⟨mulA⟩
instance:Std.Commutative (α:=α) (·*·):=⟨mulC⟩
theorem zadd (a:α):ofI 0+a=a:=by rw [addC,add0]
theorem zmul (a:α):ofI 0*a=ofI 0:=by rw [mulC,mul0]
end
end CR
open CR
instance:CR Int where
 ofI:=id
 addC:=Int.add_comm
 addA:=Int.add_assoc
 add0:=Int.add_zero
 mulC:=Int.mul_comm
 mulA:=Int.mul_assoc
 mul1:=Int.mul_one
 mulD:=Int.mul_add
 mul0:=Int.mul_zero
 ofAdd:=fun _ _=>rfl
 ofMul:=fun _ _=>rfl
abbrev Ser (α:Type):=Nat->α
def sh {α:Type} (a:Ser α):Ser α:=fun n=>a (n+1)
def cmul {α:Type} [CR α]:Nat->Ser α->Ser α->α
 | 0,a,b=>a 0*b 0
 | n+1,a,b=>a 0*b (n+1)+cmul n (sh a) b
section
variable {α:Type} [CR α]
theorem zij (n:Nat):∀ (a b c:Ser α),cmul n a (fun i=>b i+c i)=cmul n a b+cmul n a c:=by
 induction n with
 | zero=>intro a b c; exact mulD _ _ _
 | succ n ih=>intro a b c; simp only [cmul,ih,mulD]; ac_rfl
theorem zlD (n:Nat):∀ (a b:Ser α),cmul (n+1) a b=cmul n a (sh b)+a (n+1)*b 0:=by
 induction n with
 | zero=>intro a b; rfl
 | succ n ih =>
  intro a b
  rw [cmul,ih,cmul]
  show a 0*b (n+1+1)+(cmul n (sh a) (sh b)+a (n+1+1)*b 0)=a 0*b (n+1+1)+cmul n (sh a) (sh b)+a (n+1+1)*b 0
  ac_rfl
theorem zbL (n:Nat):∀ (a b:Ser α),cmul n a b=cmul n b a:=by
 induction n with
 | zero=>intro a b; exact mulC _ _
 | succ n ih=>intro a b; rw [cmul,zlD,ih,mulC,addC]
theorem zk9 (c:α) (n:Nat):∀ (a b:Ser α),cmul n (fun i=>c*a i) b=c*cmul n a b:=by
 induction n with
 | zero=>intro a b; exact mulA _ _ _
 | succ n ih =>
  intro a b
  have:=ih (sh a) b
  simp only [cmul,mulD]
  rw [<- this,mulA]; rfl
theorem zlH (n:Nat) (a b c:Ser α):cmul n (fun i=>a i+b i) c=cmul n a c+cmul n b c:=by
 rw [zbL n (fun i=>a i+b i) c,zij,zbL n c a,zbL n c b]
theorem zjS (n:Nat):∀ (a b c:Ser α),cmul n (fun i=>cmul i a b) c=cmul n a (fun i=>cmul i b c):=by
 induction n with
 | zero=>intro a b c; exact mulA _ _ _
 | succ n ih =>
  intro a b c
  have e:sh (fun i=>cmul i a b)=fun i=>a 0*sh b i+cmul i (sh a) b:=rfl
  simp only [cmul]
  rw [e,zlH,zk9,ih,mulD]
  show a 0*b 0*c (n+1)+_=_
  rw [mulA]; ac_rfl
def sOf (k:Int):Ser α:=fun n=>if n=0 then ofI k else ofI 0
theorem zem (k:Int):∀ (n:Nat) (a:Ser α),cmul n a (sOf k)=a n*ofI k:=by
 intro n
 induction n with
 | zero=>intro a; rfl
 | succ n ih =>
  intro a
  rw [cmul,ih]
  show a 0*ofI 0+a (n+1)*ofI k=_
  rw [mul0,zadd]
instance:CR (Ser α) where
 add:=fun a b n=>a n+b n
 mul:=fun a b n=>cmul n a b
 ofI:=sOf
 addC:=fun a b=>funext fun n=>addC _ _
 addA:=fun a b c=>funext fun n=>addA _ _ _
 add0:=fun a=>funext fun n=>by show a n+(if n=0 then ofI 0 else ofI 0)=a n; rw [ite_self,add0]
 mulC:=fun a b=>funext fun n=>zbL n a b
 mulA:=fun a b c=>funext fun n=>zjS n a b c
 mul1:=fun a=>funext fun n=>by show cmul n a (sOf 1)=a n; rw [zem,mul1]
 mulD:=fun a b c=>funext fun n=>zij n a b c
 mul0:=fun a=>funext fun n=>by show cmul n a (sOf 0)=if n=0 then ofI 0 else ofI 0; rw [zem,mul0,ite_self]
 ofAdd:=fun a b=>funext fun n=>by
  show (if n=0 then (ofI (a+b):α) else ofI 0)=(if n=0 then ofI a else ofI 0)+(if n=0 then ofI b else ofI 0)
  split
  .exact ofAdd _ _
  .rw [add0]
 ofMul:=fun a b=>funext fun n=>by
  show (if n=0 then (ofI (a*b):α) else ofI 0)=cmul n (sOf a) (sOf b)
  rw [zem]
  show (if n=0 then (ofI (a*b):α) else ofI 0)=(if n=0 then ofI a else ofI 0)*ofI b
  split
  .exact ofMul _ _
  .rw [zmul]
theorem zkx (a b:Ser α) (n:Nat):(a+b) n=a n+b n:=rfl
def dx (k:Nat) (e:Nat->Nat):Nat->Nat:=fun j=>if j=k then e j-1 else e j
abbrev Trm:=Int × (Nat->Nat)
end
structure Cg (α:Type) [CR α] where
 r:α->α->Prop
 refl:∀ a,r a a
 symm:∀ {a b},r a b->r b a
 trans:∀ {a b c},r a b->r b c->r a c
 add:∀ {a b c d},r a b->r c d->r (a+c) (b+d)
 mul:∀ {a b c d},r a b->r c d->r (a*c) (b*d)
 of:∀ {a b:Int},a%10007=b%10007->r (ofI a) (ofI b)
def cgI:Cg Int where
 r:=fun a b=>a%10007=b%10007
 refl:=fun _=>rfl
 symm:=fun h=>h.symm
 trans:=fun h k=>h.trans k
 add:=fun h k=>by omega
 mul:=fun {a b c d} h k=>by rw [Int.mul_emod,h,k,<- Int.mul_emod]
 of:=fun h=>h
section
variable {α:Type} [CR α]
theorem zoS (c:Cg α) {N:Nat}:∀ {n:Nat} {a b a' b':Ser α},n<N->(∀ i,i<N->c.r (a i) (a' i))->(∀ i,i<N->c.r (b i) (b' i))->c.r (cmul n a b) (cmul n a' b')
 | n,a,b,a',b',hn,ha,hb=>by
  have gen:∀ (n:Nat) (a b a' b':Ser α),(∀ i,i<=n->c.r (a i) (a' i))->(∀ i,i<=n->c.r (b i) (b' i))->c.r (cmul n a b) (cmul n a' b'):=by
   intro n
   induction n with
   | zero=>intro a b a' b' ha hb; exact c.mul (ha 0 (by omega)) (hb 0 (by omega))
   | succ n ih =>
    intro a b a' b' ha hb
    exact c.add (c.mul (ha 0 (by omega)) (hb (n+1) (by omega))) (ih _ _ _ _ (fun i hi=>ha (i+1) (by omega)) (fun i hi=>hb i (by omega)))
  exact gen n a b a' b' (fun i hi=>ha i (by omega)) (fun i hi=>hb i (by omega))
def cgS (c:Cg α) (N:Nat):Cg (Ser α) where
 r:=fun a b=>∀ n,n<N->c.r (a n) (b n)
 refl:=fun a n _=>c.refl _
 symm:=fun h n hn=>c.symm (h n hn)
 trans:=fun h k n hn=>c.trans (h n hn) (k n hn)
 add:=fun h k n hn=>c.add (h n hn) (k n hn)
 mul:=fun h k n hn=>zoS c hn h k
 of:=fun {a b} h n hn=>by
  show c.r (if n=0 then ofI a else ofI 0) (if n=0 then ofI b else ofI 0)
  split
  .exact c.of h
  .exact c.refl _
end
end Go.Proofs.YthhdollpkieknaaGreat


namespace Go.Proofs.YthhdollpkieknaaGreat
open CR
def ex (e:List Int):Nat->Nat:=fun k=>(e[k]?.getD 0).toNat
def tr (m:Mon):Trm:=(m.1,ex m.2)
structure WOk (n:Nat) (B:Int) (m:Mon):Prop where
 num:isN m.1
 len:m.2.length=n
 pw:∀ x∈m.2,0<=x/\x<=B
theorem WOk.le {n:Nat} {B C:Int} {m:Mon} (h:WOk n B m) (hBC:B<=C):WOk n C m:=⟨h.num,h.len,fun x hx=>⟨(h.pw x hx).1,Int.le_trans (h.pw x hx).2 hBC⟩⟩
theorem WOk.get {n:Nat} {B:Int} {m:Mon} (h:WOk n B m) (hB:0<=B) (k:Nat):0<=m.2[k]?.getD 0/\m.2[k]?.getD 0<=B:=by
 rcases Nat.lt_or_ge k m.2.length with hk | hk
 .simp [hk]; exact h.pw _ (List.getElem_mem hk)
 .simp [hk]; exact hB
section
variable {α:Type} [CR α]
theorem Cg.eq (c:Cg α) {a b:α} (h:a=b):c.r a b:=by rw [h]; exact c.refl _
def LOk (n:Nat) (L:List Mon):Prop:=∀ m∈L,m.2.length=n/\∀ x∈m.2,0<=x
theorem LOk.tl {n:Nat} {m:Mon} {L:List Mon} (h:LOk n (m::L)):LOk n L:=fun a ha=>h a (by simp [ha])
theorem LOk.hd {n:Nat} {m:Mon} {L:List Mon} (h:LOk n (m::L)):m.2.length=n/\∀ x∈m.2,0<=x:=h m (by simp)
end
end Go.Proofs.YthhdollpkieknaaGreat


namespace Go.Proofs.YthhdollpkieknaaGreat
open Go.Abs
theorem WOk.low {n i:Nat} {B:Int} {m:Mon} (h:WOk n B m) (hi:i<n) (hp:0<m.2[i]?.getD 0):WOk n B (m.1*m.2[i]?.getD 0%10007,m.2.set i (m.2[i]?.getD 0-1)):=by
 have hl:=h.len
 refine ⟨zaG _,by simpa using hl,fun x hx=>?_⟩
 rcases List.mem_or_eq_of_mem_set hx with hx | rfl
 .exact h.pw x hx
 .have hm:m.2[i]?.getD 0∈m.2:=by
   rw [List.getElem?_eq_getElem (by omega),Option.getD_some]; exact List.getElem_mem _
  have:=h.pw _ hm
  omega
end Go.Proofs.YthhdollpkieknaaGreat


namespace Go.Proofs.YthhdollpkieknaaGreat
open Go.Abs
theorem zbA (A C:List (List Int)):omat (A++C)=omat A++omat C:=by simp [omat]
theorem zco (r:List Int):omat [r]=[.own 2 r.length (avs r)]:=rfl
theorem zdV:omat []=[]:=rfl
end Go.Proofs.YthhdollpkieknaaGreat


namespace Go.Proofs.YthhdollpkieknaaGreat
open Go.Abs
end Go.Proofs.YthhdollpkieknaaGreat


namespace Go.Proofs.YthhdollpkieknaaGreat
open Go.Abs
theorem zkO (xs:List Int) (hl:xs.length<=1048576):Con Tryz.prog 239 [.sl xs.length (avs xs)] (.own 2 xs.length (avs xs)):=by
 refine zje Tryz.mixed ⟨3,[],[],[]⟩ Tryz.func239 ?_
 rw [Tryz.ntmps239]
 simp [go_sem]
 exact ⟨by omega,by omega⟩
end Go.Proofs.YthhdollpkieknaaGreat


namespace Go.Proofs.YthhdollpkieknaaGreat
open Go.Abs
@[go_sem] theorem zsj (W:List Nat) (s:Nat) (p:List Nat):kl W (.bor s p)=if W.contains s then .any else .bor s p:=by rw [kl]
@[go_sem] theorem zrT (W:List Nat) (s:Nat) (p:List Nat) (o:Nat):kl W (.ptr s p o)=if W.contains s then .any else .ptr s p o:=by rw [kl]
end Go.Proofs.YthhdollpkieknaaGreat


namespace Go.Proofs.YthhdollpkieknaaGreat
open Go.Abs
end Go.Proofs.YthhdollpkieknaaGreat


namespace Go.Proofs.YthhdollpkieknaaGreat
open Go.Abs
end Go.Proofs.YthhdollpkieknaaGreat


namespace Go.Proofs.YthhdollpkieknaaGreat
open Go.Abs
end Go.Proofs.YthhdollpkieknaaGreat


namespace Go.Proofs.YthhdollpkieknaaGreat
open Go.Abs
end Go.Proofs.YthhdollpkieknaaGreat


namespace Go.Proofs.YthhdollpkieknaaGreat
open Go.Abs
@[simp] theorem zft (A:List (List Int)):frzL (mat A)=mat A:=by
 induction A with
 | nil=>rfl
 | cons r A ih=>simp only [mat,List.map_cons,frzL] at ih |-; rw [ih]; rfl
end Go.Proofs.YthhdollpkieknaaGreat


namespace Go.Proofs.YthhdollpkieknaaGreat
open Go.Abs
end Go.Proofs.YthhdollpkieknaaGreat


namespace Go.Proofs.YthhdollpkieknaaGreat
def okB (t:List Int) (j:Nat):Bool:=decide (1<=t[j]?.getD 0) && decide (t[j]?.getD 0<=t[j-1]?.getD 0+1)
def lv0 (t:List Int):Bool:=decide (0<t.length) && decide (t[0]?.getD 0=0) && (List.range t.length).all (fun j=>decide (j=0) || okB t j)
def lvB (t:List Int):Bool:=lv0 t && decide (t.length<=8)
theorem zql {t:List Int} {j:Nat} (hj:j<t.length) (h0:0<j) (h:okB t j=false):lv0 t=false:=by
 unfold lv0
 have:(List.range t.length).all (fun j=>decide (j=0) || okB t j)=false:=by
  rw [List.all_eq_false]; exact ⟨j,by simpa using hj,by simp [h]; omega⟩
 rw [this]; simp
theorem zqU {t:List Int} (h:t[0]?.getD 0≠0):lv0 t=false:=by
 unfold lv0; rw [decide_eq_false h]; simp
theorem zoT {t:List Int} (h1:0<t.length) (h2:t[0]?.getD 0=0) (h:∀ j,0<j->j<t.length->okB t j=true):lv0 t=true:=by
 unfold lv0
 have:(List.range t.length).all (fun j=>decide (j=0) || okB t j)=true:=by
  rw [List.all_eq_true]; intro j hj
  by_cases e:j=0
  .simp [e]
  .simp [h j (by omega) (by simpa using hj)]
 rw [this,decide_eq_true h1,decide_eq_true h2]; rfl
theorem zqy {t:List Int} {i:Nat} (h0:t[0]?.getD 0=0) (h:∀ j,0<j->j<i->okB t j=true):∀ j,j<i->0<=t[j]?.getD 0/\t[j]?.getD 0<=j
 | 0,_=>by omega
 | j+1,hj=>by
  have:=zqy h0 h j (by omega)
  have h2:=h (j+1) (by omega) hj
  unfold okB at h2
  simp only [Nat.add_sub_cancel,Bool.and_eq_true,decide_eq_true_eq] at h2
  omega
def zbK (out:List (List Int)) (x:Int):List (List Int) :=
 let o:=if x=1 then out++[[]] else out
 o.set (o.length-1) (o[o.length-1]?.getD []++[x-1])
def brGo (out:List (List Int)):List Int->List (List Int)
 | []=>out
 | x::l=>brGo (zbK out x) l
def brs (t:List Int):List (List Int):=brGo [] (t.drop 1)
theorem zmB (out:List (List Int)) (l r:List Int):brGo out (l++r)=brGo (brGo out l) r:=by
 induction l generalizing out with
 | nil=>rfl
 | cons x l ih=>exact ih _
theorem zdW {t:List Int} {i:Nat} (h1:1<=i) (h:i<t.length):brs (t.take (i+1))=zbK (brs (t.take i)) (t[i]?.getD 0):=by
 unfold brs
 have e:(t.take (i+1)).drop 1=(t.take i).drop 1++[t[i]?.getD 0]:=by
  rw [List.take_add_one,List.getElem?_eq_getElem h,Option.toList_some,List.drop_append_of_le_length (by simp; omega)]; rfl
 rw [e,zmB]; rfl
def Lv (t:List Int):Prop:=0<t.length/\t[0]?.getD 0=0/\∀ j,0<j->j<t.length->1<=t[j]?.getD 0/\t[j]?.getD 0<=t[j-1]?.getD 0+1
theorem zkh {t:List Int} (h:lv0 t=true):Lv t:=by
 unfold lv0 at h
 simp only [Bool.and_eq_true,decide_eq_true_eq,List.all_eq_true] at h
 refine ⟨h.1.1,h.1.2,fun j h1 h2=>?_⟩
 have:=h.2 j (by simpa using h2)
 rw [decide_eq_false (by omega)] at this
 unfold okB at this
 simpa using this
theorem Lv.le {t:List Int} (h:Lv t):∀ j,j<t.length->0<=t[j]?.getD 0/\t[j]?.getD 0<=j
 | 0,_=>by rw [h.2.1]; omega
 | j+1,hj=>by
  have h1:=h.le j (by omega)
  have h2:=h.2.2 (j+1) (by omega) hj
  rw [Nat.add_sub_cancel] at h2
  omega
theorem Lv.snoc {t:List Int} {x:Int} (h:Lv t) (h1:1<=x) (h2:x<=t[t.length-1]?.getD 0+1):Lv (t++[x]):=by
 obtain ⟨k1,k2,k3⟩:=h
 refine ⟨by simp,by rw [List.getElem?_append_left k1]; exact k2,fun j hj hl=>?_⟩
 simp at hl
 by_cases e:j=t.length
 .subst e
  rw [List.getElem?_append_right (by omega),List.getElem?_append_left (by omega)]
  simp; exact ⟨h1,h2⟩
 .rw [List.getElem?_append_left (by omega),List.getElem?_append_left (by omega)]
  exact k3 j hj (by omega)
theorem zhS:Lv [0]:=⟨by simp,rfl,fun j h1 h2=>by simp at h2; omega⟩
def sumN:List (List Int)->Nat
 | []=>0
 | b::l=>b.length+sumN l
theorem zdJ (a b:List (List Int)):sumN (a++b)=sumN a+sumN b:=by
 induction a with
 | nil=>simp [sumN]
 | cons x a ih=>simp [sumN,ih]; omega
theorem zfM {l:List (List Int)} {b:List Int} (h:b∈l):b.length<=sumN l:=by
 induction l with
 | nil=>simp at h
 | cons x l ih =>
  rw [sumN]
  rcases List.mem_cons.1 h with rfl | h
  .omega
  .have:=ih h; omega
theorem zmR {l:List (List Int)} (h:∀ b∈l,0<b.length):l.length<=sumN l:=by
 induction l with
 | nil=>simp
 | cons x l ih =>
  have h1:=h x (by simp)
  have h2:=ih (fun b hb=>h b (by simp [hb]))
  rw [sumN]; simp; omega
def BrI (out:List (List Int)) (p:Int) (n:Nat):Prop :=
 (∀ b∈out,Lv b)/\sumN out=n/\((out=[]/\p=0)\/∃ i l,out=i++[l]/\l[l.length-1]?.getD 0=p-1)
theorem ziZ {out:List (List Int)} {p x:Int} {n:Nat} (h:BrI out p n) (h1:1<=x) (h2:x<=p+1):BrI (zbK out x) x (n+1)/\(x≠1->out≠[]):=by
 obtain ⟨k1,k2,k3⟩:=h
 by_cases hx:x=1
 .subst hx
  have e:zbK out 1=out++[[0]]:=by
   unfold zbK
   simp only [if_true]
   rw [List.set_append_right _ _ (by simp),List.getElem?_append_right (by simp)]
   simp
  rw [e]
  refine ⟨⟨fun b hb=>?_,by rw [zdJ,k2]; rfl,.inr ⟨out,[0],rfl,rfl⟩⟩,by simp⟩
  rcases List.mem_append.1 hb with hb | hb
  .exact k1 b hb
  .simp at hb; subst hb; exact zhS
 .rcases k3 with ⟨rfl,rfl⟩ | ⟨i,l,rfl,hl⟩
  .omega
  .have e:zbK (i++[l]) x=i++[l++[x-1]]:=by
    unfold zbK
    simp only [if_neg hx]
    rw [List.set_append_right _ _ (by simp),List.getElem?_append_right (by simp)]
    simp
   rw [e]
   have hLl:=k1 l (by simp)
   refine ⟨⟨fun b hb=>?_,?_,.inr ⟨i,_,rfl,by simp⟩⟩,by simp⟩
   .rcases List.mem_append.1 hb with hb | hb
    .exact k1 b (by simp [hb])
    .simp at hb; subst hb
     exact hLl.snoc (by omega) (by rw [hl]; omega)
   .rw [zdJ] at k2 |-
    simp [sumN] at k2 |-; omega
theorem zjw {t:List Int} (h:Lv t):∀ i,1<=i->i<=t.length->BrI (brs (t.take i)) (t[i-1]?.getD 0) (i-1)
 | 1,_,_=>by
  have e:brs (t.take 1)=[]:=by
   unfold brs
   cases t with
   | nil=>rfl
   | cons a t=>rfl
  rw [e]
  refine ⟨by simp,rfl,.inl ⟨rfl,?_⟩⟩
  simpa using h.2.1
 | i+2,_,hl=>by
  have ih:=zjw h (i+1) (by omega) (by omega)
  have hb:=h.2.2 (i+1) (by omega) (by omega)
  rw [zdW (by omega) (by omega)]
  exact (ziZ ih hb.1 hb.2).1
theorem zn6 {t:List Int} (h:Lv t) {i:Nat} (h1:1<=i) (hl:i<t.length) (hx:t[i]?.getD 0≠1):brs (t.take i)≠[]:=by
 have ih:=zjw h i h1 (by omega)
 have hb:=h.2.2 i (by omega) hl
 exact (ziZ ih hb.1 hb.2).2 hx
theorem zeA {t:List Int} (h:Lv t) {b:List Int} (hb:b∈brs t):Lv b/\b.length<t.length:=by
 have hl:=h.1
 have:=zjw h t.length (by omega) (by omega)
 rw [List.take_length] at this
 obtain ⟨k1,k2,_⟩:=this
 have:=zfM hb
 exact ⟨k1 b hb,by omega⟩
theorem zdR {t:List Int} (h:Lv t) {i:Nat} (h1:1<=i) (hl:i<=t.length):(brs (t.take i)).length<i:=by
 obtain ⟨k1,k2,_⟩:=zjw h i h1 hl
 have:=zmR (fun b hb=>(k1 b hb).1)
 omega
end Go.Proofs.YthhdollpkieknaaGreat


namespace Go.Proofs.YthhdollpkieknaaGreat
open Go.Abs
theorem zfp (t:List Int) (hl:t.length<=1048576):Con Tryz.prog 193 [.sl t.length (avs t)] (.bool (lv0 t)):=by
 refine zab Tryz.mixed ⟨5,[],[],[]⟩ Tryz.func193 ?_
 rw [Tryz.ntmps193]
 simp [go_sem]
 refine zac (2::3::4::List.range' 7 27) (fun i:Nat=>[(7,.int i)]) (fun i=>i<=t.length/\(0<i->t[0]?.getD 0=0)/\∀ j,0<j->j<i->okB t j=true) (fun i=>t.length-i) 0 (by simp) (by simp [go_sem]) (by simp [go_sem]) ?_
 rintro i ⟨hi,h0,hp⟩
 simp [go_sem]
 refine ⟨fun h=>?_,fun h=>?_⟩ <;> simp at h
 .have hif:=h
  by_cases hz:i=0
  .have q1:(i=0)=True:=eq_true hz
   have q2:((i:Int)=0)=True:=eq_true (by omega)
   have q3:(0<i)=False:=eq_false (by omega)
   have q4:((0:Int)<i)=False:=eq_false (by omega)
   have h0t:t[0]?.getD 0=t[i]?.getD 0:=by rw [hz]
   by_cases h00:t[i]?.getD 0=0
   .simp -implicitDefEqProofs [go_sem,q1,q2,q3,q4,zaq hif,h00]
    refine ⟨⟨hif,by rintro rfl; simp at hif⟩,?_⟩
    exact ⟨by omega,i+1,⟨by omega,fun _=>by rw [h0t]; exact h00,fun j h1 h2=>by omega⟩,by omega,zaa _ _ _ (by simp),by omega⟩
   .simp -implicitDefEqProofs [go_sem,q1,q2,q3,q4,zaq hif,h00]
    refine ⟨⟨hif,by rintro rfl; simp at hif⟩,?_⟩
    rw [zqU (by rw [h0t]; exact h00)]
  .have hz':(0:Int)<i:=by omega
   have hz2:¬ (i:Int)=0:=by omega
   have hzp:0<i:=by omega
   have ek:(i:Int)-1=((i-1:Nat):Int):=by omega
   have hk:i-1<t.length:=by omega
   have hle:=zqy (h0 hzp) hp (i-1) (by omega)
   have cI:=zce (t[i]?.getD 0) 1 (t[i-1]?.getD 0+1)
   have hok:okB t i=(decide (1<=t[i]?.getD 0) && decide (t[i]?.getD 0<=t[i-1]?.getD 0+1)):=rfl
   rw [<- hok] at cI
   simp [go_sem,zaq hif,hz,hz2,hzp,hz',ek,zaq hk]
   refine ⟨⟨hif,by rintro rfl; simp at hif⟩,by omega,⟨hk,by rintro rfl; simp at hif⟩,⟨by omega,by omega⟩,?_⟩
   cases hb:okB t i with
   | true =>
    rw [hb] at cI
    refine CallVC.of (cI) ?_
    simp [go_sem]
    refine ⟨by omega,i+1,⟨by omega,fun _=>h0 hzp,fun j h1 h2=>?_⟩,by omega,zaa _ _ _ (by simp),by omega⟩
    by_cases e:j=i
    .rw [e]; exact hb
    .exact hp j h1 (by omega)
   | false =>
    rw [hb] at cI
    refine CallVC.of (cI) ?_
    simp [go_sem]
    rw [zql hif hzp hb]
 .simp [go_sem]
  by_cases hz:0<t.length
  .rw [zoT hz (h0 (by omega)) (fun j h1 h2=>hp j h1 (by omega)),decide_eq_true hz]
  .unfold lv0; rw [decide_eq_false hz]; rfl
theorem zjL (t:List Int) (hl:t.length<=1048576):Con Tryz.prog 104 [.sl t.length (avs t)] (.bool (lvB t)):=by
 unfold lvB
 have cI:=zfp t hl
 refine zab Tryz.mixed ⟨3,[],[],[]⟩ Tryz.func104 ?_
 rw [Tryz.ntmps104]
 simp [go_sem]
 by_cases h8:t.length<=8
 .have h8':(t.length:Int)<=8:=by omega
  simp [go_sem,h8,h8']
  refine CallVC.of (cI) ?_
  simp [go_sem]
 .have h8':¬ (t.length:Int)<=8:=by omega
  simp [go_sem,h8,h8']
end Go.Proofs.YthhdollpkieknaaGreat


namespace Go.Proofs.YthhdollpkieknaaGreat
open Go.Abs
theorem zf3 (A:List (List Int)) (k:Nat) (l:List Int):(omat A).set k (.own 2 l.length (avs l))=omat (A.set k l):=by
 simp [omat,List.map_set]
theorem zgu {A:List (List Int)} (h:A≠[]):(omat A)[A.length-1]?=some (.own 2 (A[A.length-1]?.getD []).length (avs (A[A.length-1]?.getD []))):=by
 have hl:A.length-1<A.length:=by have:=List.length_pos_iff.2 h; omega
 simp [omat,hl]
theorem zeY (A:List (List Int)):zbK A 1=A++[[0]]:=by
 unfold zbK
 simp only [if_true]
 rw [List.set_append_right _ _ (by simp),List.getElem?_append_right (by simp)]
 simp
theorem zen {A:List (List Int)} {x:Int} (h:x≠1):zbK A x=A.set (A.length-1) (A[A.length-1]?.getD []++[x-1]):=by
 unfold zbK; simp only [if_neg h]
theorem zju (t:List Int) (hl:t.length<=1048576) (ht:Lv t):Con Tryz.prog 267 [.sl t.length (avs t)] (.own 25 (brs t).length (omat (brs t))):=by
 refine zab Tryz.mixed ⟨6,[],[],[1000812990015]⟩ Tryz.func267 ?_
 rw [Tryz.ntmps267]
 simp [go_sem]
 refine zac (List.range' 3 36) (fun i:Nat=>[(3,.own 25 (brs (t.take i)).length (omat (brs (t.take i)))),(4,.int i)]) (fun i=>1<=i/\i<=t.length) (fun i=>t.length-i) 1 (by have:=ht.1; omega) (by simp [go_sem]; cases t <;> simp [brs,brGo,zdV]) (by simp [go_sem]) ?_
 rintro i ⟨h1,hi⟩
 simp [go_sem]
 refine ⟨fun h=>?_,fun h=>?_⟩ <;> simp at h
 .have hif:=h
  have hb:=zdW h1 hif
  have hm:=zdR ht h1 hi
  have hi2:=zjw ht i h1 hi
  have hok:=ht.2.2 i h1 hif
  have hle:=ht.le i (by omega)
  by_cases hx:t[i]?.getD 0=1
  .rw [hx,zeY] at hb
   simp [go_sem,zaq hif,hx]
   have e1:(brs (t.take i)).length+1=(brs (t.take (i+1))).length:=by rw [hb]; simp
   have e2:omat (brs (t.take i))++[AV.own 2 1 [AV.val (Value.int IntKind.i64 0)]]=omat (brs (t.take (i+1))):=by rw [hb,zbA,zco]; rfl
   repeat' apply And.intro
   all_goals first
    | omega
    | exact ⟨i+1,⟨by omega,by omega⟩,by omega,zaa _ _ _ (by simp),⟨e1,e2⟩,by omega⟩
    | (intro e; rw [e] at hif; simp at hif; done)
    | kernel_rfl
  .have hne:=zn6 ht h1 hif hx
   have hla:=zgu hne
   rw [zen hx] at hb
   generalize brs (t.take i)=O at *
   have hOl:1<=O.length:=List.length_pos_iff.2 hne
   have hlen:(O[O.length-1]?.getD []).length<=1048576:=by
    have:=zfM (l:=O) (b:=O[O.length-1]?.getD []) (by simp [show O.length-1<O.length by omega])
    have:=hi2.2.1
    omega
   have hsn:=zf3 O (O.length-1) (O[O.length-1]?.getD []++[t[i]?.getD 0-1])
   rw [<- hb] at hsn
   generalize O[O.length-1]?.getD []=l at *
   simp [go_sem,zaq hif,hx,hla]
   have e1:O.length=(brs (t.take (i+1))).length:=by rw [hb]; simp
   rw [zaE,List.length_append,List.length_singleton] at hsn
   repeat' apply And.intro
   all_goals first
    | omega
    | exact ⟨i+1,⟨by omega,by omega⟩,by omega,zaa _ _ _ (by simp),⟨e1,hsn⟩,by omega⟩
    | (intro e; rw [e] at hif; simp at hif; done)
    | kernel_rfl
 .simp [go_sem]
  rw [List.take_of_length_le h]
  simp
theorem zbZ (t:List Int) (hl:t.length<=1048576) (ht:Lv t):Con Tryz.prog 170 [.sl t.length (avs t)] (.own 25 (brs t).length (omat (brs t))):=by
 have ht1:=ht.1
 have ed:List.take (t.length-1) (List.drop 1 (avs t))=avs (t.drop 1):=by
  rw [List.take_of_length_le (by simp)]; simp [avs]
 refine zab Tryz.mixed ⟨6,[],[],[]⟩ Tryz.func170 ?_
 rw [Tryz.ntmps170]
 simp [go_sem]
 refine ⟨by omega,?_⟩
 refine zac (3::5::List.range' 10 25) (fun i:Nat=>[(3,.own 25 (brs (t.take (i+1))).length (omat (brs (t.take (i+1))))),(10,.int i)]) (fun i=>i+1<=t.length) (fun i=>t.length-i) 0 (by omega) (by simp [go_sem]; cases t <;> simp [brs,brGo,zdV]) (by simp [go_sem]) ?_
 rintro i hi
 simp [go_sem]
 refine ⟨fun h=>?_,fun h=>?_⟩ <;> simp at h
 .have hif:i+1<t.length:=by omega
  have hda:List.drop i (List.take (t.length-1) (avs t).tail)=.val (.int .i64 (t[i+1]?.getD 0))::avs (t.drop (i+2)):=by
   rw [List.take_of_length_le (by simp),<- List.drop_one,List.drop_drop,Nat.add_comm 1 i,zaq hif]; simp
  have hnn:¬ (avs t).tail=[]:=fun e=>by have:=congrArg List.length e; simp at this; omega
  have hn1:¬ t.length-1=0:=by omega
  have hn2:i<t.length-1:=by omega
  have hb:=zdW (i:=i+1) (by omega) hif
  have hm:=zdR ht (i:=i+1) (by omega) (by omega)
  have hi2:=zjw ht (i+1) (by omega) (by omega)
  have hok:=ht.2.2 (i+1) (by omega) hif
  have hle:=ht.le (i+1) hif
  by_cases hx:t[i+1]?.getD 0=1
  .rw [hx,zeY] at hb
   have e1:(brs (t.take (i+1))).length+1=(brs (t.take (i+1+1))).length:=by rw [hb]; simp
   have e2:omat (brs (t.take (i+1)))++[AV.own 2 1 [AV.val (Value.int IntKind.i64 0)]]=omat (brs (t.take (i+1+1))):=by rw [hb,zbA,zco]; rfl
   simp [go_sem,hda,hnn,hn1,hn2,hx]
   exact ⟨⟨by omega,by omega⟩,by omega,by omega,by omega,i+1,by omega,by omega,zaa _ _ _ (by simp),⟨e1,e2⟩,by omega⟩
  .have hne:=zn6 ht (i:=i+1) (by omega) hif hx
   have hla:=zgu hne
   rw [zen hx] at hb
   generalize hO:brs (t.take (i+1))=O at *
   have hOl:1<=O.length:=List.length_pos_iff.2 hne
   have hlen:(O[O.length-1]?.getD []).length<=1048576:=by
    have:=zfM (l:=O) (b:=O[O.length-1]?.getD []) (by simp [show O.length-1<O.length by omega])
    have:=hi2.2.1
    omega
   have hsn:=zf3 O (O.length-1) (O[O.length-1]?.getD []++[t[i+1]?.getD 0-1])
   rw [<- hb] at hsn
   generalize O[O.length-1]?.getD []=l at *
   have e1:O.length=(brs (t.take (i+1+1))).length:=by rw [hb]; simp
   rw [zaE,List.length_append,List.length_singleton] at hsn
   simp [go_sem,hda,hnn,hn1,hn2,hx,hla]
   repeat' apply And.intro
   all_goals first
    | omega
    | exact ⟨i+1,by omega,by omega,zaa _ _ _ (by simp),⟨e1,hsn⟩,by omega⟩
 .simp [go_sem]
  have e:t.take (i+1)=t:=List.take_of_length_le (by omega)
  rw [e]
  simp
end Go.Proofs.YthhdollpkieknaaGreat


namespace Go.Proofs.YthhdollpkieknaaGreat
open Go.Abs
theorem zjU {t:List Int} (h:Lv t):(brs t).length<t.length:=by
 have h1:=h.1
 have:=zdR h (i:=t.length) (by omega) (by omega)
 rwa [List.take_length] at this
theorem zkS (A:List (List Int)) (i:Nat) (h:i<A.length):omat (A.take (i+1))=omat (A.take i)++[.own 2 (A[i]?.getD []).length (avs (A[i]?.getD []))]:=by
 rw [List.take_add_one,zbA]; simp [h,omat]
end Go.Proofs.YthhdollpkieknaaGreat


namespace Go.Proofs.YthhdollpkieknaaGreat
open Go.Abs
theorem zhf (a:List (List Int)) (hl:a.length<=1048576) (hr:∀ r∈a,r.length<=1048576) :
  Con Tryz.prog 222 [.sl a.length (mat a)] (.own 25 a.length (omat a)):=by
 refine zab Tryz.mixed ⟨6,[],[],[]⟩ Tryz.func222 ?_
 rw [Tryz.ntmps222]
 simp [go_sem]
 refine zac (3::5::List.range' 9 10) (fun i:Nat=>[(3,.own 25 i (omat (a.take i))),(9,.int i)]) (fun i=>i<=a.length) (fun i=>a.length-i) 0 (by simp) (by simp [go_sem,zdV]) (by simp [go_sem]) ?_
 intro i hi
 simp [go_sem]
 refine ⟨fun h=>?_,fun h=>?_⟩ <;> simp at h
 .simp [go_sem,zat h]
  refine ⟨⟨h,by rintro rfl; simp at h⟩,?_⟩
  refine CallVC.of (zkO (a[i]?.getD []) (hr _ (by simp [h]))) ?_
  simp [go_sem]
  have ht:=zkS a i h
  refine ⟨⟨by omega,by omega,by omega⟩,by omega,i+1,by omega,by omega,zaa _ _ _ (by simp),by rw [ht]; exact ⟨rfl,rfl⟩,by omega⟩
 .have e:i=a.length:=by omega
  subst e
  simp [go_sem]
end Go.Proofs.YthhdollpkieknaaGreat


namespace Go.Proofs.YthhdollpkieknaaGreat
open Go.Abs
end Go.Proofs.YthhdollpkieknaaGreat


namespace Go.Proofs.YthhdollpkieknaaGreat
open Go.Abs
end Go.Proofs.YthhdollpkieknaaGreat


namespace Go.Proofs.YthhdollpkieknaaGreat
open Go.Abs
end Go.Proofs.YthhdollpkieknaaGreat


namespace Go.Proofs.YthhdollpkieknaaGreat
open Go.Abs
def tmN (i j n:Nat):Nat:=if i<=n then (if n<i+j then i+1 else i) else n+1
def tmS (a b:List Int) (i j:Nat):List Int:=tb (fun n=>cv a b n (tmN i j n)%10007) a.length
@[simp] theorem zpC (a b:List Int) (i j:Nat):(tmS a b i j).length=a.length:=by simp [tmS]
theorem zsb (a b:List Int) (i j:Nat):Ns (tmS a b i j):=tb_N fun i _=>zaG _
theorem zmS (a b:List Int):tmS a b 0 0=List.replicate a.length 0:=by
 refine List.ext_getElem (by simp) fun n h1 h2=>?_
 simp [tmS,tb,tmN,cv]
theorem znN (a b:List Int) (i j:Nat) (h:a.length<=i+j):tmS a b i j=tmS a b (i+1) 0:=by
 unfold tmS tb
 refine List.map_congr_left fun n hn=>?_
 have hn:n<a.length:=by simpa using hn
 have e:tmN i j n=tmN (i+1) 0 n:=by unfold tmN; (repeat' split) <;> omega
 rw [e]
theorem zoX (a b:List Int):tmS a b a.length 0=mulS a b:=by
 unfold tmS mulS tb
 refine List.map_congr_left fun n hn=>?_
 have hn:n<a.length:=by simpa using hn
 have e:tmN a.length 0 n=n+1:=by unfold tmN; split <;> omega
 rw [e]
theorem zpt (a b:List Int) (i j:Nat) (h:i+j<a.length):(tmS a b i j).set (i+j) (((tmS a b i j)[i+j]?.getD 0+a[i]?.getD 0*b[j]?.getD 0)%10007)=tmS a b i (j+1):=by
 refine List.ext_getElem (by simp) fun n h1 h2=>?_
 simp at h1
 rw [List.getElem_set]
 by_cases e:i+j=n
 .subst e
  have e1:tmN i j (i+j)=i:=by unfold tmN; (repeat' split) <;> omega
  have e2:tmN i (j+1) (i+j)=i+1:=by unfold tmN; (repeat' split) <;> omega
  have e3:i+j-i=j:=by omega
  have g:=zlr (fun n=>cv a b n (tmN i j n)%10007) h
  have g2:(tmS a b i j)[i+j]?.getD 0=cv a b (i+j) (tmN i j (i+j))%10007:=g
  simp only [if_true,g2,e1]
  simp only [tmS,tb,List.getElem_map,List.getElem_range,e2,cv,e3]
  omega
 .have e1:tmN i j n=tmN i (j+1) n:=by unfold tmN; (repeat' split) <;> omega
  simp only [e,if_false,tmS,tb,List.getElem_map,List.getElem_range,e1]
theorem zfP (a b:List Int) (ha:Ns a) (hb:Ns b) (hl:a.length<=1048576) (hab:a.length<=b.length) :
  Con Tryz.prog 201 [.sl a.length (avs a),.sl b.length (avs b)] (.own 2 a.length (avs (mulS a b))):=by
 refine zab Tryz.mixed ⟨9,[],[],[]⟩ Tryz.func201 ?_
 rw [Tryz.ntmps201]
 simp [go_sem]
 refine ⟨by omega,?_⟩
 refine zac (5::6::7::8::List.range' 14 33) (fun i:Nat=>[(5,.own 2 a.length (avs (tmS a b i 0))),(14,.int i)]) (fun i=>i<=a.length) (fun i=>a.length-i) 0 (by simp) (by simp [go_sem,zmS,zms]) (by simp [go_sem]) ?_
 intro i hi
 simp [go_sem]
 refine ⟨fun h=>?_,fun h=>?_⟩ <;> simp at h
 .have hi2:=h
  simp [go_sem,zaq hi2]
  refine ⟨⟨hi2,by rintro rfl; simp at hi2⟩,?_⟩
  refine zac (5::8::List.range' 19 27) (fun j:Nat=>[(5,.own 2 a.length (avs (tmS a b i j))),(8,.int j)]) (fun j=>i+j<=a.length) (fun j=>a.length-j) 0 (by simp; omega) (by simp [go_sem]) (by simp [go_sem]) ?_
  intro j hj
  simp [go_sem]
  refine ⟨⟨by omega,by omega⟩,?_⟩
  refine ⟨fun h=>?_,fun h=>?_⟩ <;> simp at h
  .have k0:i+j<a.length:=by omega
   have k1:j<b.length:=by omega
   have k2:i+j<(tmS a b i j).length:=by rw [zpC]; exact k0
   have hset:=zpt a b i j k0
   have tN:=(zsb a b i j).get (i+j)
   have m1:=zaS (ha.get i) (hb.get j)
   have m2:fits ((tmS a b i j)[i+j]?.getD 0+a[i]?.getD 0*b[j]?.getD 0):=by
    have x0:=zf7 (ha.get i) (hb.get j)
    obtain ⟨y0,y1⟩:=tN
    exact ⟨by omega,by omega⟩
   have ij:((i:Int)+j).toNat=i+j:=by omega
   simp [go_sem,ij,zaq k1,zca k2]
   refine ⟨by kernel_rfl,⟨by omega,by omega⟩,⟨by omega,by omega⟩,⟨k1,by intro e; simp [e] at k1⟩,m1,m2,?_⟩
   refine CallD.of (zeL _ m2.1 m2.2) ?_
   simp [go_sem]
   refine ⟨⟨by omega,by omega⟩,by omega,?_⟩
   refine ⟨by kernel_rfl,?_⟩
   simp [go_sem]
   exact ⟨by omega,j+1,by omega,by omega,zaa _ _ _ (by simp),by rw [ij,zaM,hset],by omega⟩
  .have hx:a.length<=i+j:=by omega
   have hn:=znN a b i j hx
   simp [go_sem]
   exact ⟨by omega,i+1,by omega,by omega,(Off.reset (by intro x hx; simp at hx |-; omega) (by simp) (by simp [go_sem,zaa])),by rw [hn],by omega⟩
 .have e:i=a.length:=by omega
  subst e
  simp [go_sem]
  exact zoX a b
end Go.Proofs.YthhdollpkieknaaGreat


namespace Go.Proofs.YthhdollpkieknaaGreat
abbrev Mx:=Nat->Nat->Int
def sgd (i:Nat):Int:=if i%2=0 then 1 else -1
theorem znF (i:Nat):sgd (i+1) =-sgd i:=by
 unfold sgd
 by_cases h:i%2=0
 .rw [if_pos h,if_neg (by omega)]
 .rw [if_neg h,if_pos (by omega)]; rfl
def dsum (f:Nat->Int):Nat->Int
 | 0=>0
 | n+1=>dsum f n+f n
theorem zcr {f g:Nat->Int}:∀ {n:Nat},(∀ i,i<n->f i=g i)->dsum f n=dsum g n
 | 0,_=>rfl
 | n+1,h=>by rw [dsum,dsum,zcr (fun i hi=>h i (by omega)),h n (by omega)]
theorem zfV (f g:Nat->Int) (k:Int):∀ n:Nat,dsum (fun i=>f i+k*g i) n=dsum f n+k*dsum g n
 | 0=>by simp [dsum]
 | n+1=>by rw [dsum,dsum,dsum,zfV f g k n,Int.mul_add]; omega
theorem zev {f:Nat->Int}:∀ {n:Nat},(∀ i,i<n->f i=0)->dsum f n=0
 | 0,_=>rfl
 | n+1,h=>by rw [dsum,zev (fun i hi=>h i (by omega)),h n (by omega)]; rfl
theorem zda {f:Nat->Int} {k:Nat}:∀ {n:Nat},k<n->(∀ i,i<n->i≠k->f i=0)->dsum f n=f k
 | 0,h,_=>by omega
 | n+1,h,hz=>by
  rw [dsum]
  by_cases e:k=n
  .subst e
   rw [zev (fun i hi=>hz i (by omega) (by omega)),Int.zero_add]
  .rw [zda (n:=n) (by omega) (fun i hi hne=>hz i (by omega) hne),hz n (by omega) (by omega),Int.add_zero]
theorem ziC {f:Nat->Int} {k:Nat}:∀ {n:Nat},k+1<n->(∀ i,i<n->i≠k->i≠k+1->f i=0)->dsum f n=f k+f (k+1)
 | 0,h,_=>by omega
 | n+1,h,hz=>by
  rw [dsum]
  by_cases e:k+1=n
  .subst e
   rw [zda (k:=k) (by omega) (fun i hi hne=>hz i (by omega) hne (by omega))]
  .rw [ziC (n:=n) (by omega) (fun i hi h1 h2=>hz i (by omega) h1 h2),hz n (by omega) (by omega) (by omega),Int.add_zero]
def mnr (M:Mx) (i:Nat):Mx:=fun r c=>M (if r<i then r else r+1) (c+1)
def det:Nat->Mx->Int
 | 0,_=>1
 | n+1,M=>dsum (fun i=>sgd i*M i 0*det n (mnr M i)) (n+1)
def updR (M:Mx) (i:Nat) (w:Nat->Int):Mx:=fun r=>if r=i then w else M r
theorem zcc (M:Mx) (i:Nat):updR M i (M i)=M:=funext fun r=>by
 unfold updR; split
 .rename_i h; rw [h]
 .rfl
theorem zdr (M:Mx) (i:Nat) (w:Nat->Int):updR M i w i=w:=by simp [updR]
theorem zdi (M:Mx) {i r:Nat} (w:Nat->Int) (h:r≠i):updR M i w r=M r:=by simp [updR,h]
theorem zaY (M:Mx) {i j:Nat} (h:i≠j) (v w:Nat->Int):updR (updR M i v) j w=updR (updR M j w) i v:=funext fun r=>by
 unfold updR
 by_cases h1:r=i
 .subst h1; rw [if_neg h,if_pos rfl,if_pos rfl]
 .rw [if_neg h1,if_neg h1]
theorem zm6 (M:Mx) (i:Nat) (w:Nat->Int):mnr (updR M i w) i=mnr M i:=funext fun r=>funext fun c=>by
 unfold mnr updR
 rw [if_neg (by split <;> omega)]
theorem zqz (M:Mx) {i j:Nat} (w:Nat->Int) (h:j≠i):mnr (updR M i w) j=updR (mnr M j) (if i<j then i else i-1) (fun c=>w (c+1)):=funext fun r=>funext fun c=>by
 unfold mnr updR
 by_cases h1:(if r<j then r else r+1)=i
 .have h2:r=if i<j then i else i-1:=by
   split at h1 <;> split <;> omega
  rw [if_pos h1,if_pos h2]
 .have h2:¬ r=if i<j then i else i-1:=by
   split at h1 <;> split <;> omega
  rw [if_neg h1,if_neg h2]
theorem zfX {p:Int}:∀ {n:Nat} {M N:Mx},(∀ r c,r<n->c<n->M r c%p=N r c%p)->det n M%p=det n N%p
 | 0,_,_,_=>rfl
 | n+1,M,N,h=>by
  rw [det,det]
  have gen:∀ m:Nat,m<=n+1->dsum (fun i=>sgd i*M i 0*det n (mnr M i)) m%p=dsum (fun i=>sgd i*N i 0*det n (mnr N i)) m%p:=by
   intro m
   induction m with
   | zero=>intro _; rfl
   | succ m ih =>
    intro hm
    rw [dsum,dsum,Int.add_emod,ih (by omega),Int.add_emod (dsum (fun i=>sgd i*N i 0*det n (mnr N i)) m)]
    have e1:=h m 0 (by omega) (by omega)
    have e2:=zfX (p:=p) (n:=n) (M:=mnr M m) (N:=mnr N m) (fun r c hr hc=>h _ _ (by split <;> omega) (by omega))
    have e3:(sgd m*M m 0*det n (mnr M m))%p=(sgd m*N m 0*det n (mnr N m))%p:=by
     rw [Int.mul_emod,Int.mul_emod (sgd m),e1,e2,<- Int.mul_emod (sgd m),<- Int.mul_emod]
    rw [e3]
  exact gen _ (Nat.le_refl _)
theorem zb8:∀ {n:Nat} (M:Mx) {i:Nat} (u v:Nat->Int) (k:Int),i<n->det n (updR M i (fun c=>u c+k*v c))=det n (updR M i u)+k*det n (updR M i v)
 | 0,_,_,_,_,_,h=>by omega
 | n+1,M,i,u,v,k,h=>by
  rw [det,det,det,<- zfV]
  refine zcr fun j hj=>?_
  by_cases e:j=i
  .subst e
   simp only [zm6,zdr]
   generalize det n (mnr M j)=d
   rw [Int.mul_add,Int.add_mul]
   congr 1
   ac_rfl
  .simp only [zqz M _ e,zdi M _ e]
   rw [zb8 (n:=n) (mnr M j) (fun c=>u (c+1)) (fun c=>v (c+1)) k (by split <;> omega),Int.mul_add]
   congr 1
   ac_rfl
theorem zfD:∀ {n:Nat} (M:Mx) {i:Nat},i+1<n->M i=M (i+1)->det n M=0
 | 0,_,_,h,_=>by omega
 | n+1,M,i,h,he=>by
  rw [det,ziC (k:=i) h]
  .have hm:mnr M (i+1)=mnr M i:=funext fun r=>funext fun c=>by
    unfold mnr
    by_cases h1:r<i
    .rw [if_pos (by omega),if_pos h1]
    .by_cases h2:r=i
     .subst h2; rw [if_pos (by omega),if_neg (by omega),he]
     .rw [if_neg (by omega),if_neg (by omega)]
   rw [hm,<- he,znF,Int.neg_mul,Int.neg_mul]
   omega
  .intro j hj h1 h2
   have hz:det n (mnr M j)=0:=by
    by_cases hlt:i<j
    .refine zfD (mnr M j) (i:=i) (by omega) (funext fun c=>?_)
     unfold mnr
     rw [if_pos hlt,if_pos (by omega),he]
    .obtain ⟨i',rfl⟩:∃ i',i=i'+1:=⟨i-1,by omega⟩
     refine zfD (mnr M j) (i:=i') (by omega) (funext fun c=>?_)
     unfold mnr
     rw [if_neg (by omega),if_neg (by omega),he]
   rw [hz,Int.mul_zero]
theorem zkc {n:Nat} (M:Mx) {i:Nat} (h:i+1<n) (u v:Nat->Int):det n (updR (updR M i u) (i+1) v) =-det n (updR (updR M i v) (i+1) u):=by
 have hne:i≠i+1:=by omega
 have z:=fun w:Nat->Int=>zfD (n:=n) (updR (updR M i w) (i+1) w) h (by rw [zdr,zdi _ _ hne,zdr])
 have s:=z (fun c=>u c+1*v c)
 rw [zb8 _ u v 1 h,zaY _ hne,zaY _ hne,zb8 _ u v 1 (by omega),zb8 _ u v 1 (by omega)] at s
 have zu:=z u
 have zv:=z v
 rw [zaY _ hne] at zu zv
 rw [zaY _ hne,zaY (M) hne v u]
 omega
theorem zkW:∀ {n:Nat} (k:Nat) (M:Mx) {i:Nat},i+k+1<n->M i=M (i+k+1)->det n M=0
 | n,0,M,i,h,he=>zfD M h he
 | n,k+1,M,i,h,he=>by
  have hne:i+k+1≠i+(k+1)+1:=by omega
  have e0:M=updR (updR M (i+k+1) (M (i+k+1))) (i+k+1+1) (M (i+k+1+1)):=by rw [zcc,zcc]
  rw [e0,zkc M (i:=i+k+1) (by omega)]
  have:=zkW k (updR (updR M (i+k+1) (M (i+k+1+1))) (i+k+1+1) (M (i+k+1))) (i:=i) (n:=n) (by omega) (by
   rw [zdi _ _ (show i≠i+k+1+1 by omega),zdi _ _ (show i≠i+k+1 by omega),zdi _ _ (show i+k+1≠i+k+1+1 by omega),zdr]
   exact he)
  rw [this]; rfl
theorem zmw {n:Nat} (M:Mx) {i j:Nat} (hi:i<n) (hj:j<n) (hne:i≠j) (he:M i=M j):det n M=0:=by
 by_cases h:i<j
 .have e:j=i+(j-i-1)+1:=by omega
  rw [e] at he
  exact zkW (j-i-1) M (by omega) he
 .have e:i=j+(i-j-1)+1:=by omega
  rw [e] at he
  exact zkW (i-j-1) M (by omega) he.symm
theorem zoq {n:Nat} (M:Mx) {i:Nat} (hi:i<n) (hz:∀ c,M i c=0):det n M=0:=by
 have:=zb8 M (M i) (M i) 1 hi
 have e:(fun c=>M i c+1*M i c)=M i:=funext fun c=>by rw [hz c]; rfl
 rw [e,zcc] at this
 omega
theorem zmd {n:Nat} (M:Mx) {i j:Nat} (hi:i<n) (hj:j<n) (hne:i≠j) (u v:Nat->Int):det n (updR (updR M i u) j v) =-det n (updR (updR M i v) j u):=by
 have z:=fun w:Nat->Int=>zmw (n:=n) (updR (updR M i w) j w) hi hj hne (by rw [zdr,zdi _ _ hne,zdr])
 have s:=z (fun c=>u c+1*v c)
 rw [zb8 _ u v 1 hj,zaY _ hne,zaY _ hne,zb8 _ u v 1 hi,zb8 _ u v 1 hi] at s
 have zu:=z u
 have zv:=z v
 rw [zaY _ hne] at zu zv
 rw [zaY _ hne,zaY (M) hne v u]
 omega
def idM:Mx:=fun r c=>if r=c then 1 else 0
theorem zqL:mnr idM 0=idM:=funext fun r=>funext fun c=>by simp [mnr,idM]
theorem zhv:∀ n:Nat,det n idM=1
 | 0=>rfl
 | n+1=>by
  rw [det,zda (k:=0) (by omega) (fun i hi hne=>by simp [idM,hne]),zqL,zhv n]
  simp [sgd,idM]
def updC (M:Mx) (k:Nat) (b:Nat->Int):Mx:=fun r c=>if c=k then b r else M r c
theorem zk1:∀ {n k:Nat} (b:Nat->Int),k<n->det n (updC idM k b)=b k
 | 0,_,_,h=>by omega
 | n+1,0,b,_=>by
  rw [det,zda (k:=0) (by omega)]
  .have e:mnr (updC idM 0 b) 0=idM:=funext fun r=>funext fun c=>by simp [mnr,updC,idM]
   rw [e,zhv]
   simp [sgd,updC]
  .intro i hi hne
   rw [zoq (mnr (updC idM 0 b) i) (i:=0) (by omega) (fun c=>by
    have:(0:Nat)<i:=by omega
    simp [mnr,updC,idM,this]),Int.mul_zero]
 | n+1,k+1,b,h=>by
  rw [det,zda (k:=0) (by omega)]
  .have e:mnr (updC idM (k+1) b) 0=updC idM k (fun r=>b (r+1)):=funext fun r=>funext fun c=>by simp [mnr,updC,idM]
   rw [e,zk1 _ (by omega)]
   simp [sgd,updC,idM]
  .intro i hi hne
   have:updC idM (k+1) b i 0=0:=by simp [updC,idM,hne]
   rw [this]; simp
end Go.Proofs.YthhdollpkieknaaGreat


namespace Go.Proofs.YthhdollpkieknaaGreat
theorem zdc (f:Nat->Int):∀ n,dsum f (n+1)=f 0+dsum (fun i=>f (i+1)) n
 | 0=>by simp [dsum]
 | n+1=>by rw [dsum,zdc f n,dsum]; omega
theorem zi1 (k:Int) (f:Nat->Int):∀ n,k*dsum f n=dsum (fun i=>k*f i) n
 | 0=>by simp [dsum]
 | n+1=>by rw [dsum,dsum,Int.mul_add,zi1 k f n]
theorem zgs (f g:Nat->Int):∀ n,dsum (fun i=>f i+g i) n=dsum f n+dsum g n
 | 0=>by simp [dsum]
 | n+1=>by rw [dsum,dsum,dsum,zgs f g n]; omega
end Go.Proofs.YthhdollpkieknaaGreat


namespace Go.Proofs.YthhdollpkieknaaGreat
open Go.Abs CR
section
variable {α:Type}
def mnR (M:Nat->Nat->α) (i:Nat):Nat->Nat->α:=fun r c=>M (if r<i then r else r+1) (c+1)
end
section
variable {α:Type} [CR α]
def dR (f:Nat->α):Nat->α
 | 0=>ofI 0
 | n+1=>dR f n+f n
def dtR:Nat->(Nat->Nat->α)->α
 | 0,_=>ofI 1
 | n+1,M=>dR (fun i=>ofI (sgd i)*M i 0*dtR n (mnR M i)) (n+1)
end
end Go.Proofs.YthhdollpkieknaaGreat


namespace Go.Proofs.YthhdollpkieknaaGreat
open Go.Abs CR
section
variable {α:Type} [CR α]
end
end Go.Proofs.YthhdollpkieknaaGreat


namespace Go.Proofs.YthhdollpkieknaaGreat
open Go.Abs CR
section
variable {α:Type} [CR α]
end
end Go.Proofs.YthhdollpkieknaaGreat


namespace Go.Proofs.YthhdollpkieknaaGreat
open Go.Abs CR
theorem zin (b:Ser Int):∀ (k:Nat) (a:Ser Int),(∀ i,a i=0)->cmul k a b=0
 | 0,a,h=>by show a 0*b 0=0; rw [h 0,Int.zero_mul]
 | k+1,a,h=>by
  show a 0*b (k+1)+cmul k (sh a) b=0
  rw [h 0,zin b k (sh a) (fun i=>h (i+1)),Int.zero_mul]; rfl
theorem zmy {a:Ser Int} (h:∀ i,a (i+2)=0) (b:Ser Int) (k:Nat):cmul (k+1) a b=a 0*b (k+1)+a 1*b k:=by
 show a 0*b (k+1)+cmul k (sh a) b=_
 congr 1
 cases k with
 | zero=>rfl
 | succ k =>
  show sh a 0*b (k+1)+cmul k (sh (sh a)) b=_
  rw [zin b k (sh (sh a)) (fun i=>h i),Int.add_zero]; rfl
def Ev (z:Int) (d:Nat) (f:Ser Int) (v:Int):Prop:=(∀ k,d<k->f k=0)/\dsum (fun k=>f k*z ^ k) (d+1)=v
theorem Ev.zero (z:Int) (d:Nat):Ev z d (ofI 0) 0:=by
 have h0:∀ k,(ofI 0:Ser Int) k=0:=fun k=>by cases k <;> rfl
 exact ⟨fun k _=>h0 k,zev fun k _=>by rw [h0,Int.zero_mul]⟩
theorem Ev.add {z:Int} {d:Nat} {f g:Ser Int} {v w:Int} (h:Ev z d f v) (k:Ev z d g w):Ev z d (f+g) (v+w):=by
 refine ⟨fun i hi=>by rw [zkx,h.1 i hi,k.1 i hi]; rfl,?_⟩
 rw [<- h.2,<- k.2,<- zgs]
 exact zcr fun i hi=>by rw [zkx,Int.add_mul]
theorem Ev.lin {z:Int} {d:Nat} {f g:Ser Int} {w:Int} (hf:∀ i,f (i+2)=0) (k:Ev z d g w):Ev z (d+1) (f*g) ((f 0+f 1*z)*w):=by
 have at1:∀ i,(f*g) (i+1)=f 0*g (i+1)+f 1*g i:=fun i=>zmy hf g i
 have at0:(f*g) 0=f 0*g 0:=rfl
 refine ⟨fun i hi=>?_,?_⟩
 .obtain ⟨j,rfl⟩:∃ j,i=j+1:=⟨i-1,by omega⟩
  rw [at1,k.1 (j+1) (by omega),k.1 j (by omega)]; omega
 .have e1:dsum (fun i=>(f*g) (i+1)*z ^ (i+1)) (d+1)=dsum (fun i=>f 0*(g (i+1)*z ^ (i+1))+(f 1*z)*(g i*z ^ i)) (d+1) :=
   zcr fun i hi=>by
    rw [at1,Int.add_mul,Int.pow_succ]
    congr 1
    .rw [Int.mul_assoc]
    .rw [Int.mul_assoc,Int.mul_assoc]
     congr 1
     rw [<- Int.mul_assoc,Int.mul_comm]
  have e2:dsum (fun i=>g i*z ^ i) (d+1+1)=w:=by
   show dsum (fun i=>g i*z ^ i) (d+1)+g (d+1)*z ^ (d+1)=w
   rw [k.2,k.1 (d+1) (by omega),Int.zero_mul,Int.add_zero]
  rw [zdc] at e2
  rw [zdc,e1,zfV,at0,<- zi1,k.2,Int.add_mul]
  have e3:f 0*w=f 0*(g 0*z ^ 0)+f 0*dsum (fun i=>g (i+1)*z ^ (i+1)) (d+1):=by rw [<- Int.mul_add,e2]
  rw [e3,Int.mul_assoc (f 0) (g 0),Int.add_assoc]
theorem Ev.dR {z:Int} {d:Nat} {f:Nat->Ser Int} {v:Nat->Int}:∀ {n:Nat},(∀ i,i<n->Ev z d (f i) (v i))->Ev z d (dR f n) (dsum v n)
 | 0,_=>Ev.zero z d
 | n+1,h=>Ev.add (Ev.dR (n:=n) (fun i hi=>h i (by omega))) (h n (by omega))
theorem Ev.det {z:Int}:∀ (n:Nat) (A:Nat->Nat->Ser Int),(∀ r c i,A r c (i+2)=0)->Ev z n (dtR n A) (det n (fun r c=>A r c 0+A r c 1*z))
 | 0,A,_=>by
  refine ⟨fun k hk=>?_,?_⟩
  .obtain ⟨j,rfl⟩:∃ j,k=j+1:=⟨k-1,by omega⟩
   rfl
  .show (0:Int)+1*z ^ 0=1
   rw [Int.pow_zero]; rfl
 | n+1,A,h=>by
  rw [dtR,Go.Proofs.YthhdollpkieknaaGreat.det]
  refine Ev.dR fun i hi=>?_
  have q:=Ev.lin (f:=ofI (sgd i)*A i 0) (fun t=>by
   show cmul (t+2) (sOf (sgd i)) (A i 0)=0
   rw [zbL,zem,h,Int.zero_mul]) (Ev.det (z:=z) n (mnR A i) (fun r c t=>h _ _ _))
  have e:∀ t,(ofI (sgd i)*A i 0) t=sgd i*A i 0 t:=fun t=>by
   show cmul t (sOf (sgd i)) (A i 0)=_
   rw [zbL,zem]; exact Int.mul_comm _ _
  rw [e,e,Int.mul_assoc,<- Int.mul_add] at q
  exact q
end Go.Proofs.YthhdollpkieknaaGreat


namespace Go.Proofs.YthhdollpkieknaaGreat
open Go.Abs CR
section
variable {α:Type} [CR α]
end
def serEq (a b:Ser Int):Prop:=∀ k,a k%10007=b k%10007
theorem ziD {a b c d:Int} (h:a%10007=b%10007) (k:c%10007=d%10007):(a*c)%10007=(b*d)%10007:=by
 rw [Int.mul_emod,h,k,<- Int.mul_emod]
theorem zmg {a b c d:Int} (h:a%10007=b%10007) (k:c%10007=d%10007):(a+c)%10007=(b+d)%10007:=by
 rw [Int.add_emod,h,k,<- Int.add_emod]
theorem zmN (n:Nat):∀ {a b c d:Ser Int},(∀ i,i<=n->a i%10007=b i%10007)->(∀ i,i<=n->c i%10007=d i%10007)->cmul n a c%10007=cmul n b d%10007:=by
 induction n with
 | zero=>intro a b c d h k; exact ziD (h 0 (Nat.le_refl _)) (k 0 (Nat.le_refl _))
 | succ n ih =>
  intro a b c d h k
  rw [cmul,cmul]
  exact zmg (ziD (h 0 (by omega)) (k (n+1) (by omega))) (ih (fun i hi=>h (i+1) (by omega)) (fun i hi=>k i (by omega)))
end Go.Proofs.YthhdollpkieknaaGreat


namespace Go.Proofs.YthhdollpkieknaaGreat
def sel (W:Mx) (g:Nat->Nat):Mx:=fun r c=>W r (g c)
theorem zla (W:Mx) (i:Nat) (w:Nat->Int) (g:Nat->Nat):sel (updR W i w) g=updR (sel W g) i (fun c=>w (g c)):=funext fun r=>funext fun c=>by
 unfold sel updR; split <;> rfl
def RowEq (n w:Nat) (W W':Mx):Prop:=∃ s t:Int,s*t%10007=1/\∀ g:Nat->Nat,(∀ c,c<n->g c<w)->det n (sel W g)*s%10007=det n (sel W' g)%10007
theorem RowEq.refl (n w:Nat) (W:Mx):RowEq n w W W:=⟨1,1,rfl,fun g hg=>by rw [Int.mul_one]⟩
theorem zgt (a b:Int):a%10007*b%10007=a*b%10007:=by rw [Int.mul_emod,Int.emod_emod_of_dvd _ (Int.dvd_refl _),<- Int.mul_emod]
theorem RowEq.trans {n w:Nat} {W X Y:Mx} (h:RowEq n w W X) (k:RowEq n w X Y):RowEq n w W Y:=by
 obtain ⟨s,t,h1,h2⟩:=h
 obtain ⟨s',t',k1,k2⟩:=k
 refine ⟨s*s',t*t',?_,fun g hg=>?_⟩
 .have e:s*s'*(t*t')=(s*t)*(s'*t'):=by ac_rfl
  rw [e,Int.mul_emod,h1,k1]; rfl
 .rw [<- k2 g hg,<- Int.mul_assoc,<- zgt,h2 g hg,zgt]
theorem RowEq.swap {n w:Nat} (W:Mx) {i j:Nat} (hi:i<n) (hj:j<n) (hne:i≠j):RowEq n w W (updR (updR W i (W j)) j (W i)) :=
 ⟨-1,-1,rfl,fun g hg=>by
  rw [zla,zla]
  have e:sel W g=updR (updR (sel W g) i (fun c=>W i (g c))) j (fun c=>W j (g c)):=by
   have e1:(fun c=>W i (g c))=sel W g i:=rfl
   have e2:(fun c=>W j (g c))=sel W g j:=rfl
   rw [e1,e2,zcc,zcc]
  have h:=zmd (sel W g) hi hj hne (fun c=>W j (g c)) (fun c=>W i (g c))
  rw [h,<- e]
  congr 1
  omega⟩
theorem RowEq.full {n:Nat} {W W':Mx} (h:RowEq n (n+1) W W') (hid:∀ r c,r<n->c<n->W' r c%10007=idM r c%10007) :
  ∃ s:Int,det n W*s%10007=1/\∀ k,k<n->W' k n%10007=det n (updC W k (fun r=>W r n))*s%10007:=by
 obtain ⟨s,t,h1,h2⟩:=h
 refine ⟨s,?_,fun k hk=>?_⟩
 .have:=h2 id (fun c hc=>by show c<n+1; omega)
  have e:∀ X:Mx,sel X id=X:=fun X=>rfl
  rw [e,e,zfX (p:=10007) (N:=idM) hid,zhv] at this
  exact this
 .have:=h2 (fun c=>if c=k then n else c) (fun c hc=>by show (if c=k then n else c)<n+1; split <;> omega)
  have e:sel W (fun c=>if c=k then n else c)=updC W k (fun r=>W r n):=funext fun r=>funext fun c=>by
   by_cases hc:c=k
   .simp [sel,updC,hc]
   .simp [sel,updC,hc]
  rw [e] at this
  rw [this,zfX (p:=10007) (N:=updC idM k (fun r=>W' r n)),zk1 _ hk]
  intro r c hr hc
  by_cases hck:c=k
  .simp [sel,updC,hck]
  .simp [sel,updC,hck]; exact hid r c hr hc
end Go.Proofs.YthhdollpkieknaaGreat


namespace Go.Proofs.YthhdollpkieknaaGreat
open Go.Abs
def mx (m:List (List Int)):Mx:=fun r c=>(m[r]?.getD [])[c]?.getD 0
def Rws (w:Nat) (m:List (List Int)):Prop:=∀ r∈m,r.length=w/\Ns r
theorem Rws.at {w:Nat} {m:List (List Int)} (h:Rws w m) {i:Nat} (hi:i<m.length):(m[i]?.getD []).length=w/\Ns (m[i]?.getD []):=h _ (by simp [hi])
theorem Rws.set {w:Nat} {m:List (List Int)} (h:Rws w m) {i:Nat} {r:List Int} (hr:r.length=w/\Ns r):Rws w (m.set i r):=fun x hx=>by
 rcases List.mem_or_eq_of_mem_set hx with hx | rfl
 .exact h x hx
 .exact hr
end Go.Proofs.YthhdollpkieknaaGreat


namespace Go.Proofs.YthhdollpkieknaaGreat
open Go.Abs
theorem pw_N (a k:Int):isN (pw a k):=zaG _
end Go.Proofs.YthhdollpkieknaaGreat


namespace Go.Proofs.YthhdollpkieknaaGreat
end Go.Proofs.YthhdollpkieknaaGreat


namespace Go.Proofs.YthhdollpkieknaaGreat
open Go.Abs
structure GI (n w:Nat) (W0:Mx) (m:List (List Int)) (done k:Nat):Prop where
 len:m.length=n
 rws:Rws w m
 eqv:RowEq n w W0 (mx m)
 dle:done<=n
 piv:∃ piv:Nat->Nat,(∀ j,j<done->piv j<k/\∀ r,r<n->mx m r (piv j)=if r=j then 1 else 0)/\(∀ j,j+1<done->piv j<piv (j+1))/\(∀ j,j<done->∀ c,c<piv j->mx m j c=0)
 low:∀ r,done<=r->r<n->∀ c,c<k->mx m r c=0
theorem GI.skip {n w:Nat} {W0:Mx} {m:List (List Int)} {done k:Nat} (h:GI n w W0 m done k) (hz:∀ r,done<=r->r<n->mx m r k=0):GI n w W0 m done (k+1):=by
 obtain ⟨h1,h2,h3,h4,⟨p,p1,p2,p3⟩,h6⟩:=h
 refine ⟨h1,h2,h3,h4,⟨p,fun j hj=>⟨by have:=(p1 j hj).1; omega,(p1 j hj).2⟩,p2,p3⟩,fun r hr hn c hc=>?_⟩
 by_cases e:c=k
 .subst e; exact hz r hr hn
 .exact h6 r hr hn c (by omega)
end Go.Proofs.YthhdollpkieknaaGreat


namespace Go.Proofs.YthhdollpkieknaaGreat
open Go.Abs
def ldF (r:List Int):Nat->Nat->Nat
 | 0,i=>i
 | f+1,i=>if r[i]?.getD 0=0 then ldF r f (i+1) else i
theorem zoj (r:List Int):∀ f i,i<=ldF r f i/\ldF r f i<=i+f
 | 0,i=>by simp [ldF]
 | f+1,i=>by
  rw [ldF]
  split
  .have:=zoj r f (i+1); omega
  .omega
theorem zig (r:List Int):∀ f i j,i<=j->j<ldF r f i->r[j]?.getD 0=0
 | 0,i,j,h1,h2=>by rw [ldF] at h2; omega
 | f+1,i,j,h1,h2=>by
  rw [ldF] at h2
  split at h2
  .rename_i h
   by_cases e:j=i
   .subst e; exact h
   .exact zig r f (i+1) j (by omega) h2
  .omega
theorem zkV (r:List Int):∀ f i,ldF r f i<i+f->r[ldF r f i]?.getD 0≠0
 | 0,i,h=>by rw [ldF] at h; omega
 | f+1,i,h=>by
  rw [ldF] at h |-
  split
  .rename_i hz
   rw [if_pos hz] at h
   exact zkV r f (i+1) (by omega)
  .rename_i hz; exact hz
def zpR (r:List Int):Nat:=ldF r r.length 0
def oneB (n:Nat) (m:List (List Int)) (done:Nat):Bool:=decide (done=n) && decide (zpR (m[n-1]?.getD [])=n-1)
theorem zls {p:Nat->Nat} {n:Nat} (h:∀ j,j+1<n->p j<p (j+1)):∀ j,j<n->j<=p j
 | 0,_=>by omega
 | j+1,hj=>by have:=zls h j (by omega); have:=h j hj; omega
theorem zoc {p:Nat->Nat} {n:Nat} (h:∀ j,j+1<n->p j<p (j+1)):∀ t j,j+t+1=n->p j+t<=p (n-1)
 | 0,j,hj=>by rw [show n-1=j by omega]; omega
 | t+1,j,hj=>by have:=zoc h t (j+1) (by omega); have:=h j (by omega); omega
theorem GI.one {n:Nat} {W0:Mx} {m:List (List Int)} {done k:Nat} (h:GI n (n+1) W0 m done k) (hn:0<n) (hk:k<=n+1) (ho:oneB n m done=true):∀ r c,r<n->c<n->mx m r c=idM r c:=by
 unfold oneB at ho
 simp only [Bool.and_eq_true,decide_eq_true_eq] at ho
 obtain ⟨hd,hl⟩:=ho
 subst hd
 obtain ⟨p,p1,p2,p3⟩:=h.piv
 have rl:=(h.rws.at (i:=done-1) (by rw [h.len]; omega)).1
 have hne:=zkV (m[done-1]?.getD []) (m[done-1]?.getD []).length 0 (by
  have:ldF (m[done-1]?.getD []) (m[done-1]?.getD []).length 0=done-1:=hl
  omega)
 have hl2:ldF (m[done-1]?.getD []) (m[done-1]?.getD []).length 0=done-1:=hl
 rw [hl2] at hne
 have hp:p (done-1)<=done-1:=by
  rcases Nat.lt_or_ge (done-1) (p (done-1)) with hlt | hge
  .exact (hne (p3 (done-1) (by omega) (done-1) hlt)).elim
  .exact hge
 intro r c hr hc
 have g1:=zls p2 c hc
 have g2:=zoc p2 (done-1-c) c (by omega)
 have e:p c=c:=by omega
 have:=(p1 c hc).2 r hr
 rw [e] at this
 exact this
theorem GI.none {n:Nat} {W0:Mx} {m:List (List Int)} {done k:Nat} (h:GI n (n+1) W0 m done k) (hn:0<n) (hk:k<=n+1) (hf:k=n+1\/done=n) (ho:oneB n m done=false):∃ i,i<n/\∀ c,c<n->mx m i c=0:=by
 refine ⟨n-1,by omega,fun c hc=>?_⟩
 have hdl:=h.dle
 by_cases hd:done=n
 .subst hd
  obtain ⟨p,p1,p2,p3⟩:=h.piv
  have rl:=(h.rws.at (i:=done-1) (by rw [h.len]; omega)).1
  have g1:=zls p2 (done-1) (by omega)
  have q:=p1 (done-1) (by omega)
  by_cases e:p (done-1)=done-1
  .have e1:mx m (done-1) (done-1)=1:=by
    have:=q.2 (done-1) (by omega)
    rw [e,if_pos rfl] at this
    exact this
   have l1:=zoj (m[done-1]?.getD []) (m[done-1]?.getD []).length 0
   have hl:zpR (m[done-1]?.getD [])=done-1:=by
    unfold zpR
    rcases Nat.lt_trichotomy (ldF (m[done-1]?.getD []) (m[done-1]?.getD []).length 0) (done-1) with hlt | heq | hgt
    .have:=zkV (m[done-1]?.getD []) (m[done-1]?.getD []).length 0 (by omega)
     exact (this (p3 (done-1) (by omega) _ (by omega))).elim
    .exact heq
    .have:=zig (m[done-1]?.getD []) (m[done-1]?.getD []).length 0 (done-1) (by omega) hgt
     have e2:mx m (done-1) (done-1)=0:=this
     rw [e1] at e2; omega
   unfold oneB at ho
   rw [hl] at ho
   simp at ho
  .exact p3 (done-1) (by omega) c (by omega)
 .exact h.low (n-1) (by omega) (by omega) c (by omega)
end Go.Proofs.YthhdollpkieknaaGreat


namespace Go.Proofs.YthhdollpkieknaaGreat
open Go.Abs
end Go.Proofs.YthhdollpkieknaaGreat


namespace Go.Proofs.YthhdollpkieknaaGreat
open Go.Abs
end Go.Proofs.YthhdollpkieknaaGreat


namespace Go.Proofs.YthhdollpkieknaaGreat
open Go.Abs
end Go.Proofs.YthhdollpkieknaaGreat


namespace Go.Proofs.YthhdollpkieknaaGreat
open Go.Abs
end Go.Proofs.YthhdollpkieknaaGreat


namespace Go.Proofs.YthhdollpkieknaaGreat
open Go.Abs
end Go.Proofs.YthhdollpkieknaaGreat


namespace Go.Proofs.YthhdollpkieknaaGreat
open Go.Abs
end Go.Proofs.YthhdollpkieknaaGreat


namespace Go.Proofs.YthhdollpkieknaaGreat
open Go.Abs
end Go.Proofs.YthhdollpkieknaaGreat


namespace Go.Proofs.YthhdollpkieknaaGreat
open Go.Abs
end Go.Proofs.YthhdollpkieknaaGreat


namespace Go.Proofs.YthhdollpkieknaaGreat
open Go.Abs
end Go.Proofs.YthhdollpkieknaaGreat


namespace Go.Proofs.YthhdollpkieknaaGreat
open Go.Abs
end Go.Proofs.YthhdollpkieknaaGreat


namespace Go.Proofs.YthhdollpkieknaaGreat
open Go.Abs
end Go.Proofs.YthhdollpkieknaaGreat


namespace Go.Proofs.YthhdollpkieknaaGreat
open Go.Abs
theorem Tab.rws {A:List (List Int)} {B:List Int} (h:Tab A B):Rws B.length A:=h.a
end Go.Proofs.YthhdollpkieknaaGreat


namespace Go.Proofs.YthhdollpkieknaaGreat
open Go.Abs CR
end Go.Proofs.YthhdollpkieknaaGreat


namespace Go.Proofs.YthhdollpkieknaaGreat
open Go.Abs
def znE (a:List Int):Bool:=decide (1<=(a.length:Int)) && decide ((a.length:Int)<=16) && zdF a
theorem zeW (a:List Int) (hl:a.length<=9223372036854775807):Con Tryz.prog 199 [.sl a.length (avs a)] (.bool (znE a)):=by
 have cN:=zb1 a hl
 unfold znE
 generalize zdF a=b at *
 refine zab Tryz.mixed ⟨3,[],[],[]⟩ Tryz.func199 ?_
 rw [Tryz.ntmps199]
 simp [go_sem]
 refine CallVC.of (ziX _ _ hl) ?_
 simp [go_sem]
 refine CallVC.of (zce _ _ _) ?_
 simp [go_sem]
 by_cases h1:1<=(a.length:Int) <;> by_cases h2:(a.length:Int)<=16
 .simp [go_sem,h1,h2]
  refine CallVC.of (cN) ?_
  simp [go_sem]
 all_goals simp [go_sem,h1,h2]
end Go.Proofs.YthhdollpkieknaaGreat


namespace Go.Proofs.YthhdollpkieknaaGreat
open Go.Abs
end Go.Proofs.YthhdollpkieknaaGreat


namespace Go.Proofs.YthhdollpkieknaaGreat
open Go.Abs
theorem zhV {a:List Int} (h1:1<=a.length) (h16:a.length<=16) (hN:Ns a):znE a=true:=by
 unfold znE
 rw [zhN.2 hN]
 simp
 omega
theorem zeQ (a b:List Int) (ha:Ns a) (hb:Ns b) (hl:b.length=a.length) (h1:1<=a.length) (h16:a.length<=16) :
  Con Tryz.prog 107 [.sl 2 [.sl a.length (avs a),.sl b.length (avs b)],.sl 0 []] (.int 0):=by
 have cA:=zeW a (by omega)
 have cB:=zeW b (by omega)
 rw [zhV h1 h16 ha] at cA
 rw [zhV (by omega) (by omega) hb] at cB
 refine zab Tryz.mixed ⟨7,[],[],[]⟩ Tryz.func107 ?_
 rw [Tryz.ntmps107]
 simp [go_sem]
 refine zac ([4,6]++List.range' 9 17) (fun i:Nat=>[(9,.int i)]) (fun i=>i<=2) (fun i=>2-i) 0 (by simp) (by simp [go_sem]) (by simp [go_sem]) ?_
 intro i hi
 have h3:i=0\/i=1\/i=2:=by omega
 rcases h3 with rfl | rfl | rfl
 .simp [go_sem]
  refine CallVC.of (cA) ?_
  simp [go_sem]
  exact ⟨1,by omega,by omega,zaa _ _ _ (by simp),rfl⟩
 .simp [go_sem]
  refine CallVC.of (cB) ?_
  simp [go_sem]
  have e:(b.length:Int)=a.length:=by omega
  simp [go_sem,e]
  exact ⟨2,by omega,by omega,zaa _ _ _ (by simp),rfl⟩
 .have cN:Con Tryz.prog 156 [.sl 0 []] (.bool true):=zb1 [] (by simp)
  simp [go_sem]
  refine CallVC.of (cN) ?_
  simp [go_sem]
end Go.Proofs.YthhdollpkieknaaGreat


namespace Go.Proofs.YthhdollpkieknaaGreat
open Go.RowKit Go.Shelf Go.Abs
attribute [local go_sem] Oper.semAt_some
theorem znL {P:Program} {w:World} {F:Nat->Prop} {e:TypeId} {n:Nat} {L:List Int} {v:Value} {os:List Nat} (h0:0<n) (h:RepC P w F (.own e n (avs L)) v os) :
  ∃ bb cap c,v=.slice (some ⟨bb,0,none⟩) n cap/\os=[bb]/\w.heap[bb]?=some (.cells c e (0,0))/\n<=cap/\cap*P.cellsOf e<=c.size/\∀ i,i<L.length->c[i]?=some (.int .i64 (L[i]?.getD 0)):=by
 generalize hc:avs L=ac at h
 cases h with
 | own0 _=>omega
 | own bb _ _ cap c _ os2 hbb hn hcc hll =>
  subst hc
  have hos:os2=[]:=by
   have:∀ {r:List Int} {vs:List Value} {os:List Nat},RepL P w F (avs r) vs os->os=[]:=by
    intro r
    induction r with
    | nil=>intro vs os h; cases h; rfl
    | cons a r ih =>
     intro vs os h
     have e:avs (a::r)=.val (.int .i64 a)::avs r:=rfl
     rw [e] at h
     cases h with
     | cons c v o cs vs os' h t =>
      cases h with
      | val _ _=>rw [ih t]; rfl
   exact this hll
  subst hos
  exact ⟨bb,cap,c,rfl,rfl,hbb,hn,hcc,fun i hi=>by have:=zfQ hll i hi; simpa using this⟩
theorem zky {P:Program} {w:World} {F:Nat->Prop} {e:TypeId} {n:Nat} {L:List Int} {bb cap:Nat} {c:Array Value} (hb:w.heap[bb]?=some (.cells c e (0,0))) (hn:n<=cap) (hc:cap*P.cellsOf e<=c.size)
  (hv:∀ i,i<L.length->c[i]?=some (.int .i64 (L[i]?.getD 0))):RepC P w F (.own e n (avs L)) (.slice (some ⟨bb,0,none⟩) n cap) [bb]:=by
 refine .own bb e n cap c _ [] hb hn hc ?_
 have key:∀ (L:List Int) (vs:List Value),(∀ i,i<L.length->vs[i]?=some (.int .i64 (L[i]?.getD 0)))->RepL P w F (avs L) vs []:=by
  intro L
  induction L with
  | nil=>intro vs _; exact .nil _
  | cons a L ih =>
   intro vs h
   cases vs with
   | nil=>have:=h 0 (by simp); simp at this
   | cons v vs =>
    have h0:=h 0 (by simp)
    simp at h0
    subst h0
    exact .cons _ _ [] _ _ [] (.val _ rfl) (ih vs fun i hi=>by have:=h (i+1) (by simpa using hi); simpa using this)
 exact key L _ (fun i hi=>by have:=hv i hi; simpa using this)
def hoT (b o:List Int) (x:Int):List Int:=(mulS o b).set 0 (((mulS o b)[0]?.getD 0+x)%10007)
def hoH (b:List Int) (n:Nat) (xs:List Int):List Int:=xs.foldl (hoT b) (List.replicate n 0)
theorem ziT (b:List Int) (n:Nat) (xs:List Int) (x:Int):hoH b n (xs++[x])=hoT b (hoH b n xs) x:=by simp [hoH]
theorem zhO (b o:List Int) (x:Int):(hoT b o x).length=o.length:=by simp [hoT]
theorem zsi {b o:List Int} {x:Int}:Ns (hoT b o x):=fun y hy=>by
 unfold hoT at hy
 rcases List.mem_or_eq_of_mem_set hy with h | h
 .exact zog _ _ y h
 .rw [h]; exact zaG _
theorem zjV (b:List Int) (n:Nat) (xs:List Int):(hoH b n xs).length=n/\Ns (hoH b n xs):=by
 generalize hk:xs.length=k
 induction k generalizing xs with
 | zero =>
  rw [List.length_eq_zero_iff.1 hk]
  refine ⟨by simp [hoH],fun x hx=>?_⟩
  have:x=0:=by simpa [hoH] using (List.mem_replicate.1 hx).2
  rw [this]; exact ⟨by decide,by decide⟩
 | succ k ih =>
  rcases List.eq_nil_or_concat xs with rfl | ⟨h,x,rfl⟩
  .simp at hk
  .rw [List.concat_eq_append] at hk |-
   obtain ⟨i1,i2⟩:=ih h (by simpa using hk)
   rw [ziT]
   exact ⟨(zhO _ _ _).trans i1,zsi⟩
theorem Con.ownV {f:FuncId} {args:List AV} {e:TypeId} {n:Nat} {L:List Int} (h0:0<n) (h:Con Tryz.prog f args (.own e n (avs L))) (w:World) (vs:List Value) (hl:args.length=vs.length)
  (ha:∀ tm oss,RepTL Tryz.prog w (fun b=>b<w.heap.size) tm oss args vs []) :
  Calls Tryz.prog f vs.toArray w fun x w'=>∃ bb cap c,x=.returned (.slice (some ⟨bb,0,none⟩) n cap)/\Below w.heap.size w w'/\w'.heap[bb]?=some (.cells c e (0,0))/\n<=cap/\cap*Tryz.prog.cellsOf e<=c.size /\
   (∀ i,i<L.length->c[i]?=some (.int .i64 (L[i]?.getD 0)))/\w.heap.size<=bb:=by
 refine (h.2 w vs hl ha).mono ?_
 rintro x w' ⟨v,os,rfl,hx,hr,hn,ho⟩
 have:=(hr (fun _=>undef) (fun _=>[]))
 generalize hc:AV.own e n (avs L)=c at this
 cases this with
 | cell _ _ _ k =>
  subst hc
  obtain ⟨bb,cap,c,rfl,rfl,k1,k2,k3,k4⟩:=znL h0 k
  exact ⟨bb,cap,c,rfl,hx.below,k1,k2,k3,k4,(ho bb (by simp)).1⟩
 | any v=>simp at hc
 | agg=>simp at hc
 | tup=>simp at hc
 | fn=>simp at hc
 | bor=>simp at hc
 | ptr=>simp at hc
 | slp=>simp at hc
def hoV (B0 B1:Nat) (vm:Value) (n0 n:Nat) (L:List Int) (W:World):Prop :=
 ∃ bb cap c,W.cell? ⟨B1,0,none⟩=some (.slice (some ⟨bb,0,none⟩) n cap)/\W.frozen? ⟨B1,0,none⟩=false/\W.cell? ⟨B0,0,none⟩=some vm/\W.heap[bb]?=some (.cells c 2 (0,0))/\n<=cap/\cap<=c.size/\(∀ i,i<L.length->c[i]?=some (.int .i64 (L[i]?.getD 0))) /\
  n0<=bb/\bb≠B1/\bb≠B0
theorem zpV (B0 B1:Nat) (vm:Value) (n0 n:Nat) {α:Type} (g:α->List Int):Own (fun (x:α) W=>hoV B0 B1 vm n0 n (g x) W):=by
 rintro s A B row ⟨bb,cap,c,h1,h2,h3,h4,h5,h6,h7,h8⟩ hg hr
 exact ⟨bb,cap,c,cell_kept h1 hg hr,(frozen_kept h1 hg hr).trans h2,cell_kept h3 hg hr,(grownBy_keeps_cells hg hr h4 rfl).trans h4,h5,h6,h7,h8⟩
theorem zj6 (n:Nat) (h:n<=64) (w:World):(Instr.makeSlice 25 (.int .i64 (n:Int)) (.int .i64 (n:Int))).run Tryz.prog w =
  .ok (.slice (some ⟨w.heap.size,0,none⟩) n n) (w.alloc (.cells (Array.replicate n (.int .i64 0)) 2)):=by
 obtain ⟨i,zv,i1,i2,i3,i4,i5,i6,i7⟩:=zaB Tryz.info2
 rw [run_make w _ 2 i zv (zaK (by rw [Tryz.elem25])) i1 i2 .i64 .i64 n n (by omega) (by omega) (by rw [i4]; omega) (by omega)]
 obtain ⟨z0,hz0⟩:∃ z0,zv.cells=#[z0]:=by
  have:zv.cells.toList.length=1:=by simpa using i5
  match hh:zv.cells.toList,this with
  | [z0],_=>exact ⟨z0,by apply Array.ext'; simpa using hh⟩
 rw [hz0] at i6
 simp at i6
 obtain ⟨rfl,_⟩:=ziI i6.symm
 have hl:madeCells zv.cells ((n:Int).toNat*i.size)=Array.replicate n (.int .i64 0):=by
  apply Array.ext'
  rw [hz0,i3,Nat.mul_one,toList_madeCells_one]
  simp
 rw [hl,Int.toNat_natCast]
theorem zcC (zs y:List Int) (b off cap bm offm capm:Nat) (w:World) (hreach:zs.length*8<=140737488351232) (hb:b<w.heap.size) (hc:∀ j,j<zs.length->w.cell? ⟨b,off+j,none⟩=some (.int .i64 (zs[j]?.getD 0))) (hN:Ns zs) (hy:Ns y)
  (h0:0<zs.length) (hn:zs.length<=64) (hyl:zs.length<=y.length) (hm:RepC Tryz.prog w (fun b=>b<w.heap.size) (.sl y.length (avs y)) (.slice (some ⟨bm,offm,none⟩) y.length capm) []) :
  Calls Tryz.prog 108 #[.slice (some ⟨b,off,none⟩) zs.length cap,.slice (some ⟨bm,offm,none⟩) y.length capm] w fun e W'=>∃ v os,e=.returned v/\Below w.heap.size w W' /\
   RepC Tryz.prog W' (fun _=>False) (.own 2 zs.length (avs (hoH y zs.length ((upto (bkF hN zs.length) zs.length).map (·.2.1))))) v os/\os.Nodup/\∀ b∈os,w.heap.size<=b/\b<W'.heap.size:=by
 refine (callsIn_wide (n:=9)).1 ?_
 refine callsIn_of_wp_marks Tryz.func108 rfl trivial ?_ rfl
 simp only [Tryz.ntmps108,List.size_toArray,List.length_cons,List.length_nil,Nat.reduceAdd,Nat.reduceSub,Array.replicate_succ,Array.replicate_zero,List.push_toArray,List.append_toArray,List.nil_append,List.cons_append]
 have bM:=Boxed.new w 25 (.slice (some ⟨bm,offm,none⟩) y.length capm)
 gi_wp2_with (refine ⟨trivial,?_⟩; gi_at_call 200; refine (zlE Fence.wide _ trivial rfl _ _ _ _).mono ?_; rintro e w' ⟨rfl,rfl⟩)
 rw [zj6 _ hn]
 gi_wp2_with (refine ⟨trivial,?_⟩; gi_at_call 200; refine (zlE Fence.wide _ trivial rfl _ _ _ _).mono ?_; rintro e w' ⟨rfl,rfl⟩)
 generalize hX1:Obj.cells (Array.replicate zs.length (Value.int IntKind.i64 0)) 2=X1 at *
 have bS:=Boxed.new ((w.alloc (.cells #[.slice (some ⟨bm,offm,none⟩) y.length capm] 25)).alloc X1) 25 (.slice (some ⟨w.heap.size+1,0,none⟩) zs.length zs.length)
 have bN:=Boxed.new (((w.alloc (.cells #[.slice (some ⟨bm,offm,none⟩) y.length capm] 25)).alloc X1).alloc (.cells #[.slice (some ⟨w.heap.size+1,0,none⟩) zs.length zs.length] 25)) 25 (.slice (some ⟨b,off,none⟩) zs.length cap)
 have bM2:=((bM.alloc X1).alloc (.cells #[.slice (some ⟨w.heap.size+1,0,none⟩) zs.length zs.length] 25)).alloc (.cells #[.slice (some ⟨b,off,none⟩) zs.length cap] 25)
 have bS2:=bS.alloc (.cells #[.slice (some ⟨b,off,none⟩) zs.length cap] 25)
 have hR:((((w.alloc (.cells #[.slice (some ⟨bm,offm,none⟩) y.length capm] 25)).alloc X1).alloc (.cells #[.slice (some ⟨w.heap.size+1,0,none⟩) zs.length zs.length] 25)).alloc (.cells #[.slice (some ⟨b,off,none⟩) zs.length cap] 25)).heap[w.heap.size+1]?=some X1:=by
  have e1:=World.alloc_heap_new (w.alloc (.cells #[.slice (some ⟨bm,offm,none⟩) y.length capm] 25)) X1
  have e2:=(((Below.refl _ ((w.alloc (.cells #[.slice (some ⟨bm,offm,none⟩) y.length capm] 25)).alloc X1)).alloc (Nat.le_refl _) (.cells #[.slice (some ⟨w.heap.size+1,0,none⟩) zs.length zs.length] 25)).alloc (by simp) (.cells #[.slice (some ⟨b,off,none⟩) zs.length cap] 25)).block (w.heap.size+1) (by simp)
  rw [World.size_alloc] at e1
  exact e2.trans e1
 simp only [World.size_alloc] at bN bS bS2
 have hB0:Below w.heap.size w ((((w.alloc (.cells #[.slice (some ⟨bm,offm,none⟩) y.length capm] 25)).alloc X1).alloc (.cells #[.slice (some ⟨w.heap.size+1,0,none⟩) zs.length zs.length] 25)).alloc (.cells #[.slice (some ⟨b,off,none⟩) zs.length cap] 25)) :=
  ((((Below.refl _ w).alloc (Nat.le_refl _) _).alloc (by simp) _).alloc (by simp; omega) _).alloc (by simp; omega) _
 generalize hW4:((((w.alloc (.cells #[.slice (some ⟨bm,offm,none⟩) y.length capm] 25)).alloc X1).alloc (.cells #[.slice (some ⟨w.heap.size+1,0,none⟩) zs.length zs.length] 25)).alloc (.cells #[.slice (some ⟨b,off,none⟩) zs.length cap] 25))=W4 at *
 have hs4:W4.heap.size=w.heap.size+1+1+1+1:=by rw [<- hW4]; simp
 refine wpIn_rangeFunc_ownG (F:=Fence.wide) rfl (show 1<=9 by omega) (gf:=255) (lb:=#[.pointer (some ⟨w.heap.size+1+1+1,0,none⟩)]) rfl trivial (enters_of Tryz.func255 (by kernel_rfl) rfl)
  (zjJ Fence.wide 8 trivial rfl (by omega) (w.heap.size+1+1+1) b off cap zs hN hreach _ (by omega) (by omega) bN.cell (fun j hj=>(hB0.cell (p:=⟨b,off+j,none⟩) hb).trans (hc j hj)))
  (fun h k=>h.trans k) (fun W l o o' _ hl ho _=>KpC.book W l o o' hl ho) (Below.refl _ _) (fun _=>rfl)
  (fun pre W=>hoV w.heap.size (w.heap.size+1+1) (.slice (some ⟨bm,offm,none⟩) y.length capm) w.heap.size zs.length (hoH y zs.length (pre.map (·.2.1))) W/\Below w.heap.size w W)
  (fun _ _ _=>False)
  (OwnFrom.and (Own.from (zpV _ _ _ _ _ _) _) (ownFrom_below (Nat.le_refl _) (by omega)))
  (fun _ _ _ _ _ hs _ _=>hs)
  ⟨⟨w.heap.size+1,zs.length,Array.replicate zs.length (.int .i64 0),bS2.cell,bS2.frozen,bM2.cell,by rw [hR,<- hX1],Nat.le_refl _,by simp,fun i hi=>by
   have hi':i<zs.length:=by simpa [hoH] using hi
   simp [hoH,hi'],by omega,by omega,by omega⟩,hB0⟩
  (fun x=>{ tmps:=#[.slice (some ⟨b,off,none⟩) zs.length cap,.slice (some ⟨bm,offm,none⟩) y.length capm,undef,.pointer (some ⟨w.heap.size,0,none⟩),.slice none 0 0,.pointer (some ⟨w.heap.size+1+1,0,none⟩),undef,.int .i64 x.2.1,.slice (some ⟨b,off,none⟩) zs.length cap,
   .int .i64 zs.length,.slice (some ⟨w.heap.size+1,0,none⟩) zs.length zs.length,.slice (some ⟨b,off,none⟩) zs.length cap,
   .func (.func 255) #[] #[.pointer (some ⟨w.heap.size+1+1+1,0,none⟩)],.int .i64 x.1,.int .i64 x.2.1,undef,undef,undef,undef,undef,undef,undef,undef,undef,undef,undef,undef],defers:=[] }) ?assign ?body ?done ?stop
 case assign =>
  intro l x W K hK
  gi_wp2
  exact hK
 case body =>
  rintro l pre ⟨xi,xa,hxa⟩ W ⟨⟨bb,cp,c,hcS,hfS,hcM,hhb,hn1,hn2,hv,hlo,hne1,hne0⟩,hB⟩ _
  have hsn:=ziT y zs.length (pre.map (·.2.1)) xa
  obtain ⟨hL,hLN⟩:=zjV y zs.length (pre.map (·.2.1))
  have hmap:(pre++[((xi,⟨xa,hxa⟩):BkT)]).map (·.2.1)=pre.map (·.2.1)++[xa]:=by simp
  rw [<- hmap] at hsn
  generalize hs:hoH y zs.length (pre.map (·.2.1))=L at *
  have cT:=zfP L y hLN hy (by omega) (by omega)
  rw [hL] at cT
  have tl:(mulS L y).length=zs.length:=(zi4 L y).trans hL
  have tN:=zog L y
  have hcT:hoT y L xa=(mulS L y).set 0 (((mulS L y)[0]?.getD 0+xa)%10007):=rfl
  rw [hcT] at hsn
  generalize mulS L y=T at *
  have lbb:bb<W.heap.size:=(Array.getElem?_eq_some_iff.1 hhb).1
  have hlt:w.heap.size+1+1<W.heap.size:=by
   obtain ⟨o,ho,_⟩:=cells_of_cell hcS
   exact (Array.getElem?_eq_some_iff.1 ho).1
  have hF:RepC Tryz.prog W (fun b=>b<W.heap.size) (.sl zs.length (avs L)) (.slice (some ⟨bb,0,none⟩) zs.length cp) []:=by
   have:=(zky (P:=Tryz.prog) (F:=fun _=>False) hhb hn1 (by rw [Tryz.cof2]; omega) hv).frz (F':=fun b=>b<W.heap.size) (fun _ h=>h.elim) (by simpa using lbb)
   rwa [frz,zfs] at this
  have hyW:RepC Tryz.prog W (fun b=>b<W.heap.size) (.sl y.length (avs y)) (.slice (some ⟨bm,offm,none⟩) y.length capm) []:=hm.mono (fun b h=>Nat.lt_of_lt_of_le h hB.size) (fun b hb=>hB.block b (by simpa using hb))
  gi_wp2_with (refine ⟨trivial,?_⟩; gi_at_call 201; refine (CallsIn.inRound l (callsIn_wide.2 (Con.ownV h0 cT _ [_,_] rfl (fun tm oss=>.cons _ _ [] _ _ [] (.cell _ _ _ hF) (.cons _ _ [] _ _ [] (.cell _ _ _ hyW) (.nil _)))))).mono ?_; rintro e w1 ⟨b1,cap1,c1,rfl,hbA,hh1,hc1n,hc1s,hv1,ho1⟩; have c1S:=(hbA.cell (p:=⟨w.heap.size+1+1,0,none⟩) hlt).trans hcS; have f1S:=(hbA.frozen (p:=⟨w.heap.size+1+1,0,none⟩) hlt).trans hfS)
  have hb1:b1<w1.heap.size:=(Array.getElem?_eq_some_iff.1 hh1).1
  have hT0:c1[0]?=some (.int .i64 (T[0]?.getD 0)):=hv1 0 (by omega)
  have t0N:isN (T[0]?.getD 0):=tN.get 0
  generalize T[0]?.getD 0=t0 at *
  have d1:=c1S
  have xa1:=hxa.1
  have xa2:=hxa.2
  have t01:=t0N.1
  have t02:=t0N.2
  have ww:IntKind.wrap .i64 (t0+xa)=t0+xa:=by rw [IntKind.wrap_i64]; omega
  have cN:Con Tryz.prog 81 [.int (t0+xa)] (.int ((t0+xa)%10007)):=zeL _ (by omega) (by omega)
  have q1:(w1.setCell ⟨w.heap.size+1+1,0,none⟩ (.slice (some ⟨b1,0,none⟩) zs.length cap1)).cell? ⟨w.heap.size+1+1,0,none⟩=some (.slice (some ⟨b1,0,none⟩) zs.length cap1):=World.cell?_setCell_same' _ _ _ (by rw [c1S]; rfl)
  have q2:(w1.setCell ⟨w.heap.size+1+1,0,none⟩ (.slice (some ⟨b1,0,none⟩) zs.length cap1)).cell? ⟨b1,0,none⟩=some (.int .i64 t0):=by
   rw [World.cell?_setCell_other (h:=fun e=>by injection e with e; omega)]
   simp [World.cell?,hh1,hT0]
  have q3:(w1.setCell ⟨w.heap.size+1+1,0,none⟩ (.slice (some ⟨b1,0,none⟩) zs.length cap1)).frozen? ⟨b1,0,none⟩=false:=by
   rw [World.frozen?_setCell]
   simp [World.frozen?,hh1]
  have q4:(w1.setCell ⟨w.heap.size+1+1,0,none⟩ (.slice (some ⟨b1,0,none⟩) zs.length cap1)).heap[b1]?=some (.cells c1 2 (0,0)):=(Below.heap_setCell _ _ _ _ (by show b1≠w.heap.size+1+1; omega)).trans hh1
  have q5:(w1.setCell ⟨w.heap.size+1+1,0,none⟩ (.slice (some ⟨b1,0,none⟩) zs.length cap1)).heap.size=w1.heap.size:=by simp
  have ko:KeepsOthers W w1:=⟨hbA.size,fun k o hk _=>(hbA.block k (Array.getElem?_eq_some_iff.1 hk).1).trans hk⟩
  generalize hW1:w1.setCell ⟨w.heap.size+1+1,0,none⟩ (.slice (some ⟨b1,0,none⟩) zs.length cap1)=W1 at *
  have q6:b1<W1.heap.size:=by omega
  have q7:w.heap.size+1+1<W1.heap.size:=by have:=hbA.size; omega
  gi_region_with (refine ⟨trivial,?_⟩; gi_at_call 81; refine (CallsIn.inRound l (callsIn_wide.2 (Con.int1 cN _))).mono ?_; rintro e w3 ⟨rfl,hb3⟩; have c3:=(hb3.cell (p:=⟨b1,0,none⟩) q6).trans q2; have f3:=(hb3.frozen (p:=⟨b1,0,none⟩) q6).trans q3; have h3:=(hb3.block b1 q6).trans q4; have c5:=(hb3.cell (p:=⟨w.heap.size+1+1,0,none⟩) q7).trans q1)
  all_goals gi_wp2
  all_goals
   have old:∀ (p:Addr) (v:Value),p≠⟨w.heap.size+1+1,0,none⟩->W.cell? p=some v->(w3.setCell ⟨b1,0,none⟩ (.int .i64 ((t0+xa)%10007))).cell? p=some v:=fun p v hp hv=>by
    obtain ⟨o,ho,_⟩:=cells_of_cell hv
    have lp:=(Array.getElem?_eq_some_iff.1 ho).1
    rw [World.cell?_setCell_other (h:=fun e=>by rw [<- e] at lp; simp at lp; omega)]
    have k2:W1.cell? p=some v:=by rw [<- hW1,World.cell?_setCell_other (h:=Ne.symm hp)]; exact (hbA.cell lp).trans hv
    exact (hb3.cell (p:=p) (by show p.block<W1.heap.size; have:=hbA.size; omega)).trans k2
   have ko1:KeepsOthers W W1:=by rw [<- hW1]; exact ko.trans (KeepsOthers.setCell _ _ _)
   have ko3:KeepsOthers W1 w3:=⟨hb3.size,fun k o hk _=>(hb3.block k (Array.getElem?_eq_some_iff.1 hk).1).trans hk⟩
   have hBf:Below w.heap.size w (w3.setCell ⟨b1,0,none⟩ (.int .i64 ((t0+xa)%10007))):=by
    have k1:Below w.heap.size w W1:=by rw [<- hW1]; exact (hB.trans (hbA.mono hB.size)).setCell (by show w.heap.size<=w.heap.size+1+1; omega) _
    exact (k1.drew.trans (hb3.mono k1.size)).setCell (by show w.heap.size<=b1; omega) _
   have h4:(w3.setCell ⟨b1,0,none⟩ (.int .i64 ((t0+xa)%10007))).heap[b1]?=some (.cells (c1.setIfInBounds 0 (.int .i64 ((t0+xa)%10007))) 2 (0,0)):=by
    simp [World.setCell,Array.getElem?_modify,h3]
   refine ⟨((ko1.trans ko3).trans (KeepsOthers.setCell _ _ _)).from _,⟨fun v hv=>old _ v (fun e=>by injection e with e; omega) hv,fun j v hv=>old _ v (fun e=>by injection e with e; omega) hv⟩,
    ⟨b1,cap1,c1.setIfInBounds 0 (.int .i64 ((t0+xa)%10007)),?_,?_,old _ _ (fun e=>by injection e with e; omega) hcM,h4,hc1n,by rw [Tryz.cof2] at hc1s; simp; omega,fun i hi=>?_,by omega,by omega,by omega⟩,hBf⟩
   .rw [World.cell?_setCell_other (h:=fun e=>by injection e with e; omega)]; exact c5
   .rw [World.frozen?_setCell]
    refine (hb3.frozen (p:=⟨w.heap.size+1+1,0,none⟩) q7).trans ?_
    show W1.frozen? _=false
    rw [<- hW1,World.frozen?_setCell]; exact f1S
   .rw [hsn] at hi |-
    rw [List.length_set] at hi
    rw [Array.getElem?_setIfInBounds,List.getElem?_set]
    by_cases e:0=i
    .subst e
     have:0<c1.size:=(Array.getElem?_eq_some_iff.1 hT0).1
     simp [this,hi]
    .rw [if_neg e,if_neg e]; exact hv1 i hi
 case done =>
  rintro D ys W hD rfl ⟨⟨bb,cp,c,hcS,hfS,hcM,hhb,hn1,hn2,hv,hlo,hne1,hne0⟩,hB⟩ hK
  gi_wp2
  refine ⟨by simp,.inl ⟨_,_,rfl,run_takeDeferred hK,?_⟩⟩
  refine ⟨_,results_tmp rfl _ _ _,⟨_,[bb],rfl,hB.trans (belowK_b (w:=w) (Nat.le_refl _) W D _ _ (by omega) hK rfl rfl),?_,by simp,?_⟩⟩
  .refine zky (c:=c) ?_ hn1 (by rw [Tryz.cof2]; omega) hv
   exact (grownBy_keeps_cells (grownBy_putObj' W D _) (fun r e=>by cases e; exact ⟨_,hK,rfl⟩) hhb rfl).trans hhb
  .intro x hx
   have:x=bb:=by simpa using hx
   subst this
   have:=(Array.getElem?_eq_some_iff.1 hhb).1
   exact ⟨hlo,by simpa using this⟩
 case stop =>
  rintro D c pre W _ _ h _
  exact h.elim
theorem zeF (zs y:List Int) (h1:1<=zs.length) (h2:zs.length<=64) (hN:Ns zs) (hy:Ns y) (hyl:zs.length<=y.length) :
  Con Tryz.prog 108 [.sl zs.length (avs zs),.sl y.length (avs y)] (.own 2 zs.length (avs (hoH y zs.length zs.reverse))):=by
 refine ⟨⟨_,Tryz.func108,by decide,rfl⟩,fun w vs hl ha=>?_⟩
 have k:=ha (fun _=>undef) (fun _=>[])
 generalize hoz:([]:List Nat)=oz at k
 cases k with
 | cons c v o cs vs os hc ht =>
  cases ht with
  | cons c2 v2 o2 cs2 vs2 os2 hc2 ht2 =>
   have e2:vs2=[]:=by simpa using hl
   subst e2
   have hm:RepC Tryz.prog w (fun b=>b<w.heap.size) (.sl y.length (avs y)) v2 []:=by
    have:o2=[]:=by
     have:=congrArg List.length hoz
     simp at this
     exact List.length_eq_zero_iff.1 (by omega)
    subst this
    cases hc2 with
    | cell _ _ _ h=>exact h
   have hm':=hm
   generalize hmn:y.length=mn at hm
   generalize hmm:avs y=mm at hm
   cases hm with
   | sl0 base cap=>omega
   | sl bm offm _ capm ccm em frm csm hFm hbm hlrm hnm =>
    subst hmn; subst hmm
    generalize hn':zs.length=l at hc
    generalize hcs:avs zs=ac at hc
    cases hc with
    | cell _ _ _ hc =>
     cases hc with
     | sl0 base cap=>omega
     | sl b off _ cap cc e fr cs hF hb hlr hn2 =>
      subst hn'; subst hcs
      have cells:∀ j,j<zs.length->w.cell? ⟨b,off+j,none⟩=some (.int .i64 (zs[j]?.getD 0)):=fun j hj=>by
       have:=zfQ hlr j hj
       rw [List.getElem?_drop,Array.getElem?_toList] at this
       simp [World.cell?,hb,this]
      refine (zcC zs y b off cap bm offm capm w (by omega) hF cells hN hy h1 h2 hyl hm').mono ?_
      rintro e w' ⟨v,os,rfl,hB,hr,hnd,ho⟩
      rw [zkk] at hr
      exact ⟨_,os,rfl,⟨hB.os,hB.tape,hB.output,hB.size,hB.block,by rw [show dK=0 from rfl]; omega⟩,fun tm oss=>.cell _ _ _ (hr.mono (fun _ h=>h.elim) (fun _ _=>rfl)),hnd,ho⟩
theorem zd1 (zs y:List Int) (h1:1<=zs.length) (h2:zs.length<=16) (hN:Ns zs) (hy:Ns y) (hl:y.length=zs.length) (h0:y[0]?.getD 0=0) :
  Con Tryz.prog 33 [.sl zs.length (avs zs),.sl y.length (avs y)] (.tup [.own 2 zs.length (avs (hoH y zs.length zs.reverse)),.int 0]):=by
 have cC:=zeQ zs y hN hy hl h1 h2
 have cD:=zeF zs y h1 (by omega) hN hy (by omega)
 have hb0:0<y.length:=by omega
 have db:=zaq hb0
 rw [List.getD_eq_getElem?_getD,h0,List.drop_zero,Nat.zero_add,List.drop_one] at db
 generalize hoH y zs.length zs.reverse=X at *
 refine zab Tryz.mixed ⟨7,[],[],[]⟩ Tryz.func33 ?_
 rw [Tryz.ntmps33]
 simp [go_sem]
 refine CallVC.of (cC) ?_
 simp [go_sem,db]
 rw [db] at cD
 refine ⟨by omega,?_⟩
 refine CallVC.of (cD) ?_
 simp [go_sem]
end Go.Proofs.YthhdollpkieknaaGreat


namespace Go.Proofs.YthhdollpkieknaaGreat
open Go.Abs
theorem memD {α:Type} {l:List α} {i:Nat} (d:α) (h:i<l.length):l[i]?.getD d∈l:=by simp [h]
end Go.Proofs.YthhdollpkieknaaGreat


namespace Go.Proofs.YthhdollpkieknaaGreat
open Go.Abs
end Go.Proofs.YthhdollpkieknaaGreat


namespace Go.Proofs.YthhdollpkieknaaGreat
open Go.Abs
end Go.Proofs.YthhdollpkieknaaGreat


namespace Go.Proofs.YthhdollpkieknaaGreat
open Go.Abs Go.Shelf Go.Sort
theorem zf2:∀ {a b:List Int},a≠b->ltL a b=false->ltL b a=true
 | [],[],h,_=>absurd rfl h
 | [],y::b,_,h=>by simp [ltL] at h
 | x::a,[],_,_=>by simp [ltL]
 | x::a,y::b,h,h2=>by
  simp only [ltL] at h2 |-
  by_cases e:x=y
  .subst e
   simp only [if_true] at h2 |-
   exact zf2 (fun e=>h (by rw [e])) h2
  .rw [if_neg e] at h2
   rw [if_neg (fun x=>e x.symm)]
   simp at h2 |-
   omega
theorem zck (a b:List Int):decide (cmpL a b<0)=ltL a b:=by
 have h:=zlg a b
 cases hl:ltL a b <;> rw [hl] at h <;> simp at h |- <;> omega
end Go.Proofs.YthhdollpkieknaaGreat


namespace Go.Proofs.YthhdollpkieknaaGreat
open Go.Abs
theorem zbQ {α:Type} {P:List α->Prop} (h0:P []) (h1:∀ l a,P l->P (l++[a])) (l:List α):P l:=by
 rw [<- List.reverse_reverse l]
 induction l.reverse with
 | nil=>exact h0
 | cons a l ih=>rw [List.reverse_cons]; exact h1 _ _ ih
def atL (p:List Int):List (List Int)->Nat
 | []=>0
 | s::S=>if ltL s p=true then 0 else atL p S+1
theorem zon (p:List Int):∀ S,atL p S<=S.length
 | []=>by simp [atL]
 | s::S=>by have:=zon p S; rw [atL]; split <;> simp; omega
def insL (p:List Int) (S:List (List Int)):List (List Int):=S.take (atL p S)++p::S.drop (atL p S)
@[simp] theorem znR (p:List Int) (S:List (List Int)):(insL p S).length=S.length+1:=by have:=zon p S; simp [insL]; omega
theorem zit {p x:List Int} {S:List (List Int)} (h:x∈insL p S):x=p\/x∈S:=by
 rcases List.mem_append.1 h with h | h
 .exact .inr (List.mem_of_mem_take h)
 .rcases List.mem_cons.1 h with h | h
  .exact .inl h
  .exact .inr (List.mem_of_mem_drop h)
theorem znO (p:List Int) (S:List (List Int)):sumL (insL p S)=sumL S+p.length:=by
 have h:=congrArg sumL (List.take_append_drop (atL p S) S)
 rw [zct] at h
 rw [insL,zct,sumL]
 omega
def zaA (S:List (List Int)):List Int:=0::S.flatMap fun b=>b.map (·+1)
theorem zcT (S:List (List Int)):(zaA S).length=sumL S+1:=by
 have:∀ S:List (List Int),(S.flatMap fun b=>b.map (·+1)).length=sumL S:=by
  intro S
  induction S with
  | nil=>rfl
  | cons b S ih=>simp [sumL,ih]
 rw [zaA,List.length_cons,this]
def canF:Nat->List Int->List Int
 | 0,_=>[]
 | n+1,t=>zaA ((brs t).foldl (fun S b=>insL (canF n b) S) [])
def insA (n:Nat) (bs:List (List Int)):List (List Int):=bs.foldl (fun S b=>insL (canF n b) S) []
theorem zbI (n:Nat) (bs:List (List Int)) (b:List Int):insA n (bs++[b])=insL (canF n b) (insA n bs):=by simp [insA]
theorem zdN {n:Nat} {bs:List (List Int)}:∀ {x:List Int},x∈insA n bs->∃ b∈bs,x=canF n b:=by
 refine zbQ (P:=fun bs=>∀ {x:List Int},x∈insA n bs->∃ b∈bs,x=canF n b) ?_ ?_ bs
 .intro x hx; simp [insA] at hx
 .intro l b ih x hx
  rw [zbI] at hx
  rcases zit hx with h | h
  .exact ⟨b,by simp,h⟩
  .obtain ⟨c,hc,e⟩:=ih h
   exact ⟨c,by simp [hc],e⟩
theorem zeG (n:Nat) (bs:List (List Int)) (k:Nat) (h:bs.length<=k):(insA n bs).length<=k:=by
 have:∀ bs:List (List Int),(insA n bs).length=bs.length:=zbQ rfl (fun l b ih=>by rw [zbI,znR,ih]; simp)
 rw [this]; exact h
theorem zfR (n:Nat):∀ (t:List Int),∀ x∈canF n t,0<=x/\x<=n:=by
 induction n with
 | zero=>intro t x hx; simp [canF] at hx
 | succ n ih =>
  intro t x hx
  rw [canF] at hx
  rcases List.mem_cons.1 hx with rfl | hx
  .omega
  .obtain ⟨b,hb,hx⟩:=List.mem_flatMap.1 hx
   obtain ⟨y,hy,rfl⟩:=List.mem_map.1 hx
   obtain ⟨c,hc,rfl⟩:=zdN (n:=n) (bs:=brs t) hb
   have:=ih c y hy
   omega
theorem zmG {A:List (List Int)} {k:Nat} (h:k<A.length) (v:List Int):sumL (A.set k v)+(A[k]?.getD []).length=sumL A+v.length:=by
 induction A generalizing k with
 | nil=>simp at h
 | cons r A ih =>
  cases k with
  | zero=>simp [sumL]; omega
  | succ k=>have:=ih (k:=k) (by simpa using h); simp [sumL] at this |-; omega
theorem zfi {out:List (List Int)} {x:Int} (h:out≠[]\/x=1):sumL (zbK out x)=sumL out+1:=by
 unfold zbK
 simp only
 have ho:(if x=1 then out++[[]] else out)≠[]:=by
  split
  .simp
  .rcases h with h | h
   .exact h
   .contradiction
 have hs:sumL (if x=1 then out++[[]] else out)=sumL out:=by
  split
  .rw [zct]; simp [sumL]
  .rfl
 generalize (if x=1 then out++[[]] else out)=o at *
 have hl:o.length-1<o.length:=by have:=List.length_pos_iff.2 ho; omega
 have:=zmG hl (o[o.length-1]?.getD []++[x-1])
 simp at this
 omega
theorem zlQ {t:List Int} (h:Lv t):∀ i,1<=i->i<=t.length->sumL (brs (t.take i))+1=i/\(2<=i->brs (t.take i)≠[])
 | 0,h1,_=>by omega
 | 1,_,_=>by
  have:brs (t.take 1)=[]:=by
   unfold brs
   rw [List.drop_eq_nil_of_le (by simp; omega)]; rfl
  rw [this]
  exact ⟨rfl,by omega⟩
 | i+2,h1,h2=>by
  have ih:=zlQ h (i+1) (by omega) (by omega)
  rw [zdW (by omega) (by omega)]
  have hne:brs (t.take (i+1))≠[]\/t[i+1]?.getD 0=1:=by
   by_cases e:i=0
   .subst e
    have h3:=h.2.2 1 (by omega) (by omega)
    rw [show 1-1=0 by omega,h.2.1] at h3
    exact .inr (by show t[1]?.getD 0=1; omega)
   .exact .inl (ih.2 (by omega))
  rw [zfi hne]
  refine ⟨by omega,fun _ e=>?_⟩
  have:=zfi hne
  rw [e] at this
  simp [sumL] at this
theorem zgY {t:List Int} (h:Lv t):sumL (brs t)+1=t.length:=by
 have:=(zlQ h t.length h.1 (Nat.le_refl _)).1
 rwa [List.take_length] at this
theorem zaN:∀ (n:Nat) (t:List Int),Lv t->t.length<=n->(canF n t).length=t.length
 | 0,t,h,hl=>by have:=h.1; omega
 | n+1,t,h,hl=>by
  have gen:∀ bs:List (List Int),(∀ b∈bs,(canF n b).length=b.length)->sumL (insA n bs)=sumL bs:=by
   intro bs
   refine zbQ (P:=fun bs=>(∀ b∈bs,(canF n b).length=b.length)->sumL (insA n bs)=sumL bs) (fun _=>rfl) ?_ bs
   intro l b ih hb
   rw [zbI,znO,zct,ih (fun c hc=>hb c (by simp [hc])),hb b (by simp)]
   simp [sumL]
  have e:(brs t).foldl (fun S b=>insL (canF n b) S) []=insA n (brs t):=rfl
  rw [canF,zcT,e,gen (brs t) (fun b hb=>by
   have:=zeA h hb
   exact zaN n b this.1 (by have:=this.2; omega)),zgY h]
theorem zfv (A C:List (List Int)):mat (A++C)=mat A++mat C:=by simp [mat]
theorem zbf (A:List (List Int)) (k:Nat):(mat A).drop k=mat (A.drop k):=by simp [mat]
theorem zbh (A:List (List Int)) (k:Nat):(mat A).take k=mat (A.take k):=by simp [mat,List.map_take]
theorem za4:∀ A:List (List Int),zaD (mat A)=false
 | []=>rfl
 | r::A=>by
  have:=za4 A
  simp only [mat,List.map_cons] at this |-
  rw [zaD,this]; rfl
theorem zkI {A:List (List Int)} {b:List Int} (h:b∈A):b.length<=sumL A:=by
 induction A with
 | nil=>simp at h
 | cons r A ih =>
  rcases List.mem_cons.1 h with rfl | h
  .simp [sumL]
  .have:=ih h; simp only [sumL]; omega
theorem zcj:∀ (n:Nat) (t:List Int),n<=1000->Lv t->t.length<=n->Con Tryz.prog 250 [.sl t.length (avs t)] (.own 2 t.length (avs (canF n t)))
 | 0,t,_,h,hl=>by have:=h.1; omega
 | n+1,t,hn,h,hl=>by
  have hcl:=zaN (n+1) t h hl
  have cP:=zju t (by omega) h
  have bt:=zgY h
  have ih:=fun b hb=>zcj n b (by omega) (zeA h hb).1 (by have:=(zeA h hb).2; omega)
  have hce:canF (n+1) t=zaA (insA n (brs t)):=rfl
  rw [hce]
  have blen:=fun b (hb:b∈brs t)=>zaN n b (zeA h hb).1 (by have:=(zeA h hb).2; omega)
  have bvalid:=fun b (hb:b∈brs t)=>zeA h hb
  have bm:=zdR h h.1 (Nat.le_refl _)
  rw [List.take_length] at bm
  generalize brs t=bs at *
  refine zab Tryz.mixed ⟨12,[13,25,14,53],[],[]⟩ Tryz.func250 ?_
  rw [Tryz.ntmps250]
  simp [go_sem]
  refine CallVC.of (cP) ?_
  simp [go_sem]
  refine zac (4::5::6::7::8::List.range' 15 39) (fun i:Nat=>[(4,.sl (insA n (bs.take i)).length (mat (insA n (bs.take i)))),(5,.int i)]) (fun i=>i<=bs.length) (fun i=>bs.length-i) 0 (by simp) (by simp [go_sem,insA,mat]) (by simp [go_sem]) ?_
  intro i hi
  simp [go_sem]
  refine ⟨fun h=>?_,fun h=>?_⟩ <;> simp at h
  .have hif:i<bs.length:=by omega
   have hb:=memD [] hif
   have ht:insA n (bs.take (i+1))=insL (canF n (bs[i]?.getD [])) (insA n (bs.take i)):=by
    rw [List.take_add_one,List.getElem?_eq_getElem hif,Option.toList_some,zbI]; rfl
   have c1:=ih _ hb
   have l1:=blen _ hb
   have s1:=zkI hb
   have sl:∀ s∈insA n (bs.take i),s.length<=1000:=fun s hs=>by
    obtain ⟨b,hb2,rfl⟩:=zdN hs
    have hb3:=List.mem_of_mem_take hb2
    have:=zkI hb3
    rw [blen b hb3]; omega
   have il:(insA n (bs.take i)).length<=i:=zeG n _ _ (by simp; omega)
   generalize hN:insA n (bs.take (i+1))=S2 at *
   generalize insA n (bs.take i)=S at *
   simp [go_sem,zat hif]
   refine ⟨⟨hif,by rintro rfl; simp at hif⟩,?_⟩
   refine CallVC.of (c1) ?_
   simp [go_sem]
   rw [<- l1]
   generalize canF n (bs[i]?.getD [])=p at *
   refine zac (7::List.range' 26 15) (fun a:Nat=>[(7,.int a)]) (fun a=>a<=S.length/\atL p S=a+atL p (S.drop a)) (fun a=>S.length-a) 0 (by simp) (by simp [go_sem]) (by simp [go_sem]) ?_
   rintro a ⟨ha,hat⟩
   by_cases has:a<S.length
   .have has':(a:Int)<S.length:=by omega
    have hd:S.drop a=S[a]?.getD []::S.drop (a+1):=by rw [List.drop_eq_getElem_cons has]; simp [has]
    rw [hd,atL] at hat
    have hg:=zat has
    have hsl:=sl _ (memD [] has)
    have cL:=zgP (S[a]?.getD []) p (by omega) (by omega)
    by_cases hlt:ltL (S[a]?.getD []) p=true
    .rw [if_pos hlt] at hat
     rw [hlt] at cL
     have hS2:S2=S.take a++p::S.drop a:=by rw [ht,insL,hat,Nat.add_zero]
     simp [go_sem,has',hg]
     refine ⟨by rintro rfl; simp at has,?_⟩
     refine CallVC.of (cL) ?_
     simp [go_sem]
     simp [go_sem,zbf,zbh,za4]
     refine ⟨by omega,⟨by omega,by omega⟩,by omega,⟨by omega,by omega,by omega⟩,⟨by omega,by omega,by omega,by omega⟩,⟨by omega,by omega⟩,i+1,by omega,by omega,(by repeat (first | exact zaa _ _ _ (by simp) | (refine Off.reset (by intro x hx; simp at hx |-; omega) (by simp) ?_; simp -failIfUnchanged [go_sem,zaa]))),?_,by omega⟩
     rw [hN,hS2]
     have em:frzL (mat (S.take a)++AV.sl p.length (avs p)::mat ((S.drop a).take (S.length-a)))=mat (S.take a++p::S.drop a):=by rw [show (S.drop a).take (S.length-a)=S.drop a from List.take_of_length_le (by simp),<- zft (S.take a++p::S.drop a),zfv]; rfl
     exact ⟨by simp; omega,em⟩
    .rw [if_neg hlt] at hat
     have hlf:ltL (S[a]?.getD []) p=false:=by simpa using hlt
     rw [hlf] at cL
     simp [go_sem,has',hg]
     refine ⟨by rintro rfl; simp at has,?_⟩
     refine CallVC.of (cL) ?_
     simp [go_sem]
     exact ⟨by omega,a+1,⟨by omega,by omega⟩,by omega,zaa _ _ _ (by simp),by omega⟩
   .have has':¬ (a:Int)<S.length:=by omega
    have hd:S.drop a=[]:=List.drop_eq_nil_of_le (by omega)
    rw [hd,atL] at hat
    have hS2:S2=S.take a++p::S.drop a:=by rw [ht,insL,hat,Nat.add_zero]
    simp [go_sem,has',zbf,zbh,za4]
    refine ⟨by omega,⟨by omega,by omega⟩,by omega,⟨by omega,by omega,by omega⟩,⟨by omega,by omega,by omega,by omega⟩,⟨by omega,by omega⟩,i+1,by omega,by omega,(by repeat (first | exact zaa _ _ _ (by simp) | (refine Off.reset (by intro x hx; simp at hx |-; omega) (by simp) ?_; simp -failIfUnchanged [go_sem,zaa]))),?_,by omega⟩
    rw [hN,hS2]
    have em:frzL (mat (S.take a)++AV.sl p.length (avs p)::mat ((S.drop a).take (S.length-a)))=mat (S.take a++p::S.drop a):=by rw [show (S.drop a).take (S.length-a)=S.drop a from List.take_of_length_le (by simp),<- zft (S.take a++p::S.drop a),zfv]; rfl
    exact ⟨by simp; omega,em⟩
  .have e:i=bs.length:=by omega
   subst e
   rw [List.take_length]
   have tot:(zaA (insA n bs)).length=t.length:=by rw [<- hce,hcl]
   rw [zcT] at tot
   have val:∀ x∈zaA (insA n bs),0<=x/\x<=(n+1:Nat):=fun x hx=>by rw [<- hce] at hx; exact zfR (n+1) t x hx
   have sval:∀ s∈insA n bs,∀ x∈s,0<=x/\x<=n:=fun s hs x hx=>by
    obtain ⟨b,_,rfl⟩:=zdN hs
    exact zfR n b x hx
   clear hce hcl
   have Sl:(insA n bs).length<=bs.length:=zeG n bs _ (Nat.le_refl _)
   generalize insA n bs=S at *
   simp [go_sem]
   refine zac (9::10::11::List.range' 55 26) (fun i:Nat=>[(9,.own 2 (sumL (S.take i)+1) (avs (zaA (S.take i)))),(10,.int i)]) (fun i=>i<=S.length) (fun i=>S.length-i) 0 (by simp) (by simp [go_sem,zaA,sumL,avs]) (by simp [go_sem]) ?_
   intro i hi
   simp [go_sem]
   refine ⟨fun h=>?_,fun h=>?_⟩ <;> simp at h
   .have hif:i<S.length:=by omega
    have hs:=memD [] hif
    have sv:=sval _ hs
    have st:=zl8 hif
    have sle:=zoQ S (i+1)
    have rr:zaA (S.take (i+1))=zaA (S.take i)++(S[i]?.getD []).map (·+1):=by
     rw [zaA,List.take_add_one,List.getElem?_eq_getElem hif,Option.toList_some,List.flatMap_append,List.flatMap_singleton]; rfl
    generalize hR:S[i]?.getD []=b at *
    simp [go_sem]
    refine zac (9::11::List.range' 61 20) (fun k:Nat=>[(9,.own 2 (sumL (S.take i)+1+k) (avs (zaA (S.take i)++(b.take k).map (·+1)))),(11,.int k)]) (fun k=>k<=b.length) (fun k=>b.length-k) 0 (by simp) (by simp [go_sem]) (by simp [go_sem]) ?_
    intro k hk
    simp [go_sem,zat hif,hR]
    refine ⟨⟨hif,by rintro rfl; simp at hif⟩,?_⟩
    refine ⟨fun h=>?_,fun h=>?_⟩ <;> simp at h
    .have hkb:k<b.length:=by omega
     have hv:=sv _ (memD 0 hkb)
     simp [go_sem,zat hif,hR,zaq hkb]
     have rl:=zcT (S.take i)
     refine ⟨⟨hif,by rintro rfl; simp at hif⟩,⟨hkb,by rintro rfl; simp at hkb⟩,⟨by omega,by omega⟩,⟨by omega,by omega,by omega⟩,⟨by omega,by omega⟩,k+1,by omega,by omega,zaa _ _ _ (by simp),?_,by omega⟩
     rw [List.take_add_one,List.getElem?_eq_getElem hkb]
     refine ⟨by omega,?_⟩
     rw [zkw,zkw,List.append_assoc]
     simp [hkb,avs]
    .have e:k=b.length:=by omega
     subst e
     simp [go_sem]
     refine ⟨by omega,i+1,by omega,by omega,(Off.reset (by intro x hx; simp at hx |-; omega) (by simp) (by simp [go_sem,zaa])),?_,by omega⟩
     rw [rr,show (b.map (·+1)).take b.length=b.map (·+1) from List.take_of_length_le (by simp)]; exact ⟨by omega,rfl⟩
   .have e:i=S.length:=by omega
    subst e
    rw [List.take_length]
    simp [go_sem]
    omega
end Go.Proofs.YthhdollpkieknaaGreat


namespace Go.Proofs.YthhdollpkieknaaGreat
open Go.Abs Go.Shelf Go.Sort
theorem zmH {a b:List Int} (h:ltL a b=true):ltL b a=false:=by
 cases h2:ltL b a with
 | false=>rfl
 | true=>have:=zbl h h2; rw [zfO] at this; simp at this
theorem zlK (p:List Int) (S:List (List Int)):(insL p S).Perm (p::S):=by
 unfold insL
 exact List.perm_middle.trans (by rw [List.take_append_drop])
theorem zkE (p s:List Int) (S:List (List Int)):insL p (s::S)=if ltL s p=true then p::s::S else s::insL p S:=by
 unfold insL
 rw [atL]
 split <;> simp
theorem ziL (p:List Int):∀ {S:List (List Int)},S.Pairwise (fun a b=>ltL a b=false)->(insL p S).Pairwise (fun a b=>ltL a b=false)
 | [],_=>by simp [insL,atL]
 | s::S,h=>by
  obtain ⟨h1,h2⟩:=List.pairwise_cons.1 h
  rw [zkE]
  split
  .rename_i hs
   refine List.pairwise_cons.2 ⟨fun y hy=>?_,h⟩
   rcases List.mem_cons.1 hy with rfl | hy
   .exact zmH hs
   .cases hp:ltL p y with
    | false=>rfl
    | true=>have:=h1 y hy; rw [zbl hs hp] at this; exact this
  .rename_i hs
   refine List.pairwise_cons.2 ⟨fun y hy=>?_,ziL p h2⟩
   rcases zit hy with rfl | hy
   .simpa using hs
   .exact h1 y hy
theorem znc (n:Nat) (bs:List (List Int)):(insA n bs).Pairwise (fun a b=>ltL a b=false) :=
 zbQ (P:=fun bs=>(insA n bs).Pairwise (fun a b=>ltL a b=false)) List.Pairwise.nil (fun l a h=>by rw [zbI]; exact ziL _ h) bs
theorem zgg (n:Nat) (bs:List (List Int)):(insA n bs).Perm (bs.map (canF n)) :=
 zbQ (P:=fun bs=>(insA n bs).Perm (bs.map (canF n))) (List.Perm.refl _) (fun l a h=>by
  rw [zbI,List.map_append]
  refine (zlK _ _).trans ((h.cons _).trans ?_)
  exact (List.perm_append_comm (l₁:=[canF n a]) (l₂:=l.map (canF n)))) bs
theorem zjM {X L:List (List Int)} (hp:X.Perm L) (hX:X.Pairwise (fun a b=>ltL a b=false)) (hL:L.Pairwise (fun a b=>ltL a b=false)):X=L :=
 hp.eq_of_pairwise (fun a b _ _ h1 h2=>by
  by_cases e:a=b
  .exact e
  .have:=zf2 e h1; rw [h2] at this; simp at this) hX hL
theorem zf8 [DrawK] (a b:List Int) (ha:a.length<=1000000) (hb:b.length<=1000000):Con Tryz.prog 197 [.sl a.length (avs a),.sl b.length (avs b)] (.int (cmpL b a)):=by
 refine zab Tryz.mixed ⟨5,[],[],[]⟩ Tryz.func197 ?_
 rw [Tryz.ntmps197]
 simp [go_sem]
 refine CallVC.of (zgr b a (by omega) (by omega)) ?_
 simp [go_sem]
theorem zpY:SWO (Go.Proofs.ltOf fun a b:List Int=>cmpL b a):=by
 have e:(Go.Proofs.ltOf fun a b:List Int=>cmpL b a)=fun a b=>ltL b a:=by
  funext a b; exact zck _ _
 rw [e]
 refine ⟨fun m=>zfO _,fun x y z h1 h2=>zbl h2 h1,fun x y z h1 h2=>?_⟩
 cases h3:ltL z x with
 | false=>rfl
 | true =>
  by_cases e:x=y
  .rw [e] at h3; rw [h3] at h2; exact h2
  .have h4:=zf2 (fun x=>e x.symm) h1
   have:=zbl h3 h4
   rw [this] at h2; exact h2
theorem zbJ (X:List (List Int)):(X.flatMap fun x=>[AV.own 2 x.length (avs x)])=omat X:=by
 induction X with
 | nil=>rfl
 | cons x X ih=>simp only [List.flatMap_cons,ih,omat,List.map_cons,List.singleton_append]
theorem zg5 (X L:List (List Int)) (hX:X.Perm L) (hS:L.Pairwise (fun a b=>ltL a b=false)) (hl:∀ m∈L,m.length<=1000000) (hn:L.length<=1048576) :
  MCon Tryz.prog 196 [.own 25 X.length (omat X),.val (.func (.func 197) #[] #[])] (.tup []) [.own 25 X.length (omat L),.any]:=by
 have hxl:=hX.length_eq
 have hm:∀ m∈X,m.length<=1000000:=fun m hm=>hl m (hX.mem_iff.1 hm)
 obtain ⟨ys,h1,h2,h3⟩:=zjy Tryz.sortTrees ⟨_,Tryz.func196,by decide,rfl⟩ (fun m:List Int=>.own 2 m.length (avs m)) (fun m n=>cmpL n m) zpY 197 25 (by kernel_rfl) X (by rw [zbJ]; exact zdo X)
  (fun x hx y hy=>by simpa [frz] using @zf8 ⟨1⟩ x y (hm x hx) (hm y hy)) (by omega)
 have e:ys=L:=zjM (h1.trans hX) (h2.imp fun {a b} h=>by
  have:=zck a b
  rw [<- this]; simpa using h) hS
 subst e
 rw [zbJ,zbJ] at h3
 exact h3
theorem zdQ (S:List (List Int)) (hl:S.length<=1000) (hr:∀ b∈S,b.length<=1000/\∀ x∈b,0<=x/\x<=1000):Con Tryz.prog 198 [.sl S.length (mat S)] (.own 2 (zaA S).length (avs (zaA S))):=by
 have bl:∀ i,(zaA (S.take i)).length<=1+i*1000:=fun i=>by
  rw [zcT]
  have:∀ T:List (List Int),(∀ b∈T,b.length<=1000)->sumL T<=T.length*1000:=by
   intro T
   induction T with
   | nil=>intro _; simp [sumL]
   | cons b T ih=>intro h; have:=h b (by simp); have:=ih (fun c hc=>h c (by simp [hc])); simp only [sumL,List.length_cons]; omega
  have h1:=this (S.take i) (fun b hb=>(hr b (List.mem_of_mem_take hb)).1)
  have h2:(S.take i).length<=i:=by rw [List.length_take]; omega
  have:=Nat.mul_le_mul_right 1000 h2
  omega
 refine zab Tryz.mixed ⟨8,[],[],[]⟩ Tryz.func198 ?_
 rw [Tryz.ntmps198]
 simp [go_sem]
 refine zac (3::5::7::List.range' 11 17) (fun i:Nat=>[(3,.own 2 (zaA (S.take i)).length (avs (zaA (S.take i)))),(11,.int i)]) (fun i=>i<=S.length) (fun i=>S.length-i) 0 (by simp) (by simp [go_sem,zaA,avs]) (by simp [go_sem]) ?_
 intro i hi
 by_cases hiS:i<S.length
 .have hii:(i:Int)<S.length:=by omega
  have ne:¬ S=[]:=by rintro rfl; simp at hiS
  have md:=zat hiS
  obtain ⟨b1,b2⟩:=hr _ (show S[i]?.getD []∈S by simp [hiS])
  have sn:zaA (S.take (i+1))=zaA (S.take i)++(S[i]?.getD []).map (·+1):=by
   unfold zaA
   rw [List.take_add_one,List.flatMap_append,List.getElem?_eq_getElem hiS]; simp
  have bli:=bl i
  generalize S[i]?.getD []=b at *
  generalize zaA (S.take i)=R at *
  simp [go_sem,hii,md]
  refine ⟨ne,?_⟩
  refine zac (3::7::List.range' 17 10) (fun k:Nat=>[(3,.own 2 (R.length+k) (avs (R++(b.map (·+1)).take k))),(17,.int k)]) (fun k=>k<=b.length) (fun k=>b.length-k) 0 (by simp) (by simp [go_sem]) (by simp [go_sem]) ?_
  intro k hk
  by_cases hkb:k<b.length
  .have hki:(k:Int)<b.length:=by omega
   have nb:¬ b=[]:=by rintro rfl; simp at hkb
   have ad:=zaq hkb
   have bx:=b2 _ (show b[k]?.getD 0∈b by simp [hkb])
   have tk:(b.map (·+1)).take (k+1)=(b.map (·+1)).take k++[b[k]?.getD 0+1]:=by
    rw [List.take_add_one]; simp [hkb]
   rw [List.getD_eq_getElem?_getD] at ad
   generalize b[k]?.getD 0=x at *
   simp [go_sem,hki,ad]
   exact ⟨nb,⟨by omega,by omega⟩,⟨by omega,by omega,by omega⟩,⟨by omega,by omega⟩,k+1,by omega,by omega,zaa _ _ _ (by simp),⟨by omega,by rw [tk,<- List.append_assoc,zaE]⟩,by omega⟩
  .have e:k=b.length:=by omega
   subst e
   have hki:¬ (b.length:Int)<b.length:=by omega
   have tk:(b.map (·+1)).take b.length=b.map (·+1):=List.take_of_length_le (by simp)
   simp [go_sem,hki,tk]
   exact ⟨⟨by omega,by omega⟩,i+1,by omega,by omega,(Off.reset (by intro x hx; simp at hx |-; omega) (by simp) (by simp [go_sem,zaa])),by rw [sn]; simp,by omega⟩
 .have e:i=S.length:=by omega
  subst e
  have hii:¬ (S.length:Int)<S.length:=by omega
  rw [List.take_length]
  simp [go_sem,hii]
def cnB (n:Nat) (bs:List (List Int)) (i:Nat):List (List Int):=(bs.take i).map (canF n)++bs.drop i
theorem zmJ (n:Nat) (bs:List (List Int)):cnB n bs 0=bs:=by simp [cnB]
theorem zpK (n:Nat) (bs:List (List Int)):cnB n bs bs.length=bs.map (canF n):=by simp [cnB]
theorem zjY {A:List (List Int)} {k:Nat} (h:k<A.length):(omat A)[k]?=some (.own 2 (A[k]?.getD []).length (avs (A[k]?.getD []))):=by simp [omat,h]
theorem zq2 (n:Nat) {bs:List (List Int)} {i:Nat} (hi:i<bs.length):(omat (cnB n bs i))[i]?=some (.own 2 (bs[i]?.getD []).length (avs (bs[i]?.getD []))):=by
 have h1:i<(cnB n bs i).length:=by simp [cnB]; omega
 rw [zjY h1]
 have e:(cnB n bs i)[i]?.getD []=bs[i]?.getD []:=by
  unfold cnB
  rw [List.getElem?_append_right (by simp; omega)]; simp [Nat.min_eq_left (Nat.le_of_lt hi)]
 rw [e]
theorem zoU (n:Nat) {bs:List (List Int)} {i:Nat} (hi:i<bs.length) (hc:(canF n (bs[i]?.getD [])).length=(bs[i]?.getD []).length) :
  (omat (cnB n bs i)).set i (.own 2 (bs[i]?.getD []).length (avs (canF n (bs[i]?.getD []))))=omat (cnB n bs (i+1)):=by
 have h:=zf3 (cnB n bs i) i (canF n (bs[i]?.getD []))
 rw [hc] at h
 rw [h]
 congr 1
 unfold cnB
 have e1:bs.drop i=bs[i]?.getD []::bs.drop (i+1):=by rw [List.drop_eq_getElem_cons hi]; simp [hi]
 have e2:bs.take (i+1)=bs.take i++[bs[i]?.getD []]:=by rw [List.take_add_one]; simp [hi]
 rw [e1,e2,List.map_append,List.set_append_right _ _ (by simp; omega)]
 simp [Nat.min_eq_left (Nat.le_of_lt hi)]
theorem zbb:∀ (n:Nat) (t:List Int),n<=100->Lv t->t.length<=n->Con Tryz.prog 106 [.sl t.length (avs t)] (.own 2 t.length (avs (canF n t))):=by
 intro n
 induction n with
 | zero=>intro t _ h1 h2; have:=h1.1; omega
 | succ n ih =>
  intro t hn hLv hl
  have cB:=zbZ t (by omega) hLv
  have cn:=zjU hLv
  have bo:=fun (b:List Int) hb=>zeA hLv (b:=b) hb
  have cI:=fun (b:List Int) (hb:b∈brs t)=>ih b (by omega) (bo b hb).1 (by have:=(bo b hb).2; omega)
  have cl:=fun (b:List Int) (hb:b∈brs t)=>zaN n b (bo b hb).1 (by have:=(bo b hb).2; omega)
  have im:=fun x (hx:x∈insA n (brs t))=>zdN hx
  have il:(insA n (brs t)).length=(brs t).length:=by have:=(zgg n (brs t)).length_eq; simpa using this
  have xl:∀ x∈insA n (brs t),x.length<=100/\∀ y∈x,0<=y/\y<=1000:=fun x hx=>by
   obtain ⟨b,hb,rfl⟩:=im x hx
   have:=(bo b hb).2
   exact ⟨by rw [cl b hb]; omega,fun y hy=>by have:=zfR n b y hy; omega⟩
  have cS:=zg5 ((brs t).map (canF n)) (insA n (brs t)) (zgg n (brs t)).symm (znc n _) (fun x hx=>by have:=(xl x hx).1; omega) (by omega)
  have cR:=zdQ (insA n (brs t)) (by omega) (fun b hb=>⟨by have:=(xl b hb).1; omega,(xl b hb).2⟩)
  have rl:(zaA (insA n (brs t))).length=t.length:=zaN (n+1) t hLv hl
  have e1:canF (n+1) t=zaA (insA n (brs t)):=rfl
  rw [e1]
  rw [rl,il] at cR
  rw [List.length_map] at cS
  clear rl e1 xl im
  generalize insA n (brs t)=S at *
  refine zab Tryz.mixed ⟨6,[],[196],[]⟩ Tryz.func106 ?_
  rw [Tryz.ntmps106]
  simp [go_sem]
  refine CallVC.of (cB) ?_
  simp [go_sem]
  generalize brs t=bs at *
  refine zc7 (3::4::5::8::List.range' 10 11) (4::5::List.range' 11 10) (fun i:Nat=>[(3,.own 25 bs.length (omat (cnB n bs i))),(8,.bor 3 []),(10,.int i)]) (fun i=>i<=bs.length) (fun i=>bs.length-i) 0 (by intro x i h1 h2; have:i=3\/i=8\/i=10:=(by simp at h1 h2; omega); rcases this with rfl | rfl | rfl <;> rfl) (by intro i h; simp at h |-; omega) (by simp) (by simp [go_sem,zmJ]) (by simp [go_sem,kl]) ?_
  intro i hi
  by_cases hib:i<bs.length
  .have hii:(i:Int)<bs.length:=by omega
   have gt:=zq2 n hib
   have st:=zoU n hib (cl _ (by simp [hib]))
   have cc:=cI (bs[i]?.getD []) (by simp [hib])
   generalize bs[i]?.getD []=b at *
   simp [go_sem,hii,gt]
   have cbl:i<(cnB n bs i).length:=by simp [cnB]; omega
   refine CallVC.of (cc) ?_
   simp [go_sem]
   exact ⟨hib,cbl,⟨by omega,by omega⟩,i+1,by omega,by omega,zaa _ _ _ (by simp),by first | exact ⟨st,by omega⟩ | exact st | (refine ⟨?_⟩; exact st) | (simp; exact st),by simp [kl]⟩
  .have e:i=bs.length:=by omega
   subst e
   have hii:¬ (bs.length:Int)<bs.length:=by omega
   rw [zpK]
   simp [go_sem,hii]
   refine ⟨_,_,cS,?_⟩
   simp [go_sem]
   refine CallVC.of (cR) ?_
   simp [go_sem]
end Go.Proofs.YthhdollpkieknaaGreat


namespace Go.Proofs.YthhdollpkieknaaGreat
open Go.Abs Go.Shelf Go.Sort
def ltT (s t:List Int):Bool:=if s.length=t.length then ltL t s else decide (s.length<t.length)
def cmpT (s t:List Int):Int:=if s.length=t.length then cmpL t s else (s.length:Int)-t.length
theorem zh7 (s t:List Int):decide (cmpT s t<0)=ltT s t:=by
 unfold cmpT ltT
 split
 .exact zck t s
 .congr 1; exact propext ⟨fun h=>by omega,fun h=>by omega⟩
theorem zjZ (s:List Int):ltT s s=false:=by unfold ltT; rw [if_pos rfl]; exact zfO s
theorem zc8 {a b c:List Int} (h1:ltT a b=true) (h2:ltT b c=true):ltT a c=true:=by
 unfold ltT at *
 split at h1 <;> split at h2
 .rw [if_pos (by omega)]; exact zbl h2 h1
 .simp at h2; rw [if_neg (by omega)]; simp; omega
 .simp at h1; rw [if_neg (by omega)]; simp; omega
 .simp at h1 h2; rw [if_neg (by omega)]; simp; omega
theorem zkC {a b:List Int} (e:a≠b) (h:ltT a b=false):ltT b a=true:=by
 unfold ltT at *
 split at h
 .rename_i hl
  rw [if_pos hl.symm]; exact zf2 (fun x=>e x.symm) h
 .rename_i hl
  simp at h; rw [if_neg (fun x=>hl x.symm)]; simp; omega
theorem znS {a b:List Int} (h:ltT a b=true):ltT b a=false:=by
 cases h2:ltT b a with
 | false=>rfl
 | true=>have:=zc8 h h2; rw [zjZ] at this; simp at this
def atT (p:List Int):List (List Int)->Nat
 | []=>0
 | s::S=>if ltT p s=true then 0 else atT p S+1
theorem zn8 (p:List Int):∀ S,atT p S<=S.length
 | []=>by simp [atT]
 | s::S=>by have:=zn8 p S; rw [atT]; split <;> simp; omega
def insT (p:List Int) (S:List (List Int)):List (List Int):=S.take (atT p S)++p::S.drop (atT p S)
@[simp] theorem zrL (p:List Int) (S:List (List Int)):(insT p S).length=S.length+1:=by have:=zn8 p S; simp [insT]; omega
theorem zmX {p x:List Int} {S:List (List Int)} (h:x∈insT p S):x=p\/x∈S:=by
 rcases List.mem_append.1 h with h | h
 .exact .inr (List.mem_of_mem_take h)
 .rcases List.mem_cons.1 h with h | h
  .exact .inl h
  .exact .inr (List.mem_of_mem_drop h)
theorem zlC (p:List Int) (S:List (List Int)):(insT p S).Perm (p::S):=by
 unfold insT
 exact List.perm_middle.trans (by rw [List.take_append_drop])
theorem zk8 (p s:List Int) (S:List (List Int)):insT p (s::S)=if ltT p s=true then p::s::S else s::insT p S:=by
 unfold insT
 rw [atT]
 split <;> simp
theorem zie (p:List Int):∀ {S:List (List Int)},S.Pairwise (fun a b=>ltT b a=false)->(insT p S).Pairwise (fun a b=>ltT b a=false)
 | [],_=>by simp [insT,atT]
 | s::S,h=>by
  obtain ⟨h1,h2⟩:=List.pairwise_cons.1 h
  rw [zk8]
  split
  .rename_i hs
   refine List.pairwise_cons.2 ⟨fun y hy=>?_,h⟩
   rcases List.mem_cons.1 hy with rfl | hy
   .exact znS hs
   .cases hp:ltT y p with
    | false=>rfl
    | true=>have:=h1 y hy; rw [zc8 hp hs] at this; exact this
  .rename_i hs
   refine List.pairwise_cons.2 ⟨fun y hy=>?_,zie p h2⟩
   rcases zmX hy with rfl | hy
   .simpa using hs
   .exact h1 y hy
def srtT (bs:List (List Int)):List (List Int):=bs.foldl (fun S b=>insT b S) []
theorem zes (bs:List (List Int)) (b:List Int):srtT (bs++[b])=insT b (srtT bs):=by simp [srtT]
theorem zmj (bs:List (List Int)):(srtT bs).Pairwise (fun a b=>ltT b a=false) :=
 zbQ (P:=fun bs=>(srtT bs).Pairwise (fun a b=>ltT b a=false)) List.Pairwise.nil (fun l a h=>by rw [zes]; exact zie _ h) bs
theorem zbe (bs:List (List Int)):(srtT bs).Perm bs :=
 zbQ (P:=fun bs=>(srtT bs).Perm bs) (List.Perm.refl _) (fun l a h=>by
  rw [zes]
  refine (zlC _ _).trans ((h.cons _).trans ?_)
  exact (List.perm_append_comm (l₁:=[a]) (l₂:=l))) bs
@[simp] theorem ziK (bs:List (List Int)):(srtT bs).length=bs.length:=(zbe bs).length_eq
theorem zjR {X L:List (List Int)} (hp:X.Perm L) (hX:X.Pairwise (fun a b=>ltT b a=false)) (hL:L.Pairwise (fun a b=>ltT b a=false)):X=L :=
 hp.eq_of_pairwise (fun a b _ _ h1 h2=>by
  by_cases e:a=b
  .exact e
  .have:=zkC e h2; rw [h1] at this; simp at this) hX hL
theorem zpz:SWO (Go.Proofs.ltOf cmpT):=by
 have e:(Go.Proofs.ltOf cmpT)=ltT:=by
  funext a b; exact zh7 _ _
 rw [e]
 refine ⟨fun m=>zjZ _,fun x y z h1 h2=>zc8 h1 h2,fun x y z h1 h2=>?_⟩
 cases h3:ltT x z with
 | false=>rfl
 | true =>
  by_cases e:x=y
  .rw [e] at h3; rw [h3] at h2; exact h2
  .have h4:=zkC e h1
   have:=zc8 h4 h3
   rw [this] at h2; exact h2
theorem zaZ [DrawK] (a b:List Int) (ha:a.length<=1000000) (hb:b.length<=1000000):Con Tryz.prog 195 [.sl a.length (avs a),.sl b.length (avs b)] (.int (cmpT a b)):=by
 unfold cmpT
 by_cases h:a.length=b.length
 .have hi:(a.length:Int)=b.length:=by omega
  rw [if_pos h]
  have c:=zgr b a (by omega) (by omega)
  refine zab Tryz.mixed ⟨5,[],[],[]⟩ Tryz.func195 ?_
  rw [Tryz.ntmps195]
  simp [go_sem,hi]
  refine CallVC.of (c) ?_
  simp [go_sem]
 .have hi:¬ (a.length:Int)=b.length:=by omega
  rw [if_neg h]
  refine zab Tryz.mixed ⟨5,[],[],[]⟩ Tryz.func195 ?_
  rw [Tryz.ntmps195]
  simp [go_sem,hi]
  omega
theorem zjc (X:List (List Int)) (hl:∀ m∈X,m.length<=1000000) (hn:X.length<=1048576) :
  MCon Tryz.prog 294 [.own 25 X.length (omat X),.int 0,.int X.length,.val (.func (.func 195) #[] #[])] (.tup []) [.own 25 X.length (omat (srtT X)),.any,.any,.any]:=by
 obtain ⟨ys,h1,h2,h3⟩:=zfu Tryz.insTrees ⟨_,Tryz.func294,by decide,rfl⟩ (fun m:List Int=>.own 2 m.length (avs m)) cmpT zpz 195 25 (by kernel_rfl) X (by rw [zbJ]; exact zdo X)
  (fun x hx y hy=>by simpa [frz] using @zaZ ⟨1⟩ x y (hl x hx) (hl y hy)) (by omega)
 have e:ys=srtT X:=zjR (h1.trans (zbe X).symm) (h2.imp fun {a b} h=>by
  have:=zh7 b a
  rw [<- this]; simpa using h) (zmj X)
 subst e
 rw [zbJ,zbJ] at h3
 exact h3
theorem zmn (X:List (List Int)) (hl:∀ m∈X,m.length<=1000000) (hn:X.length<=19) :
  MCon Tryz.prog 287 [.own 25 X.length (omat X),.int X.length,.val (.func (.func 195) #[] #[])] (.tup []) [.own 25 X.length (omat (srtT X)),.any,.any]:=by
 have cI:=zjc X hl (by omega)
 have h1:¬ (20:Int)<=X.length:=by omega
 have h2:¬ (20:Int)<X.length:=by omega
 refine zba Tryz.mixed ⟨10,[],[294],[]⟩ [0] Tryz.func287 ?_
 rw [Tryz.ntmps287]
 simp [go_sem]
 refine zac (7::8::List.range' 11 12) (fun _:Nat=>[(7,.int 0),(8,.int 20)]) (fun _=>True) (fun _=>0) 0 trivial (by simp [go_sem]) (by simp [go_sem]) ?_
 intro _ _
 simp [go_sem,h1]
 refine ⟨_,_,cI,?_⟩
 simp [go_sem]
 refine zac ([6,7,8,9]++List.range' 28 35) (fun _:Nat=>[(6,.int 20)]) (fun _=>True) (fun _=>0) 0 trivial (by simp [go_sem]) (by simp [go_sem]) ?_
 intro _ _
 simp [go_sem,h2]
theorem zgQ (X:List (List Int)) (hl:∀ m∈X,m.length<=1000000) (hn:X.length<=19) :
  MCon Tryz.prog 240 [.own 25 X.length (omat X),.val (.func (.func 195) #[] #[])] (.tup []) [.own 25 X.length (omat (srtT X)),.any]:=by
 have cI:=zmn X hl hn
 refine zba Tryz.mixed ⟨4,[],[287],[]⟩ [0] Tryz.func240 ?_
 rw [Tryz.ntmps240]
 simp [go_sem]
 refine ⟨_,_,cI,?_⟩
 simp [go_sem]
theorem zdd (X:List (List Int)) (hl:∀ m∈X,m.length<=1000000) (hn:X.length<=19) :
  Con Tryz.prog 169 [.sl X.length (mat X)] (.own 25 X.length (omat (srtT X))):=by
 have cC:=zhf X (by omega) (fun r h=>by have:=hl r h; omega)
 have cI:=zgQ X hl hn
 refine zab Tryz.mixed ⟨4,[],[240],[]⟩ Tryz.func169 ?_
 rw [Tryz.ntmps169]
 simp [go_sem]
 refine CallVC.of (cC) ?_
 simp [go_sem]
 refine ⟨_,_,cI,?_⟩
 simp [go_sem]
end Go.Proofs.YthhdollpkieknaaGreat


namespace Go.Proofs.YthhdollpkieknaaGreat
open Go.Abs
end Go.Proofs.YthhdollpkieknaaGreat


namespace Go.Proofs.YthhdollpkieknaaGreat
open Go.Abs
end Go.Proofs.YthhdollpkieknaaGreat


namespace Go.Proofs.YthhdollpkieknaaGreat
open Go.Abs
end Go.Proofs.YthhdollpkieknaaGreat


namespace Go.Proofs.YthhdollpkieknaaGreat
open Go.Abs
def pF (t:List Int):Nat->Option Nat
 | 0=>none
 | j+1=>if t[j]?.getD 0<=1 then pF t j else some j
def qF (t:List Int) (v:Int):Nat->Option Nat
 | 0=>none
 | j+1=>if t[j]?.getD 0=v then some j else qF t v j
def fiS (t:List Int) (d p:Nat):Nat->List Int
 | 0=>t
 | k+1=>(fiS t d p k).set (p+k) ((fiS t d p k)[p+k-d]?.getD 0)
@[simp] theorem zha (t:List Int) (d p:Nat):∀ k,(fiS t d p k).length=t.length
 | 0=>rfl
 | k+1=>by simp [fiS,zha t d p k]
def genT:Nat->List Int->List (List Int)
 | 0,_=>[]
 | k+1,t=>t::match pF t t.length with
  | none=>[]
  | some p=>match qF t (t[p]?.getD 0-1) p with
   | none=>[]
   | some q=>genT k (fiS t (p-q) p (t.length-p))
def chkT:Nat->List Int->Bool
 | 0,_=>false
 | k+1,t=>t.all (fun x=>decide (0<=x/\x<=100)) && match pF t t.length with
  | none=>true
  | some p=>match qF t (t[p]?.getD 0-1) p with
   | none=>false
   | some q=>chkT k (fiS t (p-q) p (t.length-p))
theorem zqH {t:List Int} {v:Int}:∀ {j q:Nat},qF t v j=some q->q<j/\t[q]?.getD 0=v
 | j+1,q,h=>by
  rw [qF] at h
  split at h
  .injection h with h; subst h; exact ⟨by omega,by assumption⟩
  .have:=zqH h; exact ⟨by omega,this.2⟩
theorem zkL (n F:Nat) (hn:n<=1000) (hF:F<=1000000) (hc:chkT F (upTo n)=true):Con Tryz.prog 168 [.int n] (.own 25 (genT F (upTo n)).length (omat (genT F (upTo n)))):=by
 refine zab Tryz.mixed ⟨9,[],[],[]⟩ Tryz.func168 ?_
 rw [Tryz.ntmps168]
 simp [go_sem]
 refine zac (3::5::List.range' 12 8) (fun i:Nat=>[(3,.own 2 i (avs (upTo i))),(12,.int i)]) (fun i=>i<=n) (fun i=>n-i) 0 (by simp) (by simp [go_sem,upTo]) (by simp [go_sem]) ?_
 intro i hi
 simp [go_sem]
 refine ⟨fun h=>?_,fun h=>?_⟩ <;> simp at h
 .simp [go_sem]
  refine ⟨⟨by omega,by omega⟩,by omega,i+1,by omega,by omega,zaa _ _ _ (by simp),by rw [zf6,zaE]; exact ⟨rfl,rfl⟩,by omega⟩
 .have e:i=n:=by omega
  subst e
  simp [go_sem]
  refine zac (2::3::4::6::7::8::List.range' 20 52) (fun x:Nat × List Int × List (List Int)=>[(3,.own 2 i (avs x.2.1)),(4,.own 25 x.2.2.length (omat x.2.2))]) (fun x=>x.2.2++genT x.1 x.2.1=genT F (upTo i)/\chkT x.1 x.2.1=true/\x.2.1.length=i/\x.2.2.length+x.1<=F) (fun x=>x.1) (F,upTo i,[]) ⟨by simp,hc,by simp,by simp⟩ (by simp [go_sem,zdV]) (by simp [go_sem]) ?_
  rintro ⟨k,t,done⟩ ⟨hg,hk,hl,hdl⟩
  simp only at hg hk hl hdl
  cases k with
  | zero=>simp [chkT] at hk
  | succ k =>
   rw [chkT] at hk
   rw [genT] at hg
   simp only [Bool.and_eq_true] at hk
   obtain ⟨hb,hk⟩:=hk
   have hb2:∀ j:Nat,0<=t[j]?.getD 0/\t[j]?.getD 0<=100:=fun j=>by
    rcases Nat.lt_or_ge j t.length with hj | hj
    .have:=(List.all_eq_true.1 hb) _ (List.getElem_mem hj)
     simp only [decide_eq_true_eq] at this
     simpa [hj] using this
    .simp [List.getElem?_eq_none hj]
   have cC:=zkO t (by omega)
   rw [hl] at cC hk hg
   simp [go_sem]
   refine CallVC.of (cC) ?_
   simp [go_sem]
   refine ⟨⟨by omega,by omega⟩,⟨by omega,by omega⟩,?_⟩
   refine zac (6::List.range' 27 11) (fun j:Nat=>[(6,.int ((j:Int)-1))]) (fun j=>j<=i/\pF t i=pF t j) (fun j=>j) i ⟨by omega,rfl⟩ (by simp [go_sem]) (by simp [go_sem]) ?_
   rintro j ⟨hj,hpj⟩
   rcases j with _ | j
   .rw [hpj,pF] at hg
    simp [go_sem]
    rw [<- hg,zbA,zco,hl]
    exact ⟨by simp,rfl⟩
   .have hjt:j<t.length:=by omega
    have ej:((j+1:Nat):Int)-1=j:=by omega
    have j0:(0:Int)<=j:=by omega
    by_cases ht:t[j]?.getD 0<=1
    .rw [pF,if_pos ht] at hpj
     simp [go_sem,ej,j0,zca hjt,ht]
     exact ⟨by omega,⟨by omega,by omega⟩,j,⟨by omega,hpj⟩,by omega,zaa _ _ _ (by simp),by omega⟩
    .rw [pF,if_neg ht] at hpj
     rw [hpj] at hg hk
     simp only at hg hk
     have jn:¬ (j:Int)<0:=by omega
     cases hq:qF t (t[j]?.getD 0-1) j with
     | none=>rw [hq] at hk; simp at hk
     | some q =>
      rw [hq] at hg hk
      simp only at hg hk
      have hql:=zqH hq
      have b1:=hb2 j
      simp [go_sem,ej,j0,zca hjt,ht,jn]
      refine ⟨by omega,⟨by omega,by omega⟩,?_⟩
      refine zac (7::List.range' 43 12) (fun r:Nat=>[(7,.int ((r:Int)-1))]) (fun r=>r<=j/\qF t (t[j]?.getD 0-1) r=some q) (fun r=>r) j ⟨by omega,hq⟩ (by simp [go_sem]) (by simp [go_sem]) ?_
      rintro r ⟨hr,hqr⟩
      rcases r with _ | r
      .simp [qF] at hqr
      .have hrt:r<t.length:=by omega
       have er:((r+1:Nat):Int)-1=r:=by omega
       by_cases hv:t[r]?.getD 0=t[j]?.getD 0-1
       .rw [qF,if_pos hv] at hqr
        injection hqr with hqr
        subst hqr
        simp [go_sem,er,zca hrt,zca hjt,hv]
        refine ⟨by kernel_rfl,by omega,by omega,⟨by omega,by omega⟩,?_⟩
        refine ⟨by kernel_rfl,?_⟩
        simp [go_sem]
        refine zac (3::8::List.range' 56 16) (fun e:Nat=>[(3,.own 2 i (avs (fiS t (j-r) j e))),(8,.int ((j+e:Nat):Int))]) (fun e=>j+e<=i) (fun e=>i-e) 0 (by omega) (by simp [go_sem,fiS]) (by simp [go_sem]) ?_
        intro e he
        simp [go_sem]
        refine ⟨fun h=>?_,fun h=>?_⟩ <;> simp at h
        .have hlf:=zha t (j-r) j e
         have k1:j+e-(j-r)<(fiS t (j-r) j e).length:=by omega
         have k2:j+e<(fiS t (j-r) j e).length:=by omega
         have ix:((j:Int)+e-(j-r))=((j+e-(j-r):Nat):Int):=by omega
         have hs:fiS t (j-r) j (e+1)=(fiS t (j-r) j e).set (j+e) ((fiS t (j-r) j e)[j+e-(j-r)]?.getD 0):=rfl
         generalize hF1:fiS t (j-r) j (e+1)=F1 at *
         generalize fiS t (j-r) j e=F0 at *
         have ix2:((j:Int)+e-(j-r)).toNat=j+e-(j-r):=by omega
         have ij2:((j:Int)+e).toNat=j+e:=by omega
         simp [go_sem,ix2,zca k1,ij2]
         refine ⟨⟨by omega,by omega⟩,⟨by omega,by omega⟩,⟨by omega,by omega⟩,⟨by omega,by omega⟩,k2,⟨by omega,by omega⟩,e+1,by omega,by omega,zaa _ _ _ (by simp),?_,by omega⟩
         rw [hF1,hs,zaM]
        .have en:e=i-j:=by omega
         subst en
         have h1:done++[t]++genT k (fiS t (j-r) j (i-j))=genT F (upTo i):=by rw [<- hg]; simp
         simp [go_sem]
         refine ⟨k,fiS t (j-r) j (i-j),done++[t],⟨h1,hk,by rw [zha]; exact hl,by simp; omega⟩,by omega,(by repeat (first | exact zaa _ _ _ (by simp) | (refine Off.reset (by intro x hx; simp at hx |-; omega) (by simp) ?_; simp -failIfUnchanged [go_sem,zaa]))),rfl,?_⟩
         rw [zbA,zco,hl]
         exact ⟨by simp,rfl⟩
       .rw [qF,if_neg hv] at hqr
        simp [go_sem,er,zca hrt,zca hjt,hv]
        refine ⟨by kernel_rfl,by omega,by omega,⟨by omega,by omega⟩,?_⟩
        refine ⟨by kernel_rfl,?_⟩
        simp [go_sem]
        exact ⟨⟨by omega,by omega⟩,r,⟨by omega,hqr⟩,by omega,zaa _ _ _ (by simp),by omega⟩
end Go.Proofs.YthhdollpkieknaaGreat


namespace Go.Proofs.YthhdollpkieknaaGreat
open Go.Abs
def nlA (L:List (List Int)):AV:=match L with
 | []=>.val (.slice none 0 0)
 | _::_=>.own 25 L.length (omat L)
def grwL:Nat->List Int->List (List Int)->List (List Int)
 | 0,t,L=>if canF t.length t=t then L++[t] else L
 | k+1,t,L=>(List.range (t[t.length-1]?.getD 0+1).toNat).foldl (fun (L:List (List Int)) (i:Nat)=>grwL k (t++[t[t.length-1]?.getD 0+1-(i:Int)]) L) L
def grwI (k:Nat) (t:List Int) (m:Int) (L:List (List Int)) (i:Nat):List (List Int):=(List.range i).foldl (fun (L:List (List Int)) (i:Nat)=>grwL k (t++[m-(i:Int)]) L) L
theorem zgX (k:Nat) (t:List Int) (m:Int) (L:List (List Int)) (i:Nat):grwI k t m L (i+1)=grwL k (t++[m-(i:Int)]) (grwI k t m L i):=by simp [grwI,List.range_succ]
theorem zgS (k:Nat) (t:List Int) (L:List (List Int)):grwL (k+1) t L=grwI k t (t[t.length-1]?.getD 0+1) L (t[t.length-1]?.getD 0+1).toNat:=rfl
theorem ze3:∀ n:Nat,1<=n->n<=6->chkT 200 (upTo n)=true/\genT 200 (upTo n)=grwL (n-1) [0] []/\(genT 200 (upTo n)).all lvB=true:=by
 have h:∀ n∈[1,2,3,4,5,6],(chkT 200 (upTo n) && decide (genT 200 (upTo n)=grwL (n-1) [0] []) && (genT 200 (upTo n)).all lvB)=true:=by decide +kernel
 intro n h1 h6
 have:=h n (by simp; omega)
 simp only [Bool.and_eq_true,decide_eq_true_eq] at this
 exact ⟨this.1.1,this.1.2,this.2⟩
theorem zhI {t:List Int} (h:Lv t) {x:Int} (h1:1<=x) (h2:x<=t[t.length-1]?.getD 0+1):Lv (t++[x]):=by
 have hp:=h.1
 refine ⟨by simp,by rw [List.getElem?_append_left hp]; exact h.2.1,fun j hj hl=>?_⟩
 simp at hl
 by_cases e:j=t.length
 .subst e
  rw [List.getElem?_append_right (Nat.le_refl _),List.getElem?_append_left (by omega),Nat.sub_self]
  exact ⟨h1,h2⟩
 .rw [List.getElem?_append_left (by omega),List.getElem?_append_left (by omega)]
  exact h.2.2 j hj (by omega)
theorem zlY {t:List Int} (h:Lv t):0<=t[t.length-1]?.getD 0/\t[t.length-1]?.getD 0<t.length:=by
 have gen:∀ j,j<t.length->0<=t[j]?.getD 0/\t[j]?.getD 0<=j:=by
  intro j
  induction j with
  | zero=>intro _; rw [h.2.1]; omega
  | succ j ih=>intro hj; have:=ih (by omega); have h3:=h.2.2 (j+1) (by omega) hj; simp only [Nat.add_sub_cancel] at h3; omega
 have hp:=h.1
 have:=gen (t.length-1) (by omega)
 omega
theorem zhy {k:Nat} {t:List Int} {L:List (List Int)} (hg:∀ (x:Int) (L:List (List Int)),1<=x->x<=t[t.length-1]?.getD 0+1->(grwL k (t++[x]) L).length<=L.length+6 ^ k):∀ i:Nat,i<=(t[t.length-1]?.getD 0+1).toNat->(grwI k t (t[t.length-1]?.getD 0+1) L i).length<=L.length+i*6 ^ k
 | 0,_=>by simp [grwI]
 | i+1,hi=>by
  rw [zgX]
  have:=hg (t[t.length-1]?.getD 0+1-(i:Int)) (grwI k t (t[t.length-1]?.getD 0+1) L i) (by omega) (by omega)
  have:=zhy (L:=L) hg i (by omega)
  rw [Nat.add_mul]
  omega
theorem ziE:∀ (k:Nat) (t:List Int) (L:List (List Int)),Lv t->t.length+k<=6->(grwL k t L).length<=L.length+6 ^ k
 | 0,t,L,_,_=>by rw [grwL]; split <;> simp
 | k+1,t,L,h,hk=>by
  have hl:=zlY h
  have gen:=zhy (k:=k) (t:=t) (L:=L) (fun x L h1 h2=>ziE k (t++[x]) L (zhI h h1 h2) (by simp; omega))
  rw [zgS]
  have h1:=gen _ (Nat.le_refl _)
  have h2:(t[t.length-1]?.getD 0+1).toNat*6 ^ k<=6*6 ^ k:=Nat.mul_le_mul_right _ (by omega)
  rw [Nat.pow_succ]
  omega
theorem zm8 (k:Nat) (t:List Int) (L:List (List Int)) (h:Lv t) (hk:t.length+(k+1)<=6) (i:Nat) (hi:i<=(t[t.length-1]?.getD 0+1).toNat):(grwI k t (t[t.length-1]?.getD 0+1) L i).length<=L.length+i*6 ^ k :=
 zhy (fun x L h1 h2=>ziE k (t++[x]) L (zhI h h1 h2) (by simp; omega)) i hi
@[simp] theorem zr8:nlA []=.val (.slice none 0 0):=rfl
@[simp] theorem zrH (r:List Int) (L:List (List Int)):nlA (r::L)=.own 25 (L.length+1) (omat (r::L)):=rfl
theorem zod (W:List Nat) (L:List (List Int)):kl W (nlA L)=nlA L:=by cases L <;> simp [go_sem]
theorem zgK (n:Nat) (hn:n<=6):∀ (k:Nat) (t:List Int) (L:List (List Int)),Lv t->t.length+k=n->L.length+6 ^ k<=1000000->MCon Tryz.prog 272 [.own 2 t.length (avs t),.int n,nlA L] (nlA (grwL k t L)) [.any,.any,.any]
 | 0,t,L,h,hk,hL=>by
  have e:t.length=n:=by omega
  have hp:=h.1
  have hc:=zcj n t (by omega) h (by omega)
  have hl:=zaN n t h (by omega)
  rw [<- hl] at hc
  have hs:=zgU (canF n t) t (by omega)
  have hO:=zfL t (by omega)
  rw [grwL,e]
  by_cases hcn:canF n t=t
  .rw [if_pos hcn]
   rw [hcn] at hc hs
   simp only [decide_true] at hs
   rw [e] at hc hs hO
   cases L with
   | nil =>
    rw [nlA,List.nil_append,nlA]
    refine zba Tryz.mixed ⟨2,[],[272],[]⟩ [] Tryz.func272 ?_
    rw [Tryz.ntmps272]
    simp [go_sem]
    refine CallVC.of (hc) ?_
    simp [go_sem]
    refine CallVC.of (hs) ?_
    simp [go_sem]
    refine CallVC.of (hO) ?_
    simp [go_sem]
    rw [zco,e]
   | cons r L =>
    rw [nlA,List.cons_append,nlA]
    refine zba Tryz.mixed ⟨2,[],[272],[]⟩ [] Tryz.func272 ?_
    rw [Tryz.ntmps272]
    simp [go_sem]
    refine CallVC.of (hc) ?_
    simp [go_sem]
    refine CallVC.of (hs) ?_
    simp [go_sem]
    refine CallVC.of (hO) ?_
    simp [go_sem]
    simp at hL
    have em:omat (r::L)++[AV.own 2 n (avs t)]=omat (r::(L++[t])):=by rw [<- List.cons_append,zbA,zco,e]
    refine ⟨⟨by omega,by omega⟩,em,?_⟩
    rw [em]; exact zdo _
  .rw [if_neg hcn]
   simp only [hcn,decide_false] at hs
   rw [hl] at hc hs
   rw [e] at hc hs
   cases L with
   | nil =>
    rw [nlA]
    refine zba Tryz.mixed ⟨2,[],[272],[]⟩ [] Tryz.func272 ?_
    rw [Tryz.ntmps272]
    simp [go_sem]
    refine CallVC.of (hc) ?_
    simp [go_sem]
    refine CallVC.of (hs) ?_
    simp [go_sem]
   | cons r L =>
    rw [nlA]
    refine zba Tryz.mixed ⟨2,[],[272],[]⟩ [] Tryz.func272 ?_
    rw [Tryz.ntmps272]
    simp [go_sem]
    refine CallVC.of (hc) ?_
    simp [go_sem]
    refine CallVC.of (hs) ?_
    simp [go_sem]
 | k+1,t,L,h,hk,hL=>by
  have hp:=h.1
  have hl:=zlY h
  have tn:¬ (t.length:Int)=n:=by omega
  have tn2:¬ t.length=n:=by omega
  have hO:=zfL t (by omega)
  have ht:t.length-1<t.length:=by omega
  have ex:((t.length:Int)-1)=((t.length-1:Nat):Int):=by omega
  rw [zgS]
  have glen:=fun (i:Nat) (hi:i<=(t[t.length-1]?.getD 0+1).toNat)=>zm8 k t L h (by omega) i hi
  have ih:=fun (i:Nat) (hi:i<(t[t.length-1]?.getD 0+1).toNat) (L1:List (List Int)) (h1:L1.length+6 ^ k<=1000000)=>zgK n hn k (t++[t[t.length-1]?.getD 0+1-(i:Int)]) L1 (zhI h (by omega) (by omega)) (by simp; omega) h1
  generalize hm:t[t.length-1]?.getD 0=m at *
  have ib:∀ i:Nat,i<(m+1).toNat->(grwI k t (m+1) L i).length+6 ^ k<=1000000:=fun i hi=>by
   have:=glen i (by omega)
   have h6:(i+1)*6 ^ k<=6*6 ^ k:=Nat.mul_le_mul_right _ (by omega)
   rw [Nat.pow_succ] at hL
   rw [Nat.add_mul] at h6
   omega
  have Tr:∀ (S:St),S 2=nlA L->S 7=.val (.int .i64 (m+1))->Trk S ([(2,nlA (grwI k t (m+1) L 0)),(7,.int (m+1-(0:Nat)))]:List (Nat × AV)):=fun S h2 h7=>by
   simp [go_sem,grwI,h2,h7]
  obtain ⟨LL,hLL⟩:∃ LL,LL=L:=⟨_,rfl⟩
  have hR:grwI k t (m+1) L (m+1).toNat=grwI k t (m+1) LL (m+1).toNat:=by rw [hLL]
  rw [hR]
  rw [<- hLL] at Tr ib
  clear hR
  cases L
  all_goals
   refine zba Tryz.mixed ⟨2,[],[272],[]⟩ [] Tryz.func272 ?_
   rw [Tryz.ntmps272]
   simp [go_sem]
   simp [go_sem,tn,tn2,ex,zca ht,hm]
   refine ⟨by omega,ht,⟨by omega,by omega⟩,?_⟩
   refine zac (2::7::List.range' 29 12) (fun i:Nat=>[(2,nlA (grwI k t (m+1) LL i)),(7,.int (m+1-(i:Int)))]) (fun i=>i<=(m+1).toNat) (fun i=>(m+1).toNat-i) 0 (by simp) (Tr _ (by simp [go_sem,hLL]) (by simp [go_sem])) (by simp [go_sem,zod]) ?_
   intro i hi
   simp [go_sem]
   refine ⟨fun h=>?_,fun h=>?_⟩ <;> simp at h
   .have him:i<(m+1).toNat:=by omega
    have i1:=ih i him _ (ib i him)
    have e1:=zgX k t (m+1) LL i
    generalize hL2:grwI k t (m+1) LL (i+1)=L2 at *
    generalize grwI k t (m+1) LL i=L1 at *
    rw [<- e1] at i1
    simp only [List.length_append,List.length_singleton,zaE] at i1
    cases L1 <;> cases L2
    all_goals
     simp [go_sem]
     refine CallVC.of (hO) ?_
     simp [go_sem]
     refine ⟨⟨by omega,by omega⟩,?_⟩
     refine ⟨_,_,i1,?_⟩
     simp [go_sem]
     refine ⟨⟨by omega,by omega⟩,i+1,by omega,by omega,zaa _ _ _ (by simp),?_,zod _ _⟩
     rw [hL2]
     exact ⟨rfl,by omega⟩
   .have e:i=(m+1).toNat:=by omega
    subst e
    generalize grwI k t (m+1) LL (m+1).toNat=L1 at *
    cases L1
    all_goals
     simp [go_sem]
end Go.Proofs.YthhdollpkieknaaGreat


namespace Go.Proofs.YthhdollpkieknaaGreat
open Go.Abs CR
structure Adj (A:List (List Int)) (B:List Int) (A':List (List Int)) (B':List Int):Prop where
 tab:Tab A' B'
 len:B'.length=B.length
 a:∀ r c,r<B.length->c<B.length->mx A' r c%10007=(B[B.length-1-c]?.getD 0-mx A (B.length-1-r) (B.length-1-c))%10007
 b:∀ r,r<B.length->B'[r]?.getD 0%10007=B[B.length-1-r]?.getD 0%10007
theorem serEq.mul {a b c d:Ser Int} (h:serEq a b) (k:serEq c d):serEq (a*c) (b*d):=fun i=>zmN i (fun j _=>h j) (fun j _=>k j)
theorem serEq.eq {a b c:Ser Int} (h:serEq a b) (k:b=c):serEq a c:=k ▸ h
end Go.Proofs.YthhdollpkieknaaGreat


namespace Go.Proofs.YthhdollpkieknaaGreat
open Go.Abs
def denF:Nat->List Int->Int
 | 0,_=>0
 | n+1,t=>(brs t).foldl (fun o b=>o*denF n b) t.length
def denK (n:Nat) (t:List Int) (j:Nat):Int:=((brs t).take j).foldl (fun o b=>o*denF n b) t.length
def zoL:Nat->List Int->Bool
 | 0,_=>false
 | n+1,t=>(brs t).all (zoL n) && (List.range ((brs t).length+1)).all fun j=>decide (0<=denK n t j/\denK n t j<=1000000)
def trN (k:Nat):List (List Int):=(List.range k).flatMap fun i=>genT 200 (upTo (i+1))
theorem ziG (k:Nat):trN (k+1)=trN k++genT 200 (upTo (k+1)):=by simp [trN,List.range_succ]
theorem zfC:∀ k,k<=6->(trN k).length<=100:=by decide +kernel
theorem zch:(trN 6).length=37:=by decide +kernel
def lvC (t:List Int):Bool:=decide (0<t.length) && decide (t[0]?.getD 0=0) && (List.range t.length).all fun j=>decide (j=0) || decide (1<=t[j]?.getD 0/\t[j]?.getD 0<=t[j-1]?.getD 0+1)
theorem zhW {t:List Int} (h:lvC t=true):Lv t:=by
 unfold lvC at h
 simp only [Bool.and_eq_true,decide_eq_true_eq,List.all_eq_true,Bool.or_eq_true,List.mem_range] at h
 exact ⟨h.1.1,h.1.2,fun j h1 h2=>(h.2 j h2).resolve_left (by omega)⟩
theorem zo6:(trN 6).all (fun t=>lvC t && decide (t.length<=6) && zoL 8 t)=true:=by decide +kernel
theorem zkF {t:List Int} (h:t∈trN 6):Lv t/\t.length<=6/\zoL 8 t=true:=by
 have:=List.all_eq_true.1 zo6 t h
 simp only [Bool.and_eq_true,decide_eq_true_eq] at this
 exact ⟨zhW this.1.1,this.1.2,this.2⟩
theorem zgG (n:Nat) (hn:n<=6):Con Tryz.prog 80 [.int n] (.own 25 (trN n).length (omat (trN n))):=by
 refine zab Tryz.mixed ⟨5,[],[],[]⟩ Tryz.func80 ?_
 rw [Tryz.ntmps80]
 simp [go_sem]
 refine zac ([3,4]++List.range' 6 9) (fun i:Nat=>[(3,.own 25 (trN i).length (omat (trN i))),(4,.int (i+1))]) (fun i=>i<=n) (fun i=>n-i) 0 (by simp) (by simp [go_sem,trN,omat]) (by simp [go_sem]) ?_
 intro i hi
 have l0:=zfC i (by omega)
 by_cases hin:i<n
 .have hii:(i:Int)+1<=n:=by omega
  have cT:=zkL (i+1) 200 (by omega) (by omega) (ze3 (i+1) (by omega) (by omega)).1
  have l1:=zfC (i+1) (by omega)
  have ts:=ziG i
  have tl:=congrArg List.length ts
  rw [List.length_append] at tl
  have ot:omat (trN (i+1))=omat (trN i)++omat (genT 200 (upTo (i+1))):=by rw [ts]; simp [omat]
  have ec:((i+1:Nat):Int)=(i:Int)+1:=by omega
  rw [ec] at cT
  generalize genT 200 (upTo (i+1))=G at *
  simp [go_sem,hii]
  refine CallVC.of (cT) ?_
  simp [go_sem]
  exact ⟨⟨by omega,by omega⟩,⟨by omega,by omega⟩,i+1,by omega,by omega,zaa _ _ _ (by simp),by rw [tl,ot]; exact ⟨rfl,rfl⟩,by omega⟩
 .have e:i=n:=by omega
  subst e
  have hii:¬ (i:Int)+1<=i:=by omega
  simp [go_sem,hii]
end Go.Proofs.YthhdollpkieknaaGreat


namespace Go.Proofs.YthhdollpkieknaaGreat
open Go.Abs
theorem zgw [DrawK] (F:List (List Int)) (hl:F.length<=1000) (hr:∀ r∈F,r.length<=1000):Con Tryz.prog 324 [.sl F.length (mat F)] (.int (sumN F)):=by
 have bd:∀ i,i<=F.length->sumN (F.take i)<=1000*i:=fun i=>by
  induction i with
  | zero=>intro _; simp [sumN]
  | succ i ih =>
   intro hi
   have h1:=ih (by omega)
   have h2:F.take (i+1)=F.take i++[F[i]?.getD []]:=by
    rw [List.take_succ_eq_append_getElem (by omega),List.getElem?_eq_getElem (by omega)]; rfl
   rw [h2,zdJ]
   have h3:=hr _ (memD [] (show i<F.length by omega))
   have h4:sumN [F[i]?.getD []]=(F[i]?.getD []).length:=by simp [sumN]
   omega
 refine zab Tryz.mixed ⟨6,[],[],[]⟩ Tryz.func324 ?_
 rw [Tryz.ntmps324]
 simp [go_sem]
 refine zac (3::5::List.range' 8 9) (fun i:Nat=>[(3,.int (sumN (F.take i))),(8,.int i)]) (fun i=>i<=F.length) (fun i=>F.length-i) 0 (by simp) (by simp [go_sem,sumN]) (by simp [go_sem]) ?_
 intro i hi
 by_cases h:i<F.length
 .have hii:(i:Int)<F.length:=by omega
  have ne:¬ F=[]:=by rintro rfl; simp at h
  have b1:=bd i hi
  have b2:=bd (i+1) h
  have h2:F.take (i+1)=F.take i++[F[i]?.getD []]:=by
   rw [List.take_succ_eq_append_getElem h,List.getElem?_eq_getElem h]; rfl
  have h4:sumN (F.take (i+1))=sumN (F.take i)+(F[i]?.getD []).length:=by rw [h2,zdJ]; simp [sumN]
  simp [go_sem,hii,zat h]
  exact ⟨ne,⟨by omega,by omega⟩,⟨by omega,by omega⟩,i+1,by omega,by omega,zaa _ _ _ (by simp),by rw [h4]; omega,by omega⟩
 .have e:i=F.length:=by omega
  subst e
  rw [List.take_length]
  simp [go_sem]
def zaO:List (List Int)->List (List Int)->Int
 | [],[]=>0
 | [],_::_ => -1
 | _::_,[]=>1
 | a::f,b::g=>if cmpT a b=0 then zaO f g else cmpT a b
theorem ze5:∀ (f g:List (List Int)) (i:Nat),i<=f.length->i<=g.length->(∀ j,j<i->cmpT (f[j]?.getD []) (g[j]?.getD [])=0)->zaO f g=zaO (f.drop i) (g.drop i)
 | f,g,0,_,_,_=>rfl
 | a::f,b::g,i+1,h1,h2,h=>by
  have h0:cmpT a b=0:=h 0 (by omega)
  rw [zaO,if_pos h0,List.drop_succ_cons,List.drop_succ_cons]
  exact ze5 f g i (by simpa using h1) (by simpa using h2) (fun j hj=>by simpa using h (j+1) (by omega))
theorem zc0 [DrawK] (f g:List (List Int)) (hf:f.length<=1000) (hg:g.length<=1000) (rf:∀ r∈f,r.length<=1000) (rg:∀ r∈g,r.length<=1000) :
  Con Tryz.prog 246 [.sl f.length (mat f),.sl g.length (mat g),.val (.func (.func 195) #[] #[])] (.int (zaO f g)):=by
 refine zab Tryz.mixed ⟨11,[],[],[]⟩ Tryz.func246 ?_
 rw [Tryz.ntmps246]
 simp [go_sem]
 refine zac (List.range' 6 5++List.range' 13 21) (fun i:Nat=>[(13,.int i)]) (fun i=>i<=f.length/\i<=g.length/\∀ j,j<i->cmpT (f[j]?.getD []) (g[j]?.getD [])=0) (fun i=>f.length-i) 0 (by simp) (by simp [go_sem]) (by simp [go_sem]) ?_
 rintro i ⟨hi,hg2,hz⟩
 have sk:=ze5 f g i hi hg2 hz
 by_cases h:i<f.length
 .have hii:(i:Int)<f.length:=by omega
  have nf:¬ f=[]:=by rintro rfl; simp at h
  have df:f.drop i=f[i]?.getD []::f.drop (i+1):=by rw [List.drop_eq_getElem_cons h]; simp [h]
  by_cases h2:i<g.length
  .have ng:¬ g=[]:=by rintro rfl; simp at h2
   have hgi:¬ (g.length:Int)<=i:=by omega
   have dg:g.drop i=g[i]?.getD []::g.drop (i+1):=by rw [List.drop_eq_getElem_cons h2]; simp [h2]
   have cT:=zaZ (f[i]?.getD []) (g[i]?.getD []) (by have:=rf _ (memD [] h); omega) (by have:=rg _ (memD [] h2); omega)
   rw [df,dg,zaO] at sk
   have m1:=zat h
   have m2:=zat h2
   by_cases c0:cmpT (f[i]?.getD []) (g[i]?.getD [])=0
   .rw [c0] at cT
    rw [if_pos c0] at sk
    simp [go_sem,hii,m1,m2,hgi]
    repeat refine ⟨by first | omega | exact nf | exact ng | exact ⟨h,nf⟩ | exact ⟨h2,ng⟩,?_⟩
    refine CallVC.of (cT) ?_
    simp [go_sem]
    refine ⟨⟨by omega,by omega⟩,i+1,⟨by omega,by omega,fun j hj=>?_⟩,by omega,zaa _ _ _ (by simp),by omega⟩
    rcases Nat.lt_or_ge j i with hji | hji
    .exact hz j hji
    .have:j=i:=by omega
     subst this; exact c0
   .rw [if_neg c0] at sk
    rw [sk]
    generalize cmpT (f[i]?.getD []) (g[i]?.getD [])=e at *
    simp [go_sem,hii,m1,m2,hgi]
    repeat refine ⟨by first | omega | exact nf | exact ng | exact ⟨h,nf⟩ | exact ⟨h2,ng⟩,?_⟩
    refine CallVC.of (cT) ?_
    simp [go_sem]
    simp [go_sem,c0]
  .have hgi:(g.length:Int)<=i:=by omega
   rw [df,show g.drop i=[] from List.drop_eq_nil_of_le (by omega),zaO] at sk
   rw [sk]
   simp [go_sem,hii,zat h,hgi]
   repeat refine ⟨by first | omega | exact nf | exact ⟨h,nf⟩,?_⟩
   exact nf
 .have e:i=f.length:=by omega
  subst e
  rw [List.drop_eq_nil_of_le (Nat.le_refl _)] at sk
  by_cases h2:f.length<g.length
  .have dg:g.drop f.length=g[f.length]?.getD []::g.drop (f.length+1):=by rw [List.drop_eq_getElem_cons h2]; simp [h2]
   rw [dg,zaO] at sk
   rw [sk]
   simp [go_sem,h2]
  .rw [List.drop_eq_nil_of_le (by omega),zaO] at sk
   rw [sk]
   simp [go_sem,h2]
theorem zbW [DrawK] (f g:List (List Int)) (hf:f.length<=1000) (hg:g.length<=1000) (rf:∀ r∈f,r.length<=1000) (rg:∀ r∈g,r.length<=1000) :
  Con Tryz.prog 283 [.sl f.length (mat f),.sl g.length (mat g)] (.int (if f.length=g.length then zaO f g else (f.length:Int)-g.length)):=by
 have cC:=zc0 f g hf hg rf rg
 by_cases e:f.length=g.length
 .rw [if_pos e]
  rw [e] at cC
  refine zab Tryz.mixed ⟨5,[],[],[]⟩ Tryz.func283 ?_
  rw [Tryz.ntmps283]
  simp [go_sem]
  simp [go_sem,e]
  refine CallVC.of (cC) ?_
  simp [go_sem]
 .rw [if_neg e]
  have ei:¬ (f.length:Int)=g.length:=by omega
  refine zab Tryz.mixed ⟨5,[],[],[]⟩ Tryz.func283 ?_
  rw [Tryz.ntmps283]
  simp [go_sem]
  simp [go_sem,ei]
  omega
def zfw (f g:List (List Int)):Int:=if f.length=g.length then zaO f g else (f.length:Int)-g.length
def zeJ (f g:List (List Int)):Int:=if (sumN f:Int)-sumN g=0 then zfw f g else (sumN f:Int)-sumN g
theorem zka {F:List (List Int)} {b:Nat} (hr:∀ r∈F,r.length<=b):sumN F<=b*F.length:=by
 induction F with
 | nil=>simp [sumN]
 | cons r F ih =>
  have h1:=ih (fun s hs=>hr s (by simp [hs]))
  have h2:=hr r (by simp)
  simp only [sumN,List.length_cons,Nat.mul_succ]
  omega
theorem zdE [DrawK] (f g:List (List Int)) (hf:f.length<=1000) (hg:g.length<=1000) (rf:∀ r∈f,r.length<=1000) (rg:∀ r∈g,r.length<=1000) :
  Con Tryz.prog 282 [.sl f.length (mat f),.sl g.length (mat g)] (.int (zeJ f g)):=by
 have c1:=zgw f hf rf
 have c2:=zgw g hg rg
 have c3:=zbW f g hf hg rf rg
 have b1:=zka rf
 have b2:=zka rg
 unfold zeJ
 have e3:(if f.length=g.length then zaO f g else (f.length:Int)-g.length)=zfw f g:=rfl
 rw [e3] at c3
 generalize zfw f g=w at *
 generalize sumN f=a at *
 generalize sumN g=b at *
 by_cases e:(a:Int)-b=0
 .rw [if_pos e]
  refine zab Tryz.mixed ⟨6,[],[],[]⟩ Tryz.func282 ?_
  rw [Tryz.ntmps282]
  simp [go_sem]
  refine CallVC.of (c1) ?_
  simp [go_sem]
  refine CallVC.of (c2) ?_
  simp [go_sem]
  refine ⟨⟨by omega,by omega⟩,?_⟩
  simp [go_sem,e]
  refine CallVC.of (c3) ?_
  simp [go_sem]
 .rw [if_neg e]
  refine zab Tryz.mixed ⟨6,[],[],[]⟩ Tryz.func282 ?_
  rw [Tryz.ntmps282]
  simp [go_sem]
  refine CallVC.of (c1) ?_
  simp [go_sem]
  refine CallVC.of (c2) ?_
  simp [go_sem]
  refine ⟨⟨by omega,by omega⟩,?_⟩
  simp [go_sem,e]
abbrev Spl:=List (List Int) × List (List Int) × Int
def zbv (s r:Spl):Int:=if zeJ s.1 r.1=0 then zfw s.2.1 r.2.1 else zeJ s.1 r.1
def spA (s:Spl):List AV:=[.own 25 s.1.length (omat s.1),.own 25 s.2.1.length (omat s.2.1),.int s.2.2]
def spF (s:Spl):List AV:=[.sl s.1.length (mat s.1),.sl s.2.1.length (mat s.2.1),.int s.2.2]
theorem zlS (s:Spl):frzL (spA s)=spF s:=by simp [spA,spF,frzL,frz]
def SpOk (s:Spl):Prop:=(s.1.length<=100/\∀ r∈s.1,r.length<=100)/\(s.2.1.length<=100/\∀ r∈s.2.1,r.length<=100)
theorem zdX [DrawK] (s r:Spl) (hs:SpOk s) (hr:SpOk r):Con Tryz.prog 281 [.agg (spF s),.agg (spF r)] (.int (zbv s r)):=by
 obtain ⟨⟨s1,s2⟩,s3,s4⟩:=hs
 obtain ⟨⟨r1,r2⟩,r3,r4⟩:=hr
 have c1:=zdE s.1 r.1 (by omega) (by omega) (fun x hx=>by have:=s2 x hx; omega) (fun x hx=>by have:=r2 x hx; omega)
 have c2:=zbW s.2.1 r.2.1 (by omega) (by omega) (fun x hx=>by have:=s4 x hx; omega) (fun x hx=>by have:=r4 x hx; omega)
 have e3:(if s.2.1.length=r.2.1.length then zaO s.2.1 r.2.1 else (s.2.1.length:Int)-r.2.1.length)=zfw s.2.1 r.2.1:=rfl
 rw [e3] at c2
 unfold zbv spF
 generalize zfw s.2.1 r.2.1=w at *
 generalize zeJ s.1 r.1=v at *
 by_cases v0:v=0
 .rw [if_pos v0]
  refine zab Tryz.mixed ⟨6,[],[],[]⟩ Tryz.func281 ?_
  rw [Tryz.ntmps281]
  simp [go_sem]
  refine CallVC.of (c1) ?_
  simp [go_sem]
  simp [go_sem,v0]
  refine CallVC.of (c2) ?_
  simp [go_sem]
 .rw [if_neg v0]
  refine zab Tryz.mixed ⟨6,[],[],[]⟩ Tryz.func281 ?_
  rw [Tryz.ntmps281]
  simp [go_sem]
  refine CallVC.of (c1) ?_
  simp [go_sem]
  simp [go_sem,v0]
end Go.Proofs.YthhdollpkieknaaGreat


namespace Go.Proofs.YthhdollpkieknaaGreat
open Go.Abs Go.Shelf Go.Sort
structure LinC {α:Type} (c:α->α->Int):Prop where
 zero:∀ a b,c a b=0 ↔ a=b
 anti:∀ a b,c a b<0 ↔ 0<c b a
 trans:∀ a b d,c a b<0->c b d<0->c a d<0
theorem LinC.self {α:Type} {c:α->α->Int} (h:LinC c) (a:α):c a a=0:=(h.zero a a).2 rfl
theorem zgj:∀ a b:List Int,cmpL a b=0 ↔ a=b
 | [],[]=>by simp [cmpL]
 | [],_::_=>by simp [cmpL]
 | _::_,[]=>by simp [cmpL]
 | x::xs,y::ys=>by
  rw [cmpL]
  by_cases h:x=y
  .rw [if_pos h,zgj xs ys]; simp [h]
  .rw [if_neg h]; simp [h,zlq h]
theorem zgk:∀ a b:List Int,cmpL a b<0 ↔ 0<cmpL b a
 | [],[]=>by simp [cmpL]
 | [],_::_=>by simp [cmpL]
 | _::_,[]=>by simp [cmpL]
 | x::xs,y::ys=>by
  rw [cmpL,cmpL]
  by_cases h:x=y
  .rw [if_pos h,if_pos h.symm]; exact zgk xs ys
  .rw [if_neg h,if_neg (fun e=>h e.symm)]
   by_cases h1:x<y
   .have h2:¬ y<x:=by omega
    simp [cmpI,h1,h2]
   .have h2:y<x:=by omega
    simp [cmpI,h1,h2]
theorem linLx:LinC cmpL where
 zero:=zgj
 anti:=zgk
 trans a b d h1 h2:=by
  have:=zbl (a:=a) (b:=b) (c:=d) (by rw [<- zck]; simpa using h1) (by rw [<- zck]; simpa using h2)
  rw [<- zck] at this; simpa using this
theorem LinC.flip {α:Type} {c:α->α->Int} (h:LinC c):LinC (fun a b=>c b a) :=
 ⟨fun a b=>(h.zero b a).trans eq_comm,fun a b=>h.anti b a,fun a b d h1 h2=>h.trans d b a h2 h1⟩
theorem LinC.key {α:Type} {c:α->α->Int} (h:LinC c) (k:α->Nat):LinC (fun a b=>if k a=k b then c a b else (k a:Int)-k b) where
 zero a b:=by
  by_cases e:k a=k b
  .simp only [if_pos e]; exact h.zero a b
  .simp only [if_neg e]; exact ⟨fun x=>by omega,fun x=>(e (by rw [x])).elim⟩
 anti a b:=by
  by_cases e:k a=k b
  .simp only [if_pos e,if_pos e.symm]; exact h.anti a b
  .have e2:¬ k b=k a:=fun x=>e x.symm
   simp only [if_neg e,if_neg e2]; omega
 trans a b d h1 h2:=by
  by_cases e:k a=k b
  .by_cases e2:k b=k d
   .simp only [if_pos e] at h1; simp only [if_pos e2] at h2; simp only [if_pos (e.trans e2)]; exact h.trans _ _ _ h1 h2
   .simp only [if_neg e2] at h2; have e3:¬ k a=k d:=by omega
    simp only [if_neg e3]; omega
  .simp only [if_neg e] at h1
   by_cases e2:k b=k d
   .have e3:¬ k a=k d:=by omega
    simp only [if_neg e3]; omega
   .simp only [if_neg e2] at h2; have e3:¬ k a=k d:=by omega
    simp only [if_neg e3]; omega
theorem LinC.pair {α β:Type} {c:α->α->Int} {d:β->β->Int} (h:LinC c) (k:LinC d):LinC (fun p q:α × β=>if c p.1 q.1=0 then d p.2 q.2 else c p.1 q.1) where
 zero p q:=by
  obtain ⟨a,x⟩:=p; obtain ⟨b,y⟩:=q
  by_cases e:c a b=0
  .have e1:=(h.zero a b).1 e
   simp only [if_pos e]; rw [k.zero]; simp [e1]
  .have e1:¬ a=b:=fun x=>e ((h.zero a b).2 x)
   simp only [if_neg e]; simp [e,e1]
 anti p q:=by
  obtain ⟨a,x⟩:=p; obtain ⟨b,y⟩:=q
  by_cases e:c a b=0
  .have e2:c b a=0:=(h.zero b a).2 ((h.zero a b).1 e).symm
   simp only [if_pos e,if_pos e2]; exact k.anti x y
  .have e2:¬ c b a=0:=fun x=>e ((h.zero a b).2 ((h.zero b a).1 x).symm)
   simp only [if_neg e,if_neg e2]; exact h.anti a b
 trans p q r h1 h2:=by
  obtain ⟨a,x⟩:=p; obtain ⟨b,y⟩:=q; obtain ⟨d,z⟩:=r
  by_cases e:c a b=0
  .have e1:=(h.zero a b).1 e
   simp only [if_pos e] at h1
   by_cases e2:c b d=0
   .simp only [if_pos e2] at h2; rw [<- e1] at e2; simp only [if_pos e2]; exact k.trans _ _ _ h1 h2
   .simp only [if_neg e2] at h2; rw [<- e1] at e2 h2; simp only [if_neg e2]; exact h2
  .simp only [if_neg e] at h1
   by_cases e2:c b d=0
   .have e3:=(h.zero b d).1 e2
    rw [e3] at h1 e; simp only [if_neg e]; exact h1
   .simp only [if_neg e2] at h2
    have h3:=h.trans a b d h1 h2
    have e3:¬ c a d=0:=by omega
    simp only [if_neg e3]; exact h3
theorem LinC.swo {α β:Type} {c:β->β->Int} (h:LinC c) (k:α->β):SWO (Go.Proofs.ltOf fun a b=>c (k a) (k b)):=by
 refine ⟨fun a=>?_,fun x y z h1 h2=>?_,fun x y z h1 h2=>?_⟩
 .show decide (c (k a) (k a)<0)=false
  rw [h.self]; rfl
 .have h1:decide (c (k x) (k y)<0)=true:=h1
  have h2:decide (c (k y) (k z)<0)=true:=h2
  show decide (c (k x) (k z)<0)=true
  rw [decide_eq_true_eq] at *
  exact h.trans _ _ _ h1 h2
 .have h1:decide (c (k x) (k y)<0)=false:=h1
  have h2:decide (c (k y) (k z)<0)=false:=h2
  show decide (c (k x) (k z)<0)=false
  rw [decide_eq_false_iff_not] at *
  intro h3
  by_cases e:c (k x) (k y)=0
  .rw [(h.zero _ _).1 e] at h3; exact h2 h3
  .have h4:c (k y) (k x)<0:=(h.anti _ _).2 (by omega)
   exact h2 (h.trans _ _ _ h4 h3)
theorem linT:LinC cmpT:=linLx.flip.key List.length
theorem ze1:∀ f g,zaO f g=0 ↔ f=g
 | [],[]=>by simp [zaO]
 | [],_::_=>by simp [zaO]
 | _::_,[]=>by simp [zaO]
 | a::f,b::g=>by
  rw [zaO]
  by_cases h:cmpT a b=0
  .rw [if_pos h,ze1 f g]; simp [(linT.zero a b).1 h]
  .have e:¬ a=b:=fun e=>h ((linT.zero a b).2 e)
   rw [if_neg h]; simp [h,e]
theorem zfg:∀ f g,zaO f g<0 ↔ 0<zaO g f
 | [],[]=>by simp [zaO]
 | [],_::_=>by simp [zaO]
 | _::_,[]=>by simp [zaO]
 | a::f,b::g=>by
  rw [zaO,zaO]
  by_cases h:cmpT a b=0
  .have h2:cmpT b a=0:=(linT.zero b a).2 ((linT.zero a b).1 h).symm
   rw [if_pos h,if_pos h2]; exact zfg f g
  .have h2:¬ cmpT b a=0:=fun x=>h ((linT.zero a b).2 ((linT.zero b a).1 x).symm)
   rw [if_neg h,if_neg h2]; exact linT.anti a b
theorem zeC:∀ f g k,zaO f g<0->zaO g k<0->zaO f k<0
 | [],[],k,h1,_=>by simp [zaO] at h1
 | [],b::g,[],_,h2=>by simp [zaO] at h2
 | [],b::g,d::k,_,_=>by simp [zaO]
 | a::f,[],k,h1,_=>by simp [zaO] at h1
 | a::f,b::g,[],_,h2=>by simp [zaO] at h2
 | a::f,b::g,d::k,h1,h2=>by
  rw [zaO] at h1 h2 |-
  by_cases e1:cmpT a b=0
  .have e:=(linT.zero a b).1 e1
   rw [if_pos e1] at h1
   rw [<- e] at h2
   by_cases e2:cmpT a d=0
   .rw [if_pos e2] at h2 |-; exact zeC f g k h1 h2
   .rw [if_neg e2] at h2 |-; exact h2
  .rw [if_neg e1] at h1
   by_cases e2:cmpT b d=0
   .rw [(linT.zero b d).1 e2] at h1 e1
    rw [if_neg e1]; exact h1
   .rw [if_neg e2] at h2
    have h3:=linT.trans a b d h1 h2
    rw [if_neg (by omega)]; exact h3
theorem linFs:LinC zaO:=⟨ze1,zfg,zeC⟩
theorem linTr:LinC zfw:=linFs.key List.length
theorem linFo:LinC zeJ:=by
 have e:zeJ=fun f g=>if sumN f=sumN g then zfw f g else (sumN f:Int)-sumN g:=by
  funext f g
  unfold zeJ
  by_cases e:sumN f=sumN g
  .rw [if_pos (by omega),if_pos e]
  .rw [if_neg (by omega),if_neg e]
 rw [e]; exact linTr.key sumN
theorem linSp:LinC (fun p q:List (List Int) × List (List Int)=>if zeJ p.1 q.1=0 then zfw p.2 q.2 else zeJ p.1 q.1):=linFo.pair linTr
def keyS (s:Spl):List (List Int) × List (List Int):=(s.1,s.2.1)
theorem zqd:SWO (Go.Proofs.ltOf zbv):=linSp.swo keyS
theorem spT {a b d:Spl} (h1:zbv a b<0) (h2:zbv b d<0):zbv a d<0:=linSp.trans (keyS a) (keyS b) (keyS d) h1 h2
theorem spI (a:Spl):¬ zbv a a<0:=by
 have:zbv a a=0:=linSp.self (keyS a)
 omega
theorem spZ {a b:Spl}:zbv a b=0 ↔ keyS a=keyS b:=linSp.zero (keyS a) (keyS b)
theorem spAn {a b:Spl}:zbv a b<0 ↔ 0<zbv b a:=linSp.anti (keyS a) (keyS b)
def insS (p:Spl):List Spl->List Spl
 | []=>[p]
 | s::S=>if zbv p s<0 then p::s::S else s::insS p S
def srtS:List Spl->List Spl
 | []=>[]
 | s::S=>insS s (srtS S)
theorem zeI (p:Spl):∀ S,(insS p S).Perm (p::S)
 | []=>.refl _
 | s::S=>by
  rw [insS]; split
  .exact .refl _
  .exact ((zeI p S).cons s).trans (.swap _ _ _)
theorem zb0:∀ S,(srtS S).Perm S
 | []=>.refl _
 | s::S=>(zeI s _).trans ((zb0 S).cons s)
theorem znK (S:List Spl):(srtS S).length=S.length:=(zb0 S).length_eq
theorem zi7 (p:Spl):∀ S:List Spl,S.Pairwise (fun x y=>¬ zbv y x<0)->(insS p S).Pairwise (fun x y=>¬ zbv y x<0)
 | [],_=>by simp [insS]
 | s::S,h=>by
  obtain ⟨h1,h2⟩:=List.pairwise_cons.1 h
  rw [insS]; split
  .rename_i hl
   refine .cons (fun y hy=>?_) h
   rcases List.mem_cons.1 hy with e | hy
   .rw [e]; intro hc; exact spI p (spT hl hc)
   .intro hc; exact h1 y hy (spT hc hl)
  .rename_i hl
   refine .cons (fun y hy=>?_) (zi7 p S h2)
   rcases List.mem_cons.1 ((zeI p S).mem_iff.1 hy) with e | hy
   .rw [e]; exact hl
   .exact h1 y hy
theorem zh2:∀ S:List Spl,(srtS S).Pairwise (fun x y=>¬ zbv y x<0)
 | []=>.nil
 | s::S=>zi7 s _ (zh2 S)
theorem zhq {ys X:List Spl} (hp:ys.Perm X) (h1:∀ s∈X,s.2.2=1) (hy:ys.Pairwise (fun x y=>¬ zbv y x<0)):ys=srtS X :=
 (hp.trans (zb0 X).symm).eq_of_pairwise (fun a b ha hb k1 k2=>by
  have e1:=h1 a (hp.mem_iff.1 ha)
  have e2:=h1 b ((zb0 X).mem_iff.1 hb)
  have z:zbv a b=0:=by
   have k3:¬ 0<zbv a b:=fun x=>k1 (spAn.2 x)
   omega
  have k:=spZ.1 z
  obtain ⟨a1,a2,a3⟩:=a
  obtain ⟨b1,b2,b3⟩:=b
  simp only [keyS,Prod.mk.injEq] at k e1 e2
  rw [k.1,k.2,e1,e2]) hy (zh2 X)
def zeS (out:List Spl) (s:Spl):List Spl:=match out.getLast? with
 | some l=>if zbv l s=0 then out.set (out.length-1) (l.1,l.2.1,l.2.2+1) else out++[s]
 | none=>[s]
def gthS (L:List Spl):List Spl:=L.foldl zeS []
theorem zgV (L:List Spl) (s:Spl):gthS (L++[s])=zeS (gthS L) s:=by simp [gthS]
theorem zlL (out:List Spl) (s:Spl):(zeS out s).length<=out.length+1:=by
 unfold zeS
 split
 .split <;> simp
 .simp
theorem zne (L:List Spl):(gthS L).length<=L.length/\(∀ l∈gthS L,∃ s∈L,keyS l=keyS s)/\((∀ s∈L,s.2.2=1)->∀ l∈gthS L,0<=l.2.2/\l.2.2<=L.length):=by
 refine zbQ (P:=fun L=>(gthS L).length<=L.length/\(∀ l∈gthS L,∃ s∈L,keyS l=keyS s)/\((∀ s∈L,s.2.2=1)->∀ l∈gthS L,0<=l.2.2/\l.2.2<=L.length)) ⟨by simp [gthS],by simp [gthS],by simp [gthS]⟩ (fun L s ih=>?_) L
 obtain ⟨i1,i2,i3⟩:=ih
 rw [zgV]
 have hl:=zlL (gthS L) s
 refine ⟨by rw [List.length_append,List.length_singleton]; omega,fun l hm=>?_,fun h1 l hm=>?_⟩
 .unfold zeS at hm
  split at hm
  .rename_i l0 hl0
   split at hm
   .rcases List.mem_or_eq_of_mem_set hm with hm | e
    .obtain ⟨t,t1,t2⟩:=i2 l hm
     exact ⟨t,by simp [t1],t2⟩
    .obtain ⟨t,t1,t2⟩:=i2 l0 (List.mem_of_getLast? hl0)
     exact ⟨t,by simp [t1],by rw [e,<- t2]; rfl⟩
   .rcases List.mem_append.1 hm with hm | hm
    .obtain ⟨t,t1,t2⟩:=i2 l hm
     exact ⟨t,by simp [t1],t2⟩
    .rw [List.mem_singleton] at hm
     exact ⟨s,by simp,by rw [hm]⟩
  .rw [List.mem_singleton] at hm
   exact ⟨s,by simp,by rw [hm]⟩
 .have j3:=i3 (fun t ht=>h1 t (by simp [ht]))
  have hs:=h1 s (by simp)
  rw [List.length_append,List.length_singleton]
  unfold zeS at hm
  split at hm
  .rename_i l0 hl0
   split at hm
   .rcases List.mem_or_eq_of_mem_set hm with hm | e
    .have:=j3 l hm; omega
    .have:=j3 l0 (List.mem_of_getLast? hl0)
     rw [e]; simp only; omega
   .rcases List.mem_append.1 hm with hm | hm
    .have:=j3 l hm; omega
    .rw [List.mem_singleton] at hm; rw [hm]; omega
  .rw [List.mem_singleton] at hm; rw [hm]; omega
end Go.Proofs.YthhdollpkieknaaGreat


namespace Go.Proofs.YthhdollpkieknaaGreat
open Go.Abs
def zbk (L M:List Spl):List Spl:=L.flatMap fun s=>M.map fun c=>(s.1++c.1,s.2.1++c.2.1,(0:Int))
def spl:Nat->List Int->List Spl
 | 0,_=>[]
 | n+1,t=>((brs t).foldl (fun L b=>zbk L (spl n b)) [([],[],0)]).map (fun s=>(s.1,[canF (n+1) (zaA s.2.1)],s.2.2))++[([canF (n+1) t],[],0)]
def fldS (n:Nat) (bs:List (List Int)):List Spl:=bs.foldl (fun L b=>zbk L (spl n b)) [([],[],0)]
theorem zl0 (n:Nat) (bs:List (List Int)) (b:List Int):fldS n (bs++[b])=zbk (fldS n bs) (spl n b):=by simp [fldS]
theorem ziR (n:Nat) (t:List Int):spl (n+1) t=(fldS n (brs t)).map (fun s=>(s.1,[canF (n+1) (zaA s.2.1)],s.2.2))++[([canF (n+1) t],[],0)]:=rfl
theorem zjp (L M:List Spl) (s:Spl):zbk (L++[s]) M=zbk L M++M.map fun c=>(s.1++c.1,s.2.1++c.2.1,(0:Int)):=by simp [zbk]
theorem zkz (L M:List Spl):(zbk L M).length=L.length*M.length:=by
 induction L with
 | nil=>simp [zbk]
 | cons s L ih =>
  have e:zbk (s::L) M=(M.map fun c=>(s.1++c.1,s.2.1++c.2.1,(0:Int)))++zbk L M:=rfl
  rw [e,List.length_append,ih,List.length_map,List.length_cons,Nat.succ_mul]; omega
def smS (s:Spl):Bool:=decide (s.1.length<=100) && decide (s.2.1.length<=100) && decide (s.2.2=0)
def rtS (n:Nat) (s:Spl):Bool:=lvC (zaA s.2.1) && decide ((zaA s.2.1).length<=n) && s.2.1.all (fun b=>decide (b.length<=100) && b.all (fun x=>decide (0<=x) && decide (x<=100)))
def zhP:Nat->List Int->Bool
 | 0,_=>false
 | n+1,t=>decide (n+1<=100) && lvC t && decide (t.length<=n+1) && (brs t).all (zhP n) && (brs t).all (fun b=>decide ((spl n b).length<=100) && (spl n b).all smS) &&
   (List.range ((brs t).length+1)).all (fun i=>decide ((fldS n ((brs t).take i)).length<=100) && (fldS n ((brs t).take i)).all smS) && (fldS n (brs t)).all (rtS (n+1))
theorem zcR {s:Spl} (h:smS s=true):s.1.length<=100/\s.2.1.length<=100/\s.2.2=0:=by
 simp [smS] at h; exact ⟨h.1.1,h.1.2,h.2⟩
theorem zmx {n:Nat} {s:Spl} (h:rtS n s=true):Lv (zaA s.2.1)/\(zaA s.2.1).length<=n/\∀ b∈s.2.1,b.length<=100/\∀ x∈b,0<=x/\x<=100:=by
 simp only [rtS,Bool.and_eq_true,decide_eq_true_eq,List.all_eq_true] at h
 exact ⟨zhW h.1.1,h.1.2,h.2⟩
theorem zjb {n:Nat} {t:List Int} (h:zhP (n+1) t=true):n+1<=100/\Lv t/\t.length<=n+1/\(∀ b∈brs t,zhP n b=true/\(spl n b).length<=100/\∀ s∈spl n b,smS s=true) /\
  (∀ i,i<=(brs t).length->(fldS n ((brs t).take i)).length<=100/\∀ s∈fldS n ((brs t).take i),smS s=true)/\∀ s∈fldS n (brs t),rtS (n+1) s=true:=by
 simp only [zhP,Bool.and_eq_true,decide_eq_true_eq,List.all_eq_true,List.mem_range] at h
 obtain ⟨⟨⟨⟨⟨⟨h1,h2⟩,h3⟩,h4⟩,h5⟩,h6⟩,h7⟩:=h
 exact ⟨h1,zhW h2,h3,fun b hb=>⟨h4 b hb,(h5 b hb).1,(h5 b hb).2⟩,fun i hi=>h6 i (by omega),h7⟩
theorem zlT:(trN 6).all (zhP 6)=true:=by kernel_rfl
end Go.Proofs.YthhdollpkieknaaGreat


namespace Go.Proofs.YthhdollpkieknaaGreat
open Go.RowKit Go.Shelf Go.Lib Go.Abs
end Go.Proofs.YthhdollpkieknaaGreat


namespace Go.Proofs.YthhdollpkieknaaGreat
open Go.Abs
def bsG (L:List (List Int)) (t:List Int):Nat->Nat->Nat->Nat
 | 0,i,_=>i
 | n+1,i,j=>if i<j then (if cmpT (L[(i+j) / 2]?.getD []) t<0 then bsG L t n ((i+j) / 2+1) j else bsG L t n i ((i+j) / 2)) else i
def bsI (L:List (List Int)) (t:List Int):Nat:=bsG L t (L.length+1) 0 L.length
theorem zdL (L:List (List Int)) (t:List Int):∀ (n m i j:Nat),j-i<n->j-i<m->bsG L t n i j=bsG L t m i j
 | 0,m,i,j,h,_=>by omega
 | n+1,0,i,j,_,h=>by omega
 | n+1,m+1,i,j,h1,h2=>by
  rw [bsG,bsG]
  by_cases hij:i<j
  .rw [if_pos hij,if_pos hij]
   by_cases hc:cmpT (L[(i+j) / 2]?.getD []) t<0
   .rw [if_pos hc,if_pos hc]; exact zdL L t n m _ _ (by omega) (by omega)
   .rw [if_neg hc,if_neg hc]; exact zdL L t n m _ _ (by omega) (by omega)
  .rw [if_neg hij,if_neg hij]
theorem zk2 (L:List (List Int)) (t:List Int):∀ (n i j:Nat),i<=j->i<=bsG L t n i j/\bsG L t n i j<=j
 | 0,i,j,h=>⟨Nat.le_refl _,h⟩
 | n+1,i,j,h=>by
  rw [bsG]
  by_cases hij:i<j
  .rw [if_pos hij]
   by_cases hc:cmpT (L[(i+j) / 2]?.getD []) t<0
   .rw [if_pos hc]
    have:=zk2 L t n ((i+j) / 2+1) j (by omega)
    omega
   .rw [if_neg hc]
    have:=zk2 L t n i ((i+j) / 2) (by omega)
    omega
  .rw [if_neg hij]; omega
theorem shr1 {a:Nat} (h:a<1000000000):shrI IntKind.u64 (a:Int) 1=((a / 2:Nat):Int):=by
 have e:(2:Int) ^ min (1:Int).toNat IntKind.u64.bits=2:=by decide
 unfold shrI
 rw [e,Int.fdiv_eq_ediv_of_nonneg _ (by decide)]
 omega
theorem zeK (L:List (List Int)) (t:List Int) (hL:L.length<=1000) (hr:∀ r∈L,r.length<=1000) (ht:t.length<=1000) :
  Con Tryz.prog 194 [.sl L.length (mat L),.sl t.length (avs t),.val (.func (.func 195) #[] #[])] (.tup [.int (bsI L t),.bool (decide (bsI L t<L.length) && decide (cmpT (L[bsI L t]?.getD []) t=0))]):=by
 refine zab Tryz.mixed ⟨12,[],[],[]⟩ Tryz.func194 ?_
 rw [Tryz.ntmps194]
 simp [go_sem]
 refine zac (List.range' 9 3++List.range' 15 20) (fun x:Nat × Nat=>[(9,.int x.1),(10,.int x.2)]) (fun x=>x.1<=x.2/\x.2<=L.length/\bsG L t (x.2-x.1+1) x.1 x.2=bsI L t) (fun x=>x.2-x.1) (0,L.length) ⟨by simp,by simp,rfl⟩ (by simp [go_sem]) (by simp [go_sem]) ?_
 rintro ⟨i,j⟩ ⟨h1,h2,h3⟩
 simp only at h1 h2 h3
 by_cases hij:i<j
 .have hii:(i:Int)<j:=by omega
  have hh:(i+j) / 2<L.length:=by omega
  have cT:=zaZ (L[(i+j) / 2]?.getD []) t (by have:=hr _ (memD [] hh); omega) (by omega)
  rw [bsG,if_pos hij] at h3
  have hsh:shrI IntKind.u64 (IntKind.u64.wrap ((i:Int)+j)) 1=(((i+j) / 2:Nat):Int):=by
   have w:IntKind.u64.wrap ((i:Int)+j)=((i+j:Nat):Int):=by
    rw [zcp (by omega) (by omega)]; omega
   rw [w]
   exact shr1 (by omega)
  have hnL:¬ L=[]:=by rintro rfl; simp at hh
  have md:=zat hh
  have k1:i<=(i+j) / 2:=by omega
  have k2:(i+j) / 2<j:=by omega
  generalize (i+j) / 2=k at *
  by_cases c0:cmpT (L[k]?.getD []) t<0
  .rw [if_pos c0,zdL L t (j-i) (j-(k+1)+1) _ _ (by omega) (by omega)] at h3
   generalize cmpT (L[k]?.getD []) t=e at *
   simp [go_sem,hii,hsh,md]
   refine ⟨⟨by omega,by omega⟩,by omega,⟨hh,hnL⟩,?_⟩
   refine CallVC.of (cT) ?_
   simp [go_sem]
   simp [go_sem,c0]
   exact ⟨⟨by omega,by omega⟩,k+1,j,⟨by omega,h2,h3⟩,by omega,zaa _ _ _ (by simp),by omega,rfl⟩
  .rw [if_neg c0,zdL L t (j-i) (k-i+1) _ _ (by omega) (by omega)] at h3
   generalize cmpT (L[k]?.getD []) t=e at *
   simp [go_sem,hii,hsh,md]
   refine ⟨⟨by omega,by omega⟩,by omega,⟨hh,hnL⟩,?_⟩
   refine CallVC.of (cT) ?_
   simp [go_sem]
   simp [go_sem,c0]
   exact ⟨i,k,⟨by omega,by omega,h3⟩,by omega,zaa _ _ _ (by simp),rfl,rfl⟩
 .have e:i=j:=by omega
  subst e
  have hii:¬ (i:Int)<i:=by omega
  rw [bsG,if_neg (by omega)] at h3
  rw [<- h3]
  by_cases hi:i<L.length
  .have hiL:(i:Int)<L.length:=by omega
   have hnL:¬ L=[]:=by rintro rfl; simp at hi
   have cT:=zaZ (L[i]?.getD []) t (by have:=hr _ (memD [] hi); omega) (by omega)
   have md:=zat hi
   generalize cmpT (L[i]?.getD []) t=e at *
   simp [go_sem,hii,hiL,md]
   refine ⟨hnL,?_⟩
   refine CallVC.of (cT) ?_
   simp [go_sem]
   simp [hi]
  .have hiL:¬ (i:Int)<L.length:=by omega
   simp [go_sem,hii,hiL]
   omega
def ixT (L:List (List Int)) (t:List Int):Int:=if bsI L t<L.length/\cmpT (L[bsI L t]?.getD []) t=0 then bsI L t else -1
theorem zqh (L:List (List Int)) (t:List Int):bsI L t<=L.length:=(zk2 L t _ 0 L.length (by omega)).2
theorem zeg (L:List (List Int)) (t:List Int) : -1<=ixT L t/\ixT L t<=L.length:=by
 have:=zqh L t
 unfold ixT
 split <;> omega
theorem zgO (L:List (List Int)) (t:List Int) (hL:L.length<=1000) (hr:∀ r∈L,r.length<=1000) (ht:t.length<=1000) :
  Con Tryz.prog 105 [.sl L.length (mat L),.sl t.length (avs t)] (.int (ixT L t)):=by
 have c1:=zeK L t hL hr ht
 unfold ixT
 by_cases h:bsI L t<L.length/\cmpT (L[bsI L t]?.getD []) t=0
 .rw [if_pos h]
  rw [decide_eq_true h.1,decide_eq_true h.2] at c1
  generalize bsI L t=i at *
  refine zab Tryz.mixed ⟨7,[],[],[]⟩ Tryz.func105 ?_
  rw [Tryz.ntmps105]
  simp [go_sem]
  refine CallVC.of (c1) ?_
  simp [go_sem]
 .rw [if_neg h]
  have e:(decide (bsI L t<L.length) && decide (cmpT (L[bsI L t]?.getD []) t=0))=false:=by
   cases e1:decide (bsI L t<L.length) with
   | false=>rfl
   | true =>
    cases e2:decide (cmpT (L[bsI L t]?.getD []) t=0) with
    | false=>rfl
    | true=>exact (h ⟨of_decide_eq_true e1,of_decide_eq_true e2⟩).elim
  rw [e] at c1
  generalize bsI L t=i at *
  refine zab Tryz.mixed ⟨7,[],[],[]⟩ Tryz.func105 ?_
  rw [Tryz.ntmps105]
  simp [go_sem]
  refine CallVC.of (c1) ?_
  simp [go_sem]
theorem zd3 (L:List (List Int)) (n:Nat) (cs:List AV) (t:List Int) (hL:L.length<=1000) (hr:∀ r∈L,r.length<=1000) (ht:t.length<=1000) :
  Con Tryz.prog 162 [.agg [.sl L.length (mat L),.sl n cs],.sl t.length (avs t)] (.int (ixT L t+1)):=by
 have c1:=zgO L t hL hr ht
 have b:=zeg L t
 generalize ixT L t=e at *
 refine zab Tryz.mixed ⟨5,[],[],[]⟩ Tryz.func162 ?_
 rw [Tryz.ntmps162]
 simp [go_sem]
 refine CallVC.of (c1) ?_
 simp [go_sem]
 omega
end Go.Proofs.YthhdollpkieknaaGreat


namespace Go.Proofs.YthhdollpkieknaaGreat
open Go.Abs Go.Shelf Go.Sort
theorem ze6:∀ X:List Spl,zap (X.flatMap spA)=true
 | []=>rfl
 | s::X=>by
  have:=ze6 X
  simp only [List.flatMap_cons,spA,List.cons_append,List.nil_append]
  simp [zap,zar,this]
theorem ziA:∀ X:List Spl,frzL (X.flatMap spA)=X.flatMap spF
 | []=>rfl
 | s::X=>by
  have:=ziA X
  simp only [List.flatMap_cons,spA,spF,List.cons_append,List.nil_append]
  simp [frzL,frz,this]
theorem zlJ (X:List Spl) (h1:∀ s∈X,s.2.2=1) (hok:∀ s∈X,SpOk s) (hn:X.length<=1048576) :
  MCon Tryz.prog 284 [.own 198 X.length (X.flatMap spA),.val (.func (.func 281) #[] #[])] (.tup []) [.own 198 X.length ((srtS X).flatMap spA),.any]:=by
 obtain ⟨ys,p1,p2,p3⟩:=zks Tryz.sortSplits 3 Tryz.isAgg198 Tryz.sizeOf198 ⟨_,Tryz.func284,by decide,rfl⟩ spA zbv zqd 281 198 (by kernel_rfl) X (fun _ _=>rfl) (ze6 X)
  (fun x hx y hy=>by rw [zlS,zlS]; exact @zdX ⟨1⟩ x y (hok x hx) (hok y hy)) (by omega)
 have e:ys=srtS X:=zhq p1 h1 p2
 subst e
 exact p3
def cntF (s:Spl):Spl:=(srtT s.1,srtT s.2.1,1)
def mixS (L:List Spl) (i:Nat):List AV:=((L.map cntF).take i).flatMap spA++(L.drop i).flatMap spF
theorem zhA (X:List Spl):(X.flatMap spA).length=X.length*3:=by
 induction X with
 | nil=>rfl
 | cons s X ih=>rw [List.flatMap_cons,List.length_append,ih]; simp [spA]; omega
theorem zaC (X:List Spl):(X.flatMap spF).length=X.length*3:=by
 induction X with
 | nil=>rfl
 | cons s X ih=>rw [List.flatMap_cons,List.length_append,ih]; simp [spF]; omega
theorem set3 (R:List AV) (x1 x2 x3 y1 y2 y3:AV):∀ P:List AV,(((P++x1::x2::x3::R).set P.length y1).set (P.length+1) y2).set (P.length+1+1) y3=P++y1::y2::y3::R
 | []=>rfl
 | p::P=>by
  have:=set3 R x1 x2 x3 y1 y2 y3 P
  simp only [List.cons_append,List.length_cons,List.set_cons_succ]
  rw [this]
theorem zqj (x1 x2 x3 y3:AV):∀ P:List AV,(P++[x1,x2,x3]).set (P.length+2) y3=P++[x1,x2,y3]
 | []=>rfl
 | p::P=>by
  have:=zqj x1 x2 x3 y3 P
  show p::(P++[x1,x2,x3]).set (P.length+2) y3=p::(P++[x1,x2,y3])
  rw [this]
theorem zjN (O:List Spl) (l s:Spl):zeS (O++[l]) s=if zbv l s=0 then O++[(l.1,l.2.1,l.2.2+1)] else O++[l]++[s]:=by
 have e:∀ O:List Spl,(O++[l]).set O.length (l.1,l.2.1,l.2.2+1)=O++[(l.1,l.2.1,l.2.2+1)]:=fun O=>by
  induction O with
  | nil=>rfl
  | cons o O ih=>rw [List.cons_append,List.length_cons,List.set_cons_succ,ih]; rfl
 unfold zeS
 rw [List.getLast?_concat]
 simp only [List.length_append,List.length_singleton,Nat.add_sub_cancel,e]
theorem zpk (L:List Spl) {i:Nat} (h:i<L.length) {a b:List (List Int)} {k:Int} (hsp:L[i]?.getD ([],[],0)=(a,b,k)) :
  (((mixS L i).set (i*3) (AV.own 25 a.length (omat (srtT a)))).set (i*3+1) (AV.own 25 b.length (omat (srtT b)))).set (i*3+1+1) (AV.val (Value.int IntKind.i64 1))=mixS L (i+1):=by
 have e1:(((L.map cntF).take i).flatMap spA).length=i*3:=by rw [zhA,List.length_take,List.length_map,Nat.min_eq_left (by omega)]
 have e2:L.drop i=(a,b,k)::L.drop (i+1):=by rw [List.drop_eq_getElem_cons h,<- hsp]; simp [h]
 have e3:(L.map cntF).take (i+1)=(L.map cntF).take i++[cntF (a,b,k)]:=by
  rw [List.take_succ_eq_append_getElem (by simpa using h),List.getElem_map]
  congr 2
  rw [<- hsp]; simp [h]
 unfold mixS
 rw [e2,e3,List.flatMap_cons,List.flatMap_append,<- e1]
 refine (set3 _ _ _ _ _ _ _ _).trans ?_
 simp [cntF,spA]
theorem zjC (L:List Spl) (hok:∀ s∈L,(s.1.length<=19/\∀ r∈s.1,r.length<=100)/\(s.2.1.length<=19/\∀ r∈s.2.1,r.length<=100)) (hn:L.length<=1000) :
  GCon Tryz.prog 236 [.own 198 L.length (L.flatMap spF)] (.own 198 (gthS (srtS (L.map cntF))).length ((gthS (srtS (L.map cntF))).flatMap spF)) [.any]:=by
 have cS:=zlJ (L.map cntF) (fun s hs=>by obtain ⟨t,_,rfl⟩:=List.mem_map.1 hs; rfl) (fun s hs=>by
  obtain ⟨t,ht,rfl⟩:=List.mem_map.1 hs
  have h:=hok t ht
  refine ⟨⟨by simp [cntF]; omega,fun r hr=>h.1.2 r ((zbe _).mem_iff.1 hr)⟩,by simp [cntF]; omega,fun r hr=>h.2.2 r ((zbe _).mem_iff.1 hr)⟩) (by simp; omega)
 rw [List.length_map] at cS
 refine zai Tryz.mixed ⟨10,[32],[284],[]⟩ [] Tryz.func236 ?_
 rw [Tryz.ntmps236]
 simp [go_sem]
 refine zc7 (0::3::4::10::List.range' 12 16) (3::4::List.range' 13 15) (fun i:Nat=>[(0,.own 198 L.length (mixS L i)),(10,.bor 0 []),(12,.int i)]) (fun i=>i<=L.length) (fun i=>L.length-i) 0 (by intro x i h1 h2; have:i=0\/i=10\/i=12:=(by simp at h1 h2; omega); rcases this with rfl | rfl | rfl <;> rfl) (by intro i h; simp at h |-; omega) (by simp) (by simp [go_sem,mixS]) (by simp [go_sem,kl]) ?_
 intro i hi
 by_cases h:i<L.length
 .have hii:(i:Int)<L.length:=by omega
  have hs:=hok (L[i]?.getD ([],[],0)) (memD _ h)
  have c1:=zdd (L[i]?.getD ([],[],0)).1 (fun m hm=>by have:=hs.1.2 m hm; omega) hs.1.1
  have c2:=zdd (L[i]?.getD ([],[],0)).2.1 (fun m hm=>by have:=hs.2.2 m hm; omega) hs.2.1
  have dr:(mixS L i).drop (i*3)=spF (L[i]?.getD ([],[],0))++(L.drop (i+1)).flatMap spF:=by
   have e1:(((L.map cntF).take i).flatMap spA).length=i*3:=by rw [zhA,List.length_take,List.length_map,Nat.min_eq_left (by omega)]
   have e2:L.drop i=L[i]?.getD ([],[],0)::L.drop (i+1):=by rw [List.drop_eq_getElem_cons h]; simp [h]
   unfold mixS
   rw [List.drop_append_of_le_length (by omega),e2,List.flatMap_cons,List.drop_eq_nil_of_le (by omega),List.nil_append]
  generalize hsp:L[i]?.getD ([],[],0)=s at *
  obtain ⟨a,b,k⟩:=s
  simp only [spF] at dr c1 c2
  have ml:(mixS L i).length=L.length*3:=by
   unfold mixS
   rw [List.length_append,zhA,zaC,List.length_take,List.length_map,List.length_drop,Nat.min_eq_left (by omega)]; omega
  have nm:¬ mixS L i=[]:=by intro e; rw [e] at ml; simp at ml; omega
  simp [go_sem,hii,dr]
  refine ⟨⟨nm,by omega⟩,by kernel_rfl,?_⟩
  refine CallD.of (c1) ?_
  simp [go_sem]
  refine CallD.of (c2) ?_
  simp [go_sem]
  refine ⟨h,⟨by omega,nm⟩,?_⟩
  refine ⟨by kernel_rfl,?_⟩
  simp [go_sem]
  refine ⟨⟨by omega,by omega⟩,i+1,by omega,by omega,zaa _ _ _ (by simp),zpk L h hsp,by omega⟩
 .have e:i=L.length:=by omega
  subst e
  have hii:¬ (L.length:Int)<L.length:=by omega
  have e0:mixS L L.length=(L.map cntF).flatMap spA:=by
   unfold mixS
   rw [List.take_of_length_le (by simp),List.drop_eq_nil_of_le (Nat.le_refl _)]; simp
  rw [e0]
  have sl:(srtS (L.map cntF)).length=L.length:=by rw [znK,List.length_map]
  have so:∀ s∈srtS (L.map cntF),s.2.2=1/\SpOk s:=fun s hs=>by
   obtain ⟨t,ht,rfl⟩:=List.mem_map.1 ((zb0 _).mem_iff.1 hs)
   have h:=hok t ht
   exact ⟨rfl,⟨by simp [cntF]; omega,fun r hr=>h.1.2 r ((zbe _).mem_iff.1 hr)⟩,by simp [cntF]; omega,fun r hr=>h.2.2 r ((zbe _).mem_iff.1 hr)⟩
  simp [go_sem,hii]
  refine ⟨_,_,cS,?_⟩
  simp [go_sem]
  generalize srtS (L.map cntF)=S at *
  simp [go_sem,ziA]
  refine zac (6::8::9::List.range' 34 33) (fun i:Nat=>[(6,.own 198 (gthS (S.take i)).length ((gthS (S.take i)).flatMap spF)),(34,.int i)]) (fun i=>i<=L.length) (fun i=>L.length-i) 0 (by simp) (by simp [go_sem,gthS]) (by simp [go_sem]) ?_
  intro i hi
  by_cases hi2:i<L.length
  .have hii:(i:Int)<L.length:=by omega
   have hS:i<S.length:=by omega
   have dr:(S.flatMap spF).drop (i*3)=spF (S[i]?.getD ([],[],0))++(S.drop (i+1)).flatMap spF:=by
    have e1:((S.take i).flatMap spF).length=i*3:=by rw [zaC,List.length_take,Nat.min_eq_left (by omega)]
    have e2:S.drop i=S[i]?.getD ([],[],0)::S.drop (i+1):=by rw [List.drop_eq_getElem_cons hS]; simp [hS]
    have e3:S.flatMap spF=(S.take i).flatMap spF++(S.drop i).flatMap spF:=by rw [<- List.flatMap_append,List.take_append_drop]
    rw [e3,List.drop_append_of_le_length (by omega),e2,List.flatMap_cons,List.drop_eq_nil_of_le (by omega),List.nil_append]
   have hs:=so _ (memD ([],[],0) hS)
   generalize hsp:S[i]?.getD ([],[],0)=s at *
   obtain ⟨a,b,k⟩:=s
   obtain ⟨hk,hs⟩:=hs
   simp only at hk
   subst hk
   simp only [spF] at dr
   have ml:(S.flatMap spF).length=L.length*3:=by rw [zaC,sl]
   have nm:¬ S.flatMap spF=[]:=by intro e; rw [e] at ml; simp at ml; omega
   have gs:gthS (S.take (i+1))=zeS (gthS (S.take i)) (a,b,1):=by
    rw [List.take_succ_eq_append_getElem hS,zgV]
    congr 1
    rw [<- hsp,List.getElem?_eq_getElem hS]; rfl
   have iv:=zne (S.take i)
   generalize S.flatMap spF=M at *
   rcases (List.eq_nil_or_concat (gthS (S.take i))) with ho | ⟨O,l,ho⟩
   .rw [ho,show zeS [] (a,b,1)=[(a,b,1)] from rfl] at gs
    rw [ho]
    simp [go_sem,hii,dr]
    refine ⟨nm,by kernel_rfl,?_⟩
    refine ⟨by kernel_rfl,?_⟩
    simp [go_sem]
    refine ⟨⟨by omega,by omega⟩,i+1,by omega,by omega,zaa _ _ _ (by simp),?_⟩
    rw [gs]
    exact ⟨⟨rfl,by simp [spF]⟩,by omega⟩
   .rw [List.concat_eq_append] at ho
    rw [ho] at iv
    rw [ho,zjN] at gs
    rw [ho]
    obtain ⟨i1,i2,i3⟩:=iv
    have kb:=i3 (fun s hs=>(so s (List.mem_of_mem_take hs)).1) l (by simp)
    have hl:SpOk l:=by
     obtain ⟨t,t1,t2⟩:=i2 l (by simp)
     have:=(so t (List.mem_of_mem_take t1)).2
     simp only [keyS,Prod.mk.injEq] at t2
     unfold SpOk
     rw [t2.1,t2.2]; exact this
    have cG:=zdX l (a,b,1) hl hs
    have cl:((O++[l]).flatMap spF).length=(O.length+1)*3:=by rw [zaC]; simp
    have cd:((O++[l]).flatMap spF).drop (O.length*3)=[.sl l.1.length (mat l.1),.sl l.2.1.length (mat l.2.1),.int l.2.2]:=by
     rw [List.flatMap_append,List.drop_append_of_le_length (by rw [zaC]; omega),List.drop_eq_nil_of_le (by rw [zaC]; omega)]
     simp [spF]
    have cs:∀ y,((O++[l]).flatMap spF).set (O.length*3+2) y=O.flatMap spF++[.sl l.1.length (mat l.1),.sl l.2.1.length (mat l.2.1),y]:=fun y=>by
     have e:=zqj (.sl l.1.length (mat l.1)) (.sl l.2.1.length (mat l.2.1)) (.int l.2.2) y (O.flatMap spF)
     rw [zaC] at e
     rw [<- e,List.flatMap_append]; simp [spF]
    have ol:(O++[l]).length=O.length+1:=by simp
    have i1':O.length+1<=i:=by
     rw [ol,List.length_take] at i1; omega
    rw [List.length_take] at i3
    simp only [spF] at cG
    rw [ol]
    generalize hC:(O++[l]).flatMap spF=C at *
    have cg:C[O.length*3+2]?=some (.val (.int .i64 l.2.2)):=by rw [<- List.getElem?_drop,cd]; rfl
    have nC:¬ C=[]:=by intro e; rw [e] at cl; simp at cl
    have hd:0<O.length+1:=by omega
    generalize hv:zbv l (a,b,1)=v at *
    by_cases hz:v=0
    .rw [if_pos hz] at gs
     subst hz
     simp [go_sem,hii,dr,hd,cd]
     refine ⟨nm,by kernel_rfl,?_⟩
     refine ⟨by omega,by omega,⟨nC,by omega⟩,?_⟩
     refine CallD.of (cG) ?_
     simp [go_sem]
     refine ⟨by kernel_rfl,?_⟩
     simp [go_sem]
     simp [go_sem,cg]
     have tl:(S.take i).length<=i:=by rw [List.length_take]; omega
     have kk:0<=l.2.2/\l.2.2<=1000:=by omega
     refine ⟨by omega,by omega,nC,⟨by omega,by omega⟩,by omega,nC,by omega,⟨by omega,by omega⟩,i+1,by omega,by omega,zaa _ _ _ (by simp),?_⟩
     rw [gs,cs]
     refine ⟨⟨by simp,?_⟩,by omega⟩
     rw [List.flatMap_append]
     simp [spF]
    .rw [if_neg hz] at gs
     simp [go_sem,hii,dr,hd,cd]
     refine ⟨nm,by kernel_rfl,?_⟩
     refine ⟨by omega,by omega,⟨nC,by omega⟩,?_⟩
     refine CallD.of (cG) ?_
     simp [go_sem]
     simp [go_sem,hz]
     refine ⟨by kernel_rfl,?_⟩
     simp [go_sem]
     refine ⟨⟨by rw [cl],by omega,by omega⟩,⟨by omega,by omega⟩,i+1,by omega,by omega,zaa _ _ _ (by simp),?_⟩
     rw [gs]
     refine ⟨⟨by simp,?_⟩,by omega⟩
     rw [List.flatMap_append,hC]
     simp [spF]
  .have e:i=S.length:=by omega
   subst e
   have hii:¬ (S.length:Int)<L.length:=by omega
   rw [List.take_length]
   simp [go_sem,hii]
end Go.Proofs.YthhdollpkieknaaGreat


namespace Go.Proofs.YthhdollpkieknaaGreat
open Go.RowKit Go.Shelf Go.Lib Go.Abs
theorem zhz (n:Nat) (h0:0<n) (hn:n<=1048576) (i:TypeInfo) (z:Value) (hi:Tryz.prog.info? 25=some i) (hz:i.zero=some z) (hs:0<i.size) (hb:i.bytes=24) (w:World) :
  Calls Tryz.prog 326 #[.slice none 0 0,.int .i64 n] w fun e w' =>
   e=.returned (.slice (some ⟨w.heap.size,0,none⟩) 0 (grownCap w n 0 25)) /\
   w'=w.drew.alloc (.cells (([]:List Value).toArray++Builtin.zeroCells z.cells n++Builtin.zeroCells z.cells (grownCap w n 0 25-n)) 25):=by
 have h1:¬ ((n:Int)<0):=by omega
 have h2:wrap64 (n:Int)=n:=by unfold wrap64; omega
 have h4:(n:Int) > 0:=by omega
 have hrz:∀ ty,(Builtin.append_ #[24,3] ty #[.slice none 0 0,.int .i64 (n:Int)]).run Tryz.prog w =
   .ok (.slice (some ⟨w.heap.size,0,none⟩) n (grownCap w n 0 25)) (w.drew.alloc (.cells (([]:List Value).toArray++Builtin.zeroCells z.cells n++Builtin.zeroCells z.cells (grownCap w n 0 25-n)) 25)):=fun ty=>by
  have h:=Lib.run_append_grow_zeros w 24 3 ty 25 i z .i64 .i64 Tryz.underlying24 Tryz.underlying3 hi hz none 0 0 [] (run_firstCells_none w.drew i.size 0 0 0) n h0 hs (by omega) (by omega)
   (by rw [hb]; omega) (by
    rw [hb]
    have:=growslice_fits (need:=0+n) (old:=0) (bytes:=24) (by omega) (by omega)
    exact this)
  simp only [Nat.zero_add] at h
  exact h
 have hGn:n<=grownCap w n 0 25:=grownCap_ge w _ _ _
 obtain ⟨G,hG⟩:∃ G,G=grownCap w n 0 25:=⟨_,rfl⟩
 rw [<- hG] at hrz hGn |-
 have hG63:G<=9223372036854775807:=by
  have:=grownCap_le_maxLen w n 0 25 (by unfold maxLen; omega)
  rw [<- hG] at this
  unfold maxLen at this
  omega
 clear hG
 go_enter Tryz.func326,Tryz.ntmps326
 go_wp2_with (at_builtin; refine Lib.wpList_append_run _ rfl _ _ _ _ rfl _ _ rfl rfl _ _ (hrz _) ?_)
 all_goals (go_ret; exact ⟨rfl,rfl⟩)
theorem zpD (n:Nat) (h0:0<n) (hn:n<=1048576):Con Tryz.prog 326 [.val (.slice none 0 0),.int n] (.own 25 0 []):=by
 refine ⟨⟨_,Tryz.func326,by decide,rfl⟩,fun w vs hl ha=>?_⟩
 have k:=ha (fun _=>undef) (fun _=>[])
 generalize hoz:([]:List Nat)=oz at k
 obtain ⟨i,z,hi,hz,hs,hb,hzs,_,hce⟩:=zaB Tryz.info25
 cases k with
 | cons c v o cs vs os hc ht =>
  cases ht with
  | cons c2 v2 o2 cs2 vs2 os2 hc2 ht2 =>
   have e2:vs2=[]:=by simpa using hl
   subst e2
   cases hc2 with
   | cell _ _ _ hc2 =>
    cases hc2 with
    | val _ _ =>
     cases hc with
     | cell _ _ _ hc =>
      cases hc with
      | val _ _ =>
       refine (zhz n h0 hn i z hi hz (by omega) hb w).mono ?_
       rintro e w' ⟨rfl,rfl⟩
       have hge:n<=grownCap w n 0 25:=grownCap_ge w _ _ _
       have hrep:RepC Tryz.prog (w.drew.alloc (.cells (([]:List Value).toArray++Builtin.zeroCells z.cells n++Builtin.zeroCells z.cells (grownCap w n 0 25-n)) 25)) (fun _=>False) (.own 25 0 []) (.slice (some ⟨w.heap.size,0,none⟩) 0 (grownCap w n 0 25)) [w.heap.size] :=
        .own _ _ 0 _ _ _ _ (zcF w _) (by omega) (by rw [hce]; simp [size_zeroCells,hzs,<- Nat.add_mul]; omega) (.nil _)
       refine ⟨_,[w.heap.size],rfl,⟨rfl,rfl,rfl,by simp,fun b hb=>zcJ w _ b hb,by first | exact Nat.le_refl _ | exact za2 _⟩,fun tm oss=>.cell _ _ _ (hrep.mono (fun _ h=>h.elim) (fun _ _=>rfl)),by simp,by simp⟩
inductive NW:AV->AV->Prop
 | same (c:AV):NW c c
 | nil:NW (.val (.slice none 0 0)) (.sl 0 [])
inductive NWL:List AV->List AV->Prop
 | nil:NWL [] []
 | cons {c c':AV} {cs cs':List AV} (h:NW c c') (t:NWL cs cs'):NWL (c::cs) (c'::cs')
theorem NW.rep {P:Program} {w:World} {F:Nat->Prop} {c c':AV} {v:Value} {os:List Nat} (h:NW c c') (hr:RepC P w F c v os):RepC P w F c' v os:=by
 cases h with
 | same=>exact hr
 | nil=>cases hr with
  | val _ _=>exact .sl0 none 0
theorem NWL.rep {P:Program} {w:World} {F:Nat->Prop} {cs cs':List AV} (h:NWL cs cs'):∀ {vs:List Value} {os:List Nat},RepL P w F cs vs os->RepL P w F cs' vs os:=by
 induction h with
 | nil=>intro vs os hr; exact hr
 | cons h _ ih =>
  intro vs os hr
  cases hr with
  | cons _ v os _ vs os' h1 h2=>exact .cons _ _ _ _ _ _ (h.rep h1) (ih h2)
theorem GCon.nwArg {P:Program} {f:FuncId} {e:TypeId} {n:Nat} {cs cs':List AV} {r:AV} {outs:List AV} (hw:NWL cs cs') (h:GCon P f [.own e n cs'] r outs):GCon P f [.own e n cs] r outs:=by
 refine ⟨h.1,fun w vs os F0 hl hnd ho hF hr=>h.2 w vs os F0 hl hnd ho hF fun tm oss=>?_⟩
 have k:=hr tm oss
 cases k with
 | cons c v o cs1 vs os2 hc ht =>
  refine .cons _ _ _ _ _ _ ?_ ht
  cases hc with
  | cell _ _ _ hc =>
   refine .cell _ _ _ ?_
   cases hc with
   | own0=>cases hw; exact .own0 _
   | own b _ _ cap c _ os3 hb hn2 hc2 hl2=>exact .own b _ _ cap c _ os3 hb hn2 hc2 (hw.rep hl2)
theorem GCon.own0 {P:Program} {f:FuncId} {args:List AV} {outs:List AV} (e:TypeId) (h:GCon P f args (.val (.slice none 0 0)) outs):GCon P f args (.own e 0 []) outs:=by
 refine ⟨h.1,fun w vs os F0 hl hn ho hF hr=>(h.2 w vs os F0 hl hn ho hF hr).mono ?_⟩
 rintro x w' ⟨v,orr,oo,F',h1,h2,h3,h4,h5,h6⟩
 refine ⟨v,orr,oo,F',h1,h2,h3,h4,fun tm oss=>?_,h6⟩
 have k:=h5 tm oss
 cases k with
 | cell _ _ _ hc=>cases hc with
  | val _ _=>exact .cell _ _ _ (.own0 e)
theorem NWL.app {a b:List AV} (h:NWL a b):∀ p:List AV,NWL (p++a) (p++b)
 | []=>h
 | c::p=>.cons (.same c) (NWL.app h p)
theorem GCon.nwRes {P:Program} {f:FuncId} {args:List AV} {e:TypeId} {n:Nat} {cs cs':List AV} {outs:List AV} (hw:NWL cs cs') (h:GCon P f args (.own e n cs) outs):GCon P f args (.own e n cs') outs:=by
 refine ⟨h.1,fun w vs os F0 hl hn ho hF hr=>(h.2 w vs os F0 hl hn ho hF hr).mono ?_⟩
 rintro x w' ⟨v,orr,oo,F',h1,h2,h3,h4,h5,h6⟩
 refine ⟨v,orr,oo,F',h1,h2,h3,h4,fun tm oss=>?_,h6⟩
 have k:=h5 tm oss
 cases k with
 | cell _ _ _ hc =>
  refine .cell _ _ _ ?_
  cases hc with
  | own0=>cases hw; exact .own0 _
  | own b _ _ cap c _ os3 hb hn2 hc2 hl2=>exact .own b _ _ cap c _ os3 hb hn2 hc2 (hw.rep hl2)
def szC (x y:List (List Int)) (i:Nat):Nat:=if i=0 then 0 else if i=1 then x.length else x.length+y.length
def flC (x y:List (List Int)) (i:Nat):List (List Int):=if i=0 then [] else if i=1 then x else x++y
theorem zhc (x y:List (List Int)) (h0:0<x.length+y.length) (hn:x.length+y.length<=1000) :
  GCon Tryz.prog 285 [.own 24 2 [.sl x.length (mat x),.sl y.length (mat y)]] (.own 25 (x++y).length (mat (x++y))) [.any]:=by
 have cG:=Con.gfz (zpD (x.length+y.length) h0 (by omega)) (by simp [zaD,zbg]) rfl
 refine zai Tryz.mixed ⟨9,[],[1000000+326],[]⟩ [] Tryz.func285 ?_
 rw [Tryz.ntmps285]
 simp [go_sem]
 refine zac ([3,5]++List.range' 11 12) (fun i:Nat=>[(3,.int (szC x y i)),(11,.int i)]) (fun i=>i<=2) (fun i=>2-i) 0 (by simp) (by simp [go_sem,szC]) (by simp [go_sem]) ?_
 intro i hi
 have hc:i=0\/i=1\/i=2:=by omega
 rcases hc with rfl | rfl | rfl
 .have hs:¬ ((x.length:Int)<0):=by omega
  simp [go_sem,szC,hs]
  exact ⟨by omega,1,by omega,by omega,zaa _ _ _ (by simp),by simp,by omega⟩
 .have hs:¬ ((x.length:Int)+y.length<0):=by omega
  simp [go_sem,szC,hs]
  exact ⟨⟨by omega,by omega⟩,2,by omega,by omega,zaa _ _ _ (by simp),by simp,by omega⟩
 .have e2:(x.length:Int)+y.length=((x.length+y.length:Nat):Int):=by omega
  simp [go_sem,szC]
  rw [e2]
  refine ⟨_,_,cG,?_⟩
  simp [go_sem]
  refine zac ([6,8]++List.range' 27 8) (fun i:Nat=>[(6,.own 25 (flC x y i).length (mat (flC x y i))),(27,.int i)]) (fun i=>i<=2) (fun i=>2-i) 0 (by simp) (by simp [go_sem,flC,mat,frzL]) (by simp [go_sem]) ?_
  intro i hi
  have hc:i=0\/i=1\/i=2:=by omega
  rcases hc with rfl | rfl | rfl
  .simp [go_sem,flC,mat]
   exact ⟨⟨by omega,by omega⟩,1,by omega,by omega,zaa _ _ _ (by simp),by simp,by omega⟩
  .simp [go_sem,flC,mat]
   exact ⟨⟨by omega,by omega⟩,2,by omega,by omega,zaa _ _ _ (by simp),by simp,by omega⟩
  .simp [go_sem,flC]
theorem zgF (w:World) :
  Calls Tryz.prog 326 #[.slice none 0 0,.int .i64 0] w fun e w'=>e=.returned (.slice none 0 0)/\w'=w:=by
 have h2:wrap64 (0:Int)=0:=by unfold wrap64; omega
 go_enter Tryz.func326,Tryz.ntmps326
 go_wp2
 all_goals (go_ret; exact ⟨rfl,rfl⟩)
theorem zkt:GCon Tryz.prog 326 [.val (.slice none 0 0),.int 0] (.val (.slice none 0 0)) [.any,.any]:=by
 refine ⟨⟨_,Tryz.func326,by decide,rfl⟩,fun w vs os F0 hl hnd ho hF hr=>?_⟩
 have k:=hr (fun _=>undef) (fun _=>[])
 cases k with
 | cons c v o cs vs os1 hc ht =>
  cases ht with
  | cons c2 v2 o2 cs2 vs2 os2 hc2 ht2 =>
   have e2:vs2=[]:=by simpa using hl
   subst e2
   cases hc2 with
   | cell _ _ _ hc2 =>
    cases hc2 with
    | val _ _ =>
     cases hc with
     | cell _ _ _ hc =>
      cases hc with
      | val _ _ =>
       refine (zgF w).mono ?_
       rintro e w' ⟨rfl,rfl⟩
       exact ⟨_,[],[],F0,rfl,Ext.refl _ _,fun _ h=>h,fun _ h=>.inl h,fun tm oss=>.cell _ _ _ (.val _ rfl),fun tm oss=>.cons _ _ [] _ _ [] (.any _) (.cons _ _ [] _ _ [] (.any _) (.nil _)),rfl,by simp,by simp⟩
theorem zho :
  GCon Tryz.prog 285 [.own 24 2 [.sl 0 [],.sl 0 []]] (.own 25 0 []) [.any]:=by
 have cG:=GCon.own0 25 zkt
 refine zai Tryz.mixed ⟨9,[],[1000000+326],[]⟩ [] Tryz.func285 ?_
 rw [Tryz.ntmps285]
 simp [go_sem]
 refine zac ([3,5]++List.range' 11 12) (fun i:Nat=>[(3,.int 0),(11,.int i)]) (fun i=>i<=2) (fun i=>2-i) 0 (by simp) (by simp [go_sem]) (by simp [go_sem]) ?_
 intro i hi
 have hc:i=0\/i=1\/i=2:=by omega
 rcases hc with rfl | rfl | rfl
 .simp [go_sem]
  exact ⟨1,by omega,by omega,zaa _ _ _ (by simp),by omega⟩
 .simp [go_sem]
  exact ⟨2,by omega,by omega,zaa _ _ _ (by simp),by omega⟩
 .simp [go_sem]
  refine ⟨_,_,cG,?_⟩
  simp [go_sem]
  refine zac ([6,8]++List.range' 27 8) (fun i:Nat=>[(6,.own 25 0 []),(27,.int i)]) (fun i=>i<=2) (fun i=>2-i) 0 (by simp) (by simp [go_sem]) (by simp [go_sem]) ?_
  intro i hi
  have hc:i=0\/i=1\/i=2:=by omega
  rcases hc with rfl | rfl | rfl
  .simp [go_sem]
   exact ⟨1,by omega,by omega,zaa _ _ _ (by simp),by omega⟩
  .simp [go_sem]
   exact ⟨2,by omega,by omega,zaa _ _ _ (by simp),by omega⟩
  .simp [go_sem]
theorem zel (x y:List (List Int)) (hn:x.length+y.length<=1000) :
  GCon Tryz.prog 285 [.own 24 2 [.sl x.length (mat x),.sl y.length (mat y)]] (.own 25 (x++y).length (mat (x++y))) [.any]:=by
 by_cases h0:0<x.length+y.length
 .exact zhc x y h0 hn
 .have e1:x=[]:=List.length_eq_zero_iff.1 (by omega)
  have e2:y=[]:=List.length_eq_zero_iff.1 (by omega)
  subst e1 e2
  exact zho
theorem zgW (y:List (List Int)) (hn:y.length<=1000) :
  GCon Tryz.prog 285 [.own 24 2 [.val (.slice none 0 0),.sl y.length (mat y)]] (.own 25 y.length (mat y)) [.any] :=
 GCon.nwArg (.cons .nil (.cons (.same _) .nil)) (zel [] y (by simpa using hn))
end Go.Proofs.YthhdollpkieknaaGreat


namespace Go.Proofs.YthhdollpkieknaaGreat
open Go.Abs
def canS (n:Nat) (s:Spl):Spl:=(s.1,[canF (n+1) (zaA s.2.1)],s.2.2)
def lfS (n:Nat) (j:Nat):AV:=.own 198 1 [.val (.slice none 0 0),if j=0 then .val (.slice none 0 0) else .sl 1 (mat [canF (n+1) (zaA [])]),.int 0]
theorem zeN {n:Nat} {t:List Int} (h1:n+1<=100) (h2:Lv t) (h3:t.length<=n+1) (hb:brs t=[]) :
  GCon Tryz.prog 237 [.sl t.length (avs t)] (.own 198 (spl (n+1) t).length ((spl (n+1) t).flatMap spF)) [.any]:=by
 have cB:=zbZ t (by omega) h2
 have cT:=zbb (n+1) t h1 h2 h3
 have cR:=zdQ [] (by simp) (by simp)
 have cK:=zbb (n+1) (zaA []) h1 zhS (by simp [zaA])
 rw [ziR,hb]
 rw [hb] at cB
 refine GCon.nwRes (n:=2) (cs:=[.val (.slice none 0 0),.sl 1 (mat [canF (n+1) (zaA [])]),.int 0,.sl 1 (mat [canF (n+1) t]),.val (.slice none 0 0),.int 0]) (.cons .nil (.cons (.same _) (.cons (.same _) (.cons (.same _) (.cons .nil (.cons (.same _) .nil)))))) ?_
 refine zai Tryz.mixed ⟨6,[16,23,42,48,69,76],[],[]⟩ [] Tryz.func237 ?_
 rw [Tryz.ntmps237]
 simp [go_sem]
 refine CallVC.of (cB) ?_
 simp [go_sem]
 refine zac (3::5::6::8::10::List.range' 18 38) (fun i:Nat=>[(3,lfS n 0),(18,.int 0)]) (fun _=>True) (fun _=>0) 0 trivial (by simp [go_sem,lfS]) (by simp [go_sem,lfS]) ?_
 intro _ _
 simp [go_sem,lfS]
 refine zc7 (3::11::12::56::List.range' 58 15) (11::12::List.range' 59 14) (fun j:Nat=>[(3,lfS n j),(56,.bor 3 []),(58,.int j)]) (fun j=>j<=1) (fun j=>1-j) 0 (by intro x i h1 h2; have:i=3\/i=56\/i=58:=(by simp at h1 h2; omega); rcases this with rfl | rfl | rfl <;> rfl) (by intro i h; simp at h |-; omega) (by simp) (by simp [go_sem,lfS]) (by simp [go_sem,kl,lfS]) ?_
 intro j hj
 have hj01:j=0\/j=1:=by omega
 rcases hj01 with rfl | rfl
 .simp [go_sem,lfS]
  refine CallVC.of (cR) ?_
  simp [go_sem]
  refine CallVC.of (cK) ?_
  simp [go_sem]
  have cl:(canF (n+1) (zaA [])).length=1:=zaN (n+1) (zaA []) zhS (by simp [zaA])
  refine ⟨1,by omega,by omega,zaa _ _ _ (by simp),?_⟩
  have cl2:(canF (n+1) [0]).length=1:=cl
  simp [lfS,mat,cl2,zaA]
 .simp [go_sem,lfS]
  refine CallVC.of (cT) ?_
  simp [go_sem]
  simp [mat,zaN (n+1) t h2 h3]
end Go.Proofs.YthhdollpkieknaaGreat


namespace Go.Proofs.YthhdollpkieknaaGreat
open Go.Abs
theorem zi8:∀ X:List Spl,frzL (X.flatMap spF)=X.flatMap spF
 | []=>rfl
 | s::X=>by
  have:=zi8 X
  simp only [List.flatMap_cons,spF,List.cons_append,List.nil_append]
  simp [frzL,frz,this]
theorem zdU {L:List Spl} {i:Nat} (h:i<L.length):(L.flatMap spF).drop (i*3)=spF (L[i]?.getD ([],[],0))++(L.drop (i+1)).flatMap spF:=by
 have e1:((L.take i).flatMap spF).length=i*3:=by rw [zaC,List.length_take,Nat.min_eq_left (by omega)]
 have e2:L.drop i=L[i]?.getD ([],[],0)::L.drop (i+1):=by rw [List.drop_eq_getElem_cons h]; simp [h]
 have e3:L.flatMap spF=(L.take i).flatMap spF++(L.drop i).flatMap spF:=by rw [<- List.flatMap_append,List.take_append_drop]
 rw [e3,List.drop_append_of_le_length (by omega),e2,List.flatMap_cons,List.drop_eq_nil_of_le (by omega),List.nil_append]
def xS (n:Nat) (bs:List (List Int)) (i:Nat):AV:=if i=0 then .own 198 1 [.val (.slice none 0 0),.val (.slice none 0 0),.int 0] else .own 198 (fldS n (bs.take i)).length ((fldS n (bs.take i)).flatMap spF)
def mxT (n:Nat) (L:List Spl) (j:Nat):List AV:=((L.take j).map (canS n)).flatMap spF++(L.drop j).flatMap spF
theorem znB (n:Nat) (L:List Spl):mxT n L 0=L.flatMap spF:=by simp [mxT]
theorem zo5 (n:Nat) (L:List Spl):mxT n L L.length=(L.map (canS n)).flatMap spF:=by simp [mxT]
theorem zpG (n:Nat) (L:List Spl) {j:Nat} (h:j<=L.length):(mxT n L j).length=L.length*3:=by
 unfold mxT
 rw [List.length_append,zaC,zaC,List.length_map,List.length_take,List.length_drop,Nat.min_eq_left h]; omega
theorem zmO (n:Nat) {L:List Spl} {j:Nat} (h:j<L.length):(mxT n L j).drop (j*3)=spF (L[j]?.getD ([],[],0))++(L.drop (j+1)).flatMap spF:=by
 have e1:(((L.take j).map (canS n)).flatMap spF).length=j*3:=by rw [zaC,List.length_map,List.length_take,Nat.min_eq_left (by omega)]
 have e2:L.drop j=L[j]?.getD ([],[],0)::L.drop (j+1):=by rw [List.drop_eq_getElem_cons h]; simp [h]
 unfold mxT
 rw [List.drop_append_of_le_length (by omega),e2,List.flatMap_cons,List.drop_eq_nil_of_le (by omega),List.nil_append]
theorem set1 (R:List AV) (x1 x2 y:AV):∀ P:List AV,(P++x1::x2::R).set (P.length+1) y=P++x1::y::R
 | []=>rfl
 | p::P=>by
  have:=set1 R x1 x2 y P
  simp only [List.cons_append,List.length_cons,List.set_cons_succ]
  rw [this]
theorem zpp (n:Nat) {L:List Spl} {j:Nat} (h:j<L.length):(mxT n L j).set (j*3+1) (.sl 1 (mat [canF (n+1) (zaA (L[j]?.getD ([],[],0)).2.1)]))=mxT n L (j+1):=by
 have e1:(((L.take j).map (canS n)).flatMap spF).length=j*3:=by rw [zaC,List.length_map,List.length_take,Nat.min_eq_left (by omega)]
 have e2:L.drop j=L[j]?.getD ([],[],0)::L.drop (j+1):=by rw [List.drop_eq_getElem_cons h]; simp [h]
 have e3:L.take (j+1)=L.take j++[L[j]?.getD ([],[],0)]:=by
  rw [List.take_succ_eq_append_getElem h,List.getElem?_eq_getElem h]; rfl
 unfold mxT
 rw [e2,e3,List.flatMap_cons,List.map_append,List.flatMap_append,<- e1]
 refine (set1 _ _ _ _ _).trans ?_
 simp [canS,spF]
def zS (M:List Spl) (j:Nat):AV:=if j=0 then .own 198 0 [] else .own 198 M.length (M.flatMap spF)
theorem zhB:∀ (n:Nat) (t:List Int),zhP n t=true ->
  GCon Tryz.prog 237 [.sl t.length (avs t)] (.own 198 (spl n t).length ((spl n t).flatMap spF)) [.any]:=by
 intro n
 induction n with
 | zero=>intro t h; simp [zhP] at h
 | succ n ih =>
  intro t h
  obtain ⟨h1,h2,h3,h4,h5,h6⟩:=zjb h
  have cB:=zbZ t (by omega) h2
  by_cases hb:brs t=[]
  .exact zeN h1 h2 h3 hb
  rw [ziR]
  refine GCon.nwRes (cs:=((fldS n (brs t)).map (canS n)).flatMap spF++[.sl 1 (mat [canF (n+1) t]),.val (.slice none 0 0),.int 0]) (by rw [List.flatMap_append]; exact NWL.app (.cons (.same _) (.cons .nil (.cons (.same _) .nil))) _) ?_
  have cT:=zbb (n+1) t h1 h2 h3
  refine zai Tryz.mixed ⟨6,[16,23,42,48,69,76],[1000000+237,1000000+285],[]⟩ [] Tryz.func237 ?_
  rw [Tryz.ntmps237]
  simp [go_sem]
  refine CallVC.of (cB) ?_
  simp [go_sem]
  have bl:(brs t).length<t.length:=zjU h2
  generalize brs t=bs at *
  refine zac (3::5::6::8::10::List.range' 18 38) (fun i:Nat=>[(3,xS n bs i),(18,.int i)]) (fun i=>i<=bs.length) (fun i=>bs.length-i) 0 (by simp) (by simp [go_sem,xS]) (by simp [go_sem,xS]) ?_
  intro i hi
  by_cases hib:i<bs.length
  .have hii:(i:Int)<bs.length:=by omega
   have hm:bs[i]?.getD []∈bs:=memD [] hib
   obtain ⟨b1,b2,b3⟩:=h4 _ hm
   have cI:=ih _ b1
   have md:=zat hib
   have sn:fldS n (bs.take (i+1))=zbk (fldS n (bs.take i)) (spl n (bs[i]?.getD [])):=by
    rw [List.take_succ_eq_append_getElem hib,zl0,List.getElem?_eq_getElem hib]; rfl
   obtain ⟨l1,l2⟩:=h5 i hi
   obtain ⟨l3,l4⟩:=h5 (i+1) (by omega)
   rw [sn] at l3 l4
   generalize bs[i]?.getD []=b at *
   generalize spl n b=M at *
   by_cases hi0:i=0
   .have hx:xS n bs i=.own 198 1 [.val (.slice none 0 0),.val (.slice none 0 0),.int 0]:=by unfold xS; rw [if_pos hi0]
    rw [hx]
    have L0:fldS n (bs.take i)=[([],[],0)]:=by rw [hi0]; simp [fldS]
    have M0:zbk [([],[],0)] M=M:=by
     have e:zbk [([],[],0)] M=M.map fun c=>(c.1,c.2.1,(0:Int)):=by simp [zbk]
     rw [e]
     refine (List.map_congr_left (g:=id) fun c hc=>?_).trans (List.map_id _)
     obtain ⟨_,_,c3⟩:=zcR (b3 c hc)
     obtain ⟨a,b,c⟩:=c
     simp only at c3
     subst c3; rfl
    rw [L0,M0] at sn
    have hx1:xS n bs (i+1)=.own 198 M.length (M.flatMap spF):=by unfold xS; rw [if_neg (by omega),sn]
    simp [go_sem,hii,md,frzL,frz]
    refine ⟨hb,?_⟩
    refine zac (6::8::10::List.range' 25 29) (fun j:Nat=>[(6,zS M j),(25,.int j)]) (fun j=>j<=1) (fun j=>1-j) 0 (by simp) (by simp [go_sem,zS]) (by simp [go_sem,zS]) ?_
    intro j hj
    have hj01:j=0\/j=1:=by omega
    rcases hj01 with rfl | rfl
    .simp [go_sem,zS]
     refine ⟨_,_,cI,?_⟩
     simp [go_sem]
     refine zac (6::10::List.range' 32 21) (fun k:Nat=>[(6,.own 198 k ((M.take k).flatMap spF)),(32,.int k)]) (fun k=>k<=M.length) (fun k=>M.length-k) 0 (by simp) (by simp [go_sem]) (by simp [go_sem]) ?_
     intro k hk
     by_cases hkm:k<M.length
     .have hki:(k:Int)<M.length:=by omega
      have dr2:=zdU hkm
      have nM:¬ M.flatMap spF=[]:=by intro e; have:=zaC M; rw [e] at this; simp at this; omega
      obtain ⟨c1,c2,c3⟩:=zcR (b3 _ (memD ([],[],0) hkm))
      have tk:M.take (k+1)=M.take k++[M[k]?.getD ([],[],0)]:=by
       rw [List.take_succ_eq_append_getElem hkm,List.getElem?_eq_getElem hkm]; rfl
      have cA:=zgW (M[k]?.getD ([],[],0)).1 (by omega)
      have cC:=zgW (M[k]?.getD ([],[],0)).2.1 (by omega)
      generalize M[k]?.getD ([],[],0)=c at *
      obtain ⟨ca,cb,cc⟩:=c
      simp only [spF] at dr2
      simp only at c1 c2 c3 tk cA cC
      subst c3
      have cl:=zaC (M.take k)
      rw [List.length_take,Nat.min_eq_left (by omega)] at cl
      have lM:=zaC M
      generalize hC:(M.take k).flatMap spF=C at *
      generalize hMC:M.flatMap spF=MC at *
      simp [go_sem,hki,dr2]
      refine ⟨⟨nM,by omega⟩,by kernel_rfl,?_⟩
      refine ⟨_,_,cA,?_⟩
      simp [go_sem]
      refine ⟨_,_,cC,?_⟩
      simp [go_sem]
      refine ⟨⟨by rw [cl],by omega,by omega⟩,?_⟩
      refine ⟨by kernel_rfl,?_⟩
      simp [go_sem]
      refine ⟨⟨by omega,by omega⟩,k+1,by omega,by omega,zaa _ _ _ (by simp),?_⟩
      refine ⟨⟨by omega,?_⟩,by omega⟩
      rw [tk,List.flatMap_append,hC]
      simp [spF]
     .have e:k=M.length:=by omega
      subst e
      have hki:¬ (M.length:Int)<M.length:=by omega
      rw [List.take_length]
      simp [go_sem,hki]
      exact ⟨1,by omega,by omega,(Off.reset (by intro x hx; simp at hx |-; omega) (by simp) (by simp [go_sem,zaa])),by simp [zS],by simp [zS,go_sem]⟩
    .simp [go_sem,zS]
     exact ⟨⟨by omega,by omega⟩,i+1,by omega,by omega,(Off.reset (by intro x hx; simp at hx |-; omega) (by simp) (by simp [go_sem,zaa])),⟨by rw [hx1],by omega⟩,by simp [hx1,go_sem]⟩
   .have hx:xS n bs i=.own 198 (fldS n (bs.take i)).length ((fldS n (bs.take i)).flatMap spF):=by unfold xS; rw [if_neg hi0]
    rw [hx]
    generalize fldS n (bs.take i)=L at *
    simp [go_sem,hii,md,zi8]
    refine ⟨hb,?_⟩
    refine zac (6::8::10::List.range' 25 29) (fun j:Nat=>[(6,.own 198 (zbk (L.take j) M).length ((zbk (L.take j) M).flatMap spF)),(25,.int j)]) (fun j=>j<=L.length) (fun j=>L.length-j) 0 (by simp) (by simp [go_sem,zbk]) (by simp [go_sem]) ?_
    intro j hj
    by_cases hjl:j<L.length
    .have hji:(j:Int)<L.length:=by omega
     have dr:=zdU hjl
     have ms:zbk (L.take (j+1)) M=zbk (L.take j) M++M.map fun c=>((L[j]?.getD ([],[],0)).1++c.1,(L[j]?.getD ([],[],0)).2.1++c.2.1,(0:Int)):=by
      rw [List.take_succ_eq_append_getElem hjl,zjp,List.getElem?_eq_getElem hjl]; rfl
     have nL:¬ L.flatMap spF=[]:=by intro e; have:=zaC L; rw [e] at this; simp at this; omega
     have lL:=zaC L
     obtain ⟨s1,s2,s3⟩:=zcR (l2 _ (memD ([],[],0) hjl))
     have ml:(zbk (L.take j) M).length+M.length<=10000:=by
      rw [zkz,List.length_take,Nat.min_eq_left (by omega)]
      have:=Nat.mul_le_mul (show j<=99 by omega) b2
      omega
     generalize L[j]?.getD ([],[],0)=s at *
     obtain ⟨sa,sb,sc⟩:=s
     simp only [spF] at dr
     simp only at s1 s2 s3 ms
     subst s3
     generalize zbk (L.take j) M=A at *
     generalize L.flatMap spF=LC at *
     simp [go_sem,hji,dr]
     refine ⟨nL,?_⟩
     refine ⟨_,_,cI,?_⟩
     simp [go_sem]
     refine zac (6::10::List.range' 32 21) (fun k:Nat=>[(6,.own 198 (A.length+k) ((A++(M.take k).map fun c=>(sa++c.1,sb++c.2.1,(0:Int))).flatMap spF)),(32,.int k)]) (fun k=>k<=M.length) (fun k=>M.length-k) 0 (by simp) (by simp [go_sem]) (by simp [go_sem]) ?_
     intro k hk
     by_cases hkm:k<M.length
     .have hki:(k:Int)<M.length:=by omega
      have dr2:=zdU hkm
      have nM:¬ M.flatMap spF=[]:=by intro e; have:=zaC M; rw [e] at this; simp at this; omega
      obtain ⟨c1,c2,c3⟩:=zcR (b3 _ (memD ([],[],0) hkm))
      have tk:(M.take (k+1)).map (fun c=>(sa++c.1,sb++c.2.1,(0:Int)))=(M.take k).map (fun c=>(sa++c.1,sb++c.2.1,(0:Int)))++[(sa++(M[k]?.getD ([],[],0)).1,sb++(M[k]?.getD ([],[],0)).2.1,0)]:=by
       rw [List.take_succ_eq_append_getElem hkm,List.map_append,List.getElem?_eq_getElem hkm]; rfl
      have cA:=zel sa (M[k]?.getD ([],[],0)).1 (by omega)
      have cC:=zel sb (M[k]?.getD ([],[],0)).2.1 (by omega)
      generalize M[k]?.getD ([],[],0)=c at *
      obtain ⟨ca,cb,cc⟩:=c
      simp only [spF] at dr2
      simp only at c1 c2 c3 tk cA cC
      subst c3
      have al:(A++(M.take k).map fun c=>(sa++c.1,sb++c.2.1,(0:Int))).length=A.length+k:=by rw [List.length_append,List.length_map,List.length_take]; omega
      have cl:=zaC (A++(M.take k).map fun c=>(sa++c.1,sb++c.2.1,(0:Int)))
      generalize hC:(A++(M.take k).map fun c=>(sa++c.1,sb++c.2.1,(0:Int))).flatMap spF=C at *
      have lM:=zaC M
      generalize hMC:M.flatMap spF=MC at *
      simp [go_sem,hki,dr2]
      refine ⟨⟨nM,by omega⟩,by kernel_rfl,?_⟩
      refine ⟨_,_,cA,?_⟩
      simp [go_sem]
      refine ⟨_,_,cC,?_⟩
      simp [go_sem]
      refine ⟨⟨by rw [cl,al],by omega,by omega⟩,?_⟩
      refine ⟨by kernel_rfl,?_⟩
      simp [go_sem]
      refine ⟨⟨by omega,by omega⟩,k+1,by omega,by omega,zaa _ _ _ (by simp),?_⟩
      refine ⟨⟨by omega,?_⟩,by omega⟩
      rw [<- List.map_take,tk,List.flatMap_append,<- List.append_assoc,<- List.flatMap_append,hC]
      simp [spF]
     .have e:k=M.length:=by omega
      subst e
      have hki:¬ (M.length:Int)<M.length:=by omega
      rw [List.take_length]
      simp [go_sem,hki]
      refine ⟨⟨by omega,by omega⟩,j+1,by omega,by omega,(Off.reset (by intro x hx; simp at hx |-; omega) (by simp) (by simp [go_sem,zaa])),?_⟩
      rw [ms]
      exact ⟨⟨by simp,by rw [List.flatMap_append]⟩,by omega⟩
    .have e:j=L.length:=by omega
     subst e
     have hji:¬ (L.length:Int)<L.length:=by omega
     rw [List.take_length]
     have hx1:xS n bs (i+1)=.own 198 (zbk L M).length ((zbk L M).flatMap spF):=by unfold xS; rw [if_neg (by omega),sn]
     simp [go_sem,hji]
     exact ⟨⟨by omega,by omega⟩,i+1,by omega,by omega,(Off.reset (by intro x hx; simp at hx |-; omega) (by simp) (by simp [go_sem,zaa])),⟨by rw [hx1],by omega⟩,by simp [hx1,go_sem]⟩
  .have e:i=bs.length:=by omega
   subst e
   have hl0:¬ bs.length=0:=by intro e; exact hb (List.length_eq_zero_iff.1 e)
   have hx:xS n bs bs.length=.own 198 (fldS n bs).length ((fldS n bs).flatMap spF):=by unfold xS; rw [if_neg hl0,List.take_length]
   have hii:¬ (bs.length:Int)<bs.length:=by omega
   obtain ⟨l1,l2⟩:=h5 bs.length (Nat.le_refl _)
   rw [List.take_length] at l1 l2
   rw [hx]
   generalize fldS n bs=L at *
   simp [go_sem,hii]
   refine zc7 (3::11::12::56::List.range' 58 15) (11::12::List.range' 59 14) (fun j:Nat=>[(3,.own 198 L.length (mxT n L j)),(56,.bor 3 []),(58,.int j)]) (fun j=>j<=L.length) (fun j=>L.length-j) 0 (by intro x i h1 h2; have:i=3\/i=56\/i=58:=(by simp at h1 h2; omega); rcases this with rfl | rfl | rfl <;> rfl) (by intro i h; simp at h |-; omega) (by simp) (by simp [go_sem,znB]) (by simp [go_sem,kl]) ?_
   intro j hj
   by_cases hjl:j<L.length
   .have hji:(j:Int)<L.length:=by omega
    obtain ⟨s1,s2,s3⟩:=zcR (l2 _ (memD ([],[],0) hjl))
    obtain ⟨r1,r2,r3⟩:=zmx (h6 _ (memD ([],[],0) hjl))
    have dr:=zmO n hjl
    have st:=zpp n hjl
    have ml:=zpG n L hj
    have nm:¬ mxT n L j=[]:=by intro e; rw [e] at ml; simp at ml; omega
    have cR:=zdQ (L[j]?.getD ([],[],0)).2.1 (by omega) (fun b hb=>⟨by have:=(r3 b hb).1; omega,fun x hx=>by have:=(r3 b hb).2 x hx; omega⟩)
    have cK:=zbb (n+1) _ h1 r1 r2
    generalize L[j]?.getD ([],[],0)=s at *
    obtain ⟨sa,sb,sc⟩:=s
    simp only [spF] at dr
    simp only at s1 s2 s3 cR cK st
    simp [go_sem,hji,dr]
    refine ⟨⟨nm,by omega⟩,?_⟩
    refine CallVC.of (cR) ?_
    simp [go_sem]
    refine CallVC.of (cK) ?_
    simp [go_sem]
    simp only at r1 r2
    have e:mat [canF (n+1) (zaA sb)]=[.sl (zaA sb).length (avs (canF (n+1) (zaA sb)))]:=by simp [mat,zaN (n+1) (zaA sb) r1 r2]
    rw [e] at st
    refine ⟨hjl,nm,by omega,⟨by omega,by omega⟩,j+1,by omega,by omega,zaa _ _ _ (by simp),?_⟩
    first
     | exact ⟨st,by omega⟩
     | (refine ⟨?_,by omega⟩; simpa using st)
     | simp [st]
   .have e:j=L.length:=by omega
    subst e
    have hji:¬ (L.length:Int)<L.length:=by omega
    rw [zo5]
    simp [go_sem,hji]
    refine CallVC.of (cT) ?_
    simp [go_sem]
    refine ⟨⟨?_,by omega,by omega⟩,by simp [mat,zaN (n+1) t h2 h3]⟩
    have:=zaC (L.map (canS n))
    simpa using this
end Go.Proofs.YthhdollpkieknaaGreat


namespace Go.Proofs.YthhdollpkieknaaGreat
open Go.Abs
mutual
inductive NX:AV->AV->Prop
 | same (c:AV):NX c c
 | nil:NX (.val (.slice none 0 0)) (.sl 0 [])
 | sl (n:Nat) {cs cs':List AV} (h:NXL cs cs'):NX (.sl n cs) (.sl n cs')
 | own (e:TypeId) (n:Nat) {cs cs':List AV} (h:NXL cs cs'):NX (.own e n cs) (.own e n cs')
inductive NXL:List AV->List AV->Prop
 | nil:NXL [] []
 | cons {c c':AV} {cs cs':List AV} (h:NX c c') (t:NXL cs cs'):NXL (c::cs) (c'::cs')
end
theorem NXL.same:∀ l:List AV,NXL l l
 | []=>.nil
 | c::l=>.cons (.same c) (NXL.same l)
theorem NXL.app {a b:List AV} (h:NXL a b):∀ {p q:List AV},NXL p q->NXL (p++a) (q++b)
 | _,_,.nil=>h
 | _,_,.cons k t=>.cons k (NXL.app h t)
theorem NXL.ne {a b:List AV} (h:NXL a b) (e:b=[]):a=[]:=by
 cases h with
 | nil=>rfl
 | cons=>simp at e
section
variable {P:Program} {w:World} {F:Nat->Prop}
mutual
theorem NX.rep {c c':AV} {v:Value} {os:List Nat} (h:NX c c') (hr:RepC P w F c v os):RepC P w F c' v os:=by
 cases h with
 | same=>exact hr
 | nil=>cases hr with
  | val _ _=>exact .sl0 none 0
 | sl n h=>cases hr with
  | sl0 base cap=>cases h; exact .sl0 base cap
  | sl b off n cap c e fr cs hF hb hl hn=>exact .sl b off n cap c e fr _ hF hb (NXL.rep h hl) hn
 | own e n h=>cases hr with
  | own0=>cases h; exact .own0 _
  | own b _ _ cap c _ os3 hb hn hc hl=>exact .own b _ _ cap c _ os3 hb hn hc (NXL.rep h hl)
theorem NXL.rep {cs cs':List AV} {vs:List Value} {os:List Nat} (h:NXL cs cs') (hr:RepL P w F cs vs os):RepL P w F cs' vs os:=by
 cases h with
 | nil=>exact hr
 | cons h t=>cases hr with
  | cons _ v os _ vs os' h1 h2=>exact .cons _ _ _ _ _ _ (NX.rep h h1) (NXL.rep t h2)
end
theorem NX.repT {tm:Nat->Value} {oss:Nat->List Nat} {c c':AV} {v:Value} {os:List Nat} (h:NX c c') (hr:RepT P w F tm oss c v os):RepT P w F tm oss c' v os:=by
 cases h with
 | same=>exact hr
 | nil=>cases hr with
  | cell _ _ _ hc=>exact .cell _ _ _ (NX.rep .nil hc)
 | sl n h=>cases hr with
  | cell _ _ _ hc=>exact .cell _ _ _ (NX.rep (.sl n h) hc)
 | own e n h=>cases hr with
  | cell _ _ _ hc=>exact .cell _ _ _ (NX.rep (.own e n h) hc)
theorem NXL.len {cs cs':List AV} (h:NXL cs cs'):cs'.length=cs.length:=by
 induction cs generalizing cs' with
 | nil=>cases h; rfl
 | cons c cs ih=>cases h with
  | cons h t=>rw [List.length_cons,List.length_cons,ih t]
theorem NXL.repT {tm:Nat->Value} {oss:Nat->List Nat} {cs cs':List AV} {vs:List Value} {os:List Nat} (h:NXL cs cs') (hr:RepTL P w F tm oss cs vs os):RepTL P w F tm oss cs' vs os:=by
 induction cs generalizing cs' vs os with
 | nil=>cases h; exact hr
 | cons c cs ih=>cases h with
  | cons h t=>cases hr with
   | cons _ v os _ vs os' h1 h2=>exact .cons _ _ _ _ _ _ (h.repT h1) (ih t h2)
end
theorem GCon.nx [DrawK] {P:Program} {f:FuncId} {args:List AV} {r r':AV} {outs:List AV} (hw:NX r r') (h:GCon P f args r outs):GCon P f args r' outs:=by
 refine ⟨h.1,fun w vs os F0 hl hn ho hF hr=>(h.2 w vs os F0 hl hn ho hF hr).mono ?_⟩
 rintro x w' ⟨v,orr,oo,F',h1,h2,h3,h4,h5,h6⟩
 exact ⟨v,orr,oo,F',h1,h2,h3,h4,fun tm oss=>hw.repT (h5 tm oss),h6⟩
theorem GCon.nxA [DrawK] {P:Program} {f:FuncId} {args:List AV} {cs cs':List AV} {outs:List AV} (hw:NXL cs cs') (h:GCon P f args (.agg cs) outs):GCon P f args (.agg cs') outs:=by
 refine ⟨h.1,fun w vs os F0 hl hn ho hF hr=>(h.2 w vs os F0 hl hn ho hF hr).mono ?_⟩
 rintro x w' ⟨v,orr,oo,F',h1,h2,h3,h4,h5,h6⟩
 refine ⟨v,orr,oo,F',h1,h2,h3,h4,fun tm oss=>?_,h6⟩
 have k:=h5 tm oss
 cases k with
 | cell _ _ _ hc=>cases hc
 | agg _ vs2 os2 hl2 hc=>exact .agg _ _ _ (by rw [hw.len]; exact hl2) (hw.repT hc)
theorem RCon.toG [DrawK] {P:Program} {f:FuncId} {args:List AV} {r:AV} {outs:List AV} (h:RCon P f args fun x o=>x=r/\o=outs):GCon P f args r outs:=by
 refine ⟨h.1,fun w vs os F0 hl hn ho hF hr=>(h.2 w vs os F0 hl hn ho hF hr).mono ?_⟩
 rintro x w' ⟨_,_,⟨rfl,rfl⟩,k⟩
 exact k
theorem GCon.nxL [DrawK] {P:Program} {f:FuncId} {args args':List AV} {r:AV} {outs:List AV} (hw:NXL args args') (h:GCon P f args' r outs):GCon P f args r outs :=
 ⟨h.1,fun w vs os F0 hl hn ho hF hr=>h.2 w vs os F0 (by rw [hw.len]; exact hl) hn ho hF fun tm oss=>hw.repT (hr tm oss)⟩
theorem GCon.frzR [DrawK] {P:Program} {f:FuncId} {args:List AV} {r r':AV} {outs:List AV} (h:GCon P f args r outs) (e:frz r=r'):GCon P f args r' outs:=by
 subst e
 refine ⟨h.1,fun w vs os F0 hl hn ho hF hr=>(h.2 w vs os F0 hl hn ho hF hr).mono ?_⟩
 rintro x w' ⟨v,orr,oo,F',h1,h2,h3,h4,h5,h6,h7,h8,h9⟩
 refine ⟨v,[],oo,fun b=>F' b\/b∈orr,h1,h2,fun b hb=>.inl (h3 b hb),fun b hb=>?_,fun tm oss=>(h5 tm oss).frz (fun b hb=>.inl hb) (fun b hb=>.inr hb),fun tm oss=>?_,h7,?_,fun b hb=>?_⟩
 .rcases hb with hb | hb
  .exact h4 b hb
  .have:=h9 b (.inl hb)
   exact .inr ⟨this.1,this.2.1⟩
 .have:=RepTL.kl (w':=w') (F':=fun b=>F' b\/b∈orr) (tm':=tm) (oss':=oss) [] (fun b hb=>.inl hb) (fun _ _ _ _ h=>h) (h6 tm oss) (fun _ _=>rfl)
  rwa [zcH] at this
 .exact (List.nodup_append.1 h8).2.1
 .have hb:b∈oo:=by simpa using hb
  obtain ⟨k1,k2,k3⟩:=h9 b (.inr hb)
  refine ⟨k1,k2,fun hf=>?_⟩
  rcases hf with hf | hf
  .exact k3 hf
  .exact (List.nodup_append.1 h8).2.2 b hf b hb rfl
end Go.Proofs.YthhdollpkieknaaGreat

