/- Part 5 of the texts behind the last one: what they say stands ahead of each. Conditions: none. -/
import Derived.Test.YtcglahfmnoghjaaGreatDoorMe4
/-! The reader's walks. Conditions: none. -/
namespace Go.Proofs.YtcglahfmnoghjaaGreatDoor
open Go Go.Eng Go.Proofs.Tryz
theorem or_byte {a c:Int} (h1:0≤a) (h2:a<72057594037927936) (h3:0≤c) (h4:c<256):bitop .or .u64 (shl .u64 a 8) (wr .u64 (bitop .xor .u8 c 0))=a*256+c:=by
 rw [xor_zero h3 h4]
 obtain ⟨a,rfl⟩:=Int.eq_ofNat_of_zero_le h1
 obtain ⟨c,rfl⟩:=Int.eq_ofNat_of_zero_le h3
 have e1:shl .u64 (a:Int) 8=((2 ^ 8*a:Nat):Int):=by
  show wr .u64 ((a:Int)*256)=_
  rw [wr64u]; omega
 have e2:wr .u64 (c:Int)=(c:Int):=by rw [wr64u]; omega
 rw [e1,e2]
 show IntKind.u64.wrap (BitVec.ofInt 64 ((2 ^ 8*a:Nat):Int) ||| BitVec.ofInt 64 (c:Int)).toNat=_
 rw [BitVec.toNat_or]
 have h5:(BitVec.ofInt 64 ((2 ^ 8*a:Nat):Int)).toNat=2 ^ 8*a:=by rw [BitVec.toNat_ofInt]; omega
 have h6:(BitVec.ofInt 64 (c:Int)).toNat=c:=by rw [BitVec.toNat_ofInt]; omega
 rw [h5,h6,← Nat.two_pow_add_eq_or_of_lt (by omega) a]
 show wr .u64 ((2 ^ 8*a+c:Nat):Int)=_
 rw [wr64u]; omega
theorem bigE_up {s:List Int} {k:Nat} (h:k<s.length):bigE (s.take (k+1))=bigE (s.take k)*256+s.getD k 0:=by
 rw [List.take_add_one,List.getElem?_eq_getElem h,List.getD_eq_getElem?_getD,List.getElem?_eq_getElem h]
 unfold bigE
 rw [List.foldl_append]
 rfl
theorem byte_getD {b:List Int} (h:∀ y,y∈b→0≤y∧y<256) (i:Nat):0≤b.getD i 0∧b.getD i 0<256:=by
 rw [List.getD_eq_getElem?_getD]
 cases e:b[i]? with
 | none=>simp
 | some y=>exact h y (List.mem_of_getElem? e)
theorem bigE_lt {s:List Int} (h:∀ y,y∈s→0≤y∧y<256):∀ k,k≤s.length→0≤bigE (s.take k)∧bigE (s.take k)<((256 ^ k:Nat):Int)
 | 0,_=>by simp [bigE]
 | k+1,hk=>by
  have ih:=bigE_lt h k (by omega)
  have h1:=byte_getD h k
  rw [bigE_up (by omega),Nat.pow_succ]
  omega
theorem left_byt {r:Rd} (h:r.Ok):∀ y,y∈r.left→0≤y∧y<256:=fun y hy=>h.byt y (List.mem_of_mem_drop hy)
theorem tail_byt {s:List Int} (h:∀ y,y∈s→0≤y∧y<256):∀ y,y∈s.tail→0≤y∧y<256:=fun y hy=>h y (List.mem_of_mem_tail hy)
def offVC:Prop:=∀ (x:Rd),True→decide (x.e≠(0:Int))=!x.e==(0:Int)∧((x.b=x.b∧x.i=x.i∧x.e=x.e∧True)∧True)∧True
theorem off_eq:offVC=fnS F74 f95 (bodyOf f95) offLS noAnn:=by kernel_rfl
theorem off_vc:offVC:=by
 rintro ⟨b,i,e⟩ _
 refine ⟨?_,⟨⟨rfl,rfl,rfl,trivial⟩,trivial⟩,trivial⟩
 by_cases h:e=0<;>simp [h]
theorem off_ok:Fits F74 f95 (bodyOf f95) offLS noAnn:=by
 constructor
 rw [← off_eq]
 exact off_vc
theorem f107_has:Has prog 95 f95 (bodyOf f95):=⟨by kernel_rfl,by kernel_rfl,by kernel_rfl⟩
theorem known120:Known prog L120:=by
 unfold L120
 exact known74.lent mixed f107_has F74_eq off_ok (fun _ _=>Nat.le_refl _) (fun h=>by cases h)
def restVC:Prop:=∀ (x:Rd),x.Ok→(0:Int)≤x.i∧x.i≤(x.b.length:Int)∧(x.b.length:Int)≤(x.b.length:Int)∧x.left=List.drop x.i.toNat (List.take
 (x.b.length:Int).toNat x.b)∧((x.b=x.b∧x.i=x.i∧x.e=x.e∧True)∧True)∧True
theorem rest_eq:restVC=fnS F120 f97 (bodyOf f97) restLS noAnn:=by kernel_rfl
theorem rest_vc:restVC:=by
 rintro ⟨b,i,e⟩ hr
 refine ⟨hr.lo,hr.hi,by simp,?_,⟨⟨rfl,rfl,rfl,trivial⟩,trivial⟩,trivial⟩
 simp only [Int.toNat_natCast,List.take_length]
 rfl
theorem rest_ok:Fits F120 f97 (bodyOf f97) restLS noAnn:=by
 constructor
 rw [← rest_eq]
 exact rest_vc
theorem f109_has:Has prog 97 f97 (bodyOf f97):=⟨by kernel_rfl,by kernel_rfl,by kernel_rfl⟩
theorem known121:Known prog L121:=by
 unfold L121
 exact known120.lent mixed f109_has F120_eq rest_ok (fun _ _=>Nat.le_refl _) (fun h=>by cases h)
def failVC:Prop:=∀ (x:RdE),True→((x.r.e==(0:Int))=true→True∧((x.r.b=x.r.b∧x.r.i=x.r.i∧(if x.r.e=(0:Int) then x.n else x.r.e)=x.n∧True) ∧
 True)∧True)∧((x.r.e==(0:Int))=false→True∧((x.r.b=x.r.b∧x.r.i=x.r.i∧(if x.r.e=(0:Int) then x.n else x.r.e)=x.r.e∧True) ∧
 True)∧True)
theorem fail_eq:failVC=fnS F121 f98 (bodyOf f98) failLS noAnn:=by kernel_rfl
theorem fail_vc:failVC:=by
 rintro ⟨⟨b,i,e⟩,n⟩ _
 refine ⟨fun h=>⟨trivial,⟨⟨rfl,rfl,?_,trivial⟩,trivial⟩,trivial⟩,fun h=>⟨trivial,⟨⟨rfl,rfl,?_,trivial⟩,trivial⟩,trivial⟩⟩
 ·rw [if_pos (by simpa using h)]
 ·rw [if_neg (by simpa using h)]
theorem fail_ok:Fits F121 f98 (bodyOf f98) failLS noAnn:=by
 constructor
 rw [← fail_eq]
 exact fail_vc
theorem f110_has:Has prog 98 f98 (bodyOf f98):=⟨by kernel_rfl,by kernel_rfl,by kernel_rfl⟩
theorem known122:Known prog L122:=by
 unfold L122
 exact known121.lent mixed f110_has F121_eq fail_ok (fun _ _=>Nat.le_refl _) (fun h=>by cases h)
def lowVC:Prop:=∀ (x:LowX),x.Ok→True∧((x.r.b=x.r.b∧x.r.i=x.r.i∧x.r.e=x.r.e∧True)∧True)∧(Rd.mk x.r.b x.r.i x.r.e).Ok∧(0:Int)≤(1:Int)∧(1
 : Int)≤(↑(Rd.mk x.r.b x.r.i x.r.e).left.length:Int)∧(↑(Rd.mk x.r.b x.r.i x.r.e).left.length:Int)≤(↑(Rd.mk x.r.b x.r.i x.r.e).left.length :
 Int)∧((↑(List.drop (Int.toNat (1:Int)) (List.take (↑(Rd.mk x.r.b x.r.i x.r.e).left.length:Int).toNat (Rd.mk x.r.b x.r.i x.r.e).left)).length :
 Int)≤(9223372036854775807:Int)→(decide ((↑(List.drop (Int.toNat (1:Int)) (List.take (↑(Rd.mk x.r.b x.r.i x.r.e).left.length:Int).toNat (Rd.mk
 x.r.b x.r.i x.r.e).left)).length:Int)<x.n)=true→(lowN2 x.r.left.tail x.n=(0:Int)∧lowE x.r.left.tail x.n=(12:Int)∧(12:Int)≠(0 :
 Int))∧((x.r.b=x.r.b∧x.r.i=x.r.i∧x.r.e=x.r.e∧True)∧True)∧True)∧(decide ((↑(List.drop (Int.toNat (1:Int)) (List.take (↑(Rd.mk x.r.b
 x.r.i x.r.e).left.length:Int).toNat (Rd.mk x.r.b x.r.i x.r.e).left)).length:Int)<x.n)=false→(decide (x.n>(0:Int))=true→(0:Int)≤(0
 : Int)∧(0:Int)<(↑(List.drop (Int.toNat (1:Int)) (List.take (↑(Rd.mk x.r.b x.r.i x.r.e).left.length:Int).toNat (Rd.mk x.r.b x.r.i
 x.r.e).left)).length:Int)∧Int.toNat (0:Int)<(List.drop (Int.toNat (1:Int)) (List.take (↑(Rd.mk x.r.b x.r.i x.r.e).left.length:Int).toNat
 (Rd.mk x.r.b x.r.i x.r.e).left)).length∧(((List.drop (Int.toNat (1:Int)) (List.take (↑(Rd.mk x.r.b x.r.i x.r.e).left.length:Int).toNat (Rd.mk
 x.r.b x.r.i x.r.e).left)).getD (Int.toNat (0:Int)) (0:Int)==(0:Int))=true→(lowN2 x.r.left.tail x.n=(0:Int)∧lowE x.r.left.tail x.n =
 (3:Int)∧(3:Int)≠(0:Int))∧((x.r.b=x.r.b∧x.r.i=x.r.i∧x.r.e=x.r.e∧True)∧True)∧True)∧(((List.drop (Int.toNat (1:Int))
 (List.take (↑(Rd.mk x.r.b x.r.i x.r.e).left.length:Int).toNat (Rd.mk x.r.b x.r.i x.r.e).left)).getD (Int.toNat (0:Int)) (0:Int)==(0:Int)) =
 false→(0:Int)≤(0:Int)∧(0:Int)≤x.n∧x.n≤(↑(List.drop (Int.toNat (1:Int)) (List.take (↑(Rd.mk x.r.b x.r.i x.r.e).left.length :
 Int).toNat (Rd.mk x.r.b x.r.i x.r.e).left)).length:Int)∧((↑(List.drop (Int.toNat (0:Int)) (List.take x.n.toNat (List.drop (Int.toNat (1:Int))
 (List.take (↑(Rd.mk x.r.b x.r.i x.r.e).left.length:Int).toNat (Rd.mk x.r.b x.r.i x.r.e).left)))).length:Int)≤(9223372036854775807:Int)→(∃ (x_1:Nat),(x.n-(x_1:Int)).NonNeg∧((x_1:Int)=(0:Int)∧bigE (List.take x_1 x.r.left.tail)=(0:Int))∧((x.r.b=x.r.b∧x.r.i=x.r.i ∧
 x.r.e=x.r.e∧True)∧True)∧True)∧∀ (x_1:Nat),(x.n-(x_1:Int)).NonNeg→(decide ((x_1:Int)<(↑(List.drop (Int.toNat (0:Int))
 (List.take x.n.toNat (List.drop (Int.toNat (1:Int)) (List.take (↑(Rd.mk x.r.b x.r.i x.r.e).left.length:Int).toNat (Rd.mk x.r.b x.r.i
 x.r.e).left)))).length:Int))=true→(0:Int)≤(x_1:Int)∧(x_1:Int)<(↑(List.drop (Int.toNat (0:Int)) (List.take x.n.toNat (List.drop
 (Int.toNat (1:Int)) (List.take (↑(Rd.mk x.r.b x.r.i x.r.e).left.length:Int).toNat (Rd.mk x.r.b x.r.i x.r.e).left)))).length:Int)∧(↑x_1 :
 Int).toNat<(List.drop (Int.toNat (0:Int)) (List.take x.n.toNat (List.drop (Int.toNat (1:Int)) (List.take (↑(Rd.mk x.r.b x.r.i x.r.e).left.length
 : Int).toNat (Rd.mk x.r.b x.r.i x.r.e).left)))).length∧(0:Int)≤(8:Int)∧inI64 ((x_1:Int)+(1:Int))∧∃ (y:Nat),(x.n-(y:Int)).NonNeg ∧
 x.n.toNat-y<x.n.toNat-x_1∧((y:Int)=(x_1:Int)+(1:Int)∧bigE (List.take y x.r.left.tail)=bitop BinOp.or IntKind.u64 (shl
 IntKind.u64 (bigE (List.take x_1 x.r.left.tail)) (8:Int)) (wr IntKind.u64 (bitop BinOp.xor IntKind.u8 ((List.drop (Int.toNat (0:Int)) (List.take
 x.n.toNat (List.drop (Int.toNat (1:Int)) (List.take (↑(Rd.mk x.r.b x.r.i x.r.e).left.length:Int).toNat (Rd.mk x.r.b x.r.i x.r.e).left)))).getD
 (x_1:Int).toNat (0:Int)) (0:Int))))∧((x.r.b=x.r.b∧x.r.i=x.r.i∧x.r.e=x.r.e∧True)∧True)∧True)∧(decide ((x_1:Int) <
 (↑(List.drop (Int.toNat (0:Int)) (List.take x.n.toNat (List.drop (Int.toNat (1:Int)) (List.take (↑(Rd.mk x.r.b x.r.i x.r.e).left.length :
 Int).toNat (Rd.mk x.r.b x.r.i x.r.e).left)))).length:Int))=false→(lowN2 x.r.left.tail x.n=bigE (List.take x_1 x.r.left.tail)∧lowE
 x.r.left.tail x.n=(0:Int))∧((x.r.b=x.r.b∧x.r.i=x.r.i∧x.r.e=x.r.e∧True)∧True)∧True))))∧(decide (x.n>(0:Int))=false→(0 :
 Int)≤(0:Int)∧(0:Int)≤x.n∧x.n≤(↑(List.drop (Int.toNat (1:Int)) (List.take (↑(Rd.mk x.r.b x.r.i x.r.e).left.length:Int).toNat (Rd.mk
 x.r.b x.r.i x.r.e).left)).length:Int)∧((↑(List.drop (Int.toNat (0:Int)) (List.take x.n.toNat (List.drop (Int.toNat (1:Int)) (List.take (↑(Rd.mk
 x.r.b x.r.i x.r.e).left.length:Int).toNat (Rd.mk x.r.b x.r.i x.r.e).left)))).length:Int)≤(9223372036854775807:Int)→(∃ (x_1:Nat),(x.n-(↑x_1 :
 Int)).NonNeg∧((x_1:Int)=(0:Int)∧bigE (List.take x_1 x.r.left.tail)=(0:Int))∧((x.r.b=x.r.b∧x.r.i=x.r.i∧x.r.e=x.r.e∧True) ∧
 True)∧True)∧∀ (x_1:Nat),(x.n-(x_1:Int)).NonNeg→(decide ((x_1:Int)<(↑(List.drop (Int.toNat (0:Int)) (List.take x.n.toNat (List.drop
 (Int.toNat (1:Int)) (List.take (↑(Rd.mk x.r.b x.r.i x.r.e).left.length:Int).toNat (Rd.mk x.r.b x.r.i x.r.e).left)))).length:Int))=true→(0 :
 Int)≤(x_1:Int)∧(x_1:Int)<(↑(List.drop (Int.toNat (0:Int)) (List.take x.n.toNat (List.drop (Int.toNat (1:Int)) (List.take (↑(Rd.mk x.r.b
 x.r.i x.r.e).left.length:Int).toNat (Rd.mk x.r.b x.r.i x.r.e).left)))).length:Int)∧(x_1:Int).toNat<(List.drop (Int.toNat (0:Int))
 (List.take x.n.toNat (List.drop (Int.toNat (1:Int)) (List.take (↑(Rd.mk x.r.b x.r.i x.r.e).left.length:Int).toNat (Rd.mk x.r.b x.r.i
 x.r.e).left)))).length∧(0:Int)≤(8:Int)∧inI64 ((x_1:Int)+(1:Int))∧∃ (y:Nat),(x.n-(y:Int)).NonNeg∧x.n.toNat-y<x.n.toNat-x_1 ∧
 ((y:Int)=(x_1:Int)+(1:Int)∧bigE (List.take y x.r.left.tail)=bitop BinOp.or IntKind.u64 (shl IntKind.u64 (bigE (List.take x_1
 x.r.left.tail)) (8:Int)) (wr IntKind.u64 (bitop BinOp.xor IntKind.u8 ((List.drop (Int.toNat (0:Int)) (List.take x.n.toNat (List.drop (Int.toNat (1
 : Int)) (List.take (↑(Rd.mk x.r.b x.r.i x.r.e).left.length:Int).toNat (Rd.mk x.r.b x.r.i x.r.e).left)))).getD (x_1:Int).toNat (0:Int)) (0 :
 Int))))∧((x.r.b=x.r.b∧x.r.i=x.r.i∧x.r.e=x.r.e∧True)∧True)∧True)∧(decide ((x_1:Int)<(↑(List.drop (Int.toNat (0:Int))
 (List.take x.n.toNat (List.drop (Int.toNat (1:Int)) (List.take (↑(Rd.mk x.r.b x.r.i x.r.e).left.length:Int).toNat (Rd.mk x.r.b x.r.i
 x.r.e).left)))).length:Int))=false→(lowN2 x.r.left.tail x.n=bigE (List.take x_1 x.r.left.tail)∧lowE x.r.left.tail x.n=(0:Int))∧((x.r.b
 = x.r.b∧x.r.i=x.r.i∧x.r.e=x.r.e∧True)∧True)∧True)))))
theorem low_eq:lowVC=fnS F122 f126 (bodyOf f126) lowLS lowAnn:=by kernel_rfl
theorem low_vc:lowVC:=by
 rintro ⟨⟨b,i,e⟩,n⟩ ⟨hr,more,lo,hi⟩
 have hl:=left_len _ hr
 have hb:=tail_byt (left_byt hr)
 have hlen:=hr.len
 have hlo:=hr.lo
 simp only at hl more lo hi hlen hlo
 have hs:((Rd.mk b i e).left.tail.length:Int)=(Rd.mk b i e).left.length-1:=by rw [List.length_tail]; omega
 have ht:(Int.toNat (1:Int))=1:=rfl
 have h0:(Int.toNat (0:Int))=0:=rfl
 simp only [hr,ht,h0,Int.toNat_natCast,List.take_length,List.drop_one,List.drop_zero,List.length_take,and_self,and_true,true_and,Int.le_refl,decide_eq_true_eq,decide_eq_false_iff_not,ne_eq]
 generalize hS:(Rd.mk b i e).left.tail=s at *
 have step:∀ k:Nat,(k:Int)<n→(n:Int)≤s.length→bigE (s.take (k+1))=bitop .or .u64 (shl .u64 (bigE (s.take k)) 8) (wr .u64 (bitop .xor .u8 ((s.take n.toNat).getD k 0) 0)):=fun k hk hn=>by
  have h1:=bigE_lt hb k (by omega)
  have h2:=byte_getD hb k
  have h3:(256 ^ k:Nat)≤256 ^ 7:=Nat.pow_le_pow_right (by omega) (by omega)
  have h4:(s.take n.toNat).getD k 0=s.getD k 0:=by
   rw [List.getD_eq_getElem?_getD,List.getElem?_take,if_pos (by omega),← List.getD_eq_getElem?_getD]
  rw [h4,bigE_up (by omega),or_byte h1.1 (by omega) h2.1 h2.2]
 have loop:(n:Int)≤s.length→lowE s n=0 →
   (∃ (x_1:Nat),(n-(x_1:Int)).NonNeg∧((x_1:Int)=(0:Int)∧bigE (List.take x_1 s)=(0:Int)))∧∀ (x_1:Nat),(n-(x_1:Int)).NonNeg→((x_1:Int)<((min n.toNat s.length:Nat):Int)→(0:Int)≤(x_1:Int)∧(x_1:Int)<((min n.toNat s.length:Nat):Int)∧x_1<min n.toNat s.length∧(0:Int)≤(8:Int)∧inI64 ((x_1:Int)+(1:Int))∧∃ (y:Nat),(n-(y:Int)).NonNeg∧n.toNat-y<n.toNat-x_1∧((y:Int)=(x_1:Int)+(1:Int)∧bigE (List.take y s)=bitop BinOp.or IntKind.u64 (shl IntKind.u64 (bigE (List.take x_1 s)) (8:Int)) (wr IntKind.u64 (bitop BinOp.xor IntKind.u8 ((List.take n.toNat s).getD x_1 (0:Int)) (0:Int)))))∧(¬((x_1:Int)<((min n.toNat s.length:Nat):Int))→(lowN2 s n=bigE (List.take x_1 s)∧lowE s n=(0:Int))):=fun h1 h2=>by
  refine ⟨⟨0,?_,rfl,rfl⟩,fun k hk=>⟨fun h3=>⟨by omega,by omega,by omega,by omega,by unfold inI64; omega,k+1,?_,by omega,by omega,step k (by omega) h1⟩,fun h3=>⟨?_,h2⟩⟩⟩
  ·show ((0:Nat):Int)≤n
   omega
  ·show ((k+1:Nat):Int)≤n
   omega
  ·have hk:(k:Int)≤n:=hk
   unfold lowN2
   rw [if_pos h2,show n.toNat=k by omega]
 have g:s.getD 0 0=0↔(s=[]∨s.head?=some 0):=by cases s<;>simp
 refine ⟨by omega,by omega,fun _=>⟨fun h=>?_,fun h=>⟨fun h1=>⟨by omega,by omega,fun h2=>?_,fun h2=>⟨lo,by omega,fun _=>loop (by omega) ?_⟩⟩,fun h1=>⟨lo,by omega,fun _=>loop (by omega) ?_⟩⟩⟩⟩
 ·have h2:lowE s n=12:=by unfold lowE; rw [if_pos h]
  exact ⟨by unfold lowN2; rw [h2]; rfl,h2,by omega⟩
 ·have h3:s.head?=some 0:=by
   rcases g.1 (by simpa using h2) with e | e
   ·rw [e] at h
    simp only [List.length_nil] at h
    omega
   ·exact e
  have h2:lowE s n=3:=by unfold lowE; rw [if_neg h,if_pos ⟨h1,h3⟩]
  exact ⟨by unfold lowN2; rw [h2]; rfl,h2,by omega⟩
 ·unfold lowE
  rw [if_neg h,if_neg (fun h3=>by
   have:=g.2 (.inr h3.2)
   rw [this] at h2
   simp at h2)]
 ·unfold lowE
  rw [if_neg h,if_neg (fun h3=>h1 h3.1)]
theorem low_ok:Fits F122 f126 (bodyOf f126) lowLS lowAnn:=by
 constructor
 rw [← low_eq]
 exact low_vc
theorem f129_has:Has prog 126 f126 (bodyOf f126):=⟨by kernel_rfl,by kernel_rfl,by kernel_rfl⟩
theorem known123:Known prog L123:=by
 unfold L123
 exact known122.lent mixed f129_has F122_eq low_ok (fun _ _=>Nat.le_refl _) (fun h=>by cases h)
def numberVC:Prop:=∀ (x:RdN),x.Ok→True∧((x.r.b=x.r.b∧x.r.i=x.r.i∧x.r.e=x.r.e∧True)∧True)∧(Rd.mk x.r.b x.r.i x.r.e).Ok∧((↑(Rd.mk x.r.b x.r.i
 x.r.e).left.length:Int)≤(9223372036854775807:Int)→(((↑(Rd.mk x.r.b x.r.i x.r.e).left.length:Int)==(0:Int))=true→(True∧(12:Int) =
 (12:Int)∧(12:Int)≠(0:Int))∧((x.r.b=x.r.b∧x.r.i=x.r.i∧x.r.e=x.r.e∧True)∧True)∧True∧((if numE x.r.left x.n=(0:Int) then
 numV x.r.left else (0:Int))=(0:Int)∧(if numE x.r.left x.n=(0:Int) then numW x.r.left else (0:Int))=(0:Int)∧decide (numE x.r.left
 x.n=(0:Int))=false)∧(((if numE x.r.left x.n=(0:Int) then x.r else x.r.fail (numE x.r.left x.n)).b=x.r.b∧(if numE x.r.left x.n=(0 :
 Int) then x.r else x.r.fail (numE x.r.left x.n)).i=x.r.i∧((if numE x.r.left x.n=(0:Int) then x.r else x.r.fail (numE x.r.left x.n)).e=if
 x.r.e=(0:Int) then (12:Int) else x.r.e)∧True)∧True)∧True)∧(((↑(Rd.mk x.r.b x.r.i x.r.e).left.length:Int)==(0:Int))=false→(0 :
 Int)≤(0:Int)∧(0:Int)<(↑(Rd.mk x.r.b x.r.i x.r.e).left.length:Int)∧Int.toNat (0:Int)<(Rd.mk x.r.b x.r.i x.r.e).left.length∧(decide
 ((Rd.mk x.r.b x.r.i x.r.e).left.getD (Int.toNat (0:Int)) (0:Int)>(8:Int))=true→(True∧(3:Int)=(3:Int)∧(3:Int)≠(0:Int)) ∧
 ((x.r.b=x.r.b∧x.r.i=x.r.i∧x.r.e=x.r.e∧True)∧True)∧True∧((if numE x.r.left x.n=(0:Int) then numV x.r.left else (0:Int))=(0 :
 Int)∧(if numE x.r.left x.n=(0:Int) then numW x.r.left else (0:Int))=(0:Int)∧decide (numE x.r.left x.n=(0:Int))=false)∧(((if numE
 x.r.left x.n=(0:Int) then x.r else x.r.fail (numE x.r.left x.n)).b=x.r.b∧(if numE x.r.left x.n=(0:Int) then x.r else x.r.fail (numE
 x.r.left x.n)).i=x.r.i∧((if numE x.r.left x.n=(0:Int) then x.r else x.r.fail (numE x.r.left x.n)).e=if x.r.e=(0:Int) then (3:Int) else
 x.r.e)∧True)∧True)∧True)∧(decide ((Rd.mk x.r.b x.r.i x.r.e).left.getD (Int.toNat (0:Int)) (0:Int)>(8:Int))=false→(0:Int)≤(0 :
 Int)∧(0:Int)<(↑(Rd.mk x.r.b x.r.i x.r.e).left.length:Int)∧Int.toNat (0:Int)<(Rd.mk x.r.b x.r.i x.r.e).left.length∧(True∧wr
 IntKind.i64 ((Rd.mk x.r.b x.r.i x.r.e).left.getD (Int.toNat (0:Int)) (0:Int))=wr IntKind.i64 ((Rd.mk x.r.b x.r.i x.r.e).left.getD (Int.toNat (0 :
 Int)) (0:Int))∧(0:Int)=(0:Int))∧((x.r.b=x.r.b∧x.r.i=x.r.i∧x.r.e=x.r.e∧True)∧True)∧(LowX.mk (Rd.mk x.r.b x.r.i x.r.e) (wr
 IntKind.i64 ((Rd.mk x.r.b x.r.i x.r.e).left.getD (Int.toNat (0:Int)) (0:Int)))).Ok∧((lowE (Rd.mk x.r.b x.r.i x.r.e).left.tail (wr IntKind.i64
 ((Rd.mk x.r.b x.r.i x.r.e).left.getD (Int.toNat (0:Int)) (0:Int)))==(0:Int))=true→(decide (lowN2 (Rd.mk x.r.b x.r.i x.r.e).left.tail (wr
 IntKind.i64 ((Rd.mk x.r.b x.r.i x.r.e).left.getD (Int.toNat (0:Int)) (0:Int)))>x.n)=true→((!false)=true→(True∧(4:Int)=(4:Int) ∧
 (4:Int)≠(0:Int))∧((x.r.b=x.r.b∧x.r.i=x.r.i∧x.r.e=x.r.e∧True)∧True)∧True∧((if numE x.r.left x.n=(0:Int) then numV x.r.left
 else (0:Int))=(0:Int)∧(if numE x.r.left x.n=(0:Int) then numW x.r.left else (0:Int))=(0:Int)∧decide (numE x.r.left x.n=(0:Int))
 = false)∧(((if numE x.r.left x.n=(0:Int) then x.r else x.r.fail (numE x.r.left x.n)).b=x.r.b∧(if numE x.r.left x.n=(0:Int) then x.r else
 x.r.fail (numE x.r.left x.n)).i=x.r.i∧((if numE x.r.left x.n=(0:Int) then x.r else x.r.fail (numE x.r.left x.n)).e=if x.r.e=(0:Int) then
 (4:Int) else x.r.e)∧True)∧True)∧True)∧((!false)=false→(0:Int)≤(0:Int)∧(0:Int)<(↑(Rd.mk x.r.b x.r.i x.r.e).left.length:Int)
 ∧ Int.toNat (0:Int)<(Rd.mk x.r.b x.r.i x.r.e).left.length∧inI64 ((1:Int)+wr IntKind.i64 ((Rd.mk x.r.b x.r.i x.r.e).left.getD (Int.toNat (0 :
 Int)) (0:Int)))∧((if numE x.r.left x.n=(0:Int) then numV x.r.left else (0:Int))=lowN2 (Rd.mk x.r.b x.r.i x.r.e).left.tail (wr IntKind.i64
 ((Rd.mk x.r.b x.r.i x.r.e).left.getD (Int.toNat (0:Int)) (0:Int)))∧(if numE x.r.left x.n=(0:Int) then numW x.r.left else (0:Int))=(1 :
 Int)+wr IntKind.i64 ((Rd.mk x.r.b x.r.i x.r.e).left.getD (Int.toNat (0:Int)) (0:Int))∧decide (numE x.r.left x.n=(0:Int))=true)∧(((if
 numE x.r.left x.n=(0:Int) then x.r else x.r.fail (numE x.r.left x.n)).b=x.r.b∧(if numE x.r.left x.n=(0:Int) then x.r else x.r.fail (numE
 x.r.left x.n)).i=x.r.i∧(if numE x.r.left x.n=(0:Int) then x.r else x.r.fail (numE x.r.left x.n)).e=x.r.e∧True)∧True)∧True))∧(decide
 (lowN2 (Rd.mk x.r.b x.r.i x.r.e).left.tail (wr IntKind.i64 ((Rd.mk x.r.b x.r.i x.r.e).left.getD (Int.toNat (0:Int)) (0:Int)))>x.n)=false →
 ((!lowE (Rd.mk x.r.b x.r.i x.r.e).left.tail (wr IntKind.i64 ((Rd.mk x.r.b x.r.i x.r.e).left.getD (Int.toNat (0:Int)) (0:Int)))==(0:Int))=true
 → (True∧lowE (Rd.mk x.r.b x.r.i x.r.e).left.tail (wr IntKind.i64 ((Rd.mk x.r.b x.r.i x.r.e).left.getD (Int.toNat (0:Int)) (0:Int)))=lowE (Rd.mk
 x.r.b x.r.i x.r.e).left.tail (wr IntKind.i64 ((Rd.mk x.r.b x.r.i x.r.e).left.getD (Int.toNat (0:Int)) (0:Int))))∧((x.r.b=x.r.b∧x.r.i=x.r.i
 ∧ x.r.e=x.r.e∧True)∧True)∧True∧((if numE x.r.left x.n=(0:Int) then numV x.r.left else (0:Int))=(0:Int)∧(if numE x.r.left x.n=(0
 : Int) then numW x.r.left else (0:Int))=(0:Int)∧decide (numE x.r.left x.n=(0:Int))=false)∧(((if numE x.r.left x.n=(0:Int) then x.r
 else x.r.fail (numE x.r.left x.n)).b=x.r.b∧(if numE x.r.left x.n=(0:Int) then x.r else x.r.fail (numE x.r.left x.n)).i=x.r.i∧((if numE
 x.r.left x.n=(0:Int) then x.r else x.r.fail (numE x.r.left x.n)).e=if x.r.e=(0:Int) then lowE (Rd.mk x.r.b x.r.i x.r.e).left.tail (wr
 IntKind.i64 ((Rd.mk x.r.b x.r.i x.r.e).left.getD (Int.toNat (0:Int)) (0:Int))) else x.r.e)∧True)∧True)∧True)∧((!lowE (Rd.mk x.r.b x.r.i
 x.r.e).left.tail (wr IntKind.i64 ((Rd.mk x.r.b x.r.i x.r.e).left.getD (Int.toNat (0:Int)) (0:Int)))==(0:Int))=false→(0:Int)≤(0:Int) ∧
 (0:Int)<(↑(Rd.mk x.r.b x.r.i x.r.e).left.length:Int)∧Int.toNat (0:Int)<(Rd.mk x.r.b x.r.i x.r.e).left.length∧inI64 ((1:Int)+wr
 IntKind.i64 ((Rd.mk x.r.b x.r.i x.r.e).left.getD (Int.toNat (0:Int)) (0:Int)))∧((if numE x.r.left x.n=(0:Int) then numV x.r.left else (0 :
 Int))=lowN2 (Rd.mk x.r.b x.r.i x.r.e).left.tail (wr IntKind.i64 ((Rd.mk x.r.b x.r.i x.r.e).left.getD (Int.toNat (0:Int)) (0:Int)))∧(if numE
 x.r.left x.n=(0:Int) then numW x.r.left else (0:Int))=(1:Int)+wr IntKind.i64 ((Rd.mk x.r.b x.r.i x.r.e).left.getD (Int.toNat (0:Int)) (0
 : Int))∧decide (numE x.r.left x.n=(0:Int))=true)∧(((if numE x.r.left x.n=(0:Int) then x.r else x.r.fail (numE x.r.left x.n)).b=x.r.b ∧
 (if numE x.r.left x.n=(0:Int) then x.r else x.r.fail (numE x.r.left x.n)).i=x.r.i∧(if numE x.r.left x.n=(0:Int) then x.r else x.r.fail
 (numE x.r.left x.n)).e=x.r.e∧True)∧True)∧True)))∧((lowE (Rd.mk x.r.b x.r.i x.r.e).left.tail (wr IntKind.i64 ((Rd.mk x.r.b x.r.i
 x.r.e).left.getD (Int.toNat (0:Int)) (0:Int)))==(0:Int))=false→((!lowE (Rd.mk x.r.b x.r.i x.r.e).left.tail (wr IntKind.i64 ((Rd.mk x.r.b
 x.r.i x.r.e).left.getD (Int.toNat (0:Int)) (0:Int)))==(0:Int))=true→(True∧lowE (Rd.mk x.r.b x.r.i x.r.e).left.tail (wr IntKind.i64
 ((Rd.mk x.r.b x.r.i x.r.e).left.getD (Int.toNat (0:Int)) (0:Int)))=lowE (Rd.mk x.r.b x.r.i x.r.e).left.tail (wr IntKind.i64 ((Rd.mk x.r.b x.r.i
 x.r.e).left.getD (Int.toNat (0:Int)) (0:Int))))∧((x.r.b=x.r.b∧x.r.i=x.r.i∧x.r.e=x.r.e∧True)∧True)∧True∧((if numE x.r.left x.n =
 (0:Int) then numV x.r.left else (0:Int))=(0:Int)∧(if numE x.r.left x.n=(0:Int) then numW x.r.left else (0:Int))=(0:Int)∧decide
 (numE x.r.left x.n=(0:Int))=false)∧(((if numE x.r.left x.n=(0:Int) then x.r else x.r.fail (numE x.r.left x.n)).b=x.r.b∧(if numE
 x.r.left x.n=(0:Int) then x.r else x.r.fail (numE x.r.left x.n)).i=x.r.i∧((if numE x.r.left x.n=(0:Int) then x.r else x.r.fail (numE
 x.r.left x.n)).e=if x.r.e=(0:Int) then lowE (Rd.mk x.r.b x.r.i x.r.e).left.tail (wr IntKind.i64 ((Rd.mk x.r.b x.r.i x.r.e).left.getD (Int.toNat
 (0:Int)) (0:Int))) else x.r.e)∧True)∧True)∧True)∧((!lowE (Rd.mk x.r.b x.r.i x.r.e).left.tail (wr IntKind.i64 ((Rd.mk x.r.b x.r.i
 x.r.e).left.getD (Int.toNat (0:Int)) (0:Int)))==(0:Int))=false→(0:Int)≤(0:Int)∧(0:Int)<(↑(Rd.mk x.r.b x.r.i x.r.e).left.length
 : Int)∧Int.toNat (0:Int)<(Rd.mk x.r.b x.r.i x.r.e).left.length∧inI64 ((1:Int)+wr IntKind.i64 ((Rd.mk x.r.b x.r.i x.r.e).left.getD
 (Int.toNat (0:Int)) (0:Int)))∧((if numE x.r.left x.n=(0:Int) then numV x.r.left else (0:Int))=lowN2 (Rd.mk x.r.b x.r.i x.r.e).left.tail
 (wr IntKind.i64 ((Rd.mk x.r.b x.r.i x.r.e).left.getD (Int.toNat (0:Int)) (0:Int)))∧(if numE x.r.left x.n=(0:Int) then numW x.r.left else (0 :
 Int))=(1:Int)+wr IntKind.i64 ((Rd.mk x.r.b x.r.i x.r.e).left.getD (Int.toNat (0:Int)) (0:Int))∧decide (numE x.r.left x.n=(0:Int)) =
 true)∧(((if numE x.r.left x.n=(0:Int) then x.r else x.r.fail (numE x.r.left x.n)).b=x.r.b∧(if numE x.r.left x.n=(0:Int) then x.r else
 x.r.fail (numE x.r.left x.n)).i=x.r.i∧(if numE x.r.left x.n=(0:Int) then x.r else x.r.fail (numE x.r.left x.n)).e=x.r.e∧True)∧True) ∧
 True)))))
theorem number_eq:numberVC=fnS F123 f96 (bodyOf f96) numberLS noAnn:=by kernel_rfl
theorem number_vc:numberVC:=by
 rintro ⟨⟨b,i,e⟩,m⟩ ⟨hr,hm⟩
 have hl:=left_len _ hr
 have hb:=left_byt hr
 have hlen:=hr.len
 have hlo:=hr.lo
 simp only at hl hlen hlo hm
 cases hL:(Rd.mk b i e).left with
 | nil=>simp [hr,numE,Rd.fail]
 | cons c s=>
  have hc:0≤c∧c<256:=hb c (by rw [hL]; exact List.mem_cons_self)
  have hw:wr .i64 c=c:=by rw [wr64 (by unfold inI64; omega)]
  have hi:inI64 (1+c):=by unfold inI64; omega
  by_cases h8:c>8
  ·have hE:numE (c::s) m=3:=by simp [numE,h8]
   simp [hE,h8,hr,Rd.fail]
   try omega
  ·have hlow:(LowX.mk (Rd.mk b i e) c).Ok:=⟨hr,by rw [hL] at hl; simp only [List.length_cons] at hl; simp only; omega,hc.1,by simp only; omega⟩
   by_cases hE:lowE s c=0
   ·have hN:lowN2 s c=bigE (s.take c.toNat):=by unfold lowN2; rw [if_pos hE]
    by_cases hB:bigE (s.take c.toNat)>m
    ·have hE2:numE (c::s) m=4:=by simp only [numE]; rw [if_neg h8,if_neg (fun h=>h hE),if_pos hB]
     simp [hE,hE2,h8,hr,Rd.fail,hw,hlow,hN,hB]
     try omega
    ·have hE2:numE (c::s) m=0:=by simp only [numE]; rw [if_neg h8,if_neg (fun h=>h hE),if_neg hB]
     simp [hE,hE2,h8,hr,hw,hlow,hN,hB,hi,numV,numW]
     try omega
   ·have hE2:numE (c::s) m=lowE s c:=by simp only [numE]; rw [if_neg h8,if_pos hE]
    simp [hE,hE2,h8,hr,Rd.fail,hw,hlow]
    try omega
theorem number_ok:Fits F123 f96 (bodyOf f96) numberLS noAnn:=by
 constructor
 rw [← number_eq]
 exact number_vc
theorem f108_has:Has prog 96 f96 (bodyOf f96):=⟨by kernel_rfl,by kernel_rfl,by kernel_rfl⟩
theorem known124:Known prog L124:=by
 unfold L124
 exact known123.lent mixed f108_has F123_eq number_ok (fun _ _=>Nat.le_refl _) (fun h=>by cases h)
/-- What a number that is one has. -/
theorem num_facts {r:Rd} (hr:r.Ok) {m:Int} (h:numE r.left m=0):0≤numV r.left∧numV r.left≤m∧1≤numW r.left∧numW r.left≤r.left.length:=by
 have hb:=left_byt hr
 cases hL:r.left with
 | nil=>rw [hL] at h; simp [numE] at h
 | cons c s=>
  rw [hL] at h hb
  have hc:=hb c List.mem_cons_self
  simp only [numE] at h
  split at h
  ·omega
  split at h
  ·omega
  split at h
  ·omega
  rename_i h1 h2 h3
  have h4:¬((s.length:Int)<c):=fun h=>h2 (by unfold lowE; rw [if_pos h]; omega)
  have h5:=bigE_lt (fun y hy=>hb y (List.mem_cons_of_mem _ hy)) c.toNat (by omega)
  simp only [numV,numW,List.length_cons]
  omega
def rdUintVC:Prop:=∀ (x:RdN),x.Ok→True∧((x.r.b=x.r.b∧x.r.i=x.r.i∧x.r.e=x.r.e∧True)∧True)∧True∧(decide (x.r.e≠(0:Int))=true→(uintR x.r
 x.n).fst=(0:Int)∧(((uintR x.r x.n).snd.b=x.r.b∧(uintR x.r x.n).snd.i=x.r.i∧(uintR x.r x.n).snd.e=x.r.e∧True)∧True)∧True) ∧
 (decide (x.r.e≠(0:Int))=false→(True∧x.n=x.n)∧((x.r.b=x.r.b∧x.r.i=x.r.i∧x.r.e=x.r.e∧True)∧True)∧(RdN.mk (Rd.mk x.r.b x.r.i
 x.r.e) x.n).Ok∧(decide (numE (Rd.mk x.r.b x.r.i x.r.e).left x.n=(0:Int))=true→inI64 ((if numE (Rd.mk x.r.b x.r.i x.r.e).left x.n=(0:Int)
 then Rd.mk x.r.b x.r.i x.r.e else (Rd.mk x.r.b x.r.i x.r.e).fail (numE (Rd.mk x.r.b x.r.i x.r.e).left x.n)).i+if numE (Rd.mk x.r.b x.r.i x.r.e).left
 x.n=(0:Int) then numW (Rd.mk x.r.b x.r.i x.r.e).left else (0:Int))∧((uintR x.r x.n).fst=if numE (Rd.mk x.r.b x.r.i x.r.e).left x.n=(0 :
 Int) then numV (Rd.mk x.r.b x.r.i x.r.e).left else (0:Int))∧(((uintR x.r x.n).snd.b=(if numE (Rd.mk x.r.b x.r.i x.r.e).left x.n=(0:Int) then
 Rd.mk x.r.b x.r.i x.r.e else (Rd.mk x.r.b x.r.i x.r.e).fail (numE (Rd.mk x.r.b x.r.i x.r.e).left x.n)).b∧((uintR x.r x.n).snd.i=(if numE (Rd.mk
 x.r.b x.r.i x.r.e).left x.n=(0:Int) then Rd.mk x.r.b x.r.i x.r.e else (Rd.mk x.r.b x.r.i x.r.e).fail (numE (Rd.mk x.r.b x.r.i x.r.e).left x.n)).i +
 if numE (Rd.mk x.r.b x.r.i x.r.e).left x.n=(0:Int) then numW (Rd.mk x.r.b x.r.i x.r.e).left else (0:Int))∧(uintR x.r x.n).snd.e=(if numE
 (Rd.mk x.r.b x.r.i x.r.e).left x.n=(0:Int) then Rd.mk x.r.b x.r.i x.r.e else (Rd.mk x.r.b x.r.i x.r.e).fail (numE (Rd.mk x.r.b x.r.i x.r.e).left
 x.n)).e∧True)∧True)∧True)∧(decide (numE (Rd.mk x.r.b x.r.i x.r.e).left x.n=(0:Int))=false→((uintR x.r x.n).fst=if numE (Rd.mk x.r.b
 x.r.i x.r.e).left x.n=(0:Int) then numV (Rd.mk x.r.b x.r.i x.r.e).left else (0:Int))∧(((uintR x.r x.n).snd.b=(if numE (Rd.mk x.r.b x.r.i
 x.r.e).left x.n=(0:Int) then Rd.mk x.r.b x.r.i x.r.e else (Rd.mk x.r.b x.r.i x.r.e).fail (numE (Rd.mk x.r.b x.r.i x.r.e).left x.n)).b∧(uintR x.r
 x.n).snd.i=(if numE (Rd.mk x.r.b x.r.i x.r.e).left x.n=(0:Int) then Rd.mk x.r.b x.r.i x.r.e else (Rd.mk x.r.b x.r.i x.r.e).fail (numE (Rd.mk
 x.r.b x.r.i x.r.e).left x.n)).i∧(uintR x.r x.n).snd.e=(if numE (Rd.mk x.r.b x.r.i x.r.e).left x.n=(0:Int) then Rd.mk x.r.b x.r.i x.r.e else
 (Rd.mk x.r.b x.r.i x.r.e).fail (numE (Rd.mk x.r.b x.r.i x.r.e).left x.n)).e∧True)∧True)∧True))
theorem rdUint_eq:rdUintVC=fnS F124 f50 (bodyOf f50) rUintLS2 noAnn:=by kernel_rfl
theorem rdUint_vc:rdUintVC:=by
 rintro ⟨⟨b,i,e⟩,m⟩ hx
 have hr:=hx.r
 simp only at hr
 by_cases he:e=0
 ·subst he
  have hl:=left_len _ hr
  have nf:=num_facts hr (m:=m)
  have hlen:=hr.len
  have hlo:=hr.lo
  simp only at hl hlen hlo
  by_cases hz:numE (Rd.mk b i 0).left m=0
  ·have:=nf hz
   have hi:inI64 (i+numW (Rd.mk b i 0).left):=by unfold inI64; omega
   simp [uintR,hz,hx,hi]
  ·simp [uintR,hz,hx,Rd.fail]
 ·simp [uintR,he]
theorem rdUint_ok:Fits F124 f50 (bodyOf f50) rUintLS2 noAnn:=by
 constructor
 rw [← rdUint_eq]
 exact rdUint_vc
theorem f78_has:Has prog 50 f50 (bodyOf f50):=⟨by kernel_rfl,by kernel_rfl,by kernel_rfl⟩
theorem known125:Known prog L125:=by
 unfold L125
 exact known124.lent mixed f78_has F124_eq rdUint_ok (fun _ _=>Nat.le_refl _) (fun h=>by cases h)
def countVC:Prop:=∀ (x:RdN),x.Few→True∧((x.r.b=x.r.b∧x.r.i=x.r.i∧x.r.e=x.r.e∧True)∧True)∧True∧(decide (x.r.e≠(0:Int))=true→(countR x.r
 x.n).fst=(0:Int)∧(((countR x.r x.n).snd.b=x.r.b∧(countR x.r x.n).snd.i=x.r.i∧(countR x.r x.n).snd.e=x.r.e∧True)∧True)∧True) ∧
 (decide (x.r.e≠(0:Int))=false→(True∧wr IntKind.u64 (max (0:Int) x.n)=wr IntKind.u64 (max (0:Int) x.n))∧((x.r.b=x.r.b∧x.r.i =
 x.r.i∧x.r.e=x.r.e∧True)∧True)∧(RdN.mk (Rd.mk x.r.b x.r.i x.r.e) (wr IntKind.u64 (max (0:Int) x.n))).Ok∧(decide (numE (Rd.mk x.r.b x.r.i
 x.r.e).left (wr IntKind.u64 (max (0:Int) x.n))=(0:Int))=true→True∧(((if numE (Rd.mk x.r.b x.r.i x.r.e).left (wr IntKind.u64 (max (0:Int)
 x.n))=(0:Int) then Rd.mk x.r.b x.r.i x.r.e else (Rd.mk x.r.b x.r.i x.r.e).fail (numE (Rd.mk x.r.b x.r.i x.r.e).left (wr IntKind.u64 (max (0:Int)
 x.n)))).b=(if numE (Rd.mk x.r.b x.r.i x.r.e).left (wr IntKind.u64 (max (0:Int) x.n))=(0:Int) then Rd.mk x.r.b x.r.i x.r.e else (Rd.mk x.r.b
 x.r.i x.r.e).fail (numE (Rd.mk x.r.b x.r.i x.r.e).left (wr IntKind.u64 (max (0:Int) x.n)))).b∧(if numE (Rd.mk x.r.b x.r.i x.r.e).left (wr
 IntKind.u64 (max (0:Int) x.n))=(0:Int) then Rd.mk x.r.b x.r.i x.r.e else (Rd.mk x.r.b x.r.i x.r.e).fail (numE (Rd.mk x.r.b x.r.i x.r.e).left (wr
 IntKind.u64 (max (0:Int) x.n)))).i=(if numE (Rd.mk x.r.b x.r.i x.r.e).left (wr IntKind.u64 (max (0:Int) x.n))=(0:Int) then Rd.mk x.r.b x.r.i
 x.r.e else (Rd.mk x.r.b x.r.i x.r.e).fail (numE (Rd.mk x.r.b x.r.i x.r.e).left (wr IntKind.u64 (max (0:Int) x.n)))).i∧(if numE (Rd.mk x.r.b x.r.i
 x.r.e).left (wr IntKind.u64 (max (0:Int) x.n))=(0:Int) then Rd.mk x.r.b x.r.i x.r.e else (Rd.mk x.r.b x.r.i x.r.e).fail (numE (Rd.mk x.r.b x.r.i
 x.r.e).left (wr IntKind.u64 (max (0:Int) x.n)))).e=(if numE (Rd.mk x.r.b x.r.i x.r.e).left (wr IntKind.u64 (max (0:Int) x.n))=(0:Int) then
 Rd.mk x.r.b x.r.i x.r.e else (Rd.mk x.r.b x.r.i x.r.e).fail (numE (Rd.mk x.r.b x.r.i x.r.e).left (wr IntKind.u64 (max (0:Int) x.n)))).e∧True) ∧
 True)∧(Rd.mk (if numE (Rd.mk x.r.b x.r.i x.r.e).left (wr IntKind.u64 (max (0:Int) x.n))=(0:Int) then Rd.mk x.r.b x.r.i x.r.e else (Rd.mk x.r.b
 x.r.i x.r.e).fail (numE (Rd.mk x.r.b x.r.i x.r.e).left (wr IntKind.u64 (max (0:Int) x.n)))).b (if numE (Rd.mk x.r.b x.r.i x.r.e).left (wr IntKind.u64
 (max (0:Int) x.n))=(0:Int) then Rd.mk x.r.b x.r.i x.r.e else (Rd.mk x.r.b x.r.i x.r.e).fail (numE (Rd.mk x.r.b x.r.i x.r.e).left (wr IntKind.u64
 (max (0:Int) x.n)))).i (if numE (Rd.mk x.r.b x.r.i x.r.e).left (wr IntKind.u64 (max (0:Int) x.n))=(0:Int) then Rd.mk x.r.b x.r.i x.r.e else
 (Rd.mk x.r.b x.r.i x.r.e).fail (numE (Rd.mk x.r.b x.r.i x.r.e).left (wr IntKind.u64 (max (0:Int) x.n)))).e).Ok∧((↑(Rd.mk (if numE (Rd.mk x.r.b
 x.r.i x.r.e).left (wr IntKind.u64 (max (0:Int) x.n))=(0:Int) then Rd.mk x.r.b x.r.i x.r.e else (Rd.mk x.r.b x.r.i x.r.e).fail (numE (Rd.mk x.r.b
 x.r.i x.r.e).left (wr IntKind.u64 (max (0:Int) x.n)))).b (if numE (Rd.mk x.r.b x.r.i x.r.e).left (wr IntKind.u64 (max (0:Int) x.n))=(0:Int)
 then Rd.mk x.r.b x.r.i x.r.e else (Rd.mk x.r.b x.r.i x.r.e).fail (numE (Rd.mk x.r.b x.r.i x.r.e).left (wr IntKind.u64 (max (0:Int) x.n)))).i (if numE
 (Rd.mk x.r.b x.r.i x.r.e).left (wr IntKind.u64 (max (0:Int) x.n))=(0:Int) then Rd.mk x.r.b x.r.i x.r.e else (Rd.mk x.r.b x.r.i x.r.e).fail (numE
 (Rd.mk x.r.b x.r.i x.r.e).left (wr IntKind.u64 (max (0:Int) x.n)))).e).left.length:Int)≤(9223372036854775807:Int)→inI64 ((↑(Rd.mk (if numE
 (Rd.mk x.r.b x.r.i x.r.e).left (wr IntKind.u64 (max (0:Int) x.n))=(0:Int) then Rd.mk x.r.b x.r.i x.r.e else (Rd.mk x.r.b x.r.i x.r.e).fail (numE
 (Rd.mk x.r.b x.r.i x.r.e).left (wr IntKind.u64 (max (0:Int) x.n)))).b (if numE (Rd.mk x.r.b x.r.i x.r.e).left (wr IntKind.u64 (max (0:Int) x.n)) =
 (0:Int) then Rd.mk x.r.b x.r.i x.r.e else (Rd.mk x.r.b x.r.i x.r.e).fail (numE (Rd.mk x.r.b x.r.i x.r.e).left (wr IntKind.u64 (max (0:Int)
 x.n)))).i (if numE (Rd.mk x.r.b x.r.i x.r.e).left (wr IntKind.u64 (max (0:Int) x.n))=(0:Int) then Rd.mk x.r.b x.r.i x.r.e else (Rd.mk x.r.b x.r.i
 x.r.e).fail (numE (Rd.mk x.r.b x.r.i x.r.e).left (wr IntKind.u64 (max (0:Int) x.n)))).e).left.length:Int)-if numE (Rd.mk x.r.b x.r.i x.r.e).left
 (wr IntKind.u64 (max (0:Int) x.n))=(0:Int) then numW (Rd.mk x.r.b x.r.i x.r.e).left else (0:Int))∧(decide ((if numE (Rd.mk x.r.b x.r.i
 x.r.e).left (wr IntKind.u64 (max (0:Int) x.n))=(0:Int) then numV (Rd.mk x.r.b x.r.i x.r.e).left else (0:Int))>wr IntKind.u64 ((↑(Rd.mk (if
 numE (Rd.mk x.r.b x.r.i x.r.e).left (wr IntKind.u64 (max (0:Int) x.n))=(0:Int) then Rd.mk x.r.b x.r.i x.r.e else (Rd.mk x.r.b x.r.i x.r.e).fail
 (numE (Rd.mk x.r.b x.r.i x.r.e).left (wr IntKind.u64 (max (0:Int) x.n)))).b (if numE (Rd.mk x.r.b x.r.i x.r.e).left (wr IntKind.u64 (max (0:Int)
 x.n))=(0:Int) then Rd.mk x.r.b x.r.i x.r.e else (Rd.mk x.r.b x.r.i x.r.e).fail (numE (Rd.mk x.r.b x.r.i x.r.e).left (wr IntKind.u64 (max (0:Int)
 x.n)))).i (if numE (Rd.mk x.r.b x.r.i x.r.e).left (wr IntKind.u64 (max (0:Int) x.n))=(0:Int) then Rd.mk x.r.b x.r.i x.r.e else (Rd.mk x.r.b x.r.i
 x.r.e).fail (numE (Rd.mk x.r.b x.r.i x.r.e).left (wr IntKind.u64 (max (0:Int) x.n)))).e).left.length:Int)-if numE (Rd.mk x.r.b x.r.i x.r.e).left
 (wr IntKind.u64 (max (0:Int) x.n))=(0:Int) then numW (Rd.mk x.r.b x.r.i x.r.e).left else (0:Int)))=true→(True∧(2:Int)=(2:Int)∧(2
 : Int)≠(0:Int))∧(((if numE (Rd.mk x.r.b x.r.i x.r.e).left (wr IntKind.u64 (max (0:Int) x.n))=(0:Int) then Rd.mk x.r.b x.r.i x.r.e else
 (Rd.mk x.r.b x.r.i x.r.e).fail (numE (Rd.mk x.r.b x.r.i x.r.e).left (wr IntKind.u64 (max (0:Int) x.n)))).b=(if numE (Rd.mk x.r.b x.r.i x.r.e).left
 (wr IntKind.u64 (max (0:Int) x.n))=(0:Int) then Rd.mk x.r.b x.r.i x.r.e else (Rd.mk x.r.b x.r.i x.r.e).fail (numE (Rd.mk x.r.b x.r.i x.r.e).left
 (wr IntKind.u64 (max (0:Int) x.n)))).b∧(if numE (Rd.mk x.r.b x.r.i x.r.e).left (wr IntKind.u64 (max (0:Int) x.n))=(0:Int) then Rd.mk x.r.b
 x.r.i x.r.e else (Rd.mk x.r.b x.r.i x.r.e).fail (numE (Rd.mk x.r.b x.r.i x.r.e).left (wr IntKind.u64 (max (0:Int) x.n)))).i=(if numE (Rd.mk x.r.b
 x.r.i x.r.e).left (wr IntKind.u64 (max (0:Int) x.n))=(0:Int) then Rd.mk x.r.b x.r.i x.r.e else (Rd.mk x.r.b x.r.i x.r.e).fail (numE (Rd.mk x.r.b
 x.r.i x.r.e).left (wr IntKind.u64 (max (0:Int) x.n)))).i∧(if numE (Rd.mk x.r.b x.r.i x.r.e).left (wr IntKind.u64 (max (0:Int) x.n))=(0:Int)
 then Rd.mk x.r.b x.r.i x.r.e else (Rd.mk x.r.b x.r.i x.r.e).fail (numE (Rd.mk x.r.b x.r.i x.r.e).left (wr IntKind.u64 (max (0:Int) x.n)))).e=(if
 numE (Rd.mk x.r.b x.r.i x.r.e).left (wr IntKind.u64 (max (0:Int) x.n))=(0:Int) then Rd.mk x.r.b x.r.i x.r.e else (Rd.mk x.r.b x.r.i x.r.e).fail
 (numE (Rd.mk x.r.b x.r.i x.r.e).left (wr IntKind.u64 (max (0:Int) x.n)))).e∧True)∧True)∧True∧(countR x.r x.n).fst=(0:Int)∧(((countR x.r
 x.n).snd.b=(if numE (Rd.mk x.r.b x.r.i x.r.e).left (wr IntKind.u64 (max (0:Int) x.n))=(0:Int) then Rd.mk x.r.b x.r.i x.r.e else (Rd.mk x.r.b
 x.r.i x.r.e).fail (numE (Rd.mk x.r.b x.r.i x.r.e).left (wr IntKind.u64 (max (0:Int) x.n)))).b∧(countR x.r x.n).snd.i=(if numE (Rd.mk x.r.b x.r.i
 x.r.e).left (wr IntKind.u64 (max (0:Int) x.n))=(0:Int) then Rd.mk x.r.b x.r.i x.r.e else (Rd.mk x.r.b x.r.i x.r.e).fail (numE (Rd.mk x.r.b x.r.i
 x.r.e).left (wr IntKind.u64 (max (0:Int) x.n)))).i∧((countR x.r x.n).snd.e=if (if numE (Rd.mk x.r.b x.r.i x.r.e).left (wr IntKind.u64 (max (0 :
 Int) x.n))=(0:Int) then Rd.mk x.r.b x.r.i x.r.e else (Rd.mk x.r.b x.r.i x.r.e).fail (numE (Rd.mk x.r.b x.r.i x.r.e).left (wr IntKind.u64 (max (0 :
 Int) x.n)))).e=(0:Int) then (2:Int) else (if numE (Rd.mk x.r.b x.r.i x.r.e).left (wr IntKind.u64 (max (0:Int) x.n))=(0:Int) then Rd.mk
 x.r.b x.r.i x.r.e else (Rd.mk x.r.b x.r.i x.r.e).fail (numE (Rd.mk x.r.b x.r.i x.r.e).left (wr IntKind.u64 (max (0:Int) x.n)))).e)∧True)∧True) ∧
 True)∧(decide ((if numE (Rd.mk x.r.b x.r.i x.r.e).left (wr IntKind.u64 (max (0:Int) x.n))=(0:Int) then numV (Rd.mk x.r.b x.r.i x.r.e).left else
 (0:Int))>wr IntKind.u64 ((↑(Rd.mk (if numE (Rd.mk x.r.b x.r.i x.r.e).left (wr IntKind.u64 (max (0:Int) x.n))=(0:Int) then Rd.mk x.r.b x.r.i
 x.r.e else (Rd.mk x.r.b x.r.i x.r.e).fail (numE (Rd.mk x.r.b x.r.i x.r.e).left (wr IntKind.u64 (max (0:Int) x.n)))).b (if numE (Rd.mk x.r.b x.r.i
 x.r.e).left (wr IntKind.u64 (max (0:Int) x.n))=(0:Int) then Rd.mk x.r.b x.r.i x.r.e else (Rd.mk x.r.b x.r.i x.r.e).fail (numE (Rd.mk x.r.b x.r.i
 x.r.e).left (wr IntKind.u64 (max (0:Int) x.n)))).i (if numE (Rd.mk x.r.b x.r.i x.r.e).left (wr IntKind.u64 (max (0:Int) x.n))=(0:Int) then
 Rd.mk x.r.b x.r.i x.r.e else (Rd.mk x.r.b x.r.i x.r.e).fail (numE (Rd.mk x.r.b x.r.i x.r.e).left (wr IntKind.u64 (max (0:Int) x.n)))).e).left.length
 : Int)-if numE (Rd.mk x.r.b x.r.i x.r.e).left (wr IntKind.u64 (max (0:Int) x.n))=(0:Int) then numW (Rd.mk x.r.b x.r.i x.r.e).left else (0 :
 Int)))=false→inI64 ((if numE (Rd.mk x.r.b x.r.i x.r.e).left (wr IntKind.u64 (max (0:Int) x.n))=(0:Int) then Rd.mk x.r.b x.r.i x.r.e else
 (Rd.mk x.r.b x.r.i x.r.e).fail (numE (Rd.mk x.r.b x.r.i x.r.e).left (wr IntKind.u64 (max (0:Int) x.n)))).i+if numE (Rd.mk x.r.b x.r.i x.r.e).left
 (wr IntKind.u64 (max (0:Int) x.n))=(0:Int) then numW (Rd.mk x.r.b x.r.i x.r.e).left else (0:Int))∧(countR x.r x.n).fst=wr IntKind.i64 (if
 numE (Rd.mk x.r.b x.r.i x.r.e).left (wr IntKind.u64 (max (0:Int) x.n))=(0:Int) then numV (Rd.mk x.r.b x.r.i x.r.e).left else (0:Int)) ∧
 (((countR x.r x.n).snd.b=(if numE (Rd.mk x.r.b x.r.i x.r.e).left (wr IntKind.u64 (max (0:Int) x.n))=(0:Int) then Rd.mk x.r.b x.r.i x.r.e else
 (Rd.mk x.r.b x.r.i x.r.e).fail (numE (Rd.mk x.r.b x.r.i x.r.e).left (wr IntKind.u64 (max (0:Int) x.n)))).b∧((countR x.r x.n).snd.i=(if numE
 (Rd.mk x.r.b x.r.i x.r.e).left (wr IntKind.u64 (max (0:Int) x.n))=(0:Int) then Rd.mk x.r.b x.r.i x.r.e else (Rd.mk x.r.b x.r.i x.r.e).fail (numE
 (Rd.mk x.r.b x.r.i x.r.e).left (wr IntKind.u64 (max (0:Int) x.n)))).i+if numE (Rd.mk x.r.b x.r.i x.r.e).left (wr IntKind.u64 (max (0:Int) x.n)) =
 (0:Int) then numW (Rd.mk x.r.b x.r.i x.r.e).left else (0:Int))∧(countR x.r x.n).snd.e=(if numE (Rd.mk x.r.b x.r.i x.r.e).left (wr IntKind.u64
 (max (0:Int) x.n))=(0:Int) then Rd.mk x.r.b x.r.i x.r.e else (Rd.mk x.r.b x.r.i x.r.e).fail (numE (Rd.mk x.r.b x.r.i x.r.e).left (wr IntKind.u64
 (max (0:Int) x.n)))).e∧True)∧True)∧True)))∧(decide (numE (Rd.mk x.r.b x.r.i x.r.e).left (wr IntKind.u64 (max (0:Int) x.n))=(0:Int)) =
 false→(countR x.r x.n).fst=wr IntKind.i64 (if numE (Rd.mk x.r.b x.r.i x.r.e).left (wr IntKind.u64 (max (0:Int) x.n))=(0:Int) then numV (Rd.mk
 x.r.b x.r.i x.r.e).left else (0:Int))∧(((countR x.r x.n).snd.b=(if numE (Rd.mk x.r.b x.r.i x.r.e).left (wr IntKind.u64 (max (0:Int) x.n))=(0
 : Int) then Rd.mk x.r.b x.r.i x.r.e else (Rd.mk x.r.b x.r.i x.r.e).fail (numE (Rd.mk x.r.b x.r.i x.r.e).left (wr IntKind.u64 (max (0:Int) x.n)))).b ∧
 (countR x.r x.n).snd.i=(if numE (Rd.mk x.r.b x.r.i x.r.e).left (wr IntKind.u64 (max (0:Int) x.n))=(0:Int) then Rd.mk x.r.b x.r.i x.r.e else
 (Rd.mk x.r.b x.r.i x.r.e).fail (numE (Rd.mk x.r.b x.r.i x.r.e).left (wr IntKind.u64 (max (0:Int) x.n)))).i∧(countR x.r x.n).snd.e=(if numE (Rd.mk
 x.r.b x.r.i x.r.e).left (wr IntKind.u64 (max (0:Int) x.n))=(0:Int) then Rd.mk x.r.b x.r.i x.r.e else (Rd.mk x.r.b x.r.i x.r.e).fail (numE (Rd.mk
 x.r.b x.r.i x.r.e).left (wr IntKind.u64 (max (0:Int) x.n)))).e∧True)∧True)∧True))
theorem count_eq:countVC=fnS F125 f49 (bodyOf f49) countLS noAnn:=by kernel_rfl
theorem count_vc:countVC:=by
 rintro ⟨⟨b,i,e⟩,m⟩ hx
 have hr:=hx.r
 have hm:=hx.lo
 have hm2:=hx.hi
 simp only at hr hm hm2
 have hw:wr .u64 (max 0 m)=m:=by rw [Int.max_eq_right hm,wr64u]; omega
 have hok:(RdN.mk (Rd.mk b i e) m).Ok:=hx.toOk
 by_cases he:e=0
 ·subst he
  have hl:=left_len _ hr
  have nf:=num_facts hr (m:=m)
  have hlen:=hr.len
  have hlo:=hr.lo
  simp only at hl hlen hlo
  by_cases hz:numE (Rd.mk b i 0).left m=0
  ·have:=nf hz
   have hi:inI64 (i+numW (Rd.mk b i 0).left):=by unfold inI64; omega
   have hi2:inI64 (((Rd.mk b i 0).left.length:Int)-numW (Rd.mk b i 0).left):=by unfold inI64; omega
   have hw2:wr .u64 (((Rd.mk b i 0).left.length:Int)-numW (Rd.mk b i 0).left)=((Rd.mk b i 0).left.length:Int)-numW (Rd.mk b i 0).left:=by rw [wr64u]; omega
   have hw3:wr .i64 (numV (Rd.mk b i 0).left)=numV (Rd.mk b i 0).left:=wr64 (by unfold inI64; omega)
   by_cases hc:numV (Rd.mk b i 0).left>((Rd.mk b i 0).left.length:Int)-numW (Rd.mk b i 0).left
   ·simp [countR,hz,hw,hok,hi,hi2,hw2,hw3,hc,hr]
   ·simp [countR,hz,hw,hok,hi,hi2,hw2,hw3,hc,hr]
  ·have h0:wr .i64 0=0:=by decide
   simp [countR,hz,hw,hok,Rd.fail,h0]
 ·simp [countR,he]
theorem count_ok:Fits F125 f49 (bodyOf f49) countLS noAnn:=by
 constructor
 rw [← count_eq]
 exact count_vc
theorem f77_has:Has prog 49 f49 (bodyOf f49):=⟨by kernel_rfl,by kernel_rfl,by kernel_rfl⟩
theorem known126:Known prog L126:=by
 unfold L126
 exact known125.lent mixed f77_has F125_eq count_ok (fun _ _=>Nat.le_refl _) (fun h=>by cases h)
def rdHashVC:Prop:=∀ (x:Rd),x.Ok→True∧((x.b=x.b∧x.i=x.i∧x.e=x.e∧True)∧True)∧True∧(decide (x.e≠(0:Int))=true→((hashR x).fst =
 List.replicate (32:Nat) (0:Int)∧True)∧(((hashR x).snd.b=x.b∧(hashR x).snd.i=x.i∧(hashR x).snd.e=x.e∧True)∧True)∧True)∧(decide
 (x.e≠(0:Int))=false→True∧((x.b=x.b∧x.i=x.i∧x.e=x.e∧True)∧True)∧(Rd.mk x.b x.i x.e).Ok∧((↑(Rd.mk x.b x.i x.e).left.length :
 Int)≤(9223372036854775807:Int)→(decide ((↑(Rd.mk x.b x.i x.e).left.length:Int)<(32:Int))=true→(True∧(12:Int)=(12:Int)∧(12 :
 Int)≠(0:Int))∧((x.b=x.b∧x.i=x.i∧x.e=x.e∧True)∧True)∧True∧((hashR x).fst=List.replicate (32:Nat) (0:Int)∧True) ∧
 (((hashR x).snd.b=x.b∧(hashR x).snd.i=x.i∧((hashR x).snd.e=if x.e=(0:Int) then (12:Int) else x.e)∧True)∧True)∧True)∧(decide
 ((↑(Rd.mk x.b x.i x.e).left.length:Int)<(32:Int))=false→(True∧((x.b=x.b∧x.i=x.i∧x.e=x.e∧True)∧True)∧(Rd.mk x.b x.i x.e).Ok
 ∧ inI64 (x.i+(↑(min (Rd.mk x.b x.i x.e).left.length (nat_lit 31+(1:Nat))):Int))∧((hashR x).fst=copyInts (List.replicate (32:Nat) (0 :
 Int)) (Rd.mk x.b x.i x.e).left∧True)∧(((hashR x).snd.b=x.b∧(hashR x).snd.i=x.i+(↑(min (Rd.mk x.b x.i x.e).left.length (nat_lit 31+(1 :
 Nat))):Int)∧(hashR x).snd.e=x.e∧True)∧True)∧True)∧True∧((x.b=x.b∧x.i=x.i∧x.e=x.e∧True)∧True)∧(Rd.mk x.b x.i x.e).Ok ∧
 (inI64 (x.i+(↑(min (Rd.mk x.b x.i x.e).left.length (nat_lit 31+(1:Nat))):Int))∧((hashR x).fst=copyInts (List.replicate (32:Nat) (0 :
 Int)) (Rd.mk x.b x.i x.e).left∧True)∧(((hashR x).snd.b=x.b∧(hashR x).snd.i=x.i+(↑(min (Rd.mk x.b x.i x.e).left.length (nat_lit 31+(1 :
 Nat))):Int)∧(hashR x).snd.e=x.e∧True)∧True)∧True)∧inI64 (x.i+(↑(min (Rd.mk x.b x.i x.e).left.length (nat_lit 31+(1:Nat))):Int)) ∧
 ((hashR x).fst=copyInts (List.replicate (32:Nat) (0:Int)) (Rd.mk x.b x.i x.e).left∧True)∧(((hashR x).snd.b=x.b∧(hashR x).snd.i=x.i +
 (↑(min (Rd.mk x.b x.i x.e).left.length (nat_lit 31+(1:Nat))):Int)∧(hashR x).snd.e=x.e∧True)∧True)∧True)))
theorem rdHash_eq:rdHashVC=fnS F126 f51 (bodyOf f51) rHashLS2 noAnn:=by kernel_rfl
theorem rdHash_vc:rdHashVC:=by
 rintro ⟨b,i,e⟩ hr
 by_cases he:e=0
 ·subst he
  have hl:=left_len _ hr
  have hlen:=hr.len
  have hlo:=hr.lo
  simp only at hl hlen hlo
  by_cases hz:(Rd.mk b i 0).left.length<32
  ·simp [hashR,hz,hr]
   try omega
  ·have hm:min (Rd.mk b i 0).left.length 32=32:=by omega
   have hc:copyInts (List.replicate 32 0) (Rd.mk b i 0).left=(Rd.mk b i 0).left.take 32:=by
    unfold copyInts
    rw [List.length_replicate,List.drop_of_length_le (by rw [List.length_replicate]; omega),List.append_nil]
   have hi:inI64 (i+32):=by unfold inI64; omega
   simp [hashR,hz,hr,hm,hi]
   exact fun _=>⟨by omega,fun _=>hc.symm⟩
 ·simp [hashR,he]
theorem rdHash_ok:Fits F126 f51 (bodyOf f51) rHashLS2 noAnn:=by
 constructor
 rw [← rdHash_eq]
 exact rdHash_vc
theorem f79_has:Has prog 51 f51 (bodyOf f51):=⟨by kernel_rfl,by kernel_rfl,by kernel_rfl⟩
theorem known127:Known prog L127:=by
 unfold L127
 exact known126.lent mixed f79_has F126_eq rdHash_ok (fun _ _=>Nat.le_refl _) (fun h=>by cases h)
def rdDoneVC:Prop:=∀ (x:Rd),True→((!x.e==(0:Int))=true→doneR x=x.e∧((x.b=x.b∧x.i=x.i∧x.e=x.e∧True)∧True)∧True)∧((!x.e==(0:Int)) =
 false→(x.b.length:Int)≤(9223372036854775807:Int)→(decide (x.i<(x.b.length:Int))=true→(doneR x=(3:Int)∧(3:Int)≠(0:Int))
 ∧ ((x.b=x.b∧x.i=x.i∧x.e=x.e∧True)∧True)∧True)∧(decide (x.i<(x.b.length:Int))=false→doneR x=(0:Int)∧((x.b=x.b∧x.i =
 x.i∧x.e=x.e∧True)∧True)∧True))
theorem rdDone_eq:rdDoneVC=fnS F127 f52 (bodyOf f52) rDoneLS noAnn:=by kernel_rfl
theorem rdDone_vc:rdDoneVC:=by
 rintro ⟨b,i,e⟩ _
 by_cases he:e=0
 ·subst he
  by_cases hz:i<b.length
  ·simp [doneR,hz]
  ·simp [doneR,hz]
 ·simp [doneR,he]
theorem rdDone_ok:Fits F127 f52 (bodyOf f52) rDoneLS noAnn:=by
 constructor
 rw [← rdDone_eq]
 exact rdDone_vc
theorem f80_has:Has prog 52 f52 (bodyOf f52):=⟨by kernel_rfl,by kernel_rfl,by kernel_rfl⟩
theorem known128:Known prog L128:=by
 unfold L128
 exact known127.lent mixed f80_has F127_eq rdDone_ok (fun _ _=>Nat.le_refl _) (fun h=>by cases h)
def readVC:Prop:=∀ (x:List Int),True→True∧True∧(x=x∧(0:Int)=(0:Int)∧(0:Int)=(0:Int)∧True)∧True
theorem read_eq:readVC=fnS F128 f48 (bodyOf f48) readLS noAnn:=by kernel_rfl
theorem read_vc:readVC:=fun _ _=>⟨trivial,trivial,⟨rfl,rfl,rfl,trivial⟩,trivial⟩
theorem read_ok:Fits F128 f48 (bodyOf f48) readLS noAnn:=by
 constructor
 rw [← read_eq]
 exact read_vc
theorem f76_has:Has prog 48 f48 (bodyOf f48):=⟨by kernel_rfl,by kernel_rfl,by kernel_rfl⟩
theorem known129:Known prog L129:=by
 unfold L129
 exact known128.lent mixed f76_has F128_eq read_ok (fun _ _=>Nat.zero_le _) (fun _ _=>rfl)
end Go.Proofs.YtcglahfmnoghjaaGreatDoor

/-! A condition of bytes; two conditions the same; CondBack: what is said of them. Conditions: none. -/
namespace Go.Proofs.YtcglahfmnoghjaaGreatDoor
open Go Go.Eng Go.Proofs.Tryz
structure DecIn (b:List Int):Prop where
 byt:∀ y,y∈b→0≤y∧y<256
 len:b.length≤1000000000000
noncomputable def decLS:LS AA where
 X:=List Int
 pre:=DecIn
 args:=fun b=>[.rints .u8 b]
 hin:=fun _=>[]
 res:=fun b=>[.agg (.cell (.rseq 102 (show List (AA 102) from decB b)) .nil),.err 111 (decE b)]
 hout:=fun _=>[]
def decAnn (b:List Int):Anns AA:=fun k ts sh=>if k=5 then some {
  X:=Nat
  inv:=fun i=>(i:Int)≤(countR ⟨b,0,0⟩ 8).1
  meas:=fun i=>(countR ⟨b,0,0⟩ 8).1.toNat-i
  slots:=fun i=>[(11,.int .i64 i)]
  heap:=fun i=>[(1,rcell (dBrs i (countR ⟨b,0,0⟩ 8).2).2),(2,.cells 55 (.cell (.vec (cnt sh)) .nil))]
  more:=fun i=>[.svec 102 (show List (AA 102) from (dBrs i (countR ⟨b,0,0⟩ 8).2).1)] }
 else (match nth ts 6,nth ts 14,rdOf sh (.ptr 1 0) with
  | some (.ptr j _),some (.int _ n),some r=>(match nth sh j with
   | some (.cells t (.cell _ rest))=>some {
    X:=Nat
    inv:=fun i=>(i:Int)≤n
    meas:=fun i=>n.toNat-i
    slots:=fun i=>[(15,.int .i64 i)]
    heap:=fun i=>[(1,rcell (dKeys i r).2),(j,.cells t (.cell (.vec (cnt sh)) rest))]
    more:=fun i=>[.ivec 3 .i64 (dKeys i r).1] }
   | _=>none)
  | _,_,_=>none)
def L130:List (Nat×SpecT AA):=(21,tLent decLS bytesGet1)::L129
noncomputable def F130:Eng AA:=EF prog L130
theorem F130_eq:F130=EF prog L130:=by
 unfold F130
 rfl
def bEqLS:LS AA where
 X:=List Int×List Int
 pre:=fun _=>True
 args:=fun x=>[.rints .u8 x.1,.rints .u8 x.2]
 hin:=fun _=>[]
 res:=fun x=>[.sb 0 ((strOfNums x.1).toList==(strOfNums x.2).toList)]
 hout:=fun _=>[]
def bytesGet2 (args:List (SV AA)) (sh:List (SO AA)):Option (List Int×List Int):=match args with
 | [s,t]=>match gI .u8 sh s,gI .u8 sh t with
  | some a,some b=>some (a,b)
  | _,_=>none
 | _=>none
def L131:List (Nat×SpecT AA):=(66,tLent bEqLS bytesGet2)::L130
noncomputable def F131:Eng AA:=EF prog L131
theorem F131_eq:F131=EF prog L131:=by
 unfold F131
 rfl
structure SamIn (x:List Br×List Br):Prop where
 w1:weight x.1≤2000000
 l1:Locks x.1
 w2:weight x.2≤2000000
 l2:Locks x.2
def samLS:LS AA where
 X:=List Br×List Br
 pre:=SamIn
 args:=fun x=>[.agg (.cell (.rseq 102 (show List (AA 102) from x.1)) .nil),.agg (.cell (.rseq 102 (show List (AA 102) from x.2)) .nil)]
 hin:=fun _=>[]
 res:=fun x=>[.sb 0 ((strOfNums (putB x.1)).toList==(strOfNums (putB x.2)).toList)]
 hout:=fun _=>[]
def condGet2 (args:List (SV AA)) (sh:List (SO AA)):Option (List Br×List Br):=match args with
 | [c,d]=>match condG 102 sh c,condG 102 sh d with
  | some a,some b=>some (a,b)
  | _,_=>none
 | _=>none
def L132:List (Nat×SpecT AA):=(28,tLent samLS condGet2)::L131
end Go.Proofs.YtcglahfmnoghjaaGreatDoor

/-! A condition of bytes: the walks. Conditions: none. -/
namespace Go.Proofs.YtcglahfmnoghjaaGreatDoor
open Go Go.Eng Go.Proofs.Tryz
theorem uintR_ok {r:Rd} (h:r.Ok) {m:Int} (hm:0≤m):(uintR r m).2.Ok∧0≤(uintR r m).1∧(uintR r m).1≤m:=by
 unfold uintR
 split
 ·exact ⟨h,by show (0:Int)≤0; omega,hm⟩
 split
 ·exact ⟨⟨h.byt,h.lo,h.hi,h.len⟩,by show (0:Int)≤0; omega,hm⟩
 rename_i h1 h2
 have nf:=num_facts h (m:=m) (Classical.not_not.1 h2)
 have hl:=left_len r h
 have:=h.lo
 exact ⟨⟨h.byt,by show 0≤r.i+numW r.left; omega,by show r.i+numW r.left≤r.b.length; omega,h.len⟩,nf.1,nf.2.1⟩
theorem countR_ok {r:Rd} (h:r.Ok) {m:Int} (hm:0≤m):(countR r m).2.Ok∧0≤(countR r m).1∧(countR r m).1≤m:=by
 unfold countR
 split
 ·exact ⟨h,by show (0:Int)≤0; omega,hm⟩
 split
 ·exact ⟨⟨h.byt,h.lo,h.hi,h.len⟩,by show (0:Int)≤0; omega,hm⟩
 rename_i h1 h2
 have nf:=num_facts h (m:=m) (Classical.not_not.1 h2)
 have hl:=left_len r h
 have:=h.lo
 split
 ·exact ⟨⟨h.byt,h.lo,h.hi,h.len⟩,by show (0:Int)≤0; omega,hm⟩
 exact ⟨⟨h.byt,by show 0≤r.i+numW r.left; omega,by show r.i+numW r.left≤r.b.length; omega,h.len⟩,nf.1,nf.2.1⟩
theorem hashR_ok {r:Rd} (h:r.Ok):(hashR r).2.Ok∧(hashR r).1.length=32:=by
 unfold hashR
 split
 ·exact ⟨h,by simp⟩
 split
 ·exact ⟨⟨h.byt,h.lo,h.hi,h.len⟩,by simp⟩
 have hl:=left_len r h
 have:=h.lo
 exact ⟨⟨h.byt,by show 0≤r.i+32; omega,by show r.i+32≤r.b.length; omega,h.len⟩,by
  show (r.left.take 32).length=32
  rw [List.length_take]; omega⟩
theorem keysR_ok {r:Rd} (h:r.Ok):∀ k,(dKeys k r).2.Ok∧(dKeys k r).1.length=k
 | 0=>⟨h,rfl⟩
 | k+1=>by
  obtain ⟨h1,h2⟩:=keysR_ok h k
  refine ⟨(uintR_ok h1 (m:=16) (by omega)).1,?_⟩
  show ((dKeys k r).1++[(uintR (dKeys k r).2 16).1]).length=k+1
  rw [List.length_append,h2]
  rfl
theorem kR_ok {r:Rd} (h:r.Ok):(dK r).2.Ok∧(dK r).1.length≤16:=by
 obtain ⟨h1,h2,h3⟩:=countR_ok h (m:=16) (by omega)
 obtain ⟨h4,h5⟩:=keysR_ok h1 (countR r 16).1.toNat
 refine ⟨h4,?_⟩
 show (dKeys (countR r 16).1.toNat (countR r 16).2).1.length≤16
 omega
theorem hR_ok {r:Rd} (h:r.Ok):(dH r).2.Ok∧(dH r).1.length=32:=hashR_ok (kR_ok h).1
theorem aR_ok {r:Rd} (h:r.Ok):(dA r).2.Ok∧0≤(dA r).1∧(dA r).1≤1099511627776:=uintR_ok (hR_ok h).1 (by omega)
theorem oR_ok {r:Rd} (h:r.Ok):(dO r).2.Ok∧0≤(dO r).1∧(dO r).1≤65536:=uintR_ok (aR_ok h).1 (by omega)
theorem brsR_ok {r:Rd} (h:r.Ok):∀ k,(dBrs k r).2.Ok∧(dBrs k r).1.length=k
 | 0=>⟨h,rfl⟩
 | k+1=>by
  obtain ⟨h1,h2⟩:=brsR_ok h k
  refine ⟨(oR_ok h1).1,?_⟩
  show ((dBrs k r).1++[(dBr (dBrs k r).2).1]).length=k+1
  rw [List.length_append,h2]
  rfl
theorem both {P:Prop} (h:P):P∧P:=⟨h,h⟩
theorem wr_small {x m:Int} (h:0≤x∧x≤m) (hm:m≤4503599627370496):wr .i64 x=x:=wr64 (by unfold inI64; omega)
end Go.Proofs.YtcglahfmnoghjaaGreatDoor

/-! A condition of bytes; CondBack: the walks. Conditions: none. -/
namespace Go.Proofs.YtcglahfmnoghjaaGreatDoor
open Go Go.Eng Go.Proofs.Tryz
def decVC:Prop:=∀ (x:List Int),DecIn x→x=x∧True∧True∧(True∧(8:Int)=(8:Int))∧((x=x∧(0:Int)=(0:Int)∧(0:Int)=(0:Int)∧True) ∧
 True)∧(RdN.mk (Rd.mk x (0:Int) (0:Int)) (8:Int)).Few∧(∃ (x_1:Nat),((countR (Rd.mk x (0:Int) (0:Int)) (8:Int)).fst-(↑x_1 :
 Int)).NonNeg∧(x_1:Int)=(0:Int)∧(((SV.val (A:=AA) (Value.slice none (0:Nat) (0:Nat)):SV AA)=SV.val (A:=AA) (Value.slice none (0 :
 Nat) (0:Nat))∧True)∧((dBrs x_1 (countR (Rd.mk x (0:Int) (0:Int)) (8:Int)).snd).snd.b=(countR (Rd.mk x (0:Int) (0:Int)) (8 :
 Int)).snd.b∧(dBrs x_1 (countR (Rd.mk x (0:Int) (0:Int)) (8:Int)).snd).snd.i=(countR (Rd.mk x (0:Int) (0:Int)) (8:Int)).snd.i∧(dBrs
 x_1 (countR (Rd.mk x (0:Int) (0:Int)) (8:Int)).snd).snd.e=(countR (Rd.mk x (0:Int) (0:Int)) (8:Int)).snd.e∧True)∧((SV.val (A:=AA)
 (Value.slice none (0:Nat) (0:Nat)):SV AA)=SV.val (A:=AA) (Value.slice none (0:Nat) (0:Nat))∧True)∧True)∧(dBrs x_1 (countR (Rd.mk x
 (0:Int) (0:Int)) (8:Int)).snd).fst=[]∧True)∧∀ (x_1:Nat),((countR (Rd.mk x (0:Int) (0:Int)) (8:Int)).fst-(x_1:Int)).NonNeg →
 (decide ((x_1:Int)<(countR (Rd.mk x (0:Int) (0:Int)) (8:Int)).fst)=true→(True∧(16:Int)=(16:Int))∧(((dBrs x_1 (countR (Rd.mk x
 (0:Int) (0:Int)) (8:Int)).snd).snd.b=(dBrs x_1 (countR (Rd.mk x (0:Int) (0:Int)) (8:Int)).snd).snd.b∧(dBrs x_1 (countR (Rd.mk x (0 :
 Int) (0:Int)) (8:Int)).snd).snd.i=(dBrs x_1 (countR (Rd.mk x (0:Int) (0:Int)) (8:Int)).snd).snd.i∧(dBrs x_1 (countR (Rd.mk x (0:Int) (0
 : Int)) (8:Int)).snd).snd.e=(dBrs x_1 (countR (Rd.mk x (0:Int) (0:Int)) (8:Int)).snd).snd.e∧True)∧True)∧(RdN.mk (dBrs x_1 (countR
 (Rd.mk x (0:Int) (0:Int)) (8:Int)).snd).snd (16:Int)).Few∧(∃ (x_2:Nat),((countR (dBrs x_1 (countR (Rd.mk x (0:Int) (0:Int)) (8 :
 Int)).snd).snd (16:Int)).fst-(x_2:Int)).NonNeg∧(x_2:Int)=(0:Int)∧(((SV.val (A:=AA) (Value.slice none (0:Nat) (0:Nat)):SV AA)
 = SV.val (A:=AA) (Value.slice none (0:Nat) (0:Nat))∧True)∧((dKeys x_2 (countR (dBrs x_1 (countR (Rd.mk x (0:Int) (0:Int)) (8 :
 Int)).snd).snd (16:Int)).snd).snd.b=(countR (dBrs x_1 (countR (Rd.mk x (0:Int) (0:Int)) (8:Int)).snd).snd (16:Int)).snd.b∧(dKeys x_2
 (countR (dBrs x_1 (countR (Rd.mk x (0:Int) (0:Int)) (8:Int)).snd).snd (16:Int)).snd).snd.i=(countR (dBrs x_1 (countR (Rd.mk x (0:Int) (0 :
 Int)) (8:Int)).snd).snd (16:Int)).snd.i∧(dKeys x_2 (countR (dBrs x_1 (countR (Rd.mk x (0:Int) (0:Int)) (8:Int)).snd).snd (16 :
 Int)).snd).snd.e=(countR (dBrs x_1 (countR (Rd.mk x (0:Int) (0:Int)) (8:Int)).snd).snd (16:Int)).snd.e∧True)∧(True∧True)∧(dBrs x_1
 (countR (Rd.mk x (0:Int) (0:Int)) (8:Int)).snd).fst=(dBrs x_1 (countR (Rd.mk x (0:Int) (0:Int)) (8:Int)).snd).fst∧((SV.val (A:=AA)
 (Value.slice none (0:Nat) (0:Nat)):SV AA)=SV.val (A:=AA) (Value.slice none (0:Nat) (0:Nat))∧List.replicate (32:Nat) (0:Int) =
 List.replicate (32:Nat) (0:Int)∧(0:Int)=(0:Int)∧(0:Int)=(0:Int)∧True)∧True)∧(dKeys x_2 (countR (dBrs x_1 (countR (Rd.mk x (0
 : Int) (0:Int)) (8:Int)).snd).snd (16:Int)).snd).fst=[]∧True)∧∀ (x_2:Nat),((countR (dBrs x_1 (countR (Rd.mk x (0:Int) (0:Int)) (8 :
 Int)).snd).snd (16:Int)).fst-(x_2:Int)).NonNeg→(decide ((x_2:Int)<(countR (dBrs x_1 (countR (Rd.mk x (0:Int) (0:Int)) (8 :
 Int)).snd).snd (16:Int)).fst)=true→((True∧(16:Int)=(16:Int))∧(((dKeys x_2 (countR (dBrs x_1 (countR (Rd.mk x (0:Int) (0:Int)) (8 :
 Int)).snd).snd (16:Int)).snd).snd.b=(dKeys x_2 (countR (dBrs x_1 (countR (Rd.mk x (0:Int) (0:Int)) (8:Int)).snd).snd (16:Int)).snd).snd.b ∧
 (dKeys x_2 (countR (dBrs x_1 (countR (Rd.mk x (0:Int) (0:Int)) (8:Int)).snd).snd (16:Int)).snd).snd.i=(dKeys x_2 (countR (dBrs x_1 (countR
 (Rd.mk x (0:Int) (0:Int)) (8:Int)).snd).snd (16:Int)).snd).snd.i∧(dKeys x_2 (countR (dBrs x_1 (countR (Rd.mk x (0:Int) (0:Int)) (8 :
 Int)).snd).snd (16:Int)).snd).snd.e=(dKeys x_2 (countR (dBrs x_1 (countR (Rd.mk x (0:Int) (0:Int)) (8:Int)).snd).snd (16:Int)).snd).snd.e ∧
 True)∧True)∧(RdN.mk (dKeys x_2 (countR (dBrs x_1 (countR (Rd.mk x (0:Int) (0:Int)) (8:Int)).snd).snd (16:Int)).snd).snd (16:Int)).Ok ∧
 ((dKeys x_2 (countR (dBrs x_1 (countR (Rd.mk x (0:Int) (0:Int)) (8:Int)).snd).snd (16:Int)).snd).fst.length+[wr IntKind.i64 (uintR (dKeys x_2
 (countR (dBrs x_1 (countR (Rd.mk x (0:Int) (0:Int)) (8:Int)).snd).snd (16:Int)).snd).snd (16:Int)).fst].length)*(8:Nat) ≤
 (140737488355328:Nat)∧(dKeys x_2 (countR (dBrs x_1 (countR (Rd.mk x (0:Int) (0:Int)) (8:Int)).snd).snd (16:Int)).snd).fst.length+[wr
 IntKind.i64 (uintR (dKeys x_2 (countR (dBrs x_1 (countR (Rd.mk x (0:Int) (0:Int)) (8:Int)).snd).snd (16:Int)).snd).snd (16:Int)).fst].length
 ≤ (1152921504606846976:Nat)∧inI64 ((x_2:Int)+(1:Int))∧∃ (y:Nat),((countR (dBrs x_1 (countR (Rd.mk x (0:Int) (0:Int)) (8 :
 Int)).snd).snd (16:Int)).fst-(y:Int)).NonNeg∧(countR (dBrs x_1 (countR (Rd.mk x (0:Int) (0:Int)) (8:Int)).snd).snd (16:Int)).fst.toNat
 - y<(countR (dBrs x_1 (countR (Rd.mk x (0:Int) (0:Int)) (8:Int)).snd).snd (16:Int)).fst.toNat-x_2∧(y:Int)=(x_2:Int)+(1:Int) ∧
 (((SV.val (A:=AA) (Value.slice none (0:Nat) (0:Nat)):SV AA)=SV.val (A:=AA) (Value.slice none (0:Nat) (0:Nat))∧True)∧((dKeys y
 (countR (dBrs x_1 (countR (Rd.mk x (0:Int) (0:Int)) (8:Int)).snd).snd (16:Int)).snd).snd.b=(uintR (dKeys x_2 (countR (dBrs x_1 (countR (Rd.mk
 x (0:Int) (0:Int)) (8:Int)).snd).snd (16:Int)).snd).snd (16:Int)).snd.b∧(dKeys y (countR (dBrs x_1 (countR (Rd.mk x (0:Int) (0:Int)) (8
 : Int)).snd).snd (16:Int)).snd).snd.i=(uintR (dKeys x_2 (countR (dBrs x_1 (countR (Rd.mk x (0:Int) (0:Int)) (8:Int)).snd).snd (16 :
 Int)).snd).snd (16:Int)).snd.i∧(dKeys y (countR (dBrs x_1 (countR (Rd.mk x (0:Int) (0:Int)) (8:Int)).snd).snd (16:Int)).snd).snd.e=(uintR
 (dKeys x_2 (countR (dBrs x_1 (countR (Rd.mk x (0:Int) (0:Int)) (8:Int)).snd).snd (16:Int)).snd).snd (16:Int)).snd.e∧True)∧(True∧True) ∧
 (dBrs x_1 (countR (Rd.mk x (0:Int) (0:Int)) (8:Int)).snd).fst=(dBrs x_1 (countR (Rd.mk x (0:Int) (0:Int)) (8:Int)).snd).fst∧(True ∧
 List.replicate (32:Nat) (0:Int)=List.replicate (32:Nat) (0:Int)∧(0:Int)=(0:Int)∧(0:Int)=(0:Int)∧True)∧True)∧(dKeys y
 (countR (dBrs x_1 (countR (Rd.mk x (0:Int) (0:Int)) (8:Int)).snd).snd (16:Int)).snd).fst=(dKeys x_2 (countR (dBrs x_1 (countR (Rd.mk x (0 :
 Int) (0:Int)) (8:Int)).snd).snd (16:Int)).snd).fst++[wr IntKind.i64 (uintR (dKeys x_2 (countR (dBrs x_1 (countR (Rd.mk x (0:Int) (0:Int))
 (8:Int)).snd).snd (16:Int)).snd).snd (16:Int)).fst]∧True)∧(True∧(16:Int)=(16:Int))∧(((dKeys x_2 (countR (dBrs x_1 (countR (Rd.mk x
 (0:Int) (0:Int)) (8:Int)).snd).snd (16:Int)).snd).snd.b=(dKeys x_2 (countR (dBrs x_1 (countR (Rd.mk x (0:Int) (0:Int)) (8 :
 Int)).snd).snd (16:Int)).snd).snd.b∧(dKeys x_2 (countR (dBrs x_1 (countR (Rd.mk x (0:Int) (0:Int)) (8:Int)).snd).snd (16:Int)).snd).snd.i =
 (dKeys x_2 (countR (dBrs x_1 (countR (Rd.mk x (0:Int) (0:Int)) (8:Int)).snd).snd (16:Int)).snd).snd.i∧(dKeys x_2 (countR (dBrs x_1 (countR
 (Rd.mk x (0:Int) (0:Int)) (8:Int)).snd).snd (16:Int)).snd).snd.e=(dKeys x_2 (countR (dBrs x_1 (countR (Rd.mk x (0:Int) (0:Int)) (8 :
 Int)).snd).snd (16:Int)).snd).snd.e∧True)∧True)∧(RdN.mk (dKeys x_2 (countR (dBrs x_1 (countR (Rd.mk x (0:Int) (0:Int)) (8:Int)).snd).snd
 (16:Int)).snd).snd (16:Int)).Ok∧((dKeys x_2 (countR (dBrs x_1 (countR (Rd.mk x (0:Int) (0:Int)) (8:Int)).snd).snd (16 :
 Int)).snd).fst.length+[wr IntKind.i64 (uintR (dKeys x_2 (countR (dBrs x_1 (countR (Rd.mk x (0:Int) (0:Int)) (8:Int)).snd).snd (16 :
 Int)).snd).snd (16:Int)).fst].length)*(8:Nat)≤(140737488355328:Nat)∧(dKeys x_2 (countR (dBrs x_1 (countR (Rd.mk x (0:Int) (0:Int)) (8 :
 Int)).snd).snd (16:Int)).snd).fst.length+[wr IntKind.i64 (uintR (dKeys x_2 (countR (dBrs x_1 (countR (Rd.mk x (0:Int) (0:Int)) (8 :
 Int)).snd).snd (16:Int)).snd).snd (16:Int)).fst].length≤(1152921504606846976:Nat)∧inI64 ((x_2:Int)+(1:Int))∧∃ (y:Nat),((countR
 (dBrs x_1 (countR (Rd.mk x (0:Int) (0:Int)) (8:Int)).snd).snd (16:Int)).fst-(y:Int)).NonNeg∧(countR (dBrs x_1 (countR (Rd.mk x (0:Int)
 (0:Int)) (8:Int)).snd).snd (16:Int)).fst.toNat-y<(countR (dBrs x_1 (countR (Rd.mk x (0:Int) (0:Int)) (8:Int)).snd).snd (16 :
 Int)).fst.toNat-x_2∧(y:Int)=(x_2:Int)+(1:Int)∧(((SV.val (A:=AA) (Value.slice none (0:Nat) (0:Nat)):SV AA)=SV.val (A:=AA)
 (Value.slice none (0:Nat) (0:Nat))∧True)∧((dKeys y (countR (dBrs x_1 (countR (Rd.mk x (0:Int) (0:Int)) (8:Int)).snd).snd (16 :
 Int)).snd).snd.b=(uintR (dKeys x_2 (countR (dBrs x_1 (countR (Rd.mk x (0:Int) (0:Int)) (8:Int)).snd).snd (16:Int)).snd).snd (16:Int)).snd.b
 ∧ (dKeys y (countR (dBrs x_1 (countR (Rd.mk x (0:Int) (0:Int)) (8:Int)).snd).snd (16:Int)).snd).snd.i=(uintR (dKeys x_2 (countR (dBrs x_1
 (countR (Rd.mk x (0:Int) (0:Int)) (8:Int)).snd).snd (16:Int)).snd).snd (16:Int)).snd.i∧(dKeys y (countR (dBrs x_1 (countR (Rd.mk x (0 :
 Int) (0:Int)) (8:Int)).snd).snd (16:Int)).snd).snd.e=(uintR (dKeys x_2 (countR (dBrs x_1 (countR (Rd.mk x (0:Int) (0:Int)) (8 :
 Int)).snd).snd (16:Int)).snd).snd (16:Int)).snd.e∧True)∧(True∧True)∧(dBrs x_1 (countR (Rd.mk x (0:Int) (0:Int)) (8:Int)).snd).fst =
 (dBrs x_1 (countR (Rd.mk x (0:Int) (0:Int)) (8:Int)).snd).fst∧(True∧List.replicate (32:Nat) (0:Int)=List.replicate (32:Nat) (0:Int)
 ∧ (0:Int)=(0:Int)∧(0:Int)=(0:Int)∧True)∧True)∧(dKeys y (countR (dBrs x_1 (countR (Rd.mk x (0:Int) (0:Int)) (8:Int)).snd).snd
 (16:Int)).snd).fst=(dKeys x_2 (countR (dBrs x_1 (countR (Rd.mk x (0:Int) (0:Int)) (8:Int)).snd).snd (16:Int)).snd).fst++[wr IntKind.i64
 (uintR (dKeys x_2 (countR (dBrs x_1 (countR (Rd.mk x (0:Int) (0:Int)) (8:Int)).snd).snd (16:Int)).snd).snd (16:Int)).fst]∧True)∧(decide
 ((x_2:Int)<(countR (dBrs x_1 (countR (Rd.mk x (0:Int) (0:Int)) (8:Int)).snd).snd (16:Int)).fst)=false→True∧(((dKeys x_2 (countR
 (dBrs x_1 (countR (Rd.mk x (0:Int) (0:Int)) (8:Int)).snd).snd (16:Int)).snd).snd.b=(dKeys x_2 (countR (dBrs x_1 (countR (Rd.mk x (0:Int) (0
 : Int)) (8:Int)).snd).snd (16:Int)).snd).snd.b∧(dKeys x_2 (countR (dBrs x_1 (countR (Rd.mk x (0:Int) (0:Int)) (8:Int)).snd).snd (16 :
 Int)).snd).snd.i=(dKeys x_2 (countR (dBrs x_1 (countR (Rd.mk x (0:Int) (0:Int)) (8:Int)).snd).snd (16:Int)).snd).snd.i∧(dKeys x_2 (countR
 (dBrs x_1 (countR (Rd.mk x (0:Int) (0:Int)) (8:Int)).snd).snd (16:Int)).snd).snd.e=(dKeys x_2 (countR (dBrs x_1 (countR (Rd.mk x (0:Int) (0
 : Int)) (8:Int)).snd).snd (16:Int)).snd).snd.e∧True)∧True)∧(dKeys x_2 (countR (dBrs x_1 (countR (Rd.mk x (0:Int) (0:Int)) (8 :
 Int)).snd).snd (16:Int)).snd).snd.Ok∧(True∧(1099511627776:Int)=(1099511627776:Int))∧(((hashR (dKeys x_2 (countR (dBrs x_1 (countR (Rd.mk
 x (0:Int) (0:Int)) (8:Int)).snd).snd (16:Int)).snd).snd).snd.b=(hashR (dKeys x_2 (countR (dBrs x_1 (countR (Rd.mk x (0:Int) (0:Int)) (8 :
 Int)).snd).snd (16:Int)).snd).snd).snd.b∧(hashR (dKeys x_2 (countR (dBrs x_1 (countR (Rd.mk x (0:Int) (0:Int)) (8:Int)).snd).snd (16 :
 Int)).snd).snd).snd.i=(hashR (dKeys x_2 (countR (dBrs x_1 (countR (Rd.mk x (0:Int) (0:Int)) (8:Int)).snd).snd (16:Int)).snd).snd).snd.i ∧
 (hashR (dKeys x_2 (countR (dBrs x_1 (countR (Rd.mk x (0:Int) (0:Int)) (8:Int)).snd).snd (16:Int)).snd).snd).snd.e=(hashR (dKeys x_2 (countR
 (dBrs x_1 (countR (Rd.mk x (0:Int) (0:Int)) (8:Int)).snd).snd (16:Int)).snd).snd).snd.e∧True)∧True)∧(RdN.mk (hashR (dKeys x_2 (countR
 (dBrs x_1 (countR (Rd.mk x (0:Int) (0:Int)) (8:Int)).snd).snd (16:Int)).snd).snd).snd (1099511627776:Int)).Ok∧(True∧(65536:Int) =
 (65536:Int))∧(((uintR (hashR (dKeys x_2 (countR (dBrs x_1 (countR (Rd.mk x (0:Int) (0:Int)) (8:Int)).snd).snd (16:Int)).snd).snd).snd
 (1099511627776:Int)).snd.b=(uintR (hashR (dKeys x_2 (countR (dBrs x_1 (countR (Rd.mk x (0:Int) (0:Int)) (8:Int)).snd).snd (16 :
 Int)).snd).snd).snd (1099511627776:Int)).snd.b∧(uintR (hashR (dKeys x_2 (countR (dBrs x_1 (countR (Rd.mk x (0:Int) (0:Int)) (8:Int)).snd).snd
 (16:Int)).snd).snd).snd (1099511627776:Int)).snd.i=(uintR (hashR (dKeys x_2 (countR (dBrs x_1 (countR (Rd.mk x (0:Int) (0:Int)) (8 :
 Int)).snd).snd (16:Int)).snd).snd).snd (1099511627776:Int)).snd.i∧(uintR (hashR (dKeys x_2 (countR (dBrs x_1 (countR (Rd.mk x (0:Int) (0 :
 Int)) (8:Int)).snd).snd (16:Int)).snd).snd).snd (1099511627776:Int)).snd.e=(uintR (hashR (dKeys x_2 (countR (dBrs x_1 (countR (Rd.mk x (0 :
 Int) (0:Int)) (8:Int)).snd).snd (16:Int)).snd).snd).snd (1099511627776:Int)).snd.e∧True)∧True)∧(RdN.mk (uintR (hashR (dKeys x_2 (countR
 (dBrs x_1 (countR (Rd.mk x (0:Int) (0:Int)) (8:Int)).snd).snd (16:Int)).snd).snd).snd (1099511627776:Int)).snd (65536:Int)).Ok∧((dKeys
 x_2 (countR (dBrs x_1 (countR (Rd.mk x (0:Int) (0:Int)) (8:Int)).snd).snd (16:Int)).snd).fst=(dKeys x_2 (countR (dBrs x_1 (countR (Rd.mk x (0
 : Int) (0:Int)) (8:Int)).snd).snd (16:Int)).snd).fst∧(hashR (dKeys x_2 (countR (dBrs x_1 (countR (Rd.mk x (0:Int) (0:Int)) (8 :
 Int)).snd).snd (16:Int)).snd).snd).fst=(hashR (dKeys x_2 (countR (dBrs x_1 (countR (Rd.mk x (0:Int) (0:Int)) (8:Int)).snd).snd (16 :
 Int)).snd).snd).fst∧wr IntKind.i64 (uintR (hashR (dKeys x_2 (countR (dBrs x_1 (countR (Rd.mk x (0:Int) (0:Int)) (8:Int)).snd).snd (16 :
 Int)).snd).snd).snd (1099511627776:Int)).fst=wr IntKind.i64 (uintR (hashR (dKeys x_2 (countR (dBrs x_1 (countR (Rd.mk x (0:Int) (0:Int)) (8 :
 Int)).snd).snd (16:Int)).snd).snd).snd (1099511627776:Int)).fst∧wr IntKind.i64 (uintR (uintR (hashR (dKeys x_2 (countR (dBrs x_1 (countR (Rd.mk x
 (0:Int) (0:Int)) (8:Int)).snd).snd (16:Int)).snd).snd).snd (1099511627776:Int)).snd (65536:Int)).fst=wr IntKind.i64 (uintR (uintR (hashR
 (dKeys x_2 (countR (dBrs x_1 (countR (Rd.mk x (0:Int) (0:Int)) (8:Int)).snd).snd (16:Int)).snd).snd).snd (1099511627776:Int)).snd (65536 :
 Int)).fst∧True)∧((dBrs x_1 (countR (Rd.mk x (0:Int) (0:Int)) (8:Int)).snd).fst.length+[Br.mk (dKeys x_2 (countR (dBrs x_1 (countR (Rd.mk x
 (0:Int) (0:Int)) (8:Int)).snd).snd (16:Int)).snd).fst (hashR (dKeys x_2 (countR (dBrs x_1 (countR (Rd.mk x (0:Int) (0:Int)) (8 :
 Int)).snd).snd (16:Int)).snd).snd).fst (wr IntKind.i64 (uintR (hashR (dKeys x_2 (countR (dBrs x_1 (countR (Rd.mk x (0:Int) (0:Int)) (8 :
 Int)).snd).snd (16:Int)).snd).snd).snd (1099511627776:Int)).fst) (wr IntKind.i64 (uintR (uintR (hashR (dKeys x_2 (countR (dBrs x_1 (countR (Rd.mk x
 (0:Int) (0:Int)) (8:Int)).snd).snd (16:Int)).snd).snd).snd (1099511627776:Int)).snd (65536:Int)).fst)].length)*(72:Nat) ≤
 (140737488355328:Nat)∧(dBrs x_1 (countR (Rd.mk x (0:Int) (0:Int)) (8:Int)).snd).fst.length+[Br.mk (dKeys x_2 (countR (dBrs x_1 (countR
 (Rd.mk x (0:Int) (0:Int)) (8:Int)).snd).snd (16:Int)).snd).fst (hashR (dKeys x_2 (countR (dBrs x_1 (countR (Rd.mk x (0:Int) (0:Int)) (8 :
 Int)).snd).snd (16:Int)).snd).snd).fst (wr IntKind.i64 (uintR (hashR (dKeys x_2 (countR (dBrs x_1 (countR (Rd.mk x (0:Int) (0:Int)) (8 :
 Int)).snd).snd (16:Int)).snd).snd).snd (1099511627776:Int)).fst) (wr IntKind.i64 (uintR (uintR (hashR (dKeys x_2 (countR (dBrs x_1 (countR (Rd.mk x
 (0:Int) (0:Int)) (8:Int)).snd).snd (16:Int)).snd).snd).snd (1099511627776:Int)).snd (65536:Int)).fst)].length≤(1152921504606846976:Nat)
 ∧ inI64 ((x_1:Int)+(1:Int))∧∃ (y:Nat),((countR (Rd.mk x (0:Int) (0:Int)) (8:Int)).fst-(y:Int)).NonNeg∧(countR (Rd.mk x (0 :
 Int) (0:Int)) (8:Int)).fst.toNat-y<(countR (Rd.mk x (0:Int) (0:Int)) (8:Int)).fst.toNat-x_1∧(y:Int)=(x_1:Int)+(1:Int) ∧
 ((SV.val (A:=AA) (Value.slice none (0:Nat) (0:Nat))=SV.val (A:=AA) (Value.slice none (0:Nat) (0:Nat))∧True)∧((dBrs y (countR (Rd.mk x
 (0:Int) (0:Int)) (8:Int)).snd).snd.b=(uintR (uintR (hashR (dKeys x_2 (countR (dBrs x_1 (countR (Rd.mk x (0:Int) (0:Int)) (8 :
 Int)).snd).snd (16:Int)).snd).snd).snd (1099511627776:Int)).snd (65536:Int)).snd.b∧(dBrs y (countR (Rd.mk x (0:Int) (0:Int)) (8 :
 Int)).snd).snd.i=(uintR (uintR (hashR (dKeys x_2 (countR (dBrs x_1 (countR (Rd.mk x (0:Int) (0:Int)) (8:Int)).snd).snd (16 :
 Int)).snd).snd).snd (1099511627776:Int)).snd (65536:Int)).snd.i∧(dBrs y (countR (Rd.mk x (0:Int) (0:Int)) (8:Int)).snd).snd.e=(uintR
 (uintR (hashR (dKeys x_2 (countR (dBrs x_1 (countR (Rd.mk x (0:Int) (0:Int)) (8:Int)).snd).snd (16:Int)).snd).snd).snd (1099511627776 :
 Int)).snd (65536:Int)).snd.e∧True)∧(True∧True)∧True)∧(dBrs y (countR (Rd.mk x (0:Int) (0:Int)) (8:Int)).snd).fst=(dBrs x_1 (countR
 (Rd.mk x (0:Int) (0:Int)) (8:Int)).snd).fst++[Br.mk (dKeys x_2 (countR (dBrs x_1 (countR (Rd.mk x (0:Int) (0:Int)) (8:Int)).snd).snd (16
 : Int)).snd).fst (hashR (dKeys x_2 (countR (dBrs x_1 (countR (Rd.mk x (0:Int) (0:Int)) (8:Int)).snd).snd (16:Int)).snd).snd).fst (wr
 IntKind.i64 (uintR (hashR (dKeys x_2 (countR (dBrs x_1 (countR (Rd.mk x (0:Int) (0:Int)) (8:Int)).snd).snd (16:Int)).snd).snd).snd
 (1099511627776:Int)).fst) (wr IntKind.i64 (uintR (uintR (hashR (dKeys x_2 (countR (dBrs x_1 (countR (Rd.mk x (0:Int) (0:Int)) (8:Int)).snd).snd
 (16:Int)).snd).snd).snd (1099511627776:Int)).snd (65536:Int)).fst)]∧True))∧(decide ((x_1:Int)<(countR (Rd.mk x (0:Int) (0:Int)) (8 :
 Int)).fst)=false→True∧(((dBrs x_1 (countR (Rd.mk x (0:Int) (0:Int)) (8:Int)).snd).snd.b=(dBrs x_1 (countR (Rd.mk x (0:Int) (0:Int))
 (8:Int)).snd).snd.b∧(dBrs x_1 (countR (Rd.mk x (0:Int) (0:Int)) (8:Int)).snd).snd.i=(dBrs x_1 (countR (Rd.mk x (0:Int) (0:Int)) (8 :
 Int)).snd).snd.i∧(dBrs x_1 (countR (Rd.mk x (0:Int) (0:Int)) (8:Int)).snd).snd.e=(dBrs x_1 (countR (Rd.mk x (0:Int) (0:Int)) (8 :
 Int)).snd).snd.e∧True)∧True)∧True∧((!doneR (dBrs x_1 (countR (Rd.mk x (0:Int) (0:Int)) (8:Int)).snd).snd==(0:Int))=true→((decB x
 = []∧True)∧decE x=(3:Int)∧(3:Int)≠(0:Int))∧True∧True)∧((!doneR (dBrs x_1 (countR (Rd.mk x (0:Int) (0:Int)) (8 :
 Int)).snd).snd==(0:Int))=false→((dBrs x_1 (countR (Rd.mk x (0:Int) (0:Int)) (8:Int)).snd).fst=(dBrs x_1 (countR (Rd.mk x (0:Int) (0 :
 Int)) (8:Int)).snd).fst∧True)∧True∧True∧((!checkN (dBrs x_1 (countR (Rd.mk x (0:Int) (0:Int)) (8:Int)).snd).fst==(0:Int))=true →
 ((decB x=[]∧True)∧decE x=(3:Int)∧(3:Int)≠(0:Int))∧True∧True)∧((!checkN (dBrs x_1 (countR (Rd.mk x (0:Int) (0:Int)) (8 :
 Int)).snd).fst==(0:Int))=false→((decB x=(dBrs x_1 (countR (Rd.mk x (0:Int) (0:Int)) (8:Int)).snd).fst∧True)∧decE x=(0:Int)) ∧
 True∧True)))
theorem dec_eq:decVC=fnS F129 f21 (bodyOf f21) decLS decAnn:=by kernel_rfl
theorem dec_vc:decVC:=by
 intro x hx
 have h0:(Rd.mk x 0 0).Ok:=⟨hx.byt,by show (0:Int)≤0; omega,by show (0:Int)≤x.length; omega,hx.len⟩
 have few:∀ {r:Rd},r.Ok→∀ {m:Int},0≤m→m≤1000→(RdN.mk r m).Few:=fun hr m h1 h2=>⟨⟨hr,h1⟩,by show m≤1000000; omega⟩
 obtain ⟨c1,c2,c3⟩:=countR_ok h0 (m:=8) (by omega)
 refine ⟨rfl,trivial,trivial,⟨trivial,rfl⟩,⟨⟨rfl,rfl,rfl,trivial⟩,trivial⟩,few h0 (by omega) (by omega),⟨0,?_,rfl,⟨⟨rfl,trivial⟩,⟨rfl,rfl,rfl,trivial⟩,⟨rfl,trivial⟩,trivial⟩,rfl,trivial⟩,fun i hi=>⟨fun h1=>?_,fun h1=>?_⟩⟩
 ·show ((0:Nat):Int)≤(countR (Rd.mk x 0 0) 8).1
  omega
 ·simp only [decide_eq_true_eq] at h1
  obtain ⟨b1,b2⟩:=brsR_ok c1 i
  obtain ⟨d1,d2,d3⟩:=countR_ok b1 (m:=16) (by omega)
  refine ⟨⟨trivial,rfl⟩,⟨⟨rfl,rfl,rfl,trivial⟩,trivial⟩,few b1 (by omega) (by omega),⟨0,?_,rfl,⟨⟨rfl,trivial⟩,⟨rfl,rfl,rfl,trivial⟩,⟨trivial,trivial⟩,rfl,⟨rfl,rfl,rfl,rfl,trivial⟩,trivial⟩,rfl,trivial⟩,fun j hj=>⟨fun h2=>both ?_,fun h2=>?_⟩⟩
  ·show ((0:Nat):Int)≤(countR (dBrs i (countR (Rd.mk x 0 0) 8).2).2 16).1
   omega
  ·simp only [decide_eq_true_eq] at h2
   obtain ⟨k1,k2⟩:=keysR_ok d1 j
   obtain ⟨u1,u2⟩:=uintR_ok k1 (m:=16) (by omega)
   refine ⟨⟨trivial,rfl⟩,⟨⟨rfl,rfl,rfl,trivial⟩,trivial⟩,⟨k1,by show (0:Int)≤16; omega⟩,?_,?_,by unfold inI64; omega,j+1,?_,by omega,by omega,⟨⟨rfl,trivial⟩,⟨rfl,rfl,rfl,trivial⟩,⟨trivial,trivial⟩,rfl,⟨trivial,rfl,rfl,rfl,trivial⟩,trivial⟩,?_,trivial⟩
   ·rw [k2]; simp only [List.length_singleton]; omega
   ·rw [k2]; simp only [List.length_singleton]; omega
   ·show ((j+1:Nat):Int)≤(countR (dBrs i (countR (Rd.mk x 0 0) 8).2).2 16).1
    omega
   ·rw [wr_small u2 (by omega)]
    rfl
  ·simp only [decide_eq_false_iff_not] at h2
   have hj':(j:Int)≤(countR (dBrs i (countR (Rd.mk x 0 0) 8).2).2 16).1:=hj
   have ej:dKeys j (countR (dBrs i (countR (Rd.mk x 0 0) 8).2).2 16).2=dK (dBrs i (countR (Rd.mk x 0 0) 8).2).2:=by
    unfold dK
    rw [show (countR (dBrs i (countR (Rd.mk x 0 0) 8).2).2 16).1.toNat=j by omega]
   rw [ej]
   refine ⟨trivial,⟨⟨rfl,rfl,rfl,trivial⟩,trivial⟩,(kR_ok b1).1,⟨trivial,rfl⟩,⟨⟨rfl,rfl,rfl,trivial⟩,trivial⟩,⟨(hR_ok b1).1,by show (0:Int)≤1099511627776; omega⟩,⟨trivial,rfl⟩,⟨⟨rfl,rfl,rfl,trivial⟩,trivial⟩,⟨(aR_ok b1).1,by show (0:Int)≤65536; omega⟩,⟨rfl,rfl,rfl,rfl,trivial⟩,?_,?_,by unfold inI64; omega,i+1,?_,by omega,by omega,⟨⟨rfl,trivial⟩,⟨rfl,rfl,rfl,trivial⟩,⟨trivial,trivial⟩,trivial⟩,?_,trivial⟩
   ·rw [b2]; simp only [List.length_singleton]; omega
   ·rw [b2]; simp only [List.length_singleton]; omega
   ·show ((i+1:Nat):Int)≤(countR (Rd.mk x 0 0) 8).1
    omega
   ·have e1:wr .i64 (dA (dBrs i (countR (Rd.mk x 0 0) 8).2).2).1=(dA (dBrs i (countR (Rd.mk x 0 0) 8).2).2).1:=wr_small (aR_ok b1).2 (by omega)
    have e2:wr .i64 (dO (dBrs i (countR (Rd.mk x 0 0) 8).2).2).1=(dO (dBrs i (countR (Rd.mk x 0 0) 8).2).2).1:=wr_small (oR_ok b1).2 (by omega)
    show _=(dBrs i (countR (Rd.mk x 0 0) 8).2).1++[Br.mk _ _ (wr .i64 (dA (dBrs i (countR (Rd.mk x 0 0) 8).2).2).1) (wr .i64 (dO (dBrs i (countR (Rd.mk x 0 0) 8).2).2).1)]
    rw [e1,e2]
    rfl
 ·simp only [decide_eq_false_iff_not] at h1
  have hi':(i:Int)≤(countR (Rd.mk x 0 0) 8).1:=hi
  have ei:dBrs i (countR (Rd.mk x 0 0) 8).2=dCond x:=by
   unfold dCond
   rw [show (countR (Rd.mk x 0 0) 8).1.toNat=i by omega]
  rw [ei]
  have hB:∀ b,decOk x=b→decB x=(if b then (dCond x).1 else [])∧decE x=(if b then 0 else 3):=fun b hb=>by
   unfold decB decE
   rw [hb]
   exact ⟨rfl,rfl⟩
  refine ⟨trivial,⟨⟨rfl,rfl,rfl,trivial⟩,trivial⟩,trivial,fun h2=>?_,fun h2=>⟨⟨rfl,trivial⟩,trivial,trivial,fun h3=>?_,fun h3=>?_⟩⟩
  ·have hd:decOk x=false:=by
    unfold decOk
    rw [decide_eq_false (by simpa using h2)]
    rfl
   exact ⟨⟨⟨(hB _ hd).1,trivial⟩,(hB _ hd).2,by omega⟩,trivial,trivial⟩
  ·have hd:decOk x=false:=by
    unfold decOk
    rw [show fineB (dCond x).1=false by
     cases hf:fineB (dCond x).1 with
     | false=>rfl
     | true=>rw [checkN_zero.2 hf] at h3; simp at h3,Bool.and_false]
   exact ⟨⟨⟨(hB _ hd).1,trivial⟩,(hB _ hd).2,by omega⟩,trivial,trivial⟩
  ·have hd:decOk x=true:=by
    unfold decOk
    rw [decide_eq_true (by simpa using h2),checkN_zero.1 (by simpa using h3)]
    rfl
   exact ⟨⟨⟨(hB _ hd).1,trivial⟩,(hB _ hd).2⟩,trivial,trivial⟩
theorem dec_ok:Fits F129 f21 (bodyOf f21) decLS decAnn:=by
 constructor
 rw [← dec_eq]
 exact dec_vc
theorem f40_has:Has prog 21 f21 (bodyOf f21):=⟨by kernel_rfl,by kernel_rfl,by kernel_rfl⟩
theorem known130:Known prog L130:=by
 unfold L130
 exact known129.lent mixed f40_has F129_eq dec_ok (fun _ _=>Nat.zero_le _) (fun _ _=>rfl)
def bEqVC:Prop:=∀ (x:List Int×List Int),True→((strOfNums x.fst).toList==(strOfNums x.snd).toList)=((strOfNums x.fst).toList==(strOfNums x.snd).toList) ∧
 True∧True
theorem bEq_eq:bEqVC=fnS F130 f66 (bodyOf f66) bEqLS noAnn:=by kernel_rfl
theorem bEq_vc:bEqVC:=fun _ _=>by simp
theorem bEq_ok:Fits F130 f66 (bodyOf f66) bEqLS noAnn:=by
 constructor
 rw [← bEq_eq]
 exact bEq_vc
theorem f81_has:Has prog 66 f66 (bodyOf f66):=⟨by kernel_rfl,by kernel_rfl,by kernel_rfl⟩
theorem known131:Known prog L131:=by
 unfold L131
 exact known130.lent mixed f81_has F130_eq bEq_ok (fun _ _=>Nat.zero_le _) (fun _ _=>rfl)
def samVC:Prop:=∀ (x:List Br×List Br),SamIn x→(([]:List Int)=[]∧x.fst=x.fst∧True)∧True∧(PutX.mk [] x.fst).Ok∧(([]:List Int)=[]∧x.snd =
 x.snd∧True)∧True∧(PutX.mk [] x.snd).Ok∧([]++putB x.fst=[]++putB x.fst∧[]++putB x.snd=[]++putB x.snd)∧True∧True∧((strOfNums
 (putB x.fst)).toList==(strOfNums (putB x.snd)).toList)=((strOfNums ([]++putB x.fst)).toList==(strOfNums ([]++putB x.snd)).toList)∧True ∧
 True
theorem sam_eq:samVC=fnS F131 f28 (bodyOf f28) samLS noAnn:=by kernel_rfl
theorem sam_vc:samVC:=fun _ hx=>
 ⟨⟨rfl,rfl,trivial⟩,trivial,⟨by simp,hx.w1,hx.l1⟩,⟨rfl,rfl,trivial⟩,trivial,⟨by simp,hx.w2,hx.l2⟩,⟨rfl,rfl⟩,trivial,trivial,rfl,trivial,trivial⟩
theorem sam_ok:Fits F131 f28 (bodyOf f28) samLS noAnn:=by
 constructor
 rw [← sam_eq]
 exact sam_vc
theorem f41_has:Has prog 28 f28 (bodyOf f28):=⟨by kernel_rfl,by kernel_rfl,by kernel_rfl⟩
theorem known132:Known prog L132:=by
 unfold L132
 exact known131.lent mixed f41_has F131_eq sam_ok (fun _ _=>Nat.zero_le _) (fun _ _=>rfl)
end Go.Proofs.YtcglahfmnoghjaaGreatDoor

/-! Bytes and a condition, read back: what is said of them. Conditions: none. -/
namespace Go.Proofs.YtcglahfmnoghjaaGreatDoor
open Go Go.Eng Go.Proofs.Tryz
/-- Told bytes: themselves; what is wrong; how many bytes that takes. -/
def scanB (m:Int):List Int→List Int→Nat→List Int×Int×Nat
 | [],_,_=>([],12,0)
 | c::l,out,i=>if c=0 then (match l with
   | []=>([],12,0)
   | d::l'=>if d=0 then (out,0,i+2) else if d≠255 then ([],3,0) else if (out.length:Int)=m then ([],2,0) else scanB m l' (out++[0]) (i+2))
  else if (out.length:Int)=m then ([],2,0) else scanB m l (out++[c]) (i+1)
def bytesR (r:Rd) (m:Int):List Int×Rd:=if r.e≠0 then ([],r) else if (scanB m r.left [] 0).2.1≠0 then ([],⟨r.b,r.i,(scanB m r.left [] 0).2.1⟩) else ((scanB m r.left [] 0).1,⟨r.b,r.i+((scanB m r.left [] 0).2.2:Int),0⟩)
def rdBytesLS:LS AA where
 X:=RdN
 pre:=RdN.Few
 args:=fun x=>[.ptr 0 0,.int .i64 x.n]
 hin:=fun x=>[rcell x.r]
 res:=fun x=>[.rints .u8 (bytesR x.r x.n).1]
 hout:=fun x=>[rcell (bytesR x.r x.n).2]
structure ScanX where
 i:Nat
 out:List Int
def rdBytesAnn (x:RdN):Anns AA:=fun _ _ sh=>some {
 X:=ScanX
 inv:=fun y=>y.i≤x.r.left.length∧(y.out.length:Int)≤x.n∧scanB x.n x.r.left [] 0=scanB x.n (x.r.left.drop y.i) y.out y.i
 meas:=fun y=>x.r.left.length-y.i
 slots:=fun y=>[(7,.int .i64 y.i),(5,.vec (cnt sh))]
 heap:=fun _=>[]
 more:=fun y=>[.ivec 5 .u8 y.out] }
def L160:List (Nat×SpecT AA):=(67,tLent rdBytesLS rdiGet)::L129
noncomputable def F160:Eng AA:=EF prog L160
theorem F160_eq:F160=EF prog L160:=by
 unfold F160
 rfl
/-- A condition that a reader takes off. -/
def dC (r:Rd):List Br×Rd:=dBrs (countR r 8).1.toNat (countR r 8).2
def takesLS:LS AA where
 X:=Rd
 pre:=Rd.Ok
 args:=fun _=>[.ptr 0 0]
 hin:=fun r=>[rcell r]
 res:=fun r=>[.agg (.cell (.rseq 102 (show List (AA 102) from (dC r).1)) .nil)]
 hout:=fun r=>[rcell (dC r).2]
def takesAnn (r:Rd):Anns AA:=fun k ts sh=>if k=4 then (match nth ts 3 with
  | some (.ptr j _)=>some {
   X:=Nat
   inv:=fun i=>(i:Int)≤(countR r 8).1
   meas:=fun i=>(countR r 8).1.toNat-i
   slots:=fun i=>[(7,.int .i64 i)]
   heap:=fun i=>[(0,rcell (dBrs i (countR r 8).2).2),(j,.cells 55 (.cell (.vec (cnt sh)) .nil))]
   more:=fun i=>[.svec 102 (show List (AA 102) from (dBrs i (countR r 8).2).1)] }
  | _=>none)
 else (match nth ts 4,nth ts 10,rdOf sh (.ptr 0 0) with
  | some (.ptr j _),some (.int _ n),some r=>(match nth sh j with
   | some (.cells t (.cell _ rest))=>some {
    X:=Nat
    inv:=fun i=>(i:Int)≤n
    meas:=fun i=>n.toNat-i
    slots:=fun i=>[(11,.int .i64 i)]
    heap:=fun i=>[(0,rcell (dKeys i r).2),(j,.cells t (.cell (.vec (cnt sh)) rest))]
    more:=fun i=>[.ivec 3 .i64 (dKeys i r).1] }
   | _=>none)
  | _,_,_=>none)
def L161:List (Nat×SpecT AA):=(68,tLent takesLS rdGet)::L160
end Go.Proofs.YtcglahfmnoghjaaGreatDoor

/-! Bytes and a condition, read back: the walks. Conditions: none. -/
namespace Go.Proofs.YtcglahfmnoghjaaGreatDoor
open Go Go.Eng Go.Proofs.Tryz
theorem scan_last {m:Int} {out:List Int} {i:Nat}:scanB m [0] out i=([],12,0):=by
 unfold scanB
 simp
theorem scan_zero {m d:Int} {l out:List Int} {i:Nat}:scanB m (0::d::l) out i=if d=0 then (out,0,i+2) else if d≠255 then ([],3,0) else if (out.length:Int)=m then ([],2,0) else scanB m l (out++[0]) (i+2):=by
 rw [scanB.eq_def]
 simp
theorem scan_byte {m c:Int} {l out:List Int} {i:Nat} (h:c≠0):scanB m (c::l) out i=if (out.length:Int)=m then ([],2,0) else scanB m l (out++[c]) (i+1):=by
 rw [scanB.eq_def]
 simp [h]
theorem bytesR_err {r:Rd} {m n:Int} (he:r.e=0) (h:scanB m r.left [] 0=([],n,0)) (hn:n≠0):bytesR r m=([],⟨r.b,r.i,n⟩):=by
 unfold bytesR
 rw [if_neg (by simp [he]),h,if_pos hn]
theorem bytesR_fine {r:Rd} {m:Int} {out:List Int} {k:Nat} (he:r.e=0) (h:scanB m r.left [] 0=(out,0,k)):bytesR r m=(out,⟨r.b,r.i+(k:Int),0⟩):=by
 unfold bytesR
 rw [if_neg (by simp [he]),h,if_neg (by simp)]
def rdBytesVC:Prop:=∀ (x:RdN),x.Few→True∧((x.r.b=x.r.b∧x.r.i=x.r.i∧x.r.e=x.r.e∧True)∧True)∧True∧(decide (x.r.e≠(0:Int))=true→(bytesR x.r
 x.n).fst=[]∧(((bytesR x.r x.n).snd.b=x.r.b∧(bytesR x.r x.n).snd.i=x.r.i∧(bytesR x.r x.n).snd.e=x.r.e∧True)∧True)∧True)∧(decide
 (x.r.e≠(0:Int))=false→(decide (x.n<(0:Int))=true→(True∧(1:Int)=(1:Int)∧(1:Int)≠(0:Int))∧((x.r.b=x.r.b∧x.r.i =
 x.r.i∧x.r.e=x.r.e∧True)∧True)∧True∧(bytesR x.r x.n).fst=[]∧(((bytesR x.r x.n).snd.b=x.r.b∧(bytesR x.r x.n).snd.i=x.r.i∧((bytesR
 x.r x.n).snd.e=if x.r.e=(0:Int) then (1:Int) else x.r.e)∧True)∧True)∧True)∧(decide (x.n<(0:Int))=false→True∧((x.r.b=x.r.b ∧
 x.r.i=x.r.i∧x.r.e=x.r.e∧True)∧True)∧x.r.Ok∧(∃ (x_1:ScanX),(x_1.i≤x.r.left.length∧(x_1.out.length:Int)≤x.n∧scanB x.n x.r.left [] (0 :
 Nat)=scanB x.n (List.drop x_1.i x.r.left) x_1.out x_1.i)∧((x_1.i:Int)=(0:Int)∧(SV.val (A:=AA) (Value.slice none (0:Nat) (0:Nat)) :
 SV AA)=SV.val (A:=AA) (Value.slice none (0:Nat) (0:Nat)))∧((x.r.b=x.r.b∧x.r.i=x.r.i∧x.r.e=x.r.e∧True)∧True)∧x_1.out=[] ∧
 True)∧∀ (x_1:ScanX),x_1.i≤x.r.left.length∧(x_1.out.length:Int)≤x.n∧scanB x.n x.r.left [] (0:Nat)=scanB x.n (List.drop x_1.i
 x.r.left) x_1.out x_1.i→(x.r.left.length:Int)≤(9223372036854775807:Int)→(decide ((x_1.i:Int)<(x.r.left.length:Int))=true→(0 :
 Int)≤(x_1.i:Int)∧(x_1.i:Int)<(x.r.left.length:Int)∧(x_1.i:Int).toNat<x.r.left.length∧((x.r.left.getD (x_1.i:Int).toNat (0 :
 Int)==(0:Int))=true→inI64 ((x_1.i:Int)+(1:Int))∧((x.r.left.length:Int)≤(9223372036854775807:Int)→(((x_1.i:Int)+(1:Int)
 == (x.r.left.length:Int))=true→(True∧(12:Int)=(12:Int)∧(12:Int)≠(0:Int))∧((x.r.b=x.r.b∧x.r.i=x.r.i∧x.r.e=x.r.e ∧
 True)∧True)∧True∧(bytesR x.r x.n).fst=[]∧(((bytesR x.r x.n).snd.b=x.r.b∧(bytesR x.r x.n).snd.i=x.r.i∧((bytesR x.r x.n).snd.e=if
 x.r.e=(0:Int) then (12:Int) else x.r.e)∧True)∧True)∧True)∧(((x_1.i:Int)+(1:Int)==(x.r.left.length:Int))=false→(0:Int) ≤
 (x_1.i:Int)+(1:Int)∧(x_1.i:Int)+(1:Int)<(x.r.left.length:Int)∧((x_1.i:Int)+(1:Int)).toNat<x.r.left.length ∧
 ((x.r.left.getD ((x_1.i:Int)+(1:Int)).toNat (0:Int)==(0:Int))=true→inI64 ((x_1.i:Int)+(1:Int)+(1:Int))∧inI64 (x.r.i +
 ((x_1.i:Int)+(1:Int)+(1:Int)))∧(bytesR x.r x.n).fst=x_1.out∧(((bytesR x.r x.n).snd.b=x.r.b∧(bytesR x.r x.n).snd.i=x.r.i +
 ((x_1.i:Int)+(1:Int)+(1:Int))∧(bytesR x.r x.n).snd.e=x.r.e∧True)∧True)∧True)∧((x.r.left.getD ((x_1.i:Int)+(1:Int)).toNat
 (0:Int)==(0:Int))=false→(0:Int)≤(x_1.i:Int)+(1:Int)∧(x_1.i:Int)+(1:Int)<(x.r.left.length:Int)∧((x_1.i:Int)+(1
 : Int)).toNat<x.r.left.length∧((x.r.left.getD ((x_1.i:Int)+(1:Int)).toNat (0:Int) != (255:Int))=true→(True∧(3:Int)=(3:Int) ∧
 (3:Int)≠(0:Int))∧((x.r.b=x.r.b∧x.r.i=x.r.i∧x.r.e=x.r.e∧True)∧True)∧True∧(bytesR x.r x.n).fst=[]∧(((bytesR x.r x.n).snd.b
 = x.r.b∧(bytesR x.r x.n).snd.i=x.r.i∧((bytesR x.r x.n).snd.e=if x.r.e=(0:Int) then (3:Int) else x.r.e)∧True)∧True)∧True) ∧
 ((x.r.left.getD ((x_1.i:Int)+(1:Int)).toNat (0:Int) != (255:Int))=false→(x_1.out.length:Int)≤(9223372036854775807:Int) →
 (((x_1.out.length:Int)==x.n)=true→(True∧(2:Int)=(2:Int)∧(2:Int)≠(0:Int))∧((x.r.b=x.r.b∧x.r.i=x.r.i∧x.r.e=x.r.e ∧
 True)∧True)∧True∧(bytesR x.r x.n).fst=[]∧(((bytesR x.r x.n).snd.b=x.r.b∧(bytesR x.r x.n).snd.i=x.r.i∧((bytesR x.r x.n).snd.e=if
 x.r.e=(0:Int) then (2:Int) else x.r.e)∧True)∧True)∧True)∧(((x_1.out.length:Int)==x.n)=false→(x_1.out.length+[x.r.left.getD
 (x_1.i:Int).toNat (0:Int)].length)*(1:Nat)≤(140737488355328:Nat)∧x_1.out.length+[x.r.left.getD (x_1.i:Int).toNat (0:Int)].length
 ≤ (1152921504606846976:Nat)∧inI64 ((x_1.i:Int)+(1:Int)+(1:Int))∧∃ (y:ScanX),(y.i≤x.r.left.length∧(y.out.length:Int)≤x.n∧scanB x.n
 x.r.left [] (0:Nat)=scanB x.n (List.drop y.i x.r.left) y.out y.i)∧x.r.left.length-y.i<x.r.left.length-x_1.i∧((y.i:Int)=(↑x_1.i :
 Int)+(1:Int)+(1:Int)∧True)∧((x.r.b=x.r.b∧x.r.i=x.r.i∧x.r.e=x.r.e∧True)∧True)∧y.out=x_1.out++[x.r.left.getD (↑x_1.i :
 Int).toNat (0:Int)]∧True))))))∧((x.r.left.getD (x_1.i:Int).toNat (0:Int)==(0:Int))=false→(x_1.out.length:Int) ≤
 (9223372036854775807:Int)→(((x_1.out.length:Int)==x.n)=true→(True∧(2:Int)=(2:Int)∧(2:Int)≠(0:Int))∧((x.r.b=x.r.b ∧
 x.r.i=x.r.i∧x.r.e=x.r.e∧True)∧True)∧True∧(bytesR x.r x.n).fst=[]∧(((bytesR x.r x.n).snd.b=x.r.b∧(bytesR x.r x.n).snd.i=x.r.i ∧
 ((bytesR x.r x.n).snd.e=if x.r.e=(0:Int) then (2:Int) else x.r.e)∧True)∧True)∧True)∧(((x_1.out.length:Int)==x.n)=false →
 (x_1.out.length+[x.r.left.getD (x_1.i:Int).toNat (0:Int)].length)*(1:Nat)≤(140737488355328:Nat)∧x_1.out.length+[x.r.left.getD
 (x_1.i:Int).toNat (0:Int)].length≤(1152921504606846976:Nat)∧inI64 ((x_1.i:Int)+(1:Int))∧∃ (y:ScanX),(y.i≤x.r.left.length ∧
 (y.out.length:Int)≤x.n∧scanB x.n x.r.left [] (0:Nat)=scanB x.n (List.drop y.i x.r.left) y.out y.i)∧x.r.left.length-y.i<x.r.left.length
 - x_1.i∧((y.i:Int)=(x_1.i:Int)+(1:Int)∧True)∧((x.r.b=x.r.b∧x.r.i=x.r.i∧x.r.e=x.r.e∧True)∧True)∧y.out=x_1.out ++
 [x.r.left.getD (x_1.i:Int).toNat (0:Int)]∧True)))∧(decide ((x_1.i:Int)<(x.r.left.length:Int))=false→(True∧(12:Int)=(12 :
 Int)∧(12:Int)≠(0:Int))∧((x.r.b=x.r.b∧x.r.i=x.r.i∧x.r.e=x.r.e∧True)∧True)∧True∧(bytesR x.r x.n).fst=[]∧(((bytesR x.r
 x.n).snd.b=x.r.b∧(bytesR x.r x.n).snd.i=x.r.i∧((bytesR x.r x.n).snd.e=if x.r.e=(0:Int) then (12:Int) else x.r.e)∧True)∧True) ∧
 True)))
theorem rdBytes_eq:rdBytesVC=fnS F129 f67 (bodyOf f67) rdBytesLS rdBytesAnn:=by kernel_rfl
theorem rdBytes_vc:rdBytesVC:=by
 rintro ⟨⟨b,i0,e⟩,m⟩ hx
 have hr:=hx.r
 have hm:=hx.lo
 have hm2:=hx.hi
 simp only at hr hm hm2
 by_cases he:e=0
 case neg=>simp [bytesR,he]
 subst he
 have hl:=left_len _ hr
 have hlen:=hr.len
 have hlo:=hr.lo
 simp only at hl hlen hlo
 have err:∀ n:Int,n≠0→scanB m (Rd.mk b i0 0).left [] 0=([],n,0)→(True∧n=n∧n≠0)∧((b=b∧i0=i0∧(0:Int)=0∧True)∧True)∧True∧(bytesR (Rd.mk b i0 0) m).fst=[]∧(((bytesR (Rd.mk b i0 0) m).snd.b=b∧(bytesR (Rd.mk b i0 0) m).snd.i=i0∧((bytesR (Rd.mk b i0 0) m).snd.e=if (0:Int)=0 then n else 0)∧True)∧True)∧True:=fun n hn h=>by
  rw [bytesR_err rfl h hn]
  exact ⟨⟨trivial,rfl,hn⟩,⟨⟨rfl,rfl,rfl,trivial⟩,trivial⟩,trivial,rfl,⟨⟨rfl,rfl,rfl,trivial⟩,trivial⟩,trivial⟩
 refine ⟨trivial,⟨⟨rfl,rfl,rfl,trivial⟩,trivial⟩,trivial,fun h=>by simp at h,fun _=>⟨fun h=>by simp at h; omega,fun _=>⟨trivial,⟨⟨rfl,rfl,rfl,trivial⟩,trivial⟩,hr,⟨⟨0,[]⟩,⟨Nat.zero_le _,by simpa using hm,rfl⟩,⟨rfl,rfl⟩,⟨⟨rfl,rfl,rfl,trivial⟩,trivial⟩,rfl,trivial⟩,?_⟩⟩⟩
 rintro y ⟨hi,ho,hs⟩ _
 simp only at hi ho hs
 generalize y.i=i at hi ho hs ⊢
 generalize y.out=out at hi ho hs ⊢
 refine ⟨fun h=>?_,fun h=>?_⟩
 case refine_2=>
  simp only [decide_eq_false_iff_not] at h
  exact err 12 (by omega) (by rw [hs,List.drop_of_length_le (by omega)]; rfl)
 simp only [decide_eq_true_eq] at h
 have hi':i<(Rd.mk b i0 0).left.length:=by omega
 rw [drop_at hi'] at hs
 refine ⟨by omega,h,hi',fun h0=>⟨by unfold inI64; omega,fun _=>⟨fun h1=>?_,fun h1=>?_⟩⟩,fun h0 _=>⟨fun h3=>?_,fun h3=>?_⟩⟩
 ·have h0':(Rd.mk b i0 0).left.getD i 0=0:=by simpa using h0
  have h1':(i:Int)+1=(Rd.mk b i0 0).left.length:=by simpa using h1
  rw [h0',List.drop_of_length_le (by omega),scan_last] at hs
  exact err 12 (by omega) hs
 ·have h0':(Rd.mk b i0 0).left.getD i 0=0:=by simpa using h0
  have h1':¬(i:Int)+1=(Rd.mk b i0 0).left.length:=by simpa using h1
  have hj:i+1<(Rd.mk b i0 0).left.length:=by omega
  have ej:((i:Int)+1).toNat=i+1:=by omega
  rw [h0',drop_at hj,scan_zero] at hs
  rw [ej]
  have a1:(0:Int)≤(i:Int)+1:=by omega
  have a2:(i:Int)+1<((Rd.mk b i0 0).left.length:Int):=by omega
  have a3:inI64 ((i:Int)+1+1):=by unfold inI64; omega
  have a4:inI64 (i0+((i:Int)+1+1)):=by unfold inI64; omega
  refine ⟨a1,a2,hj,fun h2=>⟨a3,a4,?_⟩,fun h2=>⟨a1,a2,hj,fun h3=>?_,fun h3 _=>⟨fun h4=>?_,fun h4=>?_⟩⟩⟩
  ·have h2':(Rd.mk b i0 0).left.getD (i+1) 0=0:=by simpa using h2
   rw [if_pos h2'] at hs
   rw [bytesR_fine rfl hs]
   exact ⟨rfl,⟨⟨rfl,by simp only; omega,rfl,trivial⟩,trivial⟩,trivial⟩
  ·have h2':¬(Rd.mk b i0 0).left.getD (i+1) 0=0:=by simpa using h2
   have h3':(Rd.mk b i0 0).left.getD (i+1) 0≠255:=by simpa using h3
   rw [if_neg h2',if_pos h3'] at hs
   exact err 3 (by omega) hs
  ·have h2':¬(Rd.mk b i0 0).left.getD (i+1) 0=0:=by simpa using h2
   have h3':¬(Rd.mk b i0 0).left.getD (i+1) 0≠255:=by simpa using h3
   have h4':(out.length:Int)=m:=by simpa using h4
   rw [if_neg h2',if_neg h3',if_pos h4'] at hs
   exact err 2 (by omega) hs
  ·have h2':¬(Rd.mk b i0 0).left.getD (i+1) 0=0:=by simpa using h2
   have h3':¬(Rd.mk b i0 0).left.getD (i+1) 0≠255:=by simpa using h3
   have h4':¬(out.length:Int)=m:=by simpa using h4
   rw [if_neg h2',if_neg h3',if_neg h4'] at hs
   refine ⟨by simp only [List.length_singleton]; omega,by simp only [List.length_singleton]; omega,by unfold inI64; omega,⟨i+2,out++[0]⟩,⟨by simp only; omega,by simp only [List.length_append,List.length_singleton]; omega,hs⟩,by simp only; omega,⟨by simp only; omega,trivial⟩,⟨⟨rfl,rfl,rfl,trivial⟩,trivial⟩,?_,trivial⟩
   show out++[0]=out++[(Rd.mk b i0 0).left.getD i 0]
   rw [h0']
 ·have h0':(Rd.mk b i0 0).left.getD i 0≠0:=by simpa using h0
  have h3':(out.length:Int)=m:=by simpa using h3
  rw [scan_byte h0',if_pos h3'] at hs
  exact err 2 (by omega) hs
 ·have h0':(Rd.mk b i0 0).left.getD i 0≠0:=by simpa using h0
  have h3':¬(out.length:Int)=m:=by simpa using h3
  rw [scan_byte h0',if_neg h3'] at hs
  exact ⟨by simp only [List.length_singleton]; omega,by simp only [List.length_singleton]; omega,by unfold inI64; omega,⟨i+1,out++[(Rd.mk b i0 0).left.getD i 0]⟩,⟨hi',by simp only [List.length_append,List.length_singleton]; omega,hs⟩,by simp only; omega,⟨by simp only; omega,trivial⟩,⟨⟨rfl,rfl,rfl,trivial⟩,trivial⟩,rfl,trivial⟩
theorem rdBytes_ok:Fits F129 f67 (bodyOf f67) rdBytesLS rdBytesAnn:=by
 constructor
 rw [← rdBytes_eq]
 exact rdBytes_vc
theorem rdBytes_has:Has prog 67 f67 (bodyOf f67):=⟨by kernel_rfl,by kernel_rfl,by kernel_rfl⟩
theorem known160:Known prog L160:=by
 unfold L160
 exact known129.lent mixed rdBytes_has F129_eq rdBytes_ok (fun _ _=>Nat.le_refl _) (fun h=>by cases h)
def takesVC:Prop:=∀ (x:Rd),x.Ok→(True∧(8:Int)=(8:Int))∧((x.b=x.b∧x.i=x.i∧x.e=x.e∧True)∧True)∧(RdN.mk x (8:Int)).Few∧(∃ (x_1:Nat),((countR x
 (8:Int)).fst-(x_1:Int)).NonNeg∧(x_1:Int)=(0:Int)∧(((dBrs x_1 (countR x (8:Int)).snd).snd.b=(countR x (8:Int)).snd.b∧(dBrs x_1
 (countR x (8:Int)).snd).snd.i=(countR x (8:Int)).snd.i∧(dBrs x_1 (countR x (8:Int)).snd).snd.e=(countR x (8:Int)).snd.e∧True) ∧
 ((SV.val (A:=AA) (Value.slice none (0:Nat) (0:Nat)):SV AA)=SV.val (A:=AA) (Value.slice none (0:Nat) (0:Nat))∧True)∧((SV.val (A:=
 AA) (Value.slice none (0:Nat) (0:Nat)):SV AA)=SV.val (A:=AA) (Value.slice none (0:Nat) (0:Nat))∧True)∧True)∧(dBrs x_1 (countR x (8
 : Int)).snd).fst=[]∧True)∧∀ (x_1:Nat),((countR x (8:Int)).fst-(x_1:Int)).NonNeg→(decide ((x_1:Int)<(countR x (8:Int)).fst) =
 true→(True∧(16:Int)=(16:Int))∧(((dBrs x_1 (countR x (8:Int)).snd).snd.b=(dBrs x_1 (countR x (8:Int)).snd).snd.b∧(dBrs x_1 (countR x
 (8:Int)).snd).snd.i=(dBrs x_1 (countR x (8:Int)).snd).snd.i∧(dBrs x_1 (countR x (8:Int)).snd).snd.e=(dBrs x_1 (countR x (8 :
 Int)).snd).snd.e∧True)∧True)∧(RdN.mk (dBrs x_1 (countR x (8:Int)).snd).snd (16:Int)).Few∧(∃ (x_2:Nat),((countR (dBrs x_1 (countR x (8 :
 Int)).snd).snd (16:Int)).fst-(x_2:Int)).NonNeg∧(x_2:Int)=(0:Int)∧(((dKeys x_2 (countR (dBrs x_1 (countR x (8:Int)).snd).snd (16 :
 Int)).snd).snd.b=(countR (dBrs x_1 (countR x (8:Int)).snd).snd (16:Int)).snd.b∧(dKeys x_2 (countR (dBrs x_1 (countR x (8:Int)).snd).snd (16 :
 Int)).snd).snd.i=(countR (dBrs x_1 (countR x (8:Int)).snd).snd (16:Int)).snd.i∧(dKeys x_2 (countR (dBrs x_1 (countR x (8:Int)).snd).snd (16 :
 Int)).snd).snd.e=(countR (dBrs x_1 (countR x (8:Int)).snd).snd (16:Int)).snd.e∧True)∧((SV.val (A:=AA) (Value.slice none (0:Nat) (0 :
 Nat)):SV AA)=SV.val (A:=AA) (Value.slice none (0:Nat) (0:Nat))∧True)∧(True∧True)∧(dBrs x_1 (countR x (8:Int)).snd).fst=(dBrs x_1
 (countR x (8:Int)).snd).fst∧((SV.val (A:=AA) (Value.slice none (0:Nat) (0:Nat)):SV AA)=SV.val (A:=AA) (Value.slice none (0:Nat) (0 :
 Nat))∧List.replicate (32:Nat) (0:Int)=List.replicate (32:Nat) (0:Int)∧(0:Int)=(0:Int)∧(0:Int)=(0:Int)∧True)∧True) ∧
 (dKeys x_2 (countR (dBrs x_1 (countR x (8:Int)).snd).snd (16:Int)).snd).fst=[]∧True)∧∀ (x_2:Nat),((countR (dBrs x_1 (countR x (8 :
 Int)).snd).snd (16:Int)).fst-(x_2:Int)).NonNeg→(decide ((x_2:Int)<(countR (dBrs x_1 (countR x (8:Int)).snd).snd (16:Int)).fst)=true
 → ((True∧(16:Int)=(16:Int))∧(((dKeys x_2 (countR (dBrs x_1 (countR x (8:Int)).snd).snd (16:Int)).snd).snd.b=(dKeys x_2 (countR (dBrs
 x_1 (countR x (8:Int)).snd).snd (16:Int)).snd).snd.b∧(dKeys x_2 (countR (dBrs x_1 (countR x (8:Int)).snd).snd (16:Int)).snd).snd.i=(dKeys
 x_2 (countR (dBrs x_1 (countR x (8:Int)).snd).snd (16:Int)).snd).snd.i∧(dKeys x_2 (countR (dBrs x_1 (countR x (8:Int)).snd).snd (16 :
 Int)).snd).snd.e=(dKeys x_2 (countR (dBrs x_1 (countR x (8:Int)).snd).snd (16:Int)).snd).snd.e∧True)∧True)∧(RdN.mk (dKeys x_2 (countR (dBrs
 x_1 (countR x (8:Int)).snd).snd (16:Int)).snd).snd (16:Int)).Ok∧((dKeys x_2 (countR (dBrs x_1 (countR x (8:Int)).snd).snd (16 :
 Int)).snd).fst.length+[wr IntKind.i64 (uintR (dKeys x_2 (countR (dBrs x_1 (countR x (8:Int)).snd).snd (16:Int)).snd).snd (16:Int)).fst].length)
 * (8:Nat)≤(140737488355328:Nat)∧(dKeys x_2 (countR (dBrs x_1 (countR x (8:Int)).snd).snd (16:Int)).snd).fst.length+[wr IntKind.i64 (uintR
 (dKeys x_2 (countR (dBrs x_1 (countR x (8:Int)).snd).snd (16:Int)).snd).snd (16:Int)).fst].length≤(1152921504606846976:Nat)∧inI64 ((↑x_2 :
 Int)+(1:Int))∧∃ (y:Nat),((countR (dBrs x_1 (countR x (8:Int)).snd).snd (16:Int)).fst-(y:Int)).NonNeg∧(countR (dBrs x_1 (countR x (8 :
 Int)).snd).snd (16:Int)).fst.toNat-y<(countR (dBrs x_1 (countR x (8:Int)).snd).snd (16:Int)).fst.toNat-x_2∧(y:Int)=(x_2:Int)+(1
 : Int)∧(((dKeys y (countR (dBrs x_1 (countR x (8:Int)).snd).snd (16:Int)).snd).snd.b=(uintR (dKeys x_2 (countR (dBrs x_1 (countR x (8 :
 Int)).snd).snd (16:Int)).snd).snd (16:Int)).snd.b∧(dKeys y (countR (dBrs x_1 (countR x (8:Int)).snd).snd (16:Int)).snd).snd.i=(uintR (dKeys
 x_2 (countR (dBrs x_1 (countR x (8:Int)).snd).snd (16:Int)).snd).snd (16:Int)).snd.i∧(dKeys y (countR (dBrs x_1 (countR x (8:Int)).snd).snd
 (16:Int)).snd).snd.e=(uintR (dKeys x_2 (countR (dBrs x_1 (countR x (8:Int)).snd).snd (16:Int)).snd).snd (16:Int)).snd.e∧True)∧((SV.val (A
 := AA) (Value.slice none (0:Nat) (0:Nat)):SV AA)=SV.val (A:=AA) (Value.slice none (0:Nat) (0:Nat))∧True)∧(True∧True)∧(dBrs x_1
 (countR x (8:Int)).snd).fst=(dBrs x_1 (countR x (8:Int)).snd).fst∧(True∧List.replicate (32:Nat) (0:Int)=List.replicate (32:Nat) (0 :
 Int)∧(0:Int)=(0:Int)∧(0:Int)=(0:Int)∧True)∧True)∧(dKeys y (countR (dBrs x_1 (countR x (8:Int)).snd).snd (16:Int)).snd).fst =
 (dKeys x_2 (countR (dBrs x_1 (countR x (8:Int)).snd).snd (16:Int)).snd).fst++[wr IntKind.i64 (uintR (dKeys x_2 (countR (dBrs x_1 (countR x (8 :
 Int)).snd).snd (16:Int)).snd).snd (16:Int)).fst]∧True)∧(True∧(16:Int)=(16:Int))∧(((dKeys x_2 (countR (dBrs x_1 (countR x (8 :
 Int)).snd).snd (16:Int)).snd).snd.b=(dKeys x_2 (countR (dBrs x_1 (countR x (8:Int)).snd).snd (16:Int)).snd).snd.b∧(dKeys x_2 (countR (dBrs
 x_1 (countR x (8:Int)).snd).snd (16:Int)).snd).snd.i=(dKeys x_2 (countR (dBrs x_1 (countR x (8:Int)).snd).snd (16:Int)).snd).snd.i∧(dKeys
 x_2 (countR (dBrs x_1 (countR x (8:Int)).snd).snd (16:Int)).snd).snd.e=(dKeys x_2 (countR (dBrs x_1 (countR x (8:Int)).snd).snd (16 :
 Int)).snd).snd.e∧True)∧True)∧(RdN.mk (dKeys x_2 (countR (dBrs x_1 (countR x (8:Int)).snd).snd (16:Int)).snd).snd (16:Int)).Ok∧((dKeys x_2
 (countR (dBrs x_1 (countR x (8:Int)).snd).snd (16:Int)).snd).fst.length+[wr IntKind.i64 (uintR (dKeys x_2 (countR (dBrs x_1 (countR x (8 :
 Int)).snd).snd (16:Int)).snd).snd (16:Int)).fst].length)*(8:Nat)≤(140737488355328:Nat)∧(dKeys x_2 (countR (dBrs x_1 (countR x (8 :
 Int)).snd).snd (16:Int)).snd).fst.length+[wr IntKind.i64 (uintR (dKeys x_2 (countR (dBrs x_1 (countR x (8:Int)).snd).snd (16:Int)).snd).snd (16
 : Int)).fst].length≤(1152921504606846976:Nat)∧inI64 ((x_2:Int)+(1:Int))∧∃ (y:Nat),((countR (dBrs x_1 (countR x (8:Int)).snd).snd (16 :
 Int)).fst-(y:Int)).NonNeg∧(countR (dBrs x_1 (countR x (8:Int)).snd).snd (16:Int)).fst.toNat-y<(countR (dBrs x_1 (countR x (8 :
 Int)).snd).snd (16:Int)).fst.toNat-x_2∧(y:Int)=(x_2:Int)+(1:Int)∧(((dKeys y (countR (dBrs x_1 (countR x (8:Int)).snd).snd (16 :
 Int)).snd).snd.b=(uintR (dKeys x_2 (countR (dBrs x_1 (countR x (8:Int)).snd).snd (16:Int)).snd).snd (16:Int)).snd.b∧(dKeys y (countR (dBrs
 x_1 (countR x (8:Int)).snd).snd (16:Int)).snd).snd.i=(uintR (dKeys x_2 (countR (dBrs x_1 (countR x (8:Int)).snd).snd (16:Int)).snd).snd (16 :
 Int)).snd.i∧(dKeys y (countR (dBrs x_1 (countR x (8:Int)).snd).snd (16:Int)).snd).snd.e=(uintR (dKeys x_2 (countR (dBrs x_1 (countR x (8 :
 Int)).snd).snd (16:Int)).snd).snd (16:Int)).snd.e∧True)∧((SV.val (A:=AA) (Value.slice none (0:Nat) (0:Nat)):SV AA)=SV.val (A:=AA)
 (Value.slice none (0:Nat) (0:Nat))∧True)∧(True∧True)∧(dBrs x_1 (countR x (8:Int)).snd).fst=(dBrs x_1 (countR x (8:Int)).snd).fst ∧
 (True∧List.replicate (32:Nat) (0:Int)=List.replicate (32:Nat) (0:Int)∧(0:Int)=(0:Int)∧(0:Int)=(0:Int)∧True)∧True) ∧
 (dKeys y (countR (dBrs x_1 (countR x (8:Int)).snd).snd (16:Int)).snd).fst=(dKeys x_2 (countR (dBrs x_1 (countR x (8:Int)).snd).snd (16 :
 Int)).snd).fst++[wr IntKind.i64 (uintR (dKeys x_2 (countR (dBrs x_1 (countR x (8:Int)).snd).snd (16:Int)).snd).snd (16:Int)).fst]∧True) ∧
 (decide ((x_2:Int)<(countR (dBrs x_1 (countR x (8:Int)).snd).snd (16:Int)).fst)=false→True∧(((dKeys x_2 (countR (dBrs x_1 (countR x (8 :
 Int)).snd).snd (16:Int)).snd).snd.b=(dKeys x_2 (countR (dBrs x_1 (countR x (8:Int)).snd).snd (16:Int)).snd).snd.b∧(dKeys x_2 (countR (dBrs
 x_1 (countR x (8:Int)).snd).snd (16:Int)).snd).snd.i=(dKeys x_2 (countR (dBrs x_1 (countR x (8:Int)).snd).snd (16:Int)).snd).snd.i∧(dKeys
 x_2 (countR (dBrs x_1 (countR x (8:Int)).snd).snd (16:Int)).snd).snd.e=(dKeys x_2 (countR (dBrs x_1 (countR x (8:Int)).snd).snd (16 :
 Int)).snd).snd.e∧True)∧True)∧(dKeys x_2 (countR (dBrs x_1 (countR x (8:Int)).snd).snd (16:Int)).snd).snd.Ok∧(True∧(1099511627776:Int) =
 (1099511627776:Int))∧(((hashR (dKeys x_2 (countR (dBrs x_1 (countR x (8:Int)).snd).snd (16:Int)).snd).snd).snd.b=(hashR (dKeys x_2 (countR
 (dBrs x_1 (countR x (8:Int)).snd).snd (16:Int)).snd).snd).snd.b∧(hashR (dKeys x_2 (countR (dBrs x_1 (countR x (8:Int)).snd).snd (16 :
 Int)).snd).snd).snd.i=(hashR (dKeys x_2 (countR (dBrs x_1 (countR x (8:Int)).snd).snd (16:Int)).snd).snd).snd.i∧(hashR (dKeys x_2 (countR (dBrs
 x_1 (countR x (8:Int)).snd).snd (16:Int)).snd).snd).snd.e=(hashR (dKeys x_2 (countR (dBrs x_1 (countR x (8:Int)).snd).snd (16 :
 Int)).snd).snd).snd.e∧True)∧True)∧(RdN.mk (hashR (dKeys x_2 (countR (dBrs x_1 (countR x (8:Int)).snd).snd (16:Int)).snd).snd).snd
 (1099511627776:Int)).Ok∧(True∧(65536:Int)=(65536:Int))∧(((uintR (hashR (dKeys x_2 (countR (dBrs x_1 (countR x (8:Int)).snd).snd (16 :
 Int)).snd).snd).snd (1099511627776:Int)).snd.b=(uintR (hashR (dKeys x_2 (countR (dBrs x_1 (countR x (8:Int)).snd).snd (16:Int)).snd).snd).snd
 (1099511627776:Int)).snd.b∧(uintR (hashR (dKeys x_2 (countR (dBrs x_1 (countR x (8:Int)).snd).snd (16:Int)).snd).snd).snd (1099511627776 :
 Int)).snd.i=(uintR (hashR (dKeys x_2 (countR (dBrs x_1 (countR x (8:Int)).snd).snd (16:Int)).snd).snd).snd (1099511627776:Int)).snd.i∧(uintR
 (hashR (dKeys x_2 (countR (dBrs x_1 (countR x (8:Int)).snd).snd (16:Int)).snd).snd).snd (1099511627776:Int)).snd.e=(uintR (hashR (dKeys x_2
 (countR (dBrs x_1 (countR x (8:Int)).snd).snd (16:Int)).snd).snd).snd (1099511627776:Int)).snd.e∧True)∧True)∧(RdN.mk (uintR (hashR (dKeys
 x_2 (countR (dBrs x_1 (countR x (8:Int)).snd).snd (16:Int)).snd).snd).snd (1099511627776:Int)).snd (65536:Int)).Ok∧((dKeys x_2 (countR (dBrs
 x_1 (countR x (8:Int)).snd).snd (16:Int)).snd).fst=(dKeys x_2 (countR (dBrs x_1 (countR x (8:Int)).snd).snd (16:Int)).snd).fst∧(hashR
 (dKeys x_2 (countR (dBrs x_1 (countR x (8:Int)).snd).snd (16:Int)).snd).snd).fst=(hashR (dKeys x_2 (countR (dBrs x_1 (countR x (8 :
 Int)).snd).snd (16:Int)).snd).snd).fst∧wr IntKind.i64 (uintR (hashR (dKeys x_2 (countR (dBrs x_1 (countR x (8:Int)).snd).snd (16 :
 Int)).snd).snd).snd (1099511627776:Int)).fst=wr IntKind.i64 (uintR (hashR (dKeys x_2 (countR (dBrs x_1 (countR x (8:Int)).snd).snd (16 :
 Int)).snd).snd).snd (1099511627776:Int)).fst∧wr IntKind.i64 (uintR (uintR (hashR (dKeys x_2 (countR (dBrs x_1 (countR x (8:Int)).snd).snd (16 :
 Int)).snd).snd).snd (1099511627776:Int)).snd (65536:Int)).fst=wr IntKind.i64 (uintR (uintR (hashR (dKeys x_2 (countR (dBrs x_1 (countR x (8 :
 Int)).snd).snd (16:Int)).snd).snd).snd (1099511627776:Int)).snd (65536:Int)).fst∧True)∧((dBrs x_1 (countR x (8:Int)).snd).fst.length +
 [Br.mk (dKeys x_2 (countR (dBrs x_1 (countR x (8:Int)).snd).snd (16:Int)).snd).fst (hashR (dKeys x_2 (countR (dBrs x_1 (countR x (8 :
 Int)).snd).snd (16:Int)).snd).snd).fst (wr IntKind.i64 (uintR (hashR (dKeys x_2 (countR (dBrs x_1 (countR x (8:Int)).snd).snd (16 :
 Int)).snd).snd).snd (1099511627776:Int)).fst) (wr IntKind.i64 (uintR (uintR (hashR (dKeys x_2 (countR (dBrs x_1 (countR x (8:Int)).snd).snd (16 :
 Int)).snd).snd).snd (1099511627776:Int)).snd (65536:Int)).fst)].length)*(72:Nat)≤(140737488355328:Nat)∧(dBrs x_1 (countR x (8 :
 Int)).snd).fst.length+[Br.mk (dKeys x_2 (countR (dBrs x_1 (countR x (8:Int)).snd).snd (16:Int)).snd).fst (hashR (dKeys x_2 (countR (dBrs x_1
 (countR x (8:Int)).snd).snd (16:Int)).snd).snd).fst (wr IntKind.i64 (uintR (hashR (dKeys x_2 (countR (dBrs x_1 (countR x (8:Int)).snd).snd (16 :
 Int)).snd).snd).snd (1099511627776:Int)).fst) (wr IntKind.i64 (uintR (uintR (hashR (dKeys x_2 (countR (dBrs x_1 (countR x (8:Int)).snd).snd (16 :
 Int)).snd).snd).snd (1099511627776:Int)).snd (65536:Int)).fst)].length≤(1152921504606846976:Nat)∧inI64 ((x_1:Int)+(1:Int))∧∃ (y:Nat),
 ((countR x (8:Int)).fst-(y:Int)).NonNeg∧(countR x (8:Int)).fst.toNat-y<(countR x (8:Int)).fst.toNat-x_1∧(y:Int)=(x_1:Int)
 + (1:Int)∧(((dBrs y (countR x (8:Int)).snd).snd.b=(uintR (uintR (hashR (dKeys x_2 (countR (dBrs x_1 (countR x (8:Int)).snd).snd (16 :
 Int)).snd).snd).snd (1099511627776:Int)).snd (65536:Int)).snd.b∧(dBrs y (countR x (8:Int)).snd).snd.i=(uintR (uintR (hashR (dKeys x_2 (countR
 (dBrs x_1 (countR x (8:Int)).snd).snd (16:Int)).snd).snd).snd (1099511627776:Int)).snd (65536:Int)).snd.i∧(dBrs y (countR x (8 :
 Int)).snd).snd.e=(uintR (uintR (hashR (dKeys x_2 (countR (dBrs x_1 (countR x (8:Int)).snd).snd (16:Int)).snd).snd).snd (1099511627776:Int)).snd
 (65536:Int)).snd.e∧True)∧(SV.val (A:=AA) (Value.slice none (0:Nat) (0:Nat))=SV.val (A:=AA) (Value.slice none (0:Nat) (0:Nat)) ∧
 True)∧(True∧True)∧True)∧(dBrs y (countR x (8:Int)).snd).fst=(dBrs x_1 (countR x (8:Int)).snd).fst++[Br.mk (dKeys x_2 (countR (dBrs x_1
 (countR x (8:Int)).snd).snd (16:Int)).snd).fst (hashR (dKeys x_2 (countR (dBrs x_1 (countR x (8:Int)).snd).snd (16:Int)).snd).snd).fst (wr
 IntKind.i64 (uintR (hashR (dKeys x_2 (countR (dBrs x_1 (countR x (8:Int)).snd).snd (16:Int)).snd).snd).snd (1099511627776:Int)).fst) (wr
 IntKind.i64 (uintR (uintR (hashR (dKeys x_2 (countR (dBrs x_1 (countR x (8:Int)).snd).snd (16:Int)).snd).snd).snd (1099511627776:Int)).snd (65536
 : Int)).fst)]∧True))∧(decide ((x_1:Int)<(countR x (8:Int)).fst)=false→((dC x).fst=(dBrs x_1 (countR x (8:Int)).snd).fst∧True) ∧
 (((dC x).snd.b=(dBrs x_1 (countR x (8:Int)).snd).snd.b∧(dC x).snd.i=(dBrs x_1 (countR x (8:Int)).snd).snd.i∧(dC x).snd.e=(dBrs x_1
 (countR x (8:Int)).snd).snd.e∧True)∧True)∧True)
theorem takes_eq:takesVC=fnS F160 f68 (bodyOf f68) takesLS takesAnn:=by kernel_rfl
theorem takes_vc:takesVC:=by
 intro x h0
 have few:∀ {r:Rd},r.Ok→∀ {m:Int},0≤m→m≤1000→(RdN.mk r m).Few:=fun hr m h1 h2=>⟨⟨hr,h1⟩,by show m≤1000000; omega⟩
 obtain ⟨c1,c2,c3⟩:=countR_ok h0 (m:=8) (by omega)
 refine ⟨⟨trivial,rfl⟩,⟨⟨rfl,rfl,rfl,trivial⟩,trivial⟩,few h0 (by omega) (by omega),⟨0,?_,rfl,⟨⟨rfl,rfl,rfl,trivial⟩,⟨rfl,trivial⟩,⟨rfl,trivial⟩,trivial⟩,rfl,trivial⟩,fun i hi=>⟨fun h1=>?_,fun h1=>?_⟩⟩
 ·show ((0:Nat):Int)≤(countR x 8).1
  omega
 ·simp only [decide_eq_true_eq] at h1
  obtain ⟨b1,b2⟩:=brsR_ok c1 i
  obtain ⟨d1,d2,d3⟩:=countR_ok b1 (m:=16) (by omega)
  refine ⟨⟨trivial,rfl⟩,⟨⟨rfl,rfl,rfl,trivial⟩,trivial⟩,few b1 (by omega) (by omega),⟨0,?_,rfl,⟨⟨rfl,rfl,rfl,trivial⟩,⟨rfl,trivial⟩,⟨trivial,trivial⟩,rfl,⟨rfl,rfl,rfl,rfl,trivial⟩,trivial⟩,rfl,trivial⟩,fun j hj=>⟨fun h2=>both ?_,fun h2=>?_⟩⟩
  ·show ((0:Nat):Int)≤(countR (dBrs i (countR x 8).2).2 16).1
   omega
  ·simp only [decide_eq_true_eq] at h2
   obtain ⟨k1,k2⟩:=keysR_ok d1 j
   obtain ⟨u1,u2⟩:=uintR_ok k1 (m:=16) (by omega)
   refine ⟨⟨trivial,rfl⟩,⟨⟨rfl,rfl,rfl,trivial⟩,trivial⟩,⟨k1,by show (0:Int)≤16; omega⟩,?_,?_,by unfold inI64; omega,j+1,?_,by omega,by omega,⟨⟨rfl,rfl,rfl,trivial⟩,⟨rfl,trivial⟩,⟨trivial,trivial⟩,rfl,⟨trivial,rfl,rfl,rfl,trivial⟩,trivial⟩,?_,trivial⟩
   ·rw [k2]; simp only [List.length_singleton]; omega
   ·rw [k2]; simp only [List.length_singleton]; omega
   ·show ((j+1:Nat):Int)≤(countR (dBrs i (countR x 8).2).2 16).1
    omega
   ·rw [wr_small u2 (by omega)]
    rfl
  ·simp only [decide_eq_false_iff_not] at h2
   have hj':(j:Int)≤(countR (dBrs i (countR x 8).2).2 16).1:=hj
   have ej:dKeys j (countR (dBrs i (countR x 8).2).2 16).2=dK (dBrs i (countR x 8).2).2:=by
    unfold dK
    rw [show (countR (dBrs i (countR x 8).2).2 16).1.toNat=j by omega]
   rw [ej]
   refine ⟨trivial,⟨⟨rfl,rfl,rfl,trivial⟩,trivial⟩,(kR_ok b1).1,⟨trivial,rfl⟩,⟨⟨rfl,rfl,rfl,trivial⟩,trivial⟩,⟨(hR_ok b1).1,by show (0:Int)≤1099511627776; omega⟩,⟨trivial,rfl⟩,⟨⟨rfl,rfl,rfl,trivial⟩,trivial⟩,⟨(aR_ok b1).1,by show (0:Int)≤65536; omega⟩,⟨rfl,rfl,rfl,rfl,trivial⟩,?_,?_,by unfold inI64; omega,i+1,?_,by omega,by omega,⟨⟨rfl,rfl,rfl,trivial⟩,⟨rfl,trivial⟩,⟨trivial,trivial⟩,trivial⟩,?_,trivial⟩
   ·rw [b2]; simp only [List.length_singleton]; omega
   ·rw [b2]; simp only [List.length_singleton]; omega
   ·show ((i+1:Nat):Int)≤(countR x 8).1
    omega
   ·have e1:wr .i64 (dA (dBrs i (countR x 8).2).2).1=(dA (dBrs i (countR x 8).2).2).1:=wr_small (aR_ok b1).2 (by omega)
    have e2:wr .i64 (dO (dBrs i (countR x 8).2).2).1=(dO (dBrs i (countR x 8).2).2).1:=wr_small (oR_ok b1).2 (by omega)
    show _=(dBrs i (countR x 8).2).1++[Br.mk _ _ (wr .i64 (dA (dBrs i (countR x 8).2).2).1) (wr .i64 (dO (dBrs i (countR x 8).2).2).1)]
    rw [e1,e2]
    rfl
 ·simp only [decide_eq_false_iff_not] at h1
  have hi':(i:Int)≤(countR x 8).1:=hi
  have ei:dBrs i (countR x 8).2=dC x:=by
   unfold dC
   rw [show (countR x 8).1.toNat=i by omega]
  rw [ei]
  exact ⟨⟨rfl,trivial⟩,⟨⟨rfl,rfl,rfl,trivial⟩,trivial⟩,trivial⟩
theorem takes_ok:Fits F160 f68 (bodyOf f68) takesLS takesAnn:=by
 constructor
 rw [← takes_eq]
 exact takes_vc
theorem takes_has:Has prog 68 f68 (bodyOf f68):=⟨by kernel_rfl,by kernel_rfl,by kernel_rfl⟩
theorem known161:Known prog L161:=by
 unfold L161
 exact known160.lent mixed takes_has F160_eq takes_ok (fun _ _=>Nat.le_refl _) (fun h=>by cases h)
end Go.Proofs.YtcglahfmnoghjaaGreatDoor

/-! The document's reader: what is said of it. Conditions: none. -/
namespace Go.Proofs.YtcglahfmnoghjaaGreatDoor
open Go Go.Eng Go.Proofs.Tryz
/-- The document's reader: what is left, the first error. -/
structure RR where
 l:List Int
 e:Int
def rrSL (r:RR):SL AA := .cell (.rints .u8 r.l) (.cell (.int .i64 r.e) .nil)
def decRR (sh:List (SO AA)):SV AA→Option RR
 | .agg (.cell b (.cell n .nil))=>match gI .u8 sh b,asI n with
  | some b,some n=>some ⟨b,n⟩
  | _,_=>none
 | _=>none
def ofR (r:RR):Rd:=⟨r.l,0,r.e⟩
def toR (r:Rd):RR:=⟨r.left,r.e⟩
structure RR.Ok (r:RR):Prop where
 byt:∀ y,y∈r.l→0≤y∧y<256
 len:r.l.length≤1000000000000
theorem RR.Ok.of {r:RR} (h:r.Ok):(ofR r).Ok:=⟨h.byt,by show (0:Int)≤0; omega,by show (0:Int)≤r.l.length; omega,h.len⟩
theorem Rd.Ok.to {r:Rd} (h:r.Ok):(toR r).Ok:=⟨left_byt h,by
 show r.left.length≤1000000000000
 have:=left_len r h
 have:=h.len
 have:=h.lo
 omega⟩
theorem to_of (r:RR):toR (ofR r)=r:=rfl
theorem left_step {r:Rd} (h:r.Ok) {k:Int} (hk:0≤k) (e:Int):(Rd.mk r.b (r.i+k) e).left=r.left.drop k.toNat:=by
 unfold Rd.left
 have:=h.lo
 show List.drop (r.i+k).toNat r.b=_
 rw [List.drop_drop,show (r.i+k).toNat=r.i.toNat+k.toNat by omega]
theorem uint_to {r:Rd} (h:r.Ok) {m:Int} (_hm:0≤m):(uintR (ofR (toR r)) m).1=(uintR r m).1∧toR (uintR (ofR (toR r)) m).2=toR (uintR r m).2:=by
 unfold uintR
 show (if r.e≠0 then (0,ofR (toR r)) else if numE r.left m≠0 then (0,⟨r.left,0,numE r.left m⟩) else (numV r.left,⟨r.left,0+numW r.left,0⟩)).1=_∧toR (if r.e≠0 then (0,ofR (toR r)) else if numE r.left m≠0 then (0,⟨r.left,0,numE r.left m⟩) else (numV r.left,⟨r.left,0+numW r.left,0⟩)).2=_
 split
 ·exact ⟨rfl,rfl⟩
 split
 ·exact ⟨rfl,rfl⟩
 ·rename_i h1 h2
  have nf:=num_facts h (Classical.not_not.1 h2)
  refine ⟨rfl,?_⟩
  show RR.mk _ 0=RR.mk _ 0
  rw [left_step h (by omega)]
  have h3:(Rd.mk r.left 0 0).Ok:=RR.Ok.of (r:=⟨r.left,0⟩) ⟨(Rd.Ok.to h).byt,(Rd.Ok.to h).len⟩
  have:=left_step h3 (k:=numW r.left) (by omega) 0
  rw [this]
  rfl
theorem count_to {r:Rd} (h:r.Ok) {m:Int} (_hm:0≤m):(countR (ofR (toR r)) m).1=(countR r m).1∧toR (countR (ofR (toR r)) m).2=toR (countR r m).2:=by
 unfold countR
 show (if r.e≠0 then (0,ofR (toR r)) else if numE r.left m≠0 then (0,⟨r.left,0,numE r.left m⟩) else if numV r.left>r.left.length-numW r.left then (0,⟨r.left,0,2⟩) else (numV r.left,⟨r.left,0+numW r.left,0⟩)).1=_∧toR (if r.e≠0 then (0,ofR (toR r)) else if numE r.left m≠0 then (0,⟨r.left,0,numE r.left m⟩) else if numV r.left>r.left.length-numW r.left then (0,⟨r.left,0,2⟩) else (numV r.left,⟨r.left,0+numW r.left,0⟩)).2=_
 split
 ·exact ⟨rfl,rfl⟩
 split
 ·exact ⟨rfl,rfl⟩
 split
 ·exact ⟨rfl,rfl⟩
 ·rename_i h1 h2 h4
  have nf:=num_facts h (Classical.not_not.1 h2)
  refine ⟨rfl,?_⟩
  show RR.mk _ 0=RR.mk _ 0
  rw [left_step h (by omega)]
  have h3:(Rd.mk r.left 0 0).Ok:=RR.Ok.of (r:=⟨r.left,0⟩) ⟨(Rd.Ok.to h).byt,(Rd.Ok.to h).len⟩
  have:=left_step h3 (k:=numW r.left) (by omega) 0
  rw [this]
  rfl
theorem hash_to {r:Rd} (h:r.Ok):(hashR (ofR (toR r))).1=(hashR r).1∧toR (hashR (ofR (toR r))).2=toR (hashR r).2:=by
 unfold hashR
 show (if r.e≠0 then (List.replicate 32 0,ofR (toR r)) else if r.left.length<32 then (List.replicate 32 0,⟨r.left,0,12⟩) else (r.left.take 32,⟨r.left,0+32,0⟩)).1=_∧toR (if r.e≠0 then (List.replicate 32 0,ofR (toR r)) else if r.left.length<32 then (List.replicate 32 0,⟨r.left,0,12⟩) else (r.left.take 32,⟨r.left,0+32,0⟩)).2=_
 split
 ·exact ⟨rfl,rfl⟩
 split
 ·exact ⟨rfl,rfl⟩
 ·refine ⟨rfl,?_⟩
  show RR.mk _ 0=RR.mk _ 0
  rw [left_step h (by omega)]
  have h3:(Rd.mk r.left 0 0).Ok:=RR.Ok.of (r:=⟨r.left,0⟩) ⟨(Rd.Ok.to h).byt,(Rd.Ok.to h).len⟩
  have:=left_step h3 (k:=32) (by omega) 0
  rw [this]
  rfl
structure RRn where
 r:RR
 n:Int
def rrnGet (args:List (SV AA)) (sh:List (SO AA)):Option RRn:=match args with
 | [r,n]=>match decRR sh r,asI n with
  | some r,some n=>some ⟨r,n⟩
  | _,_=>none
 | _=>none
def RR.fail (r:RR) (n:Int):RR:=⟨r.l,if r.e=0 then n else r.e⟩
def rfailLS:LS AA where
 X:=RRn
 pre:=fun _=>True
 args:=fun x=>[.agg (rrSL x.r),.int .i64 x.n]
 hin:=fun _=>[]
 res:=fun x=>[.agg (rrSL (x.r.fail x.n))]
 hout:=fun _=>[]
def L180:List (Nat×SpecT AA):=(113,tLent rfailLS rrnGet)::L161
noncomputable def F161:Eng AA:=EF prog L161
theorem F161_eq:F161=EF prog L161:=by
 unfold F161
 rfl
noncomputable def F180:Eng AA:=EF prog L180
theorem F180_eq:F180=EF prog L180:=by
 unfold F180
 rfl
structure RNum where
 l:List Int
 n:Int
structure RNum.Ok (x:RNum):Prop where
 byt:∀ y,y∈x.l→0≤y∧y<256
 one:1≤x.l.length
 lo:0≤x.n
 hi:x.n≤8
def rnumLS:LS AA where
 X:=RNum
 pre:=RNum.Ok
 args:=fun x=>[.rints .u8 x.l,.int .i64 x.n,.bl false]
 hin:=fun _=>[]
 res:=fun x=>[.int .u64 (lowN2 x.l.tail x.n),.int .i64 (lowE x.l.tail x.n)]
 hout:=fun _=>[]
def rnumGet (args:List (SV AA)) (sh:List (SO AA)):Option RNum:=match args with
 | [l,n,.bl false]=>match gI .u8 sh l,asI n with
  | some l,some n=>some ⟨l,n⟩
  | _,_=>none
 | _=>none
def rnumAnn (x:RNum):Anns AA:=fun _ _ _=>some {
 X:=Nat
 inv:=fun k=>(k:Int)≤x.n∧(0<k→x.l.tail.head?≠some 0)
 meas:=fun k=>x.n.toNat-k
 slots:=fun k=>[(9,.int .i64 ((k:Int)+1)),(8,.int .u64 (bigE (x.l.tail.take k)))]
 heap:=fun _=>[] }
def L181:List (Nat×SpecT AA):=(114,tLent rnumLS rnumGet)::L180
noncomputable def F181:Eng AA:=EF prog L181
theorem F181_eq:F181=EF prog L181:=by
 unfold F181
 rfl
structure RRn.Ok (x:RRn):Prop where
 r:x.r.Ok
 lo:0≤x.n
structure RRn.Few (x:RRn):Prop extends RRn.Ok x where
 hi:x.n≤1000000
def rruGet (args:List (SV AA)) (sh:List (SO AA)):Option RRn:=match args with
 | [r,n]=>match decRR sh r,asU n with
  | some r,some n=>some ⟨r,n⟩
  | _,_=>none
 | _=>none
def rrUintLS:LS AA where
 X:=RRn
 pre:=RRn.Ok
 args:=fun x=>[.agg (rrSL x.r),.int .u64 x.n]
 hin:=fun _=>[]
 res:=fun x=>[.agg (rrSL (toR (uintR (ofR x.r) x.n).2)),.int .u64 (uintR (ofR x.r) x.n).1]
 hout:=fun _=>[]
def L182:List (Nat×SpecT AA):=(69,tLent rrUintLS rruGet)::L181
noncomputable def F182:Eng AA:=EF prog L182
theorem F182_eq:F182=EF prog L182:=by
 unfold F182
 rfl
def rrCountLS:LS AA where
 X:=RRn
 pre:=RRn.Few
 args:=fun x=>[.agg (rrSL x.r),.int .i64 x.n]
 hin:=fun _=>[]
 res:=fun x=>[.agg (rrSL (toR (countR (ofR x.r) x.n).2)),.int .i64 (countR (ofR x.r) x.n).1]
 hout:=fun _=>[]
def L183:List (Nat×SpecT AA):=(70,tLent rrCountLS rrnGet)::L182
noncomputable def F183:Eng AA:=EF prog L183
theorem F183_eq:F183=EF prog L183:=by
 unfold F183
 rfl
def rrGet (args:List (SV AA)) (sh:List (SO AA)):Option RR:=match args with
 | [r]=>decRR sh r
 | _=>none
def rrHashLS:LS AA where
 X:=RR
 pre:=RR.Ok
 args:=fun r=>[.agg (rrSL r)]
 hin:=fun _=>[]
 res:=fun r=>[.agg (rrSL (toR (hashR (ofR r)).2)),hashV (hashR (ofR r)).1]
 hout:=fun _=>[]
def rrHashAnn (r:RR):Anns AA:=fun _ ts sh=>match nth ts 4 with
 | some (.ptr j _)=>(match nth sh j with
  | some (.cells t _)=>some {
   X:=Nat
   inv:=fun k=>k≤32
   meas:=fun k=>32-k
   slots:=fun k=>[(5,.int .i64 k)]
   heap:=fun k=>[(j,.cells t (.run .u8 32 (r.l.take k++List.replicate (32-k) 0) .nil))] }
  | _=>none)
 | _=>none
def L184:List (Nat×SpecT AA):=(71,tLent rrHashLS rrGet)::L183
noncomputable def F184:Eng AA:=EF prog L184
theorem F184_eq:F184=EF prog L184:=by
 unfold F184
 rfl
def rrBytesLS:LS AA where
 X:=RRn
 pre:=RRn.Few
 args:=fun x=>[.agg (rrSL x.r),.int .i64 x.n]
 hin:=fun _=>[]
 res:=fun x=>[.agg (rrSL (toR (bytesR (ofR x.r) x.n).2)),.rints .u8 (bytesR (ofR x.r) x.n).1]
 hout:=fun _=>[]
def rrBytesAnn (x:RRn):Anns AA:=fun _ _ sh=>some {
 X:=ScanX
 inv:=fun y=>y.i≤x.r.l.length∧(y.out.length:Int)≤x.n∧scanB x.n x.r.l [] 0=scanB x.n (x.r.l.drop y.i) y.out y.i
 meas:=fun y=>x.r.l.length-y.i
 slots:=fun y=>[(7,.int .i64 y.i),(6,.vec (cnt sh))]
 heap:=fun _=>[]
 more:=fun y=>[.ivec 5 .u8 y.out] }
def L185:List (Nat×SpecT AA):=(72,tLent rrBytesLS rrnGet)::L184
noncomputable def F185:Eng AA:=EF prog L185
theorem F185_eq:F185=EF prog L185:=by
 unfold F185
 rfl
def doneL (r:RR):Int:=if r.e=0∧r.l≠[] then 3 else r.e
def rrDoneLS:LS AA where
 X:=RR
 pre:=fun _=>True
 args:=fun r=>[.agg (rrSL r)]
 hin:=fun _=>[]
 res:=fun r=>[.int .i64 (doneL r)]
 hout:=fun _=>[]
def L186:List (Nat×SpecT AA):=(55,tLent rrDoneLS rrGet)::L185
noncomputable def F186:Eng AA:=EF prog L186
theorem F186_eq:F186=EF prog L186:=by
 unfold F186
 rfl
end Go.Proofs.YtcglahfmnoghjaaGreatDoor

/-! The document's reader: the walks. Conditions: none. -/
namespace Go.Proofs.YtcglahfmnoghjaaGreatDoor
open Go Go.Eng Go.Proofs.Tryz
def rfailVC:Prop:=∀ (x:RRn),True→((x.r.e==(0:Int))=true→(x.r.l=x.r.l∧(if x.r.e=(0:Int) then x.n else x.r.e)=x.n∧True)∧True∧True)∧((x.r.e
 == (0:Int))=false→(x.r.l=x.r.l∧(if x.r.e=(0:Int) then x.n else x.r.e)=x.r.e∧True)∧True∧True)
theorem rfail_eq:rfailVC=fnS F161 f113 (bodyOf f113) rfailLS noAnn:=by kernel_rfl
theorem rfail_vc:rfailVC:=by
 rintro ⟨⟨l,e⟩,n⟩ _
 refine ⟨fun h=>⟨⟨rfl,?_,trivial⟩,trivial,trivial⟩,fun h=>⟨⟨rfl,?_,trivial⟩,trivial,trivial⟩⟩
 ·rw [if_pos (by simpa using h)]
 ·rw [if_neg (by simpa using h)]
theorem rfail_ok:Fits F161 f113 (bodyOf f113) rfailLS noAnn:=by
 constructor
 rw [← rfail_eq]
 exact rfail_vc
theorem rfail_has:Has prog 113 f113 (bodyOf f113):=⟨by kernel_rfl,by kernel_rfl,by kernel_rfl⟩
theorem known180:Known prog L180:=by
 unfold L180
 exact known161.lent mixed rfail_has F161_eq rfail_ok (fun _ _=>Nat.zero_le _) (fun _ _=>rfl)
theorem mul_byte {a c:Int} (h1:0≤a) (h2:a<72057594037927936) (h3:0≤c) (h4:c<256):wr .u64 (wr .u64 (256*a)+wr .u64 c)=a*256+c:=by
 rw [wr64u,wr64u,wr64u]
 omega
def rnumVC:Prop:=∀ (x:RNum),x.Ok→(x.l.length:Int)≤(9223372036854775807:Int)→inI64 ((1:Int)+x.n)∧(decide ((x.l.length:Int)<(1:Int)+x.n) =
 true→(lowN2 x.l.tail x.n=(0:Int)∧lowE x.l.tail x.n=(12:Int))∧True∧True)∧(decide ((x.l.length:Int)<(1:Int)+x.n)=false→(∃ (x_1:Nat),((x_1:Int)≤x.n∧((0:Nat)<x_1→x.l.tail.head?≠some (0:Int)))∧((x_1:Int)+(1:Int)=(1:Int)∧bigE (List.take x_1 x.l.tail)
 = (0:Int))∧True∧True)∧∀ (x_1:Nat),(x_1:Int)≤x.n∧((0:Nat)<x_1→x.l.tail.head?≠some (0:Int))→(decide ((x_1:Int)+(1 :
 Int)≤x.n)=true→(0:Int)≤(x_1:Int)+(1:Int)∧(x_1:Int)+(1:Int)<(x.l.length:Int)∧((x_1:Int)+(1:Int)).toNat <
 x.l.length∧(((x_1:Int)+(1:Int)==(1:Int))=true→((x.l.getD ((x_1:Int)+(1:Int)).toNat (0:Int)==(0:Int))=true→(lowN2
 x.l.tail x.n=(0:Int)∧lowE x.l.tail x.n=(3:Int))∧True∧True)∧((x.l.getD ((x_1:Int)+(1:Int)).toNat (0:Int)==(0:Int))=false
 → inI64 ((x_1:Int)+(1:Int)+(1:Int))∧∃ (y:Nat),((y:Int)≤x.n∧((0:Nat)<y→x.l.tail.head?≠some (0:Int)))∧x.n.toNat-y <
 x.n.toNat-x_1∧((y:Int)+(1:Int)=(x_1:Int)+(1:Int)+(1:Int)∧bigE (List.take y x.l.tail)=wr IntKind.u64 (wr IntKind.u64 ((256 :
 Int)*bigE (List.take x_1 x.l.tail))+wr IntKind.u64 (x.l.getD ((x_1:Int)+(1:Int)).toNat (0:Int))))∧True∧True))∧(((x_1:Int)+(1 :
 Int)==(1:Int))=false→inI64 ((x_1:Int)+(1:Int)+(1:Int))∧∃ (y:Nat),((y:Int)≤x.n∧((0:Nat)<y→x.l.tail.head?≠some (0:Int)))
 ∧ x.n.toNat-y<x.n.toNat-x_1∧((y:Int)+(1:Int)=(x_1:Int)+(1:Int)+(1:Int)∧bigE (List.take y x.l.tail)=wr IntKind.u64 (wr
 IntKind.u64 ((256:Int)*bigE (List.take x_1 x.l.tail))+wr IntKind.u64 (x.l.getD ((x_1:Int)+(1:Int)).toNat (0:Int))))∧True∧True)) ∧
 (decide ((x_1:Int)+(1:Int)≤x.n)=false→(lowN2 x.l.tail x.n=bigE (List.take x_1 x.l.tail)∧lowE x.l.tail x.n=(0:Int))∧True∧True))
theorem rnum_eq:rnumVC=fnS F180 f114 (bodyOf f114) rnumLS rnumAnn:=by kernel_rfl
theorem rnum_vc:rnumVC:=by
 rintro ⟨l,n⟩ ⟨hb,h1,lo,hi⟩ hl
 simp only at hb h1 lo hi hl
 cases l with
 | nil=>simp at h1
 | cons c s=>
  have hs:∀ y,y∈s→0≤y∧y<256:=fun y hy=>hb y (List.mem_cons_of_mem _ hy)
  simp only [List.length_cons] at hl
  have g:s.getD 0 0=0↔(s=[]∨s.head?=some 0):=by cases s<;>simp
  have up:∀ k:Nat,(k:Int)+1≤n→n≤s.length→bigE (s.take (k+1))=wr .u64 (wr .u64 (256*bigE (s.take k))+wr .u64 ((c::s).getD ((k:Int)+1).toNat 0)):=fun k hk hn=>by
   have e:((k:Int)+1).toNat=k+1:=by omega
   have h2:=bigE_lt hs k (by omega)
   have h3:=byte_getD hs k
   have h4:(256 ^ k:Nat)≤256 ^ 7:=Nat.pow_le_pow_right (by omega) (by omega)
   rw [e,List.getD_cons_succ,mul_byte h2.1 (by omega) h3.1 h3.2,bigE_up (by omega)]
  have hi1:inI64 (1+n):=by unfold inI64; omega
  refine ⟨hi1,fun h=>?_,fun h=>?_⟩
  ·have h':((c::s).length:Int)<1+n:=of_decide_eq_true h
   simp only [List.length_cons] at h'
   have h2:lowE s n=12:=by unfold lowE; rw [if_pos (by omega)]
   exact ⟨⟨by show lowN2 s n=0; unfold lowN2; rw [h2]; rfl,h2⟩,trivial,trivial⟩
  have h':¬((c::s).length:Int)<1+n:=of_decide_eq_false h
  simp only [List.length_cons] at h'
  refine ⟨⟨0,⟨lo,fun h=>by omega⟩,⟨rfl,rfl⟩,trivial,trivial⟩,fun k hk=>⟨fun h2=>?_,fun h2=>?_⟩⟩
  ·have h2':(k:Int)+1≤n:=of_decide_eq_true h2
   have e:((k:Int)+1).toNat=k+1:=by omega
   have hi2:inI64 ((k:Int)+1+1):=by unfold inI64; omega
   have fin:(0<k+1→s.head?≠some 0)→∃ (y:Nat),((y:Int)≤n∧(0<y→s.head?≠some 0))∧n.toNat-y<n.toNat-k∧((y:Int)+1=(k:Int)+1+1∧bigE (s.take y)=wr .u64 (wr .u64 (256*bigE (s.take k))+wr .u64 ((c::s).getD ((k:Int)+1).toNat 0)))∧True∧True:=fun hh=>
    ⟨k+1,⟨by omega,hh⟩,by omega,⟨by omega,up k h2' (by omega)⟩,trivial,trivial⟩
   refine ⟨by omega,by simp only [List.length_cons]; omega,by rw [e]; simp only [List.length_cons]; omega,fun h3=>⟨fun h4=>?_,fun h4=>⟨hi2,fin fun _=>?_⟩⟩,fun h3=>⟨hi2,fin fun _=>hk.2 ?_⟩⟩
   ·have k0:k=0:=by
     have:(k:Int)+1=1:=by simpa using h3
     omega
    subst k0
    have h4':s.getD 0 0=0:=by simpa using h4
    have h5:s.head?=some 0:=by
     rcases g.1 h4' with e2 | e2
     ·rw [e2] at h'
      simp only [List.length_nil] at h'
      omega
     ·exact e2
    have h6:lowE s n=3:=by unfold lowE; rw [if_neg (by omega),if_pos ⟨by omega,h5⟩]
    exact ⟨⟨by show lowN2 s n=0; unfold lowN2; rw [h6]; rfl,h6⟩,trivial,trivial⟩
   ·have k0:k=0:=by
     have:(k:Int)+1=1:=by simpa using h3
     omega
    subst k0
    have h4':¬s.getD 0 0=0:=by simpa using h4
    exact fun h5=>h4' (g.2 (.inr h5))
   ·have:¬(k:Int)+1=1:=by simpa using h3
    omega
  ·have h2':¬(k:Int)+1≤n:=of_decide_eq_false h2
   have hk1:(k:Int)≤n:=hk.1
   have h6:lowE s n=0:=by
    unfold lowE
    rw [if_neg (by omega),if_neg]
    rintro ⟨h7,h8⟩
    exact hk.2 (by omega) h8
   refine ⟨⟨?_,h6⟩,trivial,trivial⟩
   show lowN2 s n=bigE (s.take k)
   unfold lowN2
   rw [if_pos h6,show n.toNat=k by omega]
theorem rnum_ok:Fits F180 f114 (bodyOf f114) rnumLS rnumAnn:=by
 constructor
 rw [← rnum_eq]
 exact rnum_vc
theorem rnum_has:Has prog 114 f114 (bodyOf f114):=⟨by kernel_rfl,by kernel_rfl,by kernel_rfl⟩
theorem known181:Known prog L181:=by
 unfold L181
 exact known180.lent mixed rnum_has F180_eq rnum_ok (fun _ _=>Nat.zero_le _) (fun _ _=>rfl)
def rrUintVC:Prop:=∀ (x:RRn),x.Ok→((x.r.e != (0:Int))=true→(((uintR (ofR x.r) x.n).snd.left=x.r.l∧(uintR (ofR x.r) x.n).snd.e=x.r.e∧True)∧(uintR (ofR
 x.r) x.n).fst=(0:Int))∧True∧True)∧((x.r.e != (0:Int))=false→(x.r.l.length:Int)≤(9223372036854775807:Int)→(((↑x.r.l.length :
 Int)==(0:Int))=true→((x.r.l=x.r.l∧x.r.e=x.r.e∧True)∧(12:Int)=(12:Int))∧True∧True∧(((uintR (ofR x.r) x.n).snd.left=x.r.l
 ∧ ((uintR (ofR x.r) x.n).snd.e=if x.r.e=(0:Int) then (12:Int) else x.r.e)∧True)∧(uintR (ofR x.r) x.n).fst=(0:Int))∧True∧True) ∧
 (((x.r.l.length:Int)==(0:Int))=false→(0:Int)≤(0:Int)∧(0:Int)<(x.r.l.length:Int)∧Int.toNat (0:Int)<x.r.l.length ∧
 (decide (x.r.l.getD (Int.toNat (0:Int)) (0:Int)>(8:Int))=true→((x.r.l=x.r.l∧x.r.e=x.r.e∧True)∧(3:Int)=(3:Int))∧True ∧
 True∧(((uintR (ofR x.r) x.n).snd.left=x.r.l∧((uintR (ofR x.r) x.n).snd.e=if x.r.e=(0:Int) then (3:Int) else x.r.e)∧True)∧(uintR (ofR
 x.r) x.n).fst=(0:Int))∧True∧True)∧(decide (x.r.l.getD (Int.toNat (0:Int)) (0:Int)>(8:Int))=false→(0:Int)≤(0:Int)∧(0 :
 Int)<(x.r.l.length:Int)∧Int.toNat (0:Int)<x.r.l.length∧(x.r.l=x.r.l∧wr IntKind.i64 (x.r.l.getD (Int.toNat (0:Int)) (0:Int))=wr
 IntKind.i64 (x.r.l.getD (Int.toNat (0:Int)) (0:Int))∧false=false)∧True∧(RNum.mk x.r.l (wr IntKind.i64 (x.r.l.getD (Int.toNat (0:Int)) (0
 : Int)))).Ok∧((lowE x.r.l.tail (wr IntKind.i64 (x.r.l.getD (Int.toNat (0:Int)) (0:Int)))==(0:Int))=true→(decide (lowN2 x.r.l.tail (wr
 IntKind.i64 (x.r.l.getD (Int.toNat (0:Int)) (0:Int)))>x.n)=true→((x.r.l=x.r.l∧x.r.e=x.r.e∧True)∧(4:Int)=(4:Int))∧True ∧
 True∧(((uintR (ofR x.r) x.n).snd.left=x.r.l∧((uintR (ofR x.r) x.n).snd.e=if x.r.e=(0:Int) then (4:Int) else x.r.e)∧True)∧(uintR (ofR
 x.r) x.n).fst=(0:Int))∧True∧True)∧(decide (lowN2 x.r.l.tail (wr IntKind.i64 (x.r.l.getD (Int.toNat (0:Int)) (0:Int)))>x.n)=false →
 ((lowE x.r.l.tail (wr IntKind.i64 (x.r.l.getD (Int.toNat (0:Int)) (0:Int))) != (0:Int))=true→((x.r.l=x.r.l∧x.r.e=x.r.e∧True)∧lowE
 x.r.l.tail (wr IntKind.i64 (x.r.l.getD (Int.toNat (0:Int)) (0:Int)))=lowE x.r.l.tail (wr IntKind.i64 (x.r.l.getD (Int.toNat (0:Int)) (0 :
 Int))))∧True∧True∧(((uintR (ofR x.r) x.n).snd.left=x.r.l∧((uintR (ofR x.r) x.n).snd.e=if x.r.e=(0:Int) then lowE x.r.l.tail (wr
 IntKind.i64 (x.r.l.getD (Int.toNat (0:Int)) (0:Int))) else x.r.e)∧True)∧(uintR (ofR x.r) x.n).fst=(0:Int))∧True∧True)∧((lowE
 x.r.l.tail (wr IntKind.i64 (x.r.l.getD (Int.toNat (0:Int)) (0:Int))) != (0:Int))=false→(0:Int)≤(0:Int)∧(0:Int)<(↑x.r.l.length :
 Int)∧Int.toNat (0:Int)<x.r.l.length∧inI64 ((1:Int)+wr IntKind.i64 (x.r.l.getD (Int.toNat (0:Int)) (0:Int)))∧(0:Int)≤(1:Int) +
 wr IntKind.i64 (x.r.l.getD (Int.toNat (0:Int)) (0:Int))∧(1:Int)+wr IntKind.i64 (x.r.l.getD (Int.toNat (0:Int)) (0:Int))≤(↑x.r.l.length
 : Int)∧(x.r.l.length:Int)≤(x.r.l.length:Int)∧(((uintR (ofR x.r) x.n).snd.left=List.drop ((1:Int)+wr IntKind.i64 (x.r.l.getD
 (Int.toNat (0:Int)) (0:Int))).toNat (List.take (x.r.l.length:Int).toNat x.r.l)∧(uintR (ofR x.r) x.n).snd.e=x.r.e∧True)∧(uintR (ofR x.r)
 x.n).fst=lowN2 x.r.l.tail (wr IntKind.i64 (x.r.l.getD (Int.toNat (0:Int)) (0:Int))))∧True∧True)))∧((lowE x.r.l.tail (wr IntKind.i64
 (x.r.l.getD (Int.toNat (0:Int)) (0:Int)))==(0:Int))=false→((lowE x.r.l.tail (wr IntKind.i64 (x.r.l.getD (Int.toNat (0:Int)) (0:Int)))
 != (0:Int))=true→((x.r.l=x.r.l∧x.r.e=x.r.e∧True)∧lowE x.r.l.tail (wr IntKind.i64 (x.r.l.getD (Int.toNat (0:Int)) (0:Int)))=lowE
 x.r.l.tail (wr IntKind.i64 (x.r.l.getD (Int.toNat (0:Int)) (0:Int))))∧True∧True∧(((uintR (ofR x.r) x.n).snd.left=x.r.l∧((uintR (ofR x.r)
 x.n).snd.e=if x.r.e=(0:Int) then lowE x.r.l.tail (wr IntKind.i64 (x.r.l.getD (Int.toNat (0:Int)) (0:Int))) else x.r.e)∧True)∧(uintR (ofR
 x.r) x.n).fst=(0:Int))∧True∧True)∧((lowE x.r.l.tail (wr IntKind.i64 (x.r.l.getD (Int.toNat (0:Int)) (0:Int))) != (0:Int))=false→(0
 : Int)≤(0:Int)∧(0:Int)<(x.r.l.length:Int)∧Int.toNat (0:Int)<x.r.l.length∧inI64 ((1:Int)+wr IntKind.i64 (x.r.l.getD (Int.toNat
 (0:Int)) (0:Int)))∧(0:Int)≤(1:Int)+wr IntKind.i64 (x.r.l.getD (Int.toNat (0:Int)) (0:Int))∧(1:Int)+wr IntKind.i64 (x.r.l.getD
 (Int.toNat (0:Int)) (0:Int))≤(x.r.l.length:Int)∧(x.r.l.length:Int)≤(x.r.l.length:Int)∧(((uintR (ofR x.r) x.n).snd.left=List.drop
 ((1:Int)+wr IntKind.i64 (x.r.l.getD (Int.toNat (0:Int)) (0:Int))).toNat (List.take (x.r.l.length:Int).toNat x.r.l)∧(uintR (ofR x.r)
 x.n).snd.e=x.r.e∧True)∧(uintR (ofR x.r) x.n).fst=lowN2 x.r.l.tail (wr IntKind.i64 (x.r.l.getD (Int.toNat (0:Int)) (0:Int))))∧True ∧
 True)))))
theorem rrUint_eq:rrUintVC=fnS F181 f69 (bodyOf f69) rrUintLS noAnn:=by kernel_rfl
theorem rrUint_vc:rrUintVC:=by
 rintro ⟨⟨l,e⟩,m⟩ hx
 have hb:∀ y,y∈l→0≤y∧y<256:=hx.r.byt
 have hlen:l.length≤1000000000000:=hx.r.len
 by_cases he:e=0
 case neg=>simp [uintR,ofR,he,Rd.left]
 subst he
 cases l with
 | nil=>simp [uintR,ofR,Rd.left,numE]
 | cons c s=>
  have hc:0≤c∧c<256:=hb c List.mem_cons_self
  have hw:wr .i64 c=c:=by rw [wr64 (by unfold inI64; omega)]
  have hi:inI64 (1+c):=by unfold inI64; omega
  have hL:(ofR ⟨c::s,0⟩).left=c::s:=rfl
  have hE0:(ofR ⟨c::s,0⟩).e=0:=rfl
  by_cases h8:c>8
  ·have hE:numE (c::s) m=3:=by simp [numE,h8]
   simp [uintR,hL,hE0,hE,h8]
   simp [ofR,Rd.left]
   omega
  ·have hnum:(RNum.mk (c::s) c).Ok:=⟨hb,by simp,hc.1,by show c≤8; omega⟩
   by_cases hE:lowE s c=0
   ·have hN:lowN2 s c=bigE (s.take c.toNat):=by unfold lowN2; rw [if_pos hE]
    by_cases hB:bigE (s.take c.toNat)>m
    ·have hE2:numE (c::s) m=4:=by simp only [numE]; rw [if_neg h8,if_neg (fun h=>h hE),if_pos hB]
     simp [uintR,hL,hE0,hE,hE2,h8,hw,hnum,hN,hB]
     simp [ofR,Rd.left]
     omega
    ·have hE2:numE (c::s) m=0:=by simp only [numE]; rw [if_neg h8,if_neg (fun h=>h hE),if_neg hB]
     have hs:¬((s.length:Int)<c):=fun h=>by
      unfold lowE at hE
      rw [if_pos h] at hE
      omega
     have e2:(1+c).toNat=c.toNat+1:=by omega
     simp [uintR,hL,hE0,hE,hE2,h8,hw,hnum,hN,hB,hi,numV,numW,e2]
     simp [ofR,Rd.left,e2]
     omega
   ·have hE2:numE (c::s) m=lowE s c:=by simp only [numE]; rw [if_neg h8,if_pos hE]
    simp [uintR,hL,hE0,hE,hE2,h8,hw,hnum]
    simp [ofR,Rd.left]
    omega
theorem rrUint_ok:Fits F181 f69 (bodyOf f69) rrUintLS noAnn:=by
 constructor
 rw [← rrUint_eq]
 exact rrUint_vc
theorem rrUint_has:Has prog 69 f69 (bodyOf f69):=⟨by kernel_rfl,by kernel_rfl,by kernel_rfl⟩
theorem known182:Known prog L182:=by
 unfold L182
 exact known181.lent mixed rrUint_has F181_eq rrUint_ok (fun _ _=>Nat.zero_le _) (fun _ _=>rfl)
def rrCountVC:Prop:=∀ (x:RRn),x.Few→(decide (x.n<(0:Int))=true→((x.r.l=x.r.l∧x.r.e=x.r.e∧True)∧wr IntKind.u64 (0:Int)=wr IntKind.u64 (0:Int))
 ∧ True∧(RRn.mk (RR.mk x.r.l x.r.e) (wr IntKind.u64 (0:Int))).Ok∧(((uintR (ofR (RR.mk x.r.l x.r.e)) (wr IntKind.u64 (0:Int))).snd.e != (0 :
 Int))=true→((x.r.l=x.r.l∧x.r.e=x.r.e∧True)∧(uintR (ofR (RR.mk x.r.l x.r.e)) (wr IntKind.u64 (0:Int))).snd.e=(uintR (ofR (RR.mk x.r.l
 x.r.e)) (wr IntKind.u64 (0:Int))).snd.e)∧True∧True∧(((countR (ofR x.r) x.n).snd.left=x.r.l∧((countR (ofR x.r) x.n).snd.e=if x.r.e=(0 :
 Int) then (uintR (ofR (RR.mk x.r.l x.r.e)) (wr IntKind.u64 (0:Int))).snd.e else x.r.e)∧True)∧(countR (ofR x.r) x.n).fst=(0:Int))∧True ∧
 True)∧(((uintR (ofR (RR.mk x.r.l x.r.e)) (wr IntKind.u64 (0:Int))).snd.e != (0:Int))=false→(↑(uintR (ofR (RR.mk x.r.l x.r.e)) (wr IntKind.u64
 (0:Int))).snd.left.length:Int)≤(9223372036854775807:Int)→(decide ((uintR (ofR (RR.mk x.r.l x.r.e)) (wr IntKind.u64 (0:Int))).fst>wr
 IntKind.u64 (↑(uintR (ofR (RR.mk x.r.l x.r.e)) (wr IntKind.u64 (0:Int))).snd.left.length:Int))=true→((x.r.l=x.r.l∧x.r.e=x.r.e∧True) ∧
 (2:Int)=(2:Int))∧True∧True∧(((countR (ofR x.r) x.n).snd.left=x.r.l∧((countR (ofR x.r) x.n).snd.e=if x.r.e=(0:Int) then (2:Int)
 else x.r.e)∧True)∧(countR (ofR x.r) x.n).fst=(0:Int))∧True∧True)∧(decide ((uintR (ofR (RR.mk x.r.l x.r.e)) (wr IntKind.u64 (0 :
 Int))).fst>wr IntKind.u64 (↑(uintR (ofR (RR.mk x.r.l x.r.e)) (wr IntKind.u64 (0:Int))).snd.left.length:Int))=false→(((countR (ofR x.r)
 x.n).snd.left=(uintR (ofR (RR.mk x.r.l x.r.e)) (wr IntKind.u64 (0:Int))).snd.left∧(countR (ofR x.r) x.n).snd.e=(uintR (ofR (RR.mk x.r.l x.r.e))
 (wr IntKind.u64 (0:Int))).snd.e∧True)∧(countR (ofR x.r) x.n).fst=wr IntKind.i64 (uintR (ofR (RR.mk x.r.l x.r.e)) (wr IntKind.u64 (0 :
 Int))).fst)∧True∧True)))∧(decide (x.n<(0:Int))=false→((x.r.l=x.r.l∧x.r.e=x.r.e∧True)∧wr IntKind.u64 x.n=wr IntKind.u64 x.n) ∧
 True∧(RRn.mk (RR.mk x.r.l x.r.e) (wr IntKind.u64 x.n)).Ok∧(((uintR (ofR (RR.mk x.r.l x.r.e)) (wr IntKind.u64 x.n)).snd.e != (0:Int))=true →
 ((x.r.l=x.r.l∧x.r.e=x.r.e∧True)∧(uintR (ofR (RR.mk x.r.l x.r.e)) (wr IntKind.u64 x.n)).snd.e=(uintR (ofR (RR.mk x.r.l x.r.e)) (wr
 IntKind.u64 x.n)).snd.e)∧True∧True∧(((countR (ofR x.r) x.n).snd.left=x.r.l∧((countR (ofR x.r) x.n).snd.e=if x.r.e=(0:Int) then (uintR
 (ofR (RR.mk x.r.l x.r.e)) (wr IntKind.u64 x.n)).snd.e else x.r.e)∧True)∧(countR (ofR x.r) x.n).fst=(0:Int))∧True∧True)∧(((uintR (ofR
 (RR.mk x.r.l x.r.e)) (wr IntKind.u64 x.n)).snd.e != (0:Int))=false→(↑(uintR (ofR (RR.mk x.r.l x.r.e)) (wr IntKind.u64 x.n)).snd.left.length :
 Int)≤(9223372036854775807:Int)→(decide ((uintR (ofR (RR.mk x.r.l x.r.e)) (wr IntKind.u64 x.n)).fst>wr IntKind.u64 (↑(uintR (ofR (RR.mk x.r.l
 x.r.e)) (wr IntKind.u64 x.n)).snd.left.length:Int))=true→((x.r.l=x.r.l∧x.r.e=x.r.e∧True)∧(2:Int)=(2:Int))∧True∧True ∧
 (((countR (ofR x.r) x.n).snd.left=x.r.l∧((countR (ofR x.r) x.n).snd.e=if x.r.e=(0:Int) then (2:Int) else x.r.e)∧True)∧(countR (ofR x.r)
 x.n).fst=(0:Int))∧True∧True)∧(decide ((uintR (ofR (RR.mk x.r.l x.r.e)) (wr IntKind.u64 x.n)).fst>wr IntKind.u64 (↑(uintR (ofR (RR.mk x.r.l
 x.r.e)) (wr IntKind.u64 x.n)).snd.left.length:Int))=false→(((countR (ofR x.r) x.n).snd.left=(uintR (ofR (RR.mk x.r.l x.r.e)) (wr IntKind.u64
 x.n)).snd.left∧(countR (ofR x.r) x.n).snd.e=(uintR (ofR (RR.mk x.r.l x.r.e)) (wr IntKind.u64 x.n)).snd.e∧True)∧(countR (ofR x.r) x.n).fst=wr
 IntKind.i64 (uintR (ofR (RR.mk x.r.l x.r.e)) (wr IntKind.u64 x.n)).fst)∧True∧True)))
theorem rrCount_eq:rrCountVC=fnS F182 f70 (bodyOf f70) rrCountLS noAnn:=by kernel_rfl
theorem rrCount_vc:rrCountVC:=by
 rintro ⟨⟨l,e⟩,m⟩ hx
 have hm:0≤m:=hx.lo
 have hm2:m≤1000000:=hx.hi
 have hw:wr .u64 m=m:=by rw [wr64u]; omega
 have hlt:¬m<0:=by omega
 have hok:(RRn.mk (RR.mk l e) m).Ok:=hx.toOk
 have hr:(RR.mk l e).Ok:=hx.r
 by_cases he:e=0
 case neg=>simp [uintR,countR,ofR,he,Rd.left,hw,hlt,hok]
 subst he
 have hL:(ofR ⟨l,0⟩).left=l:=rfl
 have hE0:(ofR ⟨l,0⟩).e=0:=rfl
 by_cases hz:numE l m=0
 case neg=>
  simp [uintR,countR,hL,hE0,hz,hw,hlt,hok]
  simp [ofR,Rd.left]
 have nf:=num_facts hr.of (m:=m) (by rw [hL]; exact hz)
 rw [hL] at nf
 have hlen:l.length≤1000000000000:=hr.len
 have e1:(Rd.mk l (numW l) 0).left=l.drop (numW l).toNat:=by
  rfl
 have e2:(((Rd.mk l (numW l) 0).left.length:Nat):Int)=(l.length:Int)-numW l:=by
  rw [e1,List.length_drop]
  omega
 have hw2:wr .u64 (((Rd.mk l (numW l) 0).left.length:Nat):Int)=(l.length:Int)-numW l:=by
  rw [e2,wr64u]
  omega
 have hw3:wr .i64 (numV l)=numV l:=wr64 (by unfold inI64; omega)
 have hu:uintR (ofR ⟨l,0⟩) m=(numV l,⟨l,numW l,0⟩):=by
  unfold uintR
  rw [if_neg (by simp [hE0]),hL,if_neg (by simp [hz])]
  show (numV l,Rd.mk l (0+numW l) 0)=_
  rw [Int.zero_add]
 by_cases hc:numV l>(l.length:Int)-numW l
 ·have hcr:countR (ofR ⟨l,0⟩) m=(0,⟨l,0,2⟩):=by
   unfold countR
   rw [if_neg (by simp [hE0]),hL,if_neg (by simp [hz]),if_pos hc]
   rfl
  simp [hu,hcr,hw,hlt,hok,hw2,hc]
  simp [Rd.left]
 ·have hcr:countR (ofR ⟨l,0⟩) m=(numV l,⟨l,numW l,0⟩):=by
   unfold countR
   rw [if_neg (by simp [hE0]),hL,if_neg (by simp [hz]),if_neg hc]
   show (numV l,Rd.mk l (0+numW l) 0)=_
   rw [Int.zero_add]
  simp [hu,hcr,hw,hlt,hok,hw2,hw3,hc]
theorem rrCount_ok:Fits F182 f70 (bodyOf f70) rrCountLS noAnn:=by
 constructor
 rw [← rrCount_eq]
 exact rrCount_vc
theorem rrCount_has:Has prog 70 f70 (bodyOf f70):=⟨by kernel_rfl,by kernel_rfl,by kernel_rfl⟩
theorem known183:Known prog L183:=by
 unfold L183
 exact known182.lent mixed rrCount_has F182_eq rrCount_ok (fun _ _=>Nat.zero_le _) (fun _ _=>rfl)
def rrDoneVC:Prop:=∀ (x:RR),True→((x.e==(0:Int))=true→(x.l.length:Int)≤(9223372036854775807:Int)→(decide ((x.l.length:Int)>(0:Int))=true →
 doneL x=(3:Int)∧True∧True)∧(decide ((x.l.length:Int)>(0:Int))=false→doneL x=x.e∧True∧True))∧((x.e==(0:Int))=false →
 doneL x=x.e∧True∧True)
theorem rrDone_eq:rrDoneVC=fnS F185 f55 (bodyOf f55) rrDoneLS noAnn:=by kernel_rfl
theorem rrDone_vc:rrDoneVC:=by
 rintro ⟨l,e⟩ _
 by_cases he:e=0
 ·subst he
  cases l with
  | nil=>simp [doneL]
  | cons c s=>
   simp [doneL]
 ·simp [doneL,he]
theorem rrDone_ok:Fits F185 f55 (bodyOf f55) rrDoneLS noAnn:=by
 constructor
 rw [← rrDone_eq]
 exact rrDone_vc
theorem rrDone_has:Has prog 55 f55 (bodyOf f55):=⟨by kernel_rfl,by kernel_rfl,by kernel_rfl⟩
def rrHashVC:Prop:=∀ (x:RR),x.Ok→((x.e != (0:Int))=true→((((hashR (ofR x)).snd.left=x.l∧(hashR (ofR x)).snd.e=x.e∧True)∧(hashR (ofR x)).fst =
 List.replicate (32:Nat) (0:Int)∧True)∧True∧True)∧(((hashR (ofR x)).snd.left=x.l∧(hashR (ofR x)).snd.e=x.e∧True)∧(hashR (ofR
 x)).fst=List.replicate (32:Nat) (0:Int)∧True)∧True∧True)∧((x.e != (0:Int))=false→(x.l.length:Int)≤(9223372036854775807:Int)
 → (decide ((x.l.length:Int)<(32:Int))=true→(((x.l=x.l∧x.e=x.e∧True)∧(12:Int)=(12:Int))∧True∧True∧((((hashR (ofR
 x)).snd.left=x.l∧((hashR (ofR x)).snd.e=if x.e=(0:Int) then (12:Int) else x.e)∧True)∧(hashR (ofR x)).fst=List.replicate (32:Nat) (0
 : Int)∧True)∧True∧True)∧(((hashR (ofR x)).snd.left=x.l∧((hashR (ofR x)).snd.e=if x.e=(0:Int) then (12:Int) else x.e)∧True) ∧
 (hashR (ofR x)).fst=List.replicate (32:Nat) (0:Int)∧True)∧True∧True)∧((x.l=x.l∧x.e=x.e∧True)∧(12:Int)=(12:Int))∧True ∧
 True∧(((hashR (ofR x)).snd.left=x.l∧((hashR (ofR x)).snd.e=if x.e=(0:Int) then (12:Int) else x.e)∧True)∧(hashR (ofR x)).fst =
 List.replicate (32:Nat) (0:Int)∧True)∧True∧True)∧(decide ((x.l.length:Int)<(32:Int))=false→(∃ (x_1:Nat),Nat.le x_1 (32:Nat)∧(↑x_1
 : Int)=(0:Int)∧((x.l=x.l∧x.e=x.e∧True)∧((SV.val (A:=AA) (Value.slice none (0:Nat) (0:Nat)):SV AA)=SV.val (A:=AA)
 (Value.slice none (0:Nat) (0:Nat))∧(0:Int)=(0:Int)∧True)∧(List.replicate (32:Nat) (0:Int)=List.replicate (32:Nat) (0:Int) ∧
 True)∧(List.take x_1 x.l++List.replicate ((32:Nat)-x_1) (0:Int)=List.replicate (32:Nat) (0:Int)∧True)∧True)∧True)∧∀ (x_1 :
 Nat),x_1.le (32:Nat)→(decide ((x_1:Int)<(32:Int))=true→(0:Int)≤(x_1:Int)∧(x_1:Int)<(x.l.length:Int)∧(↑x_1 :
 Int).toNat<x.l.length∧(0:Int)≤(x_1:Int)∧(x_1:Int)<(↑(32:Nat):Int)∧∀ (ys:List Int),ys=(List.take x_1 x.l++List.replicate
 ((32:Nat)-x_1) (0:Int)).set (x_1:Int).toNat (x.l.getD (x_1:Int).toNat (0:Int))→inI64 ((x_1:Int)+(1:Int))∧∃ (y:Nat),Nat.le y (32 :
 Nat)∧(32:Nat)-y<(32:Nat)-x_1∧(y:Int)=(x_1:Int)+(1:Int)∧((x.l=x.l∧x.e=x.e∧True)∧((SV.val (A:=AA) (Value.slice
 none (0:Nat) (0:Nat)):SV AA)=SV.val (A:=AA) (Value.slice none (0:Nat) (0:Nat))∧(0:Int)=(0:Int)∧True)∧(List.replicate (32 :
 Nat) (0:Int)=List.replicate (32:Nat) (0:Int)∧True)∧(List.take y x.l++List.replicate ((32:Nat)-y) (0:Int)=ys∧True)∧True) ∧
 True)∧(decide ((x_1:Int)<(32:Int))=false→(0:Int)≤(32:Int)∧(32:Int)≤(x.l.length:Int)∧(x.l.length:Int)≤(↑x.l.length :
 Int)∧((((hashR (ofR x)).snd.left=List.drop (Int.toNat (32:Int)) (List.take (x.l.length:Int).toNat x.l)∧(hashR (ofR x)).snd.e=x.e∧True) ∧
 (hashR (ofR x)).fst=List.take x_1 x.l++List.replicate ((32:Nat)-x_1) (0:Int)∧True)∧True∧True)∧(((hashR (ofR x)).snd.left=List.drop
 (Int.toNat (32:Int)) (List.take (x.l.length:Int).toNat x.l)∧(hashR (ofR x)).snd.e=x.e∧True)∧(hashR (ofR x)).fst=List.take x_1 x.l ++
 List.replicate ((32:Nat)-x_1) (0:Int)∧True)∧True∧True)))
theorem rrHash_eq:rrHashVC=fnS F183 f71 (bodyOf f71) rrHashLS rrHashAnn:=by kernel_rfl
theorem rrHash_vc:rrHashVC:=by
 rintro ⟨l,e⟩ hr
 have hlen:l.length≤1000000000000:=hr.len
 have hL:(ofR ⟨l,e⟩).left=l:=rfl
 by_cases he:e=0
 case neg=>simp [hashR,ofR,he,Rd.left]
 subst he
 have hE0:(ofR ⟨l,0⟩).e=0:=rfl
 by_cases hz:l.length<32
 ·have hz':(l.length:Int)<32:=by omega
  simp [hashR,hL,hE0,hz,hz']
  simp [ofR,Rd.left]
 have hz':¬(l.length:Int)<32:=by omega
 have hh:hashR (ofR ⟨l,0⟩)=(l.take 32,⟨l,0+32,0⟩):=by
  unfold hashR
  rw [if_neg (by simp [hE0]),hL,if_neg hz]
  rfl
 have hd:(Rd.mk l (0+32) 0).left=l.drop 32:=rfl
 refine ⟨fun h=>by simp at h,fun _ _=>⟨fun h=>absurd (of_decide_eq_true h) hz',fun _=>⟨⟨0,Nat.zero_le _,rfl,⟨⟨rfl,rfl,trivial⟩,⟨rfl,rfl,trivial⟩,⟨rfl,trivial⟩,⟨rfl,trivial⟩,trivial⟩,trivial⟩,fun k hk=>⟨fun h=>?_,fun h=>?_⟩⟩⟩⟩
 ·have h':(k:Int)<32:=of_decide_eq_true h
  have hk':k<l.length:=by omega
  refine ⟨by omega,by simp only; omega,hk',by omega,by omega,fun ys hy=>⟨by unfold inI64; omega,k+1,by show k+1≤32; omega,by omega,by omega,⟨⟨rfl,rfl,trivial⟩,⟨rfl,rfl,trivial⟩,⟨rfl,trivial⟩,⟨?_,trivial⟩,trivial⟩,trivial⟩⟩
  rw [hy]
  show l.take (k+1)++List.replicate (32-(k+1)) 0=(l.take k++List.replicate (32-k) 0).set k (l.getD k 0)
  have e1:(l.take k).length=k:=by rw [List.length_take]; omega
  rw [List.set_append_right _ _ (by omega),e1,Nat.sub_self,show 32-k=(32-(k+1))+1 by omega,List.replicate_succ,List.set_cons_zero,List.getD_eq_getElem?_getD,List.getElem?_eq_getElem hk']
  have e5:l.take (k+1)=l.take k++[l[k]]:=by rw [List.take_add_one,List.getElem?_eq_getElem hk']; rfl
  rw [e5,List.append_assoc]
  rfl
 ·have h':¬(k:Int)<32:=of_decide_eq_false h
  have hk2:k≤32:=hk
  have e:k=32:=by omega
  subst e
  rw [hh]
  have e2:(Rd.mk l (0+32) 0).left=l.drop 32:=rfl
  have e3:List.take (l.length:Int).toNat l=l:=by rw [Int.toNat_natCast,List.take_length]
  have fin:(((Rd.mk l (0+32) 0).left=List.drop (Int.toNat (32:Int)) (List.take (l.length:Int).toNat l)∧(Rd.mk l (0+32) 0).e=0∧True)∧l.take 32=l.take 32++List.replicate (32-32) 0∧True)∧True∧True:=by
   rw [e3]
   exact ⟨⟨⟨rfl,rfl,trivial⟩,by simp,trivial⟩,trivial,trivial⟩
  exact ⟨by omega,by simp only; omega,by omega,fin,fin⟩
theorem rrHash_ok:Fits F183 f71 (bodyOf f71) rrHashLS rrHashAnn:=by
 constructor
 rw [← rrHash_eq]
 exact rrHash_vc
theorem rrHash_has:Has prog 71 f71 (bodyOf f71):=⟨by kernel_rfl,by kernel_rfl,by kernel_rfl⟩
theorem known184:Known prog L184:=by
 unfold L184
 exact known183.lent mixed rrHash_has F183_eq rrHash_ok (fun _ _=>Nat.zero_le _) (fun _ _=>rfl)
def rrBytesVC:Prop:=∀ (x:RRn),x.Few→((x.r.e != (0:Int))=true→(((bytesR (ofR x.r) x.n).snd.left=x.r.l∧(bytesR (ofR x.r) x.n).snd.e=x.r.e∧True)∧(bytesR
 (ofR x.r) x.n).fst=[])∧True∧True)∧((x.r.e != (0:Int))=false→(decide (x.n<(0:Int))=true→((x.r.l=x.r.l∧x.r.e=x.r.e∧True) ∧
 (1:Int)=(1:Int))∧True∧True∧(((bytesR (ofR x.r) x.n).snd.left=x.r.l∧((bytesR (ofR x.r) x.n).snd.e=if x.r.e=(0:Int) then (1:Int)
 else x.r.e)∧True)∧(bytesR (ofR x.r) x.n).fst=[])∧True∧True)∧(decide (x.n<(0:Int))=false→(∃ (x_1:ScanX),(x_1.i≤x.r.l.length ∧
 (x_1.out.length:Int)≤x.n∧scanB x.n x.r.l [] (0:Nat)=scanB x.n (List.drop x_1.i x.r.l) x_1.out x_1.i)∧((x_1.i:Int)=(0:Int)∧(SV.val
 (A:=AA) (Value.slice none (0:Nat) (0:Nat)):SV AA)=SV.val (A:=AA) (Value.slice none (0:Nat) (0:Nat)))∧((x.r.l=x.r.l∧x.r.e=x.r.e
 ∧ True)∧((SV.val (A:=AA) (Value.slice none (0:Nat) (0:Nat)):SV AA)=SV.val (A:=AA) (Value.slice none (0:Nat) (0:Nat))∧(0:Int)=(0
 : Int)∧True)∧True)∧x_1.out=[]∧True)∧∀ (x_1:ScanX),x_1.i≤x.r.l.length∧(x_1.out.length:Int)≤x.n∧scanB x.n x.r.l [] (0:Nat) =
 scanB x.n (List.drop x_1.i x.r.l) x_1.out x_1.i→(x.r.l.length:Int)≤(9223372036854775807:Int)→(decide ((x_1.i:Int)<(↑x.r.l.length :
 Int))=true→(0:Int)≤(x_1.i:Int)∧(x_1.i:Int)<(x.r.l.length:Int)∧(x_1.i:Int).toNat<x.r.l.length∧((x.r.l.getD (↑x_1.i :
 Int).toNat (0:Int)==(0:Int))=true→inI64 ((x_1.i:Int)+(1:Int))∧((x.r.l.length:Int)≤(9223372036854775807:Int)→(((↑x_1.i :
 Int)+(1:Int)==(x.r.l.length:Int))=true→((x.r.l=x.r.l∧x.r.e=x.r.e∧True)∧(12:Int)=(12:Int))∧True∧True∧(((bytesR (ofR
 x.r) x.n).snd.left=x.r.l∧((bytesR (ofR x.r) x.n).snd.e=if x.r.e=(0:Int) then (12:Int) else x.r.e)∧True)∧(bytesR (ofR x.r) x.n).fst =
 [])∧True∧True)∧(((x_1.i:Int)+(1:Int)==(x.r.l.length:Int))=false→inI64 ((x_1.i:Int)+(1:Int))∧(0:Int)≤(x_1.i:Int) +
 (1:Int)∧(x_1.i:Int)+(1:Int)<(x.r.l.length:Int)∧((x_1.i:Int)+(1:Int)).toNat<x.r.l.length∧((x.r.l.getD ((x_1.i:Int)+(1
 : Int)).toNat (0:Int)==(0:Int))=true→inI64 ((x_1.i:Int)+(2:Int))∧(0:Int)≤(x_1.i:Int)+(2:Int)∧(x_1.i:Int)+(2:Int)
 ≤ (x.r.l.length:Int)∧(x.r.l.length:Int)≤(x.r.l.length:Int)∧(((bytesR (ofR x.r) x.n).snd.left=List.drop ((x_1.i:Int)+(2 :
 Int)).toNat (List.take (x.r.l.length:Int).toNat x.r.l)∧(bytesR (ofR x.r) x.n).snd.e=x.r.e∧True)∧(bytesR (ofR x.r) x.n).fst=x_1.out)∧True
 ∧ True)∧((x.r.l.getD ((x_1.i:Int)+(1:Int)).toNat (0:Int)==(0:Int))=false→inI64 ((x_1.i:Int)+(1:Int))∧(0:Int)≤(↑x_1.i :
 Int)+(1:Int)∧(x_1.i:Int)+(1:Int)<(x.r.l.length:Int)∧((x_1.i:Int)+(1:Int)).toNat<x.r.l.length∧((x.r.l.getD ((↑x_1.i :
 Int)+(1:Int)).toNat (0:Int) != (255:Int))=true→((x.r.l=x.r.l∧x.r.e=x.r.e∧True)∧(3:Int)=(3:Int))∧True∧True∧(((bytesR
 (ofR x.r) x.n).snd.left=x.r.l∧((bytesR (ofR x.r) x.n).snd.e=if x.r.e=(0:Int) then (3:Int) else x.r.e)∧True)∧(bytesR (ofR x.r) x.n).fst
 = [])∧True∧True)∧((x.r.l.getD ((x_1.i:Int)+(1:Int)).toNat (0:Int) != (255:Int))=false→(x_1.out.length:Int) ≤
 (9223372036854775807:Int)→(decide ((x_1.out.length:Int)≥x.n)=true→((x.r.l=x.r.l∧x.r.e=x.r.e∧True)∧(2:Int)=(2:Int))∧True
 ∧ True∧(((bytesR (ofR x.r) x.n).snd.left=x.r.l∧((bytesR (ofR x.r) x.n).snd.e=if x.r.e=(0:Int) then (2:Int) else x.r.e)∧True)∧(bytesR
 (ofR x.r) x.n).fst=[])∧True∧True)∧(decide ((x_1.out.length:Int)≥x.n)=false→(0:Int)≤(x_1.i:Int)∧(x_1.i:Int) <
 (x.r.l.length:Int)∧(x_1.i:Int).toNat<x.r.l.length∧(x_1.out.length+[x.r.l.getD (x_1.i:Int).toNat (0:Int)].length)*(1:Nat) ≤
 (140737488355328:Nat)∧x_1.out.length+[x.r.l.getD (x_1.i:Int).toNat (0:Int)].length≤(1152921504606846976:Nat)∧inI64 ((x_1.i:Int) +
 (2:Int))∧∃ (y:ScanX),(y.i≤x.r.l.length∧(y.out.length:Int)≤x.n∧scanB x.n x.r.l [] (0:Nat)=scanB x.n (List.drop y.i x.r.l) y.out y.i) ∧
 x.r.l.length-y.i<x.r.l.length-x_1.i∧((y.i:Int)=(x_1.i:Int)+(2:Int)∧True)∧((x.r.l=x.r.l∧x.r.e=x.r.e∧True)∧(SV.val (A
 := AA) (Value.slice none (0:Nat) (0:Nat))=SV.val (A:=AA) (Value.slice none (0:Nat) (0:Nat))∧(0:Int)=(0:Int)∧True)∧True)∧y.out
 = x_1.out++[x.r.l.getD (x_1.i:Int).toNat (0:Int)]∧True))))))∧((x.r.l.getD (x_1.i:Int).toNat (0:Int)==(0:Int))=false →
 (x_1.out.length:Int)≤(9223372036854775807:Int)→(decide ((x_1.out.length:Int)≥x.n)=true→((x.r.l=x.r.l∧x.r.e=x.r.e∧True)∧(2 :
 Int)=(2:Int))∧True∧True∧(((bytesR (ofR x.r) x.n).snd.left=x.r.l∧((bytesR (ofR x.r) x.n).snd.e=if x.r.e=(0:Int) then (2:Int) else
 x.r.e)∧True)∧(bytesR (ofR x.r) x.n).fst=[])∧True∧True)∧(decide ((x_1.out.length:Int)≥x.n)=false→(0:Int)≤(x_1.i:Int) ∧
 (x_1.i:Int)<(x.r.l.length:Int)∧(x_1.i:Int).toNat<x.r.l.length∧(x_1.out.length+[x.r.l.getD (x_1.i:Int).toNat (0:Int)].length) *
 (1:Nat)≤(140737488355328:Nat)∧x_1.out.length+[x.r.l.getD (x_1.i:Int).toNat (0:Int)].length≤(1152921504606846976:Nat)∧inI64
 ((x_1.i:Int)+(1:Int))∧∃ (y:ScanX),(y.i≤x.r.l.length∧(y.out.length:Int)≤x.n∧scanB x.n x.r.l [] (0:Nat)=scanB x.n (List.drop y.i x.r.l)
 y.out y.i)∧x.r.l.length-y.i<x.r.l.length-x_1.i∧((y.i:Int)=(x_1.i:Int)+(1:Int)∧True)∧((x.r.l=x.r.l∧x.r.e=x.r.e∧True) ∧
 ((SV.val (A:=AA) (Value.slice none (0:Nat) (0:Nat)):SV AA)=SV.val (A:=AA) (Value.slice none (0:Nat) (0:Nat))∧(0:Int)=(0:Int) ∧
 True)∧True)∧y.out=x_1.out++[x.r.l.getD (x_1.i:Int).toNat (0:Int)]∧True)))∧(decide ((x_1.i:Int)<(x.r.l.length:Int))=false →
 ((x.r.l=x.r.l∧x.r.e=x.r.e∧True)∧(12:Int)=(12:Int))∧True∧True∧(((bytesR (ofR x.r) x.n).snd.left=x.r.l∧((bytesR (ofR x.r)
 x.n).snd.e=if x.r.e=(0:Int) then (12:Int) else x.r.e)∧True)∧(bytesR (ofR x.r) x.n).fst=[])∧True∧True)))
theorem rrBytes_eq:rrBytesVC=fnS F184 f72 (bodyOf f72) rrBytesLS rrBytesAnn:=by kernel_rfl
theorem rrBytes_vc:rrBytesVC:=by
 rintro ⟨⟨l,e⟩,m⟩ hx
 have hr:(RR.mk l e).Ok:=hx.r
 have hm:0≤m:=hx.lo
 have hm2:m≤1000000:=hx.hi
 have hlen:l.length≤1000000000000:=hr.len
 by_cases he:e=0
 case neg=>simp [bytesR,ofR,Rd.left,he]
 subst he
 have err:∀ n:Int,n≠0→scanB m l [] 0=([],n,0)→((l=l∧(0:Int)=0∧True)∧n=n)∧True∧True∧(((bytesR (ofR ⟨l,0⟩) m).snd.left=l∧((bytesR (ofR ⟨l,0⟩) m).snd.e=if (0:Int)=0 then n else 0)∧True)∧(bytesR (ofR ⟨l,0⟩) m).fst=[])∧True∧True:=fun n hn h=>by
  have h':scanB m (ofR ⟨l,0⟩).left [] 0=([],n,0):=h
  rw [bytesR_err rfl h' hn]
  exact ⟨⟨⟨rfl,rfl,trivial⟩,rfl⟩,trivial,trivial,⟨⟨rfl,rfl,trivial⟩,rfl⟩,trivial,trivial⟩
 refine ⟨fun h=>by simp at h,fun _=>⟨fun h=>by simp at h; omega,fun _=>⟨⟨⟨0,[]⟩,⟨Nat.zero_le _,by simpa using hm,rfl⟩,⟨rfl,rfl⟩,⟨⟨rfl,rfl,trivial⟩,⟨rfl,rfl,trivial⟩,trivial⟩,rfl,trivial⟩,?_⟩⟩⟩
 rintro y ⟨hi,ho,hs⟩ _
 simp only at hi ho hs
 generalize y.i=i at hi ho hs ⊢
 generalize y.out=out at hi ho hs ⊢
 refine ⟨fun h=>?_,fun h=>?_⟩
 case refine_2=>
  have h':¬(i:Int)<l.length:=of_decide_eq_false h
  exact err 12 (by omega) (by rw [hs,List.drop_of_length_le (by omega)]; rfl)
 have h':(i:Int)<l.length:=of_decide_eq_true h
 have hi':i<l.length:=by omega
 rw [drop_at hi'] at hs
 refine ⟨by omega,h',hi',fun h0=>⟨by unfold inI64; omega,fun _=>⟨fun h1=>?_,fun h1=>?_⟩⟩,fun h0 _=>⟨fun h3=>?_,fun h3=>?_⟩⟩
 ·have h0':l.getD i 0=0:=by simpa using h0
  have h1':(i:Int)+1=l.length:=by simpa using h1
  rw [h0',List.drop_of_length_le (by omega),scan_last] at hs
  exact err 12 (by omega) hs
 ·have h0':l.getD i 0=0:=by simpa using h0
  have h1':¬(i:Int)+1=l.length:=by simpa using h1
  have hj:i+1<l.length:=by omega
  have ej:((i:Int)+1).toNat=i+1:=by omega
  rw [h0',drop_at hj,scan_zero] at hs
  rw [ej]
  have a1:(0:Int)≤(i:Int)+1:=by omega
  have a2:(i:Int)+1<(l.length:Int):=by omega
  have a5:inI64 ((i:Int)+1):=by unfold inI64; omega
  have a3:inI64 ((i:Int)+2):=by unfold inI64; omega
  refine ⟨a5,a1,a2,hj,fun h2=>⟨a3,by omega,by simp only; omega,Int.le_refl _,?_⟩,fun h2=>⟨a5,a1,a2,hj,fun h3=>?_,fun h3 _=>⟨fun h4=>?_,fun h4=>?_⟩⟩⟩
  ·have h2':l.getD (i+1) 0=0:=by simpa using h2
   rw [if_pos h2'] at hs
   have hs':scanB m (ofR ⟨l,0⟩).left [] 0=(out,0,i+2):=hs
   rw [bytesR_fine rfl hs']
   refine ⟨⟨⟨?_,rfl,trivial⟩,rfl⟩,trivial,trivial⟩
   show List.drop (0+((i+2:Nat):Int)).toNat l=List.drop ((i:Int)+2).toNat (List.take (l.length:Int).toNat l)
   rw [Int.toNat_natCast,List.take_length,show (0+((i+2:Nat):Int)).toNat=((i:Int)+2).toNat by omega]
  ·have h2':¬l.getD (i+1) 0=0:=by simpa using h2
   have h3':l.getD (i+1) 0≠255:=by simpa using h3
   rw [if_neg h2',if_pos h3'] at hs
   exact err 3 (by omega) hs
  ·have h2':¬l.getD (i+1) 0=0:=by simpa using h2
   have h3':¬l.getD (i+1) 0≠255:=by simpa using h3
   have h4':(out.length:Int)=m:=by
    have:(out.length:Int)≥m:=of_decide_eq_true h4
    omega
   rw [if_neg h2',if_neg h3',if_pos h4'] at hs
   exact err 2 (by omega) hs
  ·have h2':¬l.getD (i+1) 0=0:=by simpa using h2
   have h3':¬l.getD (i+1) 0≠255:=by simpa using h3
   have h4':¬(out.length:Int)=m:=by
    have:¬(out.length:Int)≥m:=of_decide_eq_false h4
    omega
   rw [if_neg h2',if_neg h3',if_neg h4'] at hs
   refine ⟨by omega,h',hi',by simp only [List.length_singleton]; omega,by simp only [List.length_singleton]; omega,a3,⟨i+2,out++[0]⟩,⟨by simp only; omega,by simp only [List.length_append,List.length_singleton]; omega,hs⟩,by simp only; omega,⟨by simp only; omega,trivial⟩,⟨⟨rfl,rfl,trivial⟩,⟨rfl,rfl,trivial⟩,trivial⟩,?_,trivial⟩
   show out++[0]=out++[l.getD i 0]
   rw [h0']
 ·have h0':l.getD i 0≠0:=by simpa using h0
  have h3':(out.length:Int)=m:=by
   have:(out.length:Int)≥m:=of_decide_eq_true h3
   omega
  rw [scan_byte h0',if_pos h3'] at hs
  exact err 2 (by omega) hs
 ·have h0':l.getD i 0≠0:=by simpa using h0
  have h3':¬(out.length:Int)=m:=by
   have:¬(out.length:Int)≥m:=of_decide_eq_false h3
   omega
  rw [scan_byte h0',if_neg h3'] at hs
  exact ⟨by omega,h',hi',by simp only [List.length_singleton]; omega,by simp only [List.length_singleton]; omega,by unfold inI64; omega,⟨i+1,out++[l.getD i 0]⟩,⟨hi',by simp only [List.length_append,List.length_singleton]; omega,hs⟩,by simp only; omega,⟨by simp only; omega,trivial⟩,⟨⟨rfl,rfl,trivial⟩,⟨rfl,rfl,trivial⟩,trivial⟩,rfl,trivial⟩
theorem rrBytes_ok:Fits F184 f72 (bodyOf f72) rrBytesLS rrBytesAnn:=by
 constructor
 rw [← rrBytes_eq]
 exact rrBytes_vc
theorem rrBytes_has:Has prog 72 f72 (bodyOf f72):=⟨by kernel_rfl,by kernel_rfl,by kernel_rfl⟩
theorem known185:Known prog L185:=by
 unfold L185
 exact known184.lent mixed rrBytes_has F184_eq rrBytes_ok (fun _ _=>Nat.zero_le _) (fun _ _=>rfl)
theorem known186:Known prog L186:=by
 unfold L186
 exact known185.lent mixed rrDone_has F185_eq rrDone_ok (fun _ _=>Nat.zero_le _) (fun _ _=>rfl)
end Go.Proofs.YtcglahfmnoghjaaGreatDoor

/-! The document's loops stop at the first error: what they read is the same. Conditions: none. -/
namespace Go.Proofs.YtcglahfmnoghjaaGreatDoor
open Go Go.Eng Go.Proofs.Tryz
/-- How far a loop goes that stops where a reader has failed. -/
def stopN (g:Nat→Rd):Nat→Nat
 | 0=>0
 | n+1=>if stopN g n=n∧(g n).e=0 then n+1 else stopN g n
theorem stop_le (g:Nat→Rd):∀ n,stopN g n≤n
 | 0=>Nat.le_refl _
 | n+1=>by
  have:=stop_le g n
  simp only [stopN]
  split<;>omega
theorem stop_up {g:Nat→Rd} {n:Nat} (h:stopN g n=n) (h0:(g n).e=0):stopN g (n+1)=n+1:=by
 simp only [stopN]
 rw [if_pos ⟨h,h0⟩]
theorem stop_here {g:Nat→Rd} {n:Nat} (h:stopN g n=n) (h0:(g n).e≠0):∀ m,n≤m→stopN g m=n
 | 0,hm=>by
  have e:n=0:=by omega
  subst e
  exact h
 | m+1,hm=>by
  rcases Nat.lt_or_ge m n with h1 | h1
  ·have e:n=m+1:=by omega
   subst e
   exact h
  ·have ih:=stop_here h h0 m h1
   simp only [stopN]
   rw [if_neg,ih]
   rintro ⟨h2,h3⟩
   have e:n=m:=by omega
   subst e
   exact h0 h3
/-- Where a loop that stops early stops: at its end, or at the first failed reader. -/
theorem stop_end (g:Nat→Rd):∀ n,stopN g n=n∨(g (stopN g n)).e≠0
 | 0 => .inl rfl
 | n+1=>by
  simp only [stopN]
  split
  ·exact .inl rfl
  ·rename_i h
   rcases stop_end g n with h1 | h1
   ·refine .inr ?_
    rw [h1]
    exact fun h2=>h ⟨h1,h2⟩
   ·exact .inr h1
def rKeys (m:Nat) (r:Rd):List Int×Rd:=dKeys (stopN (fun i=>(dKeys i r).2) m) r
def rK (r:Rd):List Int×Rd:=rKeys (countR r 16).1.toNat (countR r 16).2
def rH (r:Rd):List Int×Rd:=hashR (rK r).2
def rA (r:Rd):Int×Rd:=uintR (rH r).2 1099511627776
def rO (r:Rd):Int×Rd:=uintR (rA r).2 65536
def rBr (r:Rd):Br×Rd:=(⟨(rK r).1,(rH r).1,(rA r).1,(rO r).1⟩,(rO r).2)
def rBrs:Nat→Rd→List Br×Rd
 | 0,r=>([],r)
 | k+1,r=>((rBrs k r).1++[(rBr (rBrs k r).2).1],(rBr (rBrs k r).2).2)
def rC (r:Rd):List Br×Rd:=rBrs (stopN (fun i=>(rBrs i (countR r 8).2).2) (countR r 8).1.toNat) (countR r 8).2
theorem dKeys_more {r:Rd} {k:Nat} (h:(dKeys k r).2.e≠0):∀ m,k≤m→(dKeys m r).2=(dKeys k r).2
 | 0,hm=>by
  have e:k=0:=by omega
  subst e
  rfl
 | m+1,hm=>by
  rcases Nat.lt_or_ge m k with h1 | h1
  ·have e:k=m+1:=by omega
   subst e
   rfl
  ·have ih:=dKeys_more h m h1
   show (uintR (dKeys m r).2 16).2=_
   rw [ih,uint_dead h]
theorem rKeys_two (m:Nat) (r:Rd):(rKeys m r).2=(dKeys m r).2∧((rKeys m r).2.e=0→rKeys m r=dKeys m r):=by
 unfold rKeys
 rcases stop_end (fun i=>(dKeys i r).2) m with h | h
 ·rw [h]
  exact ⟨rfl,fun _=>rfl⟩
 ·exact ⟨(dKeys_more h m (stop_le _ m)).symm,fun h2=>(h h2).elim⟩
theorem rBr_two (r:Rd):(rBr r).2=(dBr r).2∧((rBr r).2.e=0→(rBr r).1=(dBr r).1):=by
 obtain ⟨h1,h2⟩:=rKeys_two (countR r 16).1.toNat (countR r 16).2
 change (rK r).2=(dK r).2 at h1
 change (rK r).2.e=0→rK r=dK r at h2
 have eH:rH r=dH r:=by unfold rH dH; rw [h1]
 have eA:rA r=dA r:=by unfold rA dA; rw [eH]
 have eO:rO r=dO r:=by unfold rO dO; rw [eA]
 refine ⟨by show (rO r).2=(dO r).2; rw [eO],fun h=>?_⟩
 have h3:(rK r).2.e=0:=Classical.byContradiction fun h3=>by
  have:(rO r).2.e≠0:=by
   show (uintR (uintR (hashR (rK r).2).2 1099511627776).2 65536).2.e≠0
   rw [hash_dead h3,uint_dead h3,uint_dead h3]
   exact h3
  exact this h
 show Br.mk (rK r).1 (rH r).1 (rA r).1 (rO r).1=Br.mk (dK r).1 (dH r).1 (dA r).1 (dO r).1
 rw [h2 h3,eH,eA,eO]
theorem rBrs_two (r:Rd):∀ k,(rBrs k r).2=(dBrs k r).2∧((rBrs k r).2.e=0→(rBrs k r).1=(dBrs k r).1)
 | 0=>⟨rfl,fun _=>rfl⟩
 | k+1=>by
  obtain ⟨h1,h2⟩:=rBrs_two r k
  obtain ⟨h3,h4⟩:=rBr_two (rBrs k r).2
  refine ⟨?_,fun h=>?_⟩
  ·show (rBr (rBrs k r).2).2=(dBr (dBrs k r).2).2
   rw [h3,h1]
  ·change (rBr (rBrs k r).2).2.e=0 at h
   have h5:(rBrs k r).2.e=0:=Classical.byContradiction fun h5=>by
    rw [h3] at h
    exact br_dead h5 h
   show (rBrs k r).1++[(rBr (rBrs k r).2).1]=(dBrs k r).1++[(dBr (dBrs k r).2).1]
   rw [h2 h5,h4 h,h1]
theorem dBrs_more {r:Rd} {k:Nat} (h:(dBrs k r).2.e≠0):∀ m,k≤m→(dBrs m r).2.e≠0
 | 0,hm=>by
  have e:k=0:=by omega
  subst e
  exact h
 | m+1,hm=>by
  rcases Nat.lt_or_ge m k with h1 | h1
  ·have e:k=m+1:=by omega
   subst e
   exact h
  ·exact br_dead (dBrs_more h m h1)
/-- Both read the same, where both read. -/
theorem rC_two (r:Rd):((rC r).2.e=0∧rC r=dC r)∨((rC r).2.e≠0∧(dC r).2.e≠0):=by
 unfold rC dC
 obtain ⟨h1,h2⟩:=rBrs_two (countR r 8).2 (stopN (fun i=>(rBrs i (countR r 8).2).2) (countR r 8).1.toNat)
 rcases stop_end (fun i=>(rBrs i (countR r 8).2).2) (countR r 8).1.toNat with h | h
 ·rw [h] at h1 h2 ⊢
  by_cases h3:(rBrs (countR r 8).1.toNat (countR r 8).2).2.e=0
  ·exact .inl ⟨h3,Prod.ext (h2 h3) h1⟩
  ·exact .inr ⟨h3,by rw [← h1]; exact h3⟩
 ·refine .inr ⟨h,?_⟩
  have h4:(dBrs (stopN (fun i=>(rBrs i (countR r 8).2).2) (countR r 8).1.toNat) (countR r 8).2).2.e≠0:=by
   rw [← h1]; exact h
  exact dBrs_more h4 _ (stop_le _ _)
theorem done_to {r:Rd} (h:r.Ok):doneL (toR r)=doneR r:=by
 unfold doneL doneR toR
 have hl:=left_len r h
 by_cases he:r.e=0
 ·rw [if_neg (c:=r.e≠0) (by simp [he])]
  by_cases hi:r.i<r.b.length
  ·rw [if_pos hi,if_pos]
   refine ⟨he,fun e=>?_⟩
   have e:r.left=[]:=e
   rw [e] at hl
   simp only [List.length_nil] at hl
   omega
  ·rw [if_neg hi,if_neg]
   ·exact he
   ·rintro ⟨_,h2⟩
    refine h2 (List.eq_nil_of_length_eq_zero ?_)
    show r.left.length=0
    omega
 ·rw [if_pos (c:=r.e≠0) he,if_neg (fun h2=>he h2.1)]
end Go.Proofs.YtcglahfmnoghjaaGreatDoor

/-! The document's condition, and transaction, of bytes: what is said of them. Conditions: none. -/
namespace Go.Proofs.YtcglahfmnoghjaaGreatDoor
open Go Go.Eng Go.Proofs.Tryz
theorem uint_same {r r':Rd} (h:r.Ok) (h':r'.Ok) (e:toR r=toR r') {m:Int} (hm:0≤m):(uintR r m).1=(uintR r' m).1∧toR (uintR r m).2=toR (uintR r' m).2:=by
 obtain ⟨a,b⟩:=uint_to h hm
 obtain ⟨c,d⟩:=uint_to h' hm
 rw [e] at a b
 exact ⟨a.symm.trans c,b.symm.trans d⟩
theorem keys_same {r r':Rd} (h:r.Ok) (h':r'.Ok) (e:toR r=toR r'):∀ k,(dKeys k r).1=(dKeys k r').1∧toR (dKeys k r).2=toR (dKeys k r').2
 | 0=>⟨rfl,e⟩
 | k+1=>by
  obtain ⟨h1,h2⟩:=keys_same h h' e k
  obtain ⟨h3,h4⟩:=uint_same (keysR_ok h k).1 (keysR_ok h' k).1 h2 (m:=16) (by omega)
  refine ⟨?_,h4⟩
  show (dKeys k r).1++[(uintR (dKeys k r).2 16).1]=(dKeys k r').1++[(uintR (dKeys k r').2 16).1]
  rw [h1,h3]
theorem to_e {r r':Rd} (e:toR r=toR r'):r.e=r'.e:=congrArg RR.e e
def rTakeLS:LS AA where
 X:=RR
 pre:=RR.Ok
 args:=fun r=>[.agg (rrSL r)]
 hin:=fun _=>[]
 res:=fun r=>[.agg (rrSL (toR (rC (ofR r)).2)),.agg (.cell (.rseq 85 (show List (AA 85) from (rC (ofR r)).1)) .nil)]
 hout:=fun _=>[]
/-- What a box holds: a reader of the document's. -/
def rrAt (sh:List (SO AA)):SV AA→Option RR
 | .ptr i 0=>match nth sh i with
  | some (.cells _ cs)=>decRR sh (.agg cs)
  | _=>none
 | _=>none
def rTakeAnn (x:RR):Anns AA:=fun k ts sh=>if k=5 then (match nth ts 1,nth ts 4 with
  | some (.ptr j1 _),some (.ptr j4 _)=>some {
   X:=Nat
   inv:=fun i=>(i:Int)≤(countR (ofR x) 8).1∧stopN (fun i=>(rBrs i (countR (ofR x) 8).2).2) i=i
   meas:=fun i=>(countR (ofR x) 8).1.toNat-i
   slots:=fun i=>[(6,.int .i64 i)]
   heap:=fun i=>[(j1,.cells 113 (rrSL (toR (rBrs i (countR (ofR x) 8).2).2))),(j4,.cells 50 (.cell (.vec (cnt sh)) .nil))]
   more:=fun i=>[.svec 85 (show List (AA 85) from (rBrs i (countR (ofR x) 8).2).1)] }
  | _,_=>none)
 else (match nth ts 1,nth ts 7,nth ts 8 with
  | some (.ptr j1 o1),some (.ptr j7 _),some (.int _ n)=>(match rrAt sh (.ptr j1 o1),nth sh j7 with
   | some r,some (.cells t (.cell _ rest))=>some {
    X:=Nat
    inv:=fun i=>(i:Int)≤n∧stopN (fun i=>(dKeys i (ofR r)).2) i=i
    meas:=fun i=>n.toNat-i
    slots:=fun i=>[(10,.int .i64 i)]
    heap:=fun i=>[(j1,.cells 113 (rrSL (toR (dKeys i (ofR r)).2))),(j7,.cells t (.cell (.vec (cnt sh)) rest))]
    more:=fun i=>[.ivec 3 .i64 (dKeys i (ofR r)).1] }
   | _,_=>none)
  | _,_,_=>none)
def L187:List (Nat×SpecT AA):=(54,tLent rTakeLS rrGet)::L186
noncomputable def F187:Eng AA:=EF prog L187
theorem F187_eq:F187=EF prog L187:=by
 unfold F187
 rfl
end Go.Proofs.YtcglahfmnoghjaaGreatDoor

/-! An error's number, for the transactions' laws. Conditions: the variable errors.errorType holds what its row says. Began as the kit's worked example 'ToyasWalks', turned to this program. -/
namespace Go.Proofs.YtcglahfmnoghjaaGreatDoor
open Go.RowKit Go.Extern.Stop Go.Stop Go.Extern
end Go.Proofs.YtcglahfmnoghjaaGreatDoor

/-! Transactions: whether one can be, what its outputs have; its bytes; its sum: what is said of them. Conditions: none. -/
namespace Go.Proofs.YtcglahfmnoghjaaGreatDoor
open Go Go.Eng Go.Proofs.Tryz
structure TxD where
 lock:Int
 ins:List TIn
 outs:List TOut
def ptOf (x:TIn):Pt:=⟨x.tx,x.n⟩
/-- What the map holds behind so many inputs. -/
structure MapI (l:List TIn) (k:Nat) (es:List (Pt×Int)) (st:List Int):Prop where
 le:k≤l.length
 len:es.length=st.length
 dis:(es.map (·.1)).Nodup
 mem:∀ p,p∈es.map (·.1)↔p∈(l.take k).map ptOf
 val:∀ p,p∈es→0≤p.2∧p.2≤k
 cnt:es.length≤k
end Go.Proofs.YtcglahfmnoghjaaGreatDoor

/-! Transactions: whether one can be, what its outputs have: plain laws; the walks hold. Conditions: none. -/
namespace Go.Proofs.YtcglahfmnoghjaaGreatDoor
open Go Go.Eng Go.Proofs.Tryz
theorem mfind_some {K V:Type} {k:K}:∀ {es:List (K×V)} {j:Nat} {z:V},mfind k es=some (j,z)→es[j]?=some (k,z)
 | [],j,z,h=>by simp [mfind] at h
 | p::l,j,z,h=>by
  simp only [mfind] at h
  split at h
  ·rename_i e
   simp only [Option.some.injEq,Prod.mk.injEq] at h
   obtain ⟨rfl,rfl⟩:=h
   rw [← e]
   rfl
  ·split at h
   ·rename_i i v hv
    simp only [Option.some.injEq,Prod.mk.injEq] at h
    obtain ⟨rfl,rfl⟩:=h
    simpa using mfind_some hv
   ·cases h
theorem mfind_none {K V:Type} {k:K}:∀ {es:List (K×V)},mfind k es=none→k∉es.map (·.1)
 | [],_=>by simp
 | p::l,h=>by
  simp only [mfind] at h
  split at h
  ·cases h
  ·rename_i e
   split at h
   ·cases h
   ·rename_i hv
    simp only [List.map_cons,List.mem_cons,not_or]
    exact ⟨fun e'=>e e'.symm,mfind_none hv⟩
theorem mapSet_fst {K V:Type} (es:List (K×V)) (j:Nat) (v:V):(mapSet es j v).map (·.1)=es.map (·.1):=by
 unfold mapSet
 apply List.ext_getElem?
 intro i
 rw [List.getElem?_map,List.getElem?_map,List.getElem?_modify]
 cases es[i]? with
 | none=>rfl
 | some p=>
  simp only [Option.map_some]
  split<;>rfl
theorem mapSet_len {K V:Type} (es:List (K×V)) (j:Nat) (v:V):(mapSet es j v).length=es.length:=by
 simp [mapSet]
theorem mapSet_mem {K V:Type} {es:List (K×V)} {j:Nat} {v:V} {p:K×V} (h:p∈mapSet es j v):p∈es∨p.2=v:=by
 obtain ⟨i,hi⟩:=List.getElem?_of_mem h
 unfold mapSet at hi
 rw [List.getElem?_modify] at hi
 cases hq:es[i]? with
 | none=>rw [hq] at hi; cases hi
 | some q=>
  rw [hq] at hi
  by_cases e:j=i
  ·right
   simp [e] at hi
   rw [← hi]
  ·left
   simp [e] at hi
   rw [← hi]; exact List.mem_of_getElem? hq
theorem take_pts {l:List TIn} {k:Nat} {y:TIn} (h:l[k]?=some y):(l.take (k+1)).map ptOf=(l.take k).map ptOf++[ptOf y]:=by
 rw [List.take_add_one,h]
 simp
theorem MapI.old {l:List TIn} {k:Nat} {es:List (Pt×Int)} {st:List Int} (h:MapI l k es st) {y:TIn} (hy:l[k]?=some y) {j:Nat} {z:Int} (hf:mfind (ptOf y) es=some (j,z)) {i:Nat}:MapI l (k+1) (mapSet es i (z+1)) st:=by
 have hm:=mfind_some hf
 have hk:=(List.getElem?_eq_some_iff.1 hy).1
 have hz:=h.val _ (List.mem_of_getElem? hm)
 have hin:ptOf y∈es.map (·.1):=List.mem_map.2 ⟨_,List.mem_of_getElem? hm,rfl⟩
 refine ⟨hk,by rw [mapSet_len]; exact h.len,by rw [mapSet_fst]; exact h.dis,fun p=>?_,fun p hp=>?_,by rw [mapSet_len]; have:=h.cnt; omega⟩
 ·rw [mapSet_fst,take_pts hy,List.mem_append,List.mem_singleton,h.mem]
  refine ⟨.inl,fun hp=>hp.elim id (fun e=>?_)⟩
  rw [e,← h.mem]
  exact hin
 ·rcases mapSet_mem hp with h1 | h1
  ·have:=h.val p h1; omega
  ·rw [h1]
   omega
theorem MapI.new {l:List TIn} {k:Nat} {es:List (Pt×Int)} {st:List Int} (h:MapI l k es st) {y:TIn} (hy:l[k]?=some y) (hf:mfind (ptOf y) es=none) {i:Nat} {b:Int}:MapI l (k+1) (mapSet (es++[(ptOf y,(0:Int))]) i 1) (st++[b]):=by
 have hm:=mfind_none hf
 have hk:=(List.getElem?_eq_some_iff.1 hy).1
 refine ⟨hk,by rw [mapSet_len]; simp [h.len],?_,fun p=>?_,fun p hp=>?_,by rw [mapSet_len]; have:=h.cnt; simp; omega⟩
 ·rw [mapSet_fst,List.map_append,List.nodup_append]
  refine ⟨h.dis,by simp,fun x hx z hz e=>?_⟩
  simp only [List.map_cons,List.map_nil,List.mem_singleton] at hz
  rw [e,hz] at hx
  exact hm hx
 ·rw [mapSet_fst,take_pts hy,List.map_append,List.mem_append,List.mem_append,h.mem]
  rfl
 ·rcases mapSet_mem hp with h1 | h1
  ·rcases List.mem_append.1 h1 with h2 | h2
   ·have:=h.val p h2; omega
   ·simp only [List.mem_singleton] at h2
    rw [h2]
    simp only
    omega
  ·rw [h1]; omega
end Go.Proofs.YtcglahfmnoghjaaGreatDoor

/-! A transaction's bytes, its sum; the totals' law: what is said of them. Conditions: none. -/
namespace Go.Proofs.YtcglahfmnoghjaaGreatDoor
open Go Go.Eng Go.Proofs.Tryz
/-- Bytes, so told that their end is seen. -/
def stuffB:List Int→List Int
 | []=>[]
 | c::l=>if c=0 then 0::255::stuffB l else c::stuffB l
def bytesB (xs:List Int):List Int:=stuffB xs++[0,0]
structure BB where
 xs:List Int
 b:List Int
structure BB.Ok (x:BB):Prop where
 len:x.xs.length≤1000000000000
 b:x.b.length≤1000000000
def inB (sec:TIn→List Int) (x:TIn):List Int:=x.tx++uintB (wr .u64 x.n)++uintB (wr .u64 x.branch)++bytesB (sec x)
def insB (sec:TIn→List Int):List TIn→List Int
 | []=>[]
 | x::l=>inB sec x++insB sec l
def sumW:List TOut→Nat
 | []=>0
 | o::l=>weight o.cond+sumW l
def Byt (l:List Int):Prop:=∀ y,y∈l→0≤y∧y<256
structure TxOk (t:TxD):Prop where
 n:t.ins.length≤2000000
 m:t.outs.length≤2000000
 w:sumW t.outs≤2000000
 tx:∀ x,x∈t.ins→x.tx.length=32∧Byt x.tx
 locks:∀ o,o∈t.outs→Locks o.cond∧∀ b,b∈o.cond→Byt b.lock
/-- A closure that put is handed: what it tells of an input. -/
def secOf (g:Nat):TIn→List Int:=cond (Nat.beq g 76) (fun _=>[]) (fun x=>x.secret)
end Go.Proofs.YtcglahfmnoghjaaGreatDoor

/-! A transaction's bytes, its sum; the totals' law: plain laws; the walks hold. Conditions: none. -/
namespace Go.Proofs.YtcglahfmnoghjaaGreatDoor
open Go Go.Eng Go.Proofs.Tryz
end Go.Proofs.YtcglahfmnoghjaaGreatDoor

/-! A transaction's sum: the walk holds. Conditions: none. -/
namespace Go.Proofs.YtcglahfmnoghjaaGreatDoor
open Go Go.Eng Go.Proofs.Tryz
def tA1 (x:TxD):List Int:=[]++uintB (wr IntKind.u64 x.lock)++uintB (wr IntKind.u64 (x.ins.length:Int))
def tA2 (x:TxD) (k:Nat):List Int:=tA1 x++insB (secOf (76:Nat)) (List.take k x.ins)
def tA3 (x:TxD) (k:Nat) (y:TIn):List Int:=tA2 x k++y.tx
def tA4 (x:TxD) (k:Nat) (y:TIn):List Int:=tA3 x k y++uintB (wr IntKind.u64 y.n)
def tA5 (x:TxD) (k:Nat) (y:TIn):List Int:=tA4 x k y++uintB (wr IntKind.u64 y.branch)
def tH (x:TxD):Prop:=((x.lock=x.lock∧x.ins=x.ins∧x.outs=x.outs∧True)∧(List.replicate (32:Nat) (0:Int)=List.replicate (32:Nat) (0:Int)∧True)∧(x.lock=x.lock∧x.ins=x.ins∧x.outs=x.outs∧True)∧(True∧True)∧True)
def tF (x:TxD) (k:Nat) (y:TIn):Prop:=inI64 ((k:Int)+(1:Int))∧∃ y_1,Nat.le y_1 x.ins.length∧x.ins.length-y_1<x.ins.length-k∧(y_1:Int)=(k:Int)+(1:Int)∧tH x∧tA1 x++insB (secOf (76:Nat)) (List.take y_1 x.ins)=tA5 x k y++bytesB []∧True
def tG (x:TxD) (k:Nat) (y:TIn):Prop:=(y.tx=y.tx∧y.n=y.n∧y.branch=y.branch∧y.secret=y.secret∧True)∧True∧True∧(True∧([]:List Int)=[])∧((True∧True)∧tA5 x k y=tA5 x k y∧True)∧(BB.mk (tA5 x k y) []).Ok∧tF x k y
def tK (x:TxD) (k:Nat) (y:TIn):Prop:=(True∧wr IntKind.u64 y.branch=wr IntKind.u64 y.branch)∧((True∧True)∧tA4 x k y=tA4 x k y∧True)∧(BN.mk (tA4 x k y) (wr IntKind.u64 y.branch)).Low∧tG x k y
def tL (x:TxD) (k:Nat) (y:TIn):Prop:=(True∧wr IntKind.u64 y.n=wr IntKind.u64 y.n)∧((True∧True)∧tA3 x k y=tA3 x k y∧True)∧(BN.mk (tA3 x k y) (wr IntKind.u64 y.n)).Low∧tK x k y
end Go.Proofs.YtcglahfmnoghjaaGreatDoor

/-! At, sure, the document's total, the totals' law: the walks hold. Conditions: none. -/
namespace Go.Proofs.YtcglahfmnoghjaaGreatDoor
open Go Go.Eng Go.Proofs.Tryz
end Go.Proofs.YtcglahfmnoghjaaGreatDoor

/-! A transaction given and checked: what is said of it. Conditions: none. -/
namespace Go.Proofs.YtcglahfmnoghjaaGreatDoor
open Go Go.Eng Go.Proofs.Tryz
def sumS:List TIn→Nat
 | []=>0
 | x::l=>x.secret.length+sumS l
structure Small (t:TxD):Prop where
 n:t.ins.length≤2000000
 m:t.outs.length≤2000000
 s:∀ x,x∈t.ins→x.secret.length≤2000000
 w:sumW t.outs≤2000000
end Go.Proofs.YtcglahfmnoghjaaGreatDoor

/-! A transaction given and checked: the walks hold. Conditions: none. -/
namespace Go.Proofs.YtcglahfmnoghjaaGreatDoor
open Go Go.Eng Go.Proofs.Tryz
theorem weight_le:∀ {l:List TOut} {o:TOut},o∈l→weight o.cond≤sumW l
 | x::l,o,h=>by
  simp only [sumW]
  rcases List.mem_cons.1 h with e | h
  ·subst e; omega
  ·have:=weight_le h; omega
theorem Small.cond {t:TxD} (h:Small t) {o:TOut} {j:Nat} (ho:t.outs[j]?=some o):o.cond.length+sumK o.cond≤2000000:=by
 have:=weight_le (List.mem_of_getElem? ho)
 have:=h.w
 unfold weight at *
 omega
end Go.Proofs.YtcglahfmnoghjaaGreatDoor

/-! A transaction given; the document's check; TxChecks: the walks hold. Conditions: none. -/
namespace Go.Proofs.YtcglahfmnoghjaaGreatDoor
open Go Go.Eng Go.Proofs.Tryz
end Go.Proofs.YtcglahfmnoghjaaGreatDoor

/-! A transaction's bytes; TxSecrets: what is said of them. Conditions: none. -/
namespace Go.Proofs.YtcglahfmnoghjaaGreatDoor
open Go Go.Eng Go.Proofs.Tryz
structure SecX where
 t:TxD
 n:Int
 s:List Int
structure SecX.Ok (x:SecX):Prop extends Small x.t,TxOk x.t where
 sum:sumS x.t.ins≤2000000
 bytes:∀ y,y∈x.t.ins→Byt y.secret
end Go.Proofs.YtcglahfmnoghjaaGreatDoor

/-! A transaction's bytes: the walk holds. Conditions: none. -/
namespace Go.Proofs.YtcglahfmnoghjaaGreatDoor
open Go Go.Eng Go.Proofs.Tryz
def eH (x:TxD):Prop:=((x.lock=x.lock∧x.ins=x.ins∧x.outs=x.outs∧True)∧(x.lock=x.lock∧x.ins=x.ins∧x.outs=x.outs∧True)∧(True∧True)∧True)
end Go.Proofs.YtcglahfmnoghjaaGreatDoor

/-! A transaction of bytes; TxBack: what is said of them. Conditions: none. -/
namespace Go.Proofs.YtcglahfmnoghjaaGreatDoor
open Go Go.Eng Go.Proofs.Tryz
end Go.Proofs.YtcglahfmnoghjaaGreatDoor

/-! A transaction made of its own bytes, plainly. Conditions: none. -/
namespace Go.Proofs.YtcglahfmnoghjaaGreatDoor
open Go Go.Eng Go.Proofs.Tryz
end Go.Proofs.YtcglahfmnoghjaaGreatDoor

/-! A transaction of bytes; TxBack: the walks. Conditions: none. -/
namespace Go.Proofs.YtcglahfmnoghjaaGreatDoor
open Go Go.Eng Go.Proofs.Tryz
end Go.Proofs.YtcglahfmnoghjaaGreatDoor

/-! What is read is told by the same bytes again. Conditions: none. -/
namespace Go.Proofs.YtcglahfmnoghjaaGreatDoor
open Go Go.Eng Go.Proofs.Tryz
end Go.Proofs.YtcglahfmnoghjaaGreatDoor

/-! A transaction that is read is told by the same bytes again, plainly. Conditions: none. -/
namespace Go.Proofs.YtcglahfmnoghjaaGreatDoor
open Go Go.Eng Go.Proofs.Tryz
theorem hash_byt {r:Rd} (h:r.Ok):Byt (hashR r).1:=by
 unfold hashR
 split
 ·intro y hy
  rw [List.mem_replicate] at hy
  omega
 split
 ·intro y hy
  rw [List.mem_replicate] at hy
  omega
 ·exact fun y hy=>left_byt h y (List.mem_of_mem_take hy)
theorem brs_small {r:Rd} (h:r.Ok):∀ k,(∀ b,b∈(dBrs k r).1→b.lock.length=32∧Byt b.lock)∧weight (dBrs k r).1≤17*k
 | 0=>⟨fun b hb=>(List.not_mem_nil hb).elim,Nat.le_refl _⟩
 | k+1=>by
  obtain ⟨h1,h2⟩:=brs_small h k
  have k1:=(brsR_ok h k).1
  refine ⟨fun b hb=>?_,?_⟩
  ·change b∈(dBrs k r).1++[(dBr (dBrs k r).2).1] at hb
   rcases List.mem_append.1 hb with h3 | h3
   ·exact h1 b h3
   ·rw [List.mem_singleton.1 h3]
    exact ⟨(hR_ok k1).2,hash_byt (kR_ok k1).1⟩
  ·show weight ((dBrs k r).1++[(dBr (dBrs k r).2).1])≤17*(k+1)
   have h3:(dBr (dBrs k r).2).1.keys.length≤16:=(kR_ok k1).2
   have h4:∀ l:List Br,∀ b:Br,weight (l++[b])=weight l+1+b.keys.length:=fun l b=>by
    induction l with
    | nil=>simp [weight,sumK]
    | cons c l ih=>
     simp only [weight,List.cons_append,List.length_cons,sumK] at ih ⊢
     omega
   rw [h4]
   omega
end Go.Proofs.YtcglahfmnoghjaaGreatDoor

/-! The document's condition, and transaction, of bytes: the same as the program's. Conditions: none. -/
namespace Go.Proofs.YtcglahfmnoghjaaGreatDoor
open Go Go.Eng Go.Proofs.Tryz
theorem stop_same {g g':Nat→Rd} (h:∀ i,(g i).e=(g' i).e):∀ n,stopN g n=stopN g' n
 | 0=>rfl
 | n+1=>by
  simp only [stopN]
  rw [stop_same h n,h n]
theorem rK_two (r:Rd):(rK r).2=(dK r).2:=(rKeys_two _ _).1
theorem rBrs_ok {r:Rd} (h:r.Ok) (k:Nat):(rBrs k r).2.Ok∧(rBrs k r).1.length=k:=by
 refine ⟨by rw [(rBrs_two r k).1]; exact (brsR_ok h k).1,?_⟩
 induction k with
 | zero=>rfl
 | succ k ih=>
  show ((rBrs k r).1++[(rBr (rBrs k r).2).1]).length=k+1
  rw [List.length_append,ih]
  rfl
theorem rC_ok {r:Rd} (h:r.Ok):(rC r).2.Ok:=(rBrs_ok (countR_ok h (m:=8) (by omega)).1 _).1
end Go.Proofs.YtcglahfmnoghjaaGreatDoor

/-! The document's condition off what is read: the walk. Conditions: none. -/
namespace Go.Proofs.YtcglahfmnoghjaaGreatDoor
open Go Go.Eng Go.Proofs.Tryz
def rt1 (x:RR):Int×Rd:=countR (ofR x) (8:Int)
def rt2 (x:RR) (i:Nat):List Br×Rd:=rBrs i (rt1 x).snd
def rt3 (x:RR) (i:Nat):Int×Rd:=countR (ofR (toR (rt2 x i).snd)) (16:Int)
def rt4 (x:RR) (i j:Nat):List Int×Rd:=dKeys j (ofR (toR (rt3 x i).snd))
def rt5 (x:RR) (i j:Nat):List Int×Rd:=hashR (ofR (toR (rt4 x i j).snd))
def rt6 (x:RR) (i j:Nat):Int×Rd:=uintR (ofR (toR (rt5 x i j).snd)) (1099511627776:Int)
def rt7 (x:RR) (i j:Nat):Int×Rd:=uintR (ofR (toR (rt6 x i j).snd)) (65536:Int)
def rt8 (x:RR) (i j:Nat):Int×Rd:=uintR (ofR (toR (rt4 x i j).snd)) (16:Int)
def nilP:Prop:=(SV.val (A:=AA) (Value.slice none (0:Nat) (0:Nat)):SV AA)=SV.val (A:=AA) (Value.slice none (0:Nat) (0:Nat))
theorem nilP_ok:nilP:=rfl
theorem fewR {r:RR} (h:r.Ok) {m:Int} (h1:0≤m) (h2:m≤1000):(RRn.mk r m).Few:=⟨⟨h,h1⟩,by show m≤1000000; omega⟩
theorem rt_end {x:RR} {i j:Nat} (h:(rt2 x i).2.Ok) (hj:(j:Int)≤(rt3 x i).1∧stopN (fun k=>(dKeys k (ofR (toR (rt3 x i).2))).2) j=j) (hd:(j:Int)<(rt3 x i).1→(rt4 x i j).2.e≠0) :
  (rt4 x i j).1=(rK (rt2 x i).2).1∧toR (rt4 x i j).2=toR (rK (rt2 x i).2).2:=by
 obtain ⟨c1,c2⟩:=count_to h (m:=16) (by omega)
 change (rt3 x i).1=_ at c1
 change toR (rt3 x i).2=_ at c2
 obtain ⟨k1,k2,k3⟩:=countR_ok h (m:=16) (by omega)
 have k':(ofR (toR (rt3 x i).2)).Ok:=(Rd.Ok.to (countR_ok (Rd.Ok.to h).of (m:=16) (by omega)).1).of
 have same:=keys_same k' k1 ((to_of _).trans c2)
 have s1:stopN (fun k=>(dKeys k (countR (rt2 x i).2 16).2).2) j=j:=by
  rw [← stop_same (g:=fun k=>(dKeys k (ofR (toR (rt3 x i).2))).2) fun k=>to_e (same k).2]
  exact hj.2
 have hj1:=hj.1
 have st:stopN (fun k=>(dKeys k (countR (rt2 x i).2 16).2).2) (countR (rt2 x i).2 16).1.toNat=j:=by
  by_cases hlt:(j:Int)<(rt3 x i).1
  ·have h0:=hd hlt
   refine stop_here s1 ?_ _ (by omega)
   rw [← to_e (same j).2]
   exact h0
  ·rw [show (countR (rt2 x i).2 16).1.toNat=j by omega]
   exact s1
 unfold rK rKeys
 rw [st]
 exact same j
theorem rK_ok {r:Rd} (h:r.Ok):(rK r).2.Ok:=by
 rw [rK_two]
 exact (kR_ok h).1
theorem rt_br {x:RR} {i j:Nat} (h:(rt2 x i).2.Ok) (e:(rt4 x i j).1=(rK (rt2 x i).2).1∧toR (rt4 x i j).2=toR (rK (rt2 x i).2).2) :
  Br.mk (rt4 x i j).1 (rt5 x i j).1 (wr .i64 (rt6 x i j).1) (wr .i64 (rt7 x i j).1)=(rBr (rt2 x i).2).1∧toR (rt7 x i j).2=toR (rBr (rt2 x i).2).2:=by
 have kk:=rK_ok h
 obtain ⟨h1,h2⟩:=hash_to kk
 rw [← e.2] at h1 h2
 change (rt5 x i j).1=(rH (rt2 x i).2).1 at h1
 change toR (rt5 x i j).2=toR (rH (rt2 x i).2).2 at h2
 have hh:(rH (rt2 x i).2).2.Ok:=(hashR_ok kk).1
 obtain ⟨a1,a2⟩:=uint_to hh (m:=1099511627776) (by omega)
 rw [← h2] at a1 a2
 change (rt6 x i j).1=(rA (rt2 x i).2).1 at a1
 change toR (rt6 x i j).2=toR (rA (rt2 x i).2).2 at a2
 obtain ⟨aa,an⟩:=uintR_ok hh (m:=1099511627776) (by omega)
 change (rA (rt2 x i).2).2.Ok at aa
 change 0≤(rA (rt2 x i).2).1∧(rA (rt2 x i).2).1≤1099511627776 at an
 obtain ⟨o1,o2⟩:=uint_to aa (m:=65536) (by omega)
 rw [← a2] at o1 o2
 change (rt7 x i j).1=(rO (rt2 x i).2).1 at o1
 change toR (rt7 x i j).2=toR (rO (rt2 x i).2).2 at o2
 obtain ⟨oo,on⟩:=uintR_ok aa (m:=65536) (by omega)
 change 0≤(rO (rt2 x i).2).1∧(rO (rt2 x i).2).1≤65536 at on
 refine ⟨?_,o2⟩
 rw [e.1,h1,a1,o1,wr_small an (by omega),wr_small on (by omega)]
 rfl
theorem rt_fin {x:RR} {i:Nat} (hi:(i:Int)≤(rt1 x).1∧stopN (fun k=>(rBrs k (rt1 x).2).2) i=i) (hd:(i:Int)<(rt1 x).1→(rt2 x i).2.e≠0):rC (ofR x)=rt2 x i:=by
 have h1:=hi.1
 have st:stopN (fun k=>(rBrs k (rt1 x).2).2) (rt1 x).1.toNat=i:=by
  by_cases hlt:(i:Int)<(rt1 x).1
  ·exact stop_here hi.2 (hd hlt) _ (by omega)
  ·rw [show (rt1 x).1.toNat=i by omega]
   exact hi.2
 show rBrs (stopN (fun k=>(rBrs k (rt1 x).2).2) (rt1 x).1.toNat) (rt1 x).2=_
 rw [st]
 rfl
def rtQ (x:RR) (x_1 x_2:Nat):Prop:=((rt4 x x_1 x_2).snd.left=(rt4 x x_1 x_2).snd.left∧(rt4 x x_1 x_2).snd.e=(rt4 x x_1 x_2).snd.e∧True)∧True∧(toR (rt4 x x_1 x_2).snd).Ok∧(((rt5 x x_1 x_2).snd.left=(rt5 x x_1 x_2).snd.left∧(rt5 x x_1 x_2).snd.e=(rt5 x x_1 x_2).snd.e∧True)∧(1099511627776:Int)=(1099511627776:Int))∧True∧(RRn.mk (toR (rt5 x x_1 x_2).snd) (1099511627776:Int)).Ok∧(((rt6 x x_1 x_2).snd.left=(rt6 x x_1 x_2).snd.left∧(rt6 x x_1 x_2).snd.e=(rt6 x x_1 x_2).snd.e∧True)∧(65536:Int)=(65536:Int))∧True∧(RRn.mk (toR (rt6 x x_1 x_2).snd) (65536:Int)).Ok∧((rt4 x x_1 x_2).fst=(rt4 x x_1 x_2).fst∧(rt5 x x_1 x_2).fst=(rt5 x x_1 x_2).fst∧wr IntKind.i64 (rt6 x x_1 x_2).fst=wr IntKind.i64 (rt6 x x_1 x_2).fst∧wr IntKind.i64 (rt7 x x_1 x_2).fst=wr IntKind.i64 (rt7 x x_1 x_2).fst∧True)∧((rt2 x x_1).fst.length+[Br.mk (rt4 x x_1 x_2).fst (rt5 x x_1 x_2).fst (wr IntKind.i64 (rt6 x x_1 x_2).fst) (wr IntKind.i64 (rt7 x x_1 x_2).fst)].length)*(72:Nat)≤(140737488355328:Nat)∧(rt2 x x_1).fst.length+[Br.mk (rt4 x x_1 x_2).fst (rt5 x x_1 x_2).fst (wr IntKind.i64 (rt6 x x_1 x_2).fst) (wr IntKind.i64 (rt7 x x_1 x_2).fst)].length≤(1152921504606846976:Nat)∧inI64 ((x_1:Int)+(1:Int))∧∃ (y:Nat),((y:Int)≤(rt1 x).fst∧stopN (fun i=>(rBrs i (rt1 x).snd).snd) y=y)∧(rt1 x).fst.toNat-y<(rt1 x).fst.toNat-x_1∧(y:Int)=(x_1:Int)+(1:Int)∧(((rBrs y (rt1 x).snd).snd.left=(rt7 x x_1 x_2).snd.left∧(rBrs y (rt1 x).snd).snd.e=(rt7 x x_1 x_2).snd.e∧True)∧(nilP∧(0:Int)=(0:Int)∧True)∧(nilP∧True)∧(True∧True)∧True)∧(rBrs y (rt1 x).snd).fst=(rt2 x x_1).fst++[Br.mk (rt4 x x_1 x_2).fst (rt5 x x_1 x_2).fst (wr IntKind.i64 (rt6 x x_1 x_2).fst) (wr IntKind.i64 (rt7 x x_1 x_2).fst)]∧True
def rTakeVC:Prop:=∀ (x:RR),x.Ok→((x.l=x.l∧x.e=x.e∧True)∧(8:Int)=(8:Int))∧True∧(RRn.mk x (8:Int)).Few∧(∃ (x_1:Nat),((x_1:Int)≤(rt1 x).fst∧stopN (fun i=>(rBrs i (rt1 x).snd).snd) x_1=x_1)∧(x_1:Int)=(0:Int)∧(((rt2 x x_1).snd.left=(rt1 x).snd.left∧(rt2 x x_1).snd.e=(rt1 x).snd.e∧True)∧(nilP∧(0:Int)=(0:Int)∧True)∧(nilP∧True)∧(nilP∧True)∧True)∧(rt2 x x_1).fst=[]∧True)∧∀ (x_1:Nat),(x_1:Int)≤(rt1 x).fst∧stopN (fun i=>(rBrs i (rt1 x).snd).snd) x_1=x_1→(decide ((x_1:Int)<(rt1 x).fst)=true→(((rt2 x x_1).snd.e==(0:Int))=true→(((rt2 x x_1).snd.left=(rt2 x x_1).snd.left∧(rt2 x x_1).snd.e=(rt2 x x_1).snd.e∧True)∧(16:Int)=(16:Int))∧True∧(RRn.mk (toR (rt2 x x_1).snd) (16:Int)).Few∧(∃ (x_2:Nat),((x_2:Int)≤(rt3 x x_1).fst∧stopN (fun i=>(dKeys i (ofR (toR (rt3 x x_1).snd))).snd) x_2=x_2)∧(x_2:Int)=(0:Int)∧(((rt4 x x_1 x_2).snd.left=(rt3 x x_1).snd.left∧(rt4 x x_1 x_2).snd.e=(rt3 x x_1).snd.e∧True)∧(nilP∧(0:Int)=(0:Int)∧True)∧(nilP∧True)∧(True∧True)∧(rt2 x x_1).fst=(rt2 x x_1).fst∧(nilP∧List.replicate (32:Nat) (0:Int)=List.replicate (32:Nat) (0:Int)∧(0:Int)=(0:Int)∧(0:Int)=(0:Int)∧True)∧True)∧(rt4 x x_1 x_2).fst=[]∧True)∧∀ (x_2:Nat),(x_2:Int)≤(rt3 x x_1).fst∧stopN (fun i=>(dKeys i (ofR (toR (rt3 x x_1).snd))).snd) x_2=x_2→(decide ((x_2:Int)<(rt3 x x_1).fst)=true→(((rt4 x x_1 x_2).snd.e==(0:Int))=true→(((rt4 x x_1 x_2).snd.left=(rt4 x x_1 x_2).snd.left∧(rt4 x x_1 x_2).snd.e=(rt4 x x_1 x_2).snd.e∧True)∧(16:Int)=(16:Int))∧True∧(RRn.mk (toR (rt4 x x_1 x_2).snd) (16:Int)).Ok∧((rt4 x x_1 x_2).fst.length+[wr IntKind.i64 (rt8 x x_1 x_2).fst].length)*(8:Nat)≤(140737488355328:Nat)∧(rt4 x x_1 x_2).fst.length+[wr IntKind.i64 (rt8 x x_1 x_2).fst].length≤(1152921504606846976:Nat)∧inI64 ((x_2:Int)+(1:Int))∧∃ (y:Nat),((y:Int)≤(rt3 x x_1).fst∧stopN (fun i=>(dKeys i (ofR (toR (rt3 x x_1).snd))).snd) y=y)∧(rt3 x x_1).fst.toNat-y<(rt3 x x_1).fst.toNat-x_2∧(y:Int)=(x_2:Int)+(1:Int)∧(((dKeys y (ofR (toR (rt3 x x_1).snd))).snd.left=(rt8 x x_1 x_2).snd.left∧(dKeys y (ofR (toR (rt3 x x_1).snd))).snd.e=(rt8 x x_1 x_2).snd.e∧True)∧(nilP∧(0:Int)=(0:Int)∧True)∧(nilP∧True)∧(True∧True)∧(rt2 x x_1).fst=(rt2 x x_1).fst∧(True∧List.replicate (32:Nat) (0:Int)=List.replicate (32:Nat) (0:Int)∧(0:Int)=(0:Int)∧(0:Int)=(0:Int)∧True)∧True)∧(dKeys y (ofR (toR (rt3 x x_1).snd))).fst=(rt4 x x_1 x_2).fst++[wr IntKind.i64 (rt8 x x_1 x_2).fst]∧True)∧(((rt4 x x_1 x_2).snd.e==(0:Int))=false→rtQ x x_1 x_2))∧(decide ((x_2:Int)<(rt3 x x_1).fst)=false→rtQ x x_1 x_2))∧(((rt2 x x_1).snd.e==(0:Int))=false→((((rC (ofR x)).snd.left=(rt2 x x_1).snd.left∧(rC (ofR x)).snd.e=(rt2 x x_1).snd.e∧True)∧(rC (ofR x)).fst=(rt2 x x_1).fst∧True)∧True∧True)∧(((rC (ofR x)).snd.left=(rt2 x x_1).snd.left∧(rC (ofR x)).snd.e=(rt2 x x_1).snd.e∧True)∧(rC (ofR x)).fst=(rt2 x x_1).fst∧True)∧True∧True))∧(decide ((x_1:Int)<(rt1 x).fst)=false→((((rC (ofR x)).snd.left=(rt2 x x_1).snd.left∧(rC (ofR x)).snd.e=(rt2 x x_1).snd.e∧True)∧(rC (ofR x)).fst=(rt2 x x_1).fst∧True)∧True∧True)∧(((rC (ofR x)).snd.left=(rt2 x x_1).snd.left∧(rC (ofR x)).snd.e=(rt2 x x_1).snd.e∧True)∧(rC (ofR x)).fst=(rt2 x x_1).fst∧True)∧True∧True)
theorem rTake_eq:rTakeVC=fnS F186 f54 (bodyOf f54) rTakeLS rTakeAnn:=by kernel_rfl
theorem rtQ_ok {x:RR} (h0:x.Ok) {i j:Nat} (hi:(i:Int)≤(rt1 x).1∧stopN (fun k=>(rBrs k (rt1 x).2).2) i=i) (hlt:(i:Int)<(rt1 x).1) (h2:(rt2 x i).2.e=0)
  (hj:(j:Int)≤(rt3 x i).1∧stopN (fun k=>(dKeys k (ofR (toR (rt3 x i).2))).2) j=j) (hd:(j:Int)<(rt3 x i).1→(rt4 x i j).2.e≠0):rtQ x i j:=by
 obtain ⟨c1,c2,c3⟩:=countR_ok h0.of (m:=8) (by omega)
 change (rt1 x).2.Ok at c1
 change (rt1 x).1≤8 at c3
 obtain ⟨b1,b2⟩:=rBrs_ok c1 i
 change (rt2 x i).2.Ok at b1
 change (rt2 x i).1.length=i at b2
 obtain ⟨e1,e2⟩:=rt_br b1 (rt_end b1 hj hd)
 have k4:(toR (rt4 x i j).2).Ok:=Rd.Ok.to (keysR_ok (Rd.Ok.to (countR_ok (Rd.Ok.to b1).of (m:=16) (by omega)).1).of j).1
 have k5:(toR (rt5 x i j).2).Ok:=Rd.Ok.to (hashR_ok k4.of).1
 have k6:(toR (rt6 x i j).2).Ok:=Rd.Ok.to (uintR_ok k5.of (m:=1099511627776) (by omega)).1
 refine ⟨⟨rfl,rfl,trivial⟩,trivial,k4,⟨⟨rfl,rfl,trivial⟩,rfl⟩,trivial,⟨k5,by show (0:Int)≤1099511627776; omega⟩,⟨⟨rfl,rfl,trivial⟩,rfl⟩,trivial,⟨k6,by show (0:Int)≤65536; omega⟩,⟨rfl,rfl,rfl,rfl,trivial⟩,?_,?_,by unfold inI64; omega,i+1,⟨?_,?_⟩,by omega,by omega,⟨⟨?_,?_,trivial⟩,⟨nilP_ok,rfl,trivial⟩,⟨nilP_ok,trivial⟩,⟨trivial,trivial⟩,trivial⟩,?_,trivial⟩
 ·rw [b2]; simp only [List.length_singleton]; omega
 ·rw [b2]; simp only [List.length_singleton]; omega
 ·omega
 ·exact stop_up hi.2 h2
 ·show (rBr (rt2 x i).2).2.left=_
  exact (congrArg RR.l e2).symm
 ·show (rBr (rt2 x i).2).2.e=_
  exact (congrArg RR.e e2).symm
 ·rw [e1]
  rfl
theorem rTake_vc:rTakeVC:=by
 intro x h0
 obtain ⟨c1,c2,c3⟩:=countR_ok h0.of (m:=8) (by omega)
 change (rt1 x).2.Ok at c1
 change 0≤(rt1 x).1 at c2
 change (rt1 x).1≤8 at c3
 refine ⟨⟨⟨rfl,rfl,trivial⟩,rfl⟩,trivial,fewR h0 (by omega) (by omega),⟨0,⟨c2,rfl⟩,rfl,⟨⟨rfl,rfl,trivial⟩,⟨nilP_ok,rfl,trivial⟩,⟨nilP_ok,trivial⟩,⟨nilP_ok,trivial⟩,trivial⟩,rfl,trivial⟩,fun i hi=>⟨fun h1=>⟨fun h2=>?_,fun h2=>?_⟩,fun h1=>?_⟩⟩
 ·have h1':(i:Int)<(rt1 x).1:=of_decide_eq_true h1
  have h2':(rt2 x i).2.e=0:=by simpa using h2
  obtain ⟨b1,b2⟩:=rBrs_ok c1 i
  change (rt2 x i).2.Ok at b1
  change (rt2 x i).1.length=i at b2
  obtain ⟨d1,d2,d3⟩:=countR_ok (Rd.Ok.to b1).of (m:=16) (by omega)
  change (rt3 x i).2.Ok at d1
  change 0≤(rt3 x i).1 at d2
  change (rt3 x i).1≤16 at d3
  refine ⟨⟨⟨rfl,rfl,trivial⟩,rfl⟩,trivial,fewR (Rd.Ok.to b1) (by omega) (by omega),⟨0,⟨d2,rfl⟩,rfl,⟨⟨rfl,rfl,trivial⟩,⟨nilP_ok,rfl,trivial⟩,⟨nilP_ok,trivial⟩,⟨trivial,trivial⟩,rfl,⟨nilP_ok,rfl,rfl,rfl,trivial⟩,trivial⟩,rfl,trivial⟩,fun j hj=>⟨fun h3=>⟨fun h4=>?_,fun h4=>?_⟩,fun h3=>?_⟩⟩
  ·have h3':(j:Int)<(rt3 x i).1:=of_decide_eq_true h3
   have h4':(rt4 x i j).2.e=0:=by simpa using h4
   obtain ⟨k1,k2⟩:=keysR_ok (Rd.Ok.to d1).of j
   change (rt4 x i j).2.Ok at k1
   change (rt4 x i j).1.length=j at k2
   obtain ⟨u1,u2⟩:=uint_to k1 (m:=16) (by omega)
   change (rt8 x i j).1=_ at u1
   change toR (rt8 x i j).2=_ at u2
   have un:=(uintR_ok k1 (m:=16) (by omega)).2
   refine ⟨⟨⟨rfl,rfl,trivial⟩,rfl⟩,trivial,⟨Rd.Ok.to k1,by show (0:Int)≤16; omega⟩,?_,?_,by unfold inI64; omega,j+1,⟨?_,stop_up hj.2 h4'⟩,by omega,by omega,⟨⟨?_,?_,trivial⟩,⟨nilP_ok,rfl,trivial⟩,⟨nilP_ok,trivial⟩,⟨trivial,trivial⟩,rfl,⟨trivial,rfl,rfl,rfl,trivial⟩,trivial⟩,?_,trivial⟩
   ·rw [k2]; simp only [List.length_singleton]; omega
   ·rw [k2]; simp only [List.length_singleton]; omega
   ·omega
   ·exact (congrArg RR.l u2).symm
   ·exact (congrArg RR.e u2).symm
   ·rw [u1,wr_small un (by omega)]
    rfl
  ·exact rtQ_ok h0 hi h1' h2' hj (fun _=>by simpa using h4)
  ·have h3':¬(j:Int)<(rt3 x i).1:=of_decide_eq_false h3
   exact rtQ_ok h0 hi h1' h2' hj (fun h=>(h3' h).elim)
 ·have e:=rt_fin hi (fun _=>by simpa using h2)
  rw [e]
  exact ⟨⟨⟨⟨rfl,rfl,trivial⟩,rfl,trivial⟩,trivial,trivial⟩,⟨⟨rfl,rfl,trivial⟩,rfl,trivial⟩,trivial,trivial⟩
 ·have h1':¬(i:Int)<(rt1 x).1:=of_decide_eq_false h1
  have e:=rt_fin hi (fun h=>(h1' h).elim)
  rw [e]
  exact ⟨⟨⟨⟨rfl,rfl,trivial⟩,rfl,trivial⟩,trivial,trivial⟩,⟨⟨rfl,rfl,trivial⟩,rfl,trivial⟩,trivial,trivial⟩
theorem rTake_ok:Fits F186 f54 (bodyOf f54) rTakeLS rTakeAnn:=by
 constructor
 rw [← rTake_eq]
 exact rTake_vc
theorem rTake_has:Has prog 54 f54 (bodyOf f54):=⟨by kernel_rfl,by kernel_rfl,by kernel_rfl⟩
theorem known187:Known prog L187:=by
 unfold L187
 exact known186.lent mixed rTake_has F186_eq rTake_ok (fun _ _=>Nat.zero_le _) (fun _ _=>rfl)
end Go.Proofs.YtcglahfmnoghjaaGreatDoor

/-! The document's condition of bytes; CondBytes: what is said of them. Conditions: none. -/
namespace Go.Proofs.YtcglahfmnoghjaaGreatDoor
open Go Go.Eng Go.Proofs.Tryz
noncomputable def rDecLS:LS AA where
 X:=List Int
 pre:=DecIn
 args:=fun b=>[.rints .u8 b]
 hin:=fun _=>[]
 res:=fun b=>[.agg (.cell (.rseq 85 (show List (AA 85) from decB b)) .nil),.int .i64 (decE b)]
 hout:=fun _=>[]
noncomputable def L210:List (Nat×SpecT AA):=(22,tLent rDecLS bytesGet1)::L187
noncomputable def L211:List (Nat×SpecT AA):=(22,tLent rDecLS bytesGet1)::L132
noncomputable def L212:List (Nat×SpecT AA):=(25,tLent rPutLS rPutGet)::L211
noncomputable def L213:List (Nat×SpecT AA):=(24,tLent orLS orGet)::L212
noncomputable def F213:Eng AA:=EF prog L213
theorem F213_eq:F213=EF prog L213:=by
 unfold F213
 rfl
structure CBX where
 c:List Br
 d:List Br
 b:List Int
structure CBX.Ok (x:CBX):Prop where
 c:weight x.c≤1099511627776
 cl:Locks x.c
 cb:∀ b,b∈x.c→∀ y,y∈b.lock→0≤y∧y<256
 d:weight x.d≤1099511627776
 dl:Locks x.d
 db:∀ b,b∈x.d→∀ y,y∈b.lock→0≤y∧y<256
 b:DecIn x.b
 few:x.b.length≤1000000000
noncomputable def condBytesLS:LS AA where
 X:=CBX
 pre:=CBX.Ok
 args:=fun x=>[.agg (.cell (.rseq 85 (show List (AA 85) from x.c)) .nil),.agg (.cell (.rseq 85 (show List (AA 85) from x.d)) .nil),.rints .u8 x.b]
 hin:=fun _=>[]
 res:=fun _=>[.sb 0 true]
 hout:=fun _=>[]
end Go.Proofs.YtcglahfmnoghjaaGreatDoor

/-! The document's condition of bytes: the walk. Conditions: none. -/
namespace Go.Proofs.YtcglahfmnoghjaaGreatDoor
open Go Go.Eng Go.Proofs.Tryz
def rDecVC:Prop:=∀ (x:List Int),DecIn x→(x=x∧(0:Int)=(0:Int)∧True)∧True∧(RR.mk x (0:Int)).Ok∧((rC (ofR (RR.mk x (0:Int)))).snd.left=(rC
 (ofR (RR.mk x (0:Int)))).snd.left∧(rC (ofR (RR.mk x (0:Int)))).snd.e=(rC (ofR (RR.mk x (0:Int)))).snd.e∧True)∧True∧True∧((doneL
 (RR.mk (rC (ofR (RR.mk x (0:Int)))).snd.left (rC (ofR (RR.mk x (0:Int)))).snd.e) != (0:Int))=true→((decB x=[]∧True)∧decE x=(3:Int))
 ∧ True∧True)∧((doneL (RR.mk (rC (ofR (RR.mk x (0:Int)))).snd.left (rC (ofR (RR.mk x (0:Int)))).snd.e) != (0:Int))=false→(rC (ofR (RR.mk x
 (0:Int)))).fst.length.le (9223372036854775807:Nat)∧(((bif fineB (rC (ofR (RR.mk x (0:Int)))).fst then (0:Int) else (1:Int)) != (0:Int)) =
 true→((decB x=[]∧True)∧decE x=(3:Int))∧True∧True)∧(((bif fineB (rC (ofR (RR.mk x (0:Int)))).fst then (0:Int) else (1:Int)) !=
 (0:Int))=false→((decB x=(rC (ofR (RR.mk x (0:Int)))).fst∧True)∧decE x=(0:Int))∧True∧True))
theorem rDec_eq:rDecVC=fnS F187 f22 (bodyOf f22) rDecLS noAnn:=by kernel_rfl
theorem rDec_vc:rDecVC:=by
 intro x hx
 have h0:(Rd.mk x 0 0).Ok:=⟨hx.byt,by show (0:Int)≤0; omega,by show (0:Int)≤x.length; omega,hx.len⟩
 have e0:ofR (RR.mk x (0:Int))=Rd.mk x 0 0:=rfl
 have hc:(rC (Rd.mk x 0 0)).2.Ok:=rC_ok h0
 rw [e0]
 change _∧_∧_∧_∧_∧_∧((doneL (toR (rC (Rd.mk x 0 0)).2) != 0)=true→_)∧((doneL (toR (rC (Rd.mk x 0 0)).2) != 0)=false→_)
 rw [done_to hc]
 have hB:∀ b,decOk x=b→decB x=(if b then (dC (Rd.mk x 0 0)).1 else [])∧decE x=(if b then 0 else 3):=fun b hb=>by
  unfold decB decE
  rw [hb]
  exact ⟨rfl,rfl⟩
 have no:decOk x=false→((decB x=[]∧True)∧decE x=(3:Int))∧True∧True:=fun hd=>by
  rw [(hB _ hd).1,(hB _ hd).2]
  exact ⟨⟨⟨rfl,trivial⟩,rfl⟩,trivial,trivial⟩
 have ok:decOk x=(decide (doneR (dC (Rd.mk x 0 0)).2=0)&&fineB (dC (Rd.mk x 0 0)).1):=rfl
 have hlen:(rC (Rd.mk x 0 0)).1.length.le (9223372036854775807:Nat):=by
  have h1:=(rBrs_ok (countR_ok h0 (m:=8) (by omega)).1 (stopN (fun i=>(rBrs i (countR (Rd.mk x 0 0) 8).2).2) (countR (Rd.mk x 0 0) 8).1.toNat)).2
  have h2:=stop_le (fun i=>(rBrs i (countR (Rd.mk x 0 0) 8).2).2) (countR (Rd.mk x 0 0) 8).1.toNat
  have h3:=(countR_ok h0 (m:=8) (by omega)).2
  show (rC (Rd.mk x 0 0)).1.length≤_
  unfold rC
  omega
 rcases rC_two (Rd.mk x 0 0) with ⟨d1,d2⟩ | ⟨d1,d2⟩
 ·rw [d2] at hlen ⊢
  refine ⟨⟨rfl,rfl,trivial⟩,trivial,⟨hx.byt,hx.len⟩,⟨rfl,rfl,trivial⟩,trivial,trivial,fun h=>no ?_,fun h=>⟨hlen,fun h2=>no ?_,fun h2=>?_⟩⟩
  ·rw [ok,decide_eq_false (by simpa using h)]
   rfl
  ·have hf:fineB (dC (Rd.mk x 0 0)).1=false:=by
    cases e:fineB (dC (Rd.mk x 0 0)).1 with
    | false=>rfl
    | true=>rw [e] at h2; simp at h2
   rw [ok,hf,Bool.and_false]
  ·have hf:fineB (dC (Rd.mk x 0 0)).1=true:=by
    cases e:fineB (dC (Rd.mk x 0 0)).1 with
    | true=>rfl
    | false=>rw [e] at h2; simp at h2
   have hd:decOk x=true:=by
    rw [ok,hf,decide_eq_true (by simpa using h)]
    rfl
   rw [(hB _ hd).1,(hB _ hd).2]
   exact ⟨⟨⟨rfl,trivial⟩,rfl⟩,trivial,trivial⟩
 ·have e1:doneR (rC (Rd.mk x 0 0)).2≠0:=by
   unfold doneR
   rw [if_pos d1]
   exact d1
  have hd:decOk x=false:=by
   rw [ok,decide_eq_false]
   ·rfl
   ·unfold doneR
    rw [if_pos d2]
    exact d2
  exact ⟨⟨rfl,rfl,trivial⟩,trivial,⟨hx.byt,hx.len⟩,⟨rfl,rfl,trivial⟩,trivial,trivial,fun _=>no hd,fun h=>absurd (by simpa using h) e1⟩
theorem rDec_ok:Fits F187 f22 (bodyOf f22) rDecLS noAnn:=by
 constructor
 rw [← rDec_eq]
 exact rDec_vc
theorem rDec_has:Has prog 22 f22 (bodyOf f22):=⟨by kernel_rfl,by kernel_rfl,by kernel_rfl⟩
theorem known210:Known prog L210:=by
 unfold L210
 exact known187.lent mixed rDec_has F187_eq rDec_ok (fun _ _=>Nat.zero_le _) (fun _ _=>rfl)
theorem rdec4_at:ttOf L210 22=tLent rDecLS bytesGet1:=by
 unfold L210
 rfl
theorem rput4_at:ttOf L75 25=tLent rPutLS rPutGet:=by
 unfold L75
 rfl
theorem or_at:ttOf L52 24=tLent orLS orGet:=by
 unfold L52
 rfl
theorem known211:Known prog L211:=by
 unfold L211
 exact known210.over _ _ rdec4_at known132
theorem known212:Known prog L212:=by
 unfold L212
 exact known75.over _ _ rput4_at known211
theorem known213:Known prog L213:=by
 unfold L213
 exact known52.over _ _ or_at known212
end Go.Proofs.YtcglahfmnoghjaaGreatDoor

/-! CondBytes: the walk. Conditions: none. -/
namespace Go.Proofs.YtcglahfmnoghjaaGreatDoor
open Go Go.Eng Go.Proofs.Tryz
theorem weight_join:∀ a b:List Br,weight (a++b)=weight a+weight b
 | [],b=>by simp [weight,sumK]
 | x::a,b=>by
  have h:=weight_join a b
  simp only [weight,List.cons_append,List.length_cons,sumK] at h ⊢
  omega
theorem decB_small {b:List Int} (hb:DecIn b):weight (decB b)≤136∧Locks (decB b):=by
 have h0:(Rd.mk b 0 0).Ok:=⟨hb.byt,by show (0:Int)≤0; omega,by show (0:Int)≤b.length; omega,hb.len⟩
 obtain ⟨c1,c2,c3⟩:=countR_ok h0 (m:=8) (by omega)
 obtain ⟨s1,s2⟩:=brs_small c1 (countR (Rd.mk b 0 0) 8).1.toNat
 unfold decB
 cases decOk b with
 | false=>exact ⟨Nat.zero_le _,fun y hy=>(List.not_mem_nil hy).elim⟩
 | true=>
  refine ⟨?_,fun y hy=>(s1 y hy).1⟩
  show weight (dBrs (countR (Rd.mk b 0 0) 8).1.toNat (countR (Rd.mk b 0 0) 8).2).1≤136
  omega
def cb2 (x:CBX):Prop:=((strOfNums ([]++putB (decB x.b))).toList==(strOfNums ([]++putB (decB x.b))).toList)=true→((decE x.b==decE x.b)=true→(([]:List Int)=[]∧x.c++x.d=x.c++x.d∧True)∧True∧(PutX.mk [] (x.c++x.d)).Ok∧(((strOfNums ([]++putB (x.c++x.d))).toList==(strOfNums ([]++putB (x.c++x.d))).toList)=true→(weight x.d).le (300:Nat)∧((x.c=x.c∧True)∧x.d=x.d∧True)∧True∧SamIn (x.c,x.d)∧((((strOfNums (putB x.c)).toList==(strOfNums (putB x.d)).toList)==((strOfNums ([]++putB x.c)).toList==(strOfNums ([]++putB x.d)).toList))=true→True∧True∧True∧true=true∧True∧True)∧((((strOfNums (putB x.c)).toList==(strOfNums (putB x.d)).toList)==((strOfNums ([]++putB x.c)).toList==(strOfNums ([]++putB x.d)).toList))=false→true=false∧True∧True))∧(((strOfNums ([]++putB (x.c++x.d))).toList==(strOfNums ([]++putB (x.c++x.d))).toList)=false→true=false∧True∧True))∧((decE x.b==decE x.b)=false→true=false∧True∧True)
def cb4 (x:CBX):Prop:=((strOfNums ([]++putB (decB x.b))).toList==(strOfNums ([]++putB (decB x.b))).toList)=false→true=false∧True∧True
def cb1 (x:CBX):Prop:=((strOfNums (x.b++putB x.c)).toList==(strOfNums (x.b++putB x.c)).toList)=true→(([]:List Int)=[]∧decB x.b=decB x.b∧True)∧True∧(PutX.mk [] (decB x.b)).Ok∧((([]:List Int)=[]∧decB x.b=decB x.b∧True)∧True∧(PutX.mk [] (decB x.b)).Ok∧(cb2 x)∧(cb4 x))∧(([]:List Int)=[]∧decB x.b=decB x.b∧True)∧True∧(PutX.mk [] (decB x.b)).Ok∧((cb2 x)∧(cb4 x))∧(cb2 x)∧(cb4 x)
def cb3 (x:CBX):Prop:=((strOfNums (x.b++putB x.c)).toList==(strOfNums (x.b++putB x.c)).toList)=false→(true=false∧True∧True)∧(true=false∧True∧True)∧true=false∧True∧True
def cb5 (x:CBX):Prop:=(x.b=x.b∧x.c=x.c∧True)∧True∧(PutX.mk x.b x.c).Ok∧(cb1 x)∧(cb3 x)
def condBytesVC:Prop:=∀ (x:CBX),x.Ok→(weight x.c).le (1099511627776:Nat)∧(decide ((300:Nat)<weight x.c)=true→True∧True∧True∧true=true∧True∧True)∧(decide ((300:Nat)<weight x.c)=false→(weight x.d).le (1099511627776:Nat)∧(decide ((300:Nat)<weight x.d)=true→True∧True∧True∧true=true∧True∧True)∧(decide ((300:Nat)<weight x.d)=false→x.b=x.b∧True∧DecIn x.b∧x.b=x.b∧True∧DecIn x.b∧(weight x.c).le (300:Nat)∧(weight x.d).le (300:Nat)∧((x.c=x.c∧True)∧x.d=x.d∧True)∧True∧(OrX.mk x.c x.d).Ok∧((x.c.length:Int)≤(9223372036854775807:Int)→(x.c.length:Int)≤(9223372036854775807:Int)→(x.c.length:Int)=(x.c.length:Int)∧(x.c.length:Int)=(x.c.length:Int)∧(x.c.length+x.d.length)*(72:Nat)≤(140737488355328:Nat)∧x.c.length+x.d.length≤(1152921504606846976:Nat)∧(([]:List Int)=[]∧x.c++x.d=x.c++x.d∧True)∧True∧(PutX.mk [] (x.c++x.d)).Ok∧(([]:List Int)=[]∧x.c=x.c∧True)∧True∧(PutX.mk [] x.c).Ok∧((([]:List Int)=[]∧x.d=x.d∧True)∧True∧(PutX.mk [] x.d).Ok∧(x.b=x.b∧x.c=x.c∧True)∧True∧(PutX.mk x.b x.c).Ok∧(cb5 x)∧(x.b=x.b∧x.c=x.c∧True)∧True∧(PutX.mk x.b x.c).Ok∧((cb1 x)∧(cb3 x))∧(cb1 x)∧(cb3 x))∧(([]:List Int)=[]∧x.d=x.d∧True)∧True∧(PutX.mk [] x.d).Ok∧((x.b=x.b∧x.c=x.c∧True)∧True∧(PutX.mk x.b x.c).Ok∧(cb5 x)∧(x.b=x.b∧x.c=x.c∧True)∧True∧(PutX.mk x.b x.c).Ok∧((cb1 x)∧(cb3 x))∧(cb1 x)∧(cb3 x))∧(x.b=x.b∧x.c=x.c∧True)∧True∧(PutX.mk x.b x.c).Ok∧(cb5 x)∧(x.b=x.b∧x.c=x.c∧True)∧True∧(PutX.mk x.b x.c).Ok∧((cb1 x)∧(cb3 x))∧(cb1 x)∧(cb3 x))))
theorem condBytes_eq:condBytesVC=fnS F213 f4 (bodyOf f4) condBytesLS noAnn:=by kernel_rfl
theorem condBytes_vc:condBytesVC:=by
 intro x hx
 refine ⟨hx.c,fun _=>by simp,fun h1=>⟨hx.d,fun _=>by simp,fun h2=>?_⟩⟩
 have w1:weight x.c≤300:=Nat.le_of_not_lt (of_decide_eq_false h1)
 have w2:weight x.d≤300:=Nat.le_of_not_lt (of_decide_eq_false h2)
 have v1:(weight x.c).le 300:=w1
 have v2:(weight x.d).le 300:=w2
 have hd:=hx.b
 have hf:=hx.few
 obtain ⟨d1,d2⟩:=decB_small hd
 have l1:x.c.length≤weight x.c:=Nat.le_add_right _ _
 have l2:x.d.length≤weight x.d:=Nat.le_add_right _ _
 have n1:(x.c.length+x.d.length)*72≤140737488355328:=by omega
 have n2:x.c.length+x.d.length≤1152921504606846976:=by omega
 have o:(OrX.mk x.c x.d).Ok:=⟨w1,w2⟩
 have p1:(PutX.mk [] (x.c++x.d)).Ok:=⟨by simp,by rw [weight_join]; omega,fun b hb=>(List.mem_append.1 hb).elim (hx.cl b) (hx.dl b)⟩
 have p2:(PutX.mk [] x.c).Ok:=⟨by simp,show weight x.c≤2000000 by omega,hx.cl⟩
 have p3:(PutX.mk [] x.d).Ok:=⟨by simp,show weight x.d≤2000000 by omega,hx.dl⟩
 have p4:(PutX.mk x.b x.c).Ok:=⟨show x.b.length≤10000000000 by omega,show weight x.c≤2000000 by omega,hx.cl⟩
 have p5:(PutX.mk [] (decB x.b)).Ok:=⟨by simp,show weight (decB x.b)≤2000000 by omega,d2⟩
 have s:SamIn (x.c,x.d):=⟨show weight x.c≤2000000 by omega,hx.cl,show weight x.d≤2000000 by omega,hx.dl⟩
 simp only [cb1,cb2,cb3,cb4,cb5,v1,v2,hd,n1,n2,o,p1,p2,p3,p4,p5,s,List.nil_append,beq_self_eq_true,and_self,implies_true,Bool.true_eq_false,false_implies]
theorem condBytes_ok:Fits F213 f4 (bodyOf f4) condBytesLS noAnn:=by
 constructor
 rw [← condBytes_eq]
 exact condBytes_vc
theorem condBytes_has:Has prog 4 f4 (bodyOf f4):=⟨by kernel_rfl,by kernel_rfl,by kernel_rfl⟩
end Go.Proofs.YtcglahfmnoghjaaGreatDoor

/-! CondBytes' call. Conditions: none. -/
namespace Go.Proofs.YtcglahfmnoghjaaGreatDoor
open Go Go.Eng Go.Proofs.Tryz Go.ChangeShapes Go.WideShapes Go.RowKit
theorem rd_bytC {H:Type} {enc:TypeId×Value→H} {w:World} {sp:Nat→Bool} {held:Bool}:RdT enc prog w sp held CC 51 fun sl d=>∃ xs:List Int,sl = .cell (.rints .u8 xs) .nil∧Byt xs∧xs.length≤Rows.uptoBulk d:=by
 refine RdT.mono (rd_ints underlying51 underlying5 cells5) ?_
 rintro sl d ⟨xs,rfl,h3,h4⟩
 have:=delems_le d
 exact ⟨xs,rfl,fun y hy=>wf8 (h4 y hy),by omega⟩
theorem slice_of_okC {P:Program} {W:World} {r:Reach} {base:Nat} {t e:TypeId} (ht:P.underlying t=some (.slice e)) {v:Value} (h:Value.okWide P W r base t v):∃ a n c,v = .slice a n c:=by
 unfold Value.okWide at h
 rw [ht] at h
 change Cell.okWide P W r base t v at h
 cases v with
 | slice a n c=>exact ⟨a,n,c,rfl⟩
 | _=>simp [Cell.okWide,Cell.ok,ht] at h
theorem cbx_of {c d:List Br} {b:List Int} (hc:weight c≤1048576) (kc:CondWf c) (hd:weight d≤1048576) (kd:CondWf d) (hb:Byt b) (hl:b.length≤1048576):CBX.Ok (CBX.mk c d b) where
 c:=Nat.le_trans hc (by omega)
 cl:=fun y hy=>(kc y hy).lock
 cb:=fun y hy z hz=>wf8 ((kc y hy).bytes z hz)
 d:=Nat.le_trans hd (by omega)
 dl:=fun y hy=>(kd y hy).lock
 db:=fun y hy z hz=>wf8 ((kd y hy).bytes z hz)
 b:=⟨hb,Nat.le_trans hl (by omega)⟩
 few:=Nat.le_trans hl (by omega)
theorem condBytes_calls {W:World} {vs:List Value} {x:CBX} (hx:x.Ok) (ha:ArgsR NoO [] W CC [.agg (.cell (.rseq 85 x.c) .nil),.agg (.cell (.rseq 85 x.d) .nil),.rints .u8 x.b] vs) (hg:Glob GG NoO [] W CC) :
  Calls prog 4 vs.toArray W fun e W'=>e = .returned (.bool true)∧Below W.heap.size W W':=by
 have hS:Sound F213:=by rw [F213_eq]; exact sound mixed known213
 exact law_calls (ee_P F213_eq) hS condBytes_has condBytes_ok x hx rfl rfl (fun _ _=>Nat.le_refl _) (by rw [ee_C F213_eq]; exact ha) (by rw [ee_GL F213_eq,ee_C F213_eq]; exact hg)
end Go.Proofs.YtcglahfmnoghjaaGreatDoor
