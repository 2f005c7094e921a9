/- Part 5 of the texts behind the last one: what they say stands ahead of each. Conditions: none. -/
import Derived.Test.YtcglahfmnoghjaaGreatDoorMc4
/-! Bytes and a condition, read back: the walks. Conditions: none. -/
namespace Go.Proofs.YtcglahfmnoghjaaGreatDoor
open Go Go.Eng Go.Proofs.Tryz
theorem scan_last {m:Int} {out:List Int} {i:Nat}:scanB m [0] out i=([],12,0):=by
 unfold scanB
 simp
theorem scan_zero {m d:Int} {l out:List Int} {i:Nat}:scanB m (0::d::l) out i=if d=0 then (out,0,i+2) else if d≠255 then ([],3,0) else if (out.length:Int)=m then ([],2,0) else scanB m l (out++[0]) (i+2):=by
 rw [scanB.eq_def]
 simp
theorem scan_byte {m c:Int} {l out:List Int} {i:Nat} (h:c≠0):scanB m (c::l) out i=if (out.length:Int)=m then ([],2,0) else scanB m l (out++[c]) (i+1):=by
 rw [scanB.eq_def]
 simp [h]
theorem bytesR_err {r:Rd} {m n:Int} (he:r.e=0) (h:scanB m r.left [] 0=([],n,0)) (hn:n≠0):bytesR r m=([],⟨r.b,r.i,n⟩):=by
 unfold bytesR
 rw [if_neg (by simp [he]),h,if_pos hn]
theorem bytesR_fine {r:Rd} {m:Int} {out:List Int} {k:Nat} (he:r.e=0) (h:scanB m r.left [] 0=(out,0,k)):bytesR r m=(out,⟨r.b,r.i+(k:Int),0⟩):=by
 unfold bytesR
 rw [if_neg (by simp [he]),h,if_neg (by simp)]
def rdBytesVC:Prop:=∀ (x:RdN),x.Few→True∧((x.r.b=x.r.b∧x.r.i=x.r.i∧x.r.e=x.r.e∧True)∧True)∧True∧(decide (x.r.e≠(0:Int))=true→(bytesR x.r
 x.n).fst=[]∧(((bytesR x.r x.n).snd.b=x.r.b∧(bytesR x.r x.n).snd.i=x.r.i∧(bytesR x.r x.n).snd.e=x.r.e∧True)∧True)∧True)∧(decide
 (x.r.e≠(0:Int))=false→(decide (x.n<(0:Int))=true→(True∧(1:Int)=(1:Int)∧(1:Int)≠(0:Int))∧((x.r.b=x.r.b∧x.r.i =
 x.r.i∧x.r.e=x.r.e∧True)∧True)∧True∧(bytesR x.r x.n).fst=[]∧(((bytesR x.r x.n).snd.b=x.r.b∧(bytesR x.r x.n).snd.i=x.r.i∧((bytesR
 x.r x.n).snd.e=if x.r.e=(0:Int) then (1:Int) else x.r.e)∧True)∧True)∧True)∧(decide (x.n<(0:Int))=false→True∧((x.r.b=x.r.b ∧
 x.r.i=x.r.i∧x.r.e=x.r.e∧True)∧True)∧x.r.Ok∧(∃ (x_1:ScanX),(x_1.i≤x.r.left.length∧(x_1.out.length:Int)≤x.n∧scanB x.n x.r.left [] (0 :
 Nat)=scanB x.n (List.drop x_1.i x.r.left) x_1.out x_1.i)∧((x_1.i:Int)=(0:Int)∧(SV.val (A:=AA) (Value.slice none (0:Nat) (0:Nat)) :
 SV AA)=SV.val (A:=AA) (Value.slice none (0:Nat) (0:Nat)))∧((x.r.b=x.r.b∧x.r.i=x.r.i∧x.r.e=x.r.e∧True)∧True)∧x_1.out=[] ∧
 True)∧∀ (x_1:ScanX),x_1.i≤x.r.left.length∧(x_1.out.length:Int)≤x.n∧scanB x.n x.r.left [] (0:Nat)=scanB x.n (List.drop x_1.i
 x.r.left) x_1.out x_1.i→(x.r.left.length:Int)≤(9223372036854775807:Int)→(decide ((x_1.i:Int)<(x.r.left.length:Int))=true→(0 :
 Int)≤(x_1.i:Int)∧(x_1.i:Int)<(x.r.left.length:Int)∧(x_1.i:Int).toNat<x.r.left.length∧((x.r.left.getD (x_1.i:Int).toNat (0 :
 Int)==(0:Int))=true→inI64 ((x_1.i:Int)+(1:Int))∧((x.r.left.length:Int)≤(9223372036854775807:Int)→(((x_1.i:Int)+(1:Int)
 == (x.r.left.length:Int))=true→(True∧(12:Int)=(12:Int)∧(12:Int)≠(0:Int))∧((x.r.b=x.r.b∧x.r.i=x.r.i∧x.r.e=x.r.e ∧
 True)∧True)∧True∧(bytesR x.r x.n).fst=[]∧(((bytesR x.r x.n).snd.b=x.r.b∧(bytesR x.r x.n).snd.i=x.r.i∧((bytesR x.r x.n).snd.e=if
 x.r.e=(0:Int) then (12:Int) else x.r.e)∧True)∧True)∧True)∧(((x_1.i:Int)+(1:Int)==(x.r.left.length:Int))=false→(0:Int) ≤
 (x_1.i:Int)+(1:Int)∧(x_1.i:Int)+(1:Int)<(x.r.left.length:Int)∧((x_1.i:Int)+(1:Int)).toNat<x.r.left.length ∧
 ((x.r.left.getD ((x_1.i:Int)+(1:Int)).toNat (0:Int)==(0:Int))=true→inI64 ((x_1.i:Int)+(1:Int)+(1:Int))∧inI64 (x.r.i +
 ((x_1.i:Int)+(1:Int)+(1:Int)))∧(bytesR x.r x.n).fst=x_1.out∧(((bytesR x.r x.n).snd.b=x.r.b∧(bytesR x.r x.n).snd.i=x.r.i +
 ((x_1.i:Int)+(1:Int)+(1:Int))∧(bytesR x.r x.n).snd.e=x.r.e∧True)∧True)∧True)∧((x.r.left.getD ((x_1.i:Int)+(1:Int)).toNat
 (0:Int)==(0:Int))=false→(0:Int)≤(x_1.i:Int)+(1:Int)∧(x_1.i:Int)+(1:Int)<(x.r.left.length:Int)∧((x_1.i:Int)+(1
 : Int)).toNat<x.r.left.length∧((x.r.left.getD ((x_1.i:Int)+(1:Int)).toNat (0:Int) != (255:Int))=true→(True∧(3:Int)=(3:Int) ∧
 (3:Int)≠(0:Int))∧((x.r.b=x.r.b∧x.r.i=x.r.i∧x.r.e=x.r.e∧True)∧True)∧True∧(bytesR x.r x.n).fst=[]∧(((bytesR x.r x.n).snd.b
 = x.r.b∧(bytesR x.r x.n).snd.i=x.r.i∧((bytesR x.r x.n).snd.e=if x.r.e=(0:Int) then (3:Int) else x.r.e)∧True)∧True)∧True) ∧
 ((x.r.left.getD ((x_1.i:Int)+(1:Int)).toNat (0:Int) != (255:Int))=false→(x_1.out.length:Int)≤(9223372036854775807:Int) →
 (((x_1.out.length:Int)==x.n)=true→(True∧(2:Int)=(2:Int)∧(2:Int)≠(0:Int))∧((x.r.b=x.r.b∧x.r.i=x.r.i∧x.r.e=x.r.e ∧
 True)∧True)∧True∧(bytesR x.r x.n).fst=[]∧(((bytesR x.r x.n).snd.b=x.r.b∧(bytesR x.r x.n).snd.i=x.r.i∧((bytesR x.r x.n).snd.e=if
 x.r.e=(0:Int) then (2:Int) else x.r.e)∧True)∧True)∧True)∧(((x_1.out.length:Int)==x.n)=false→(x_1.out.length+[x.r.left.getD
 (x_1.i:Int).toNat (0:Int)].length)*(1:Nat)≤(140737488355328:Nat)∧x_1.out.length+[x.r.left.getD (x_1.i:Int).toNat (0:Int)].length
 ≤ (1152921504606846976:Nat)∧inI64 ((x_1.i:Int)+(1:Int)+(1:Int))∧∃ (y:ScanX),(y.i≤x.r.left.length∧(y.out.length:Int)≤x.n∧scanB x.n
 x.r.left [] (0:Nat)=scanB x.n (List.drop y.i x.r.left) y.out y.i)∧x.r.left.length-y.i<x.r.left.length-x_1.i∧((y.i:Int)=(↑x_1.i :
 Int)+(1:Int)+(1:Int)∧True)∧((x.r.b=x.r.b∧x.r.i=x.r.i∧x.r.e=x.r.e∧True)∧True)∧y.out=x_1.out++[x.r.left.getD (↑x_1.i :
 Int).toNat (0:Int)]∧True))))))∧((x.r.left.getD (x_1.i:Int).toNat (0:Int)==(0:Int))=false→(x_1.out.length:Int) ≤
 (9223372036854775807:Int)→(((x_1.out.length:Int)==x.n)=true→(True∧(2:Int)=(2:Int)∧(2:Int)≠(0:Int))∧((x.r.b=x.r.b ∧
 x.r.i=x.r.i∧x.r.e=x.r.e∧True)∧True)∧True∧(bytesR x.r x.n).fst=[]∧(((bytesR x.r x.n).snd.b=x.r.b∧(bytesR x.r x.n).snd.i=x.r.i ∧
 ((bytesR x.r x.n).snd.e=if x.r.e=(0:Int) then (2:Int) else x.r.e)∧True)∧True)∧True)∧(((x_1.out.length:Int)==x.n)=false →
 (x_1.out.length+[x.r.left.getD (x_1.i:Int).toNat (0:Int)].length)*(1:Nat)≤(140737488355328:Nat)∧x_1.out.length+[x.r.left.getD
 (x_1.i:Int).toNat (0:Int)].length≤(1152921504606846976:Nat)∧inI64 ((x_1.i:Int)+(1:Int))∧∃ (y:ScanX),(y.i≤x.r.left.length ∧
 (y.out.length:Int)≤x.n∧scanB x.n x.r.left [] (0:Nat)=scanB x.n (List.drop y.i x.r.left) y.out y.i)∧x.r.left.length-y.i<x.r.left.length
 - x_1.i∧((y.i:Int)=(x_1.i:Int)+(1:Int)∧True)∧((x.r.b=x.r.b∧x.r.i=x.r.i∧x.r.e=x.r.e∧True)∧True)∧y.out=x_1.out ++
 [x.r.left.getD (x_1.i:Int).toNat (0:Int)]∧True)))∧(decide ((x_1.i:Int)<(x.r.left.length:Int))=false→(True∧(12:Int)=(12 :
 Int)∧(12:Int)≠(0:Int))∧((x.r.b=x.r.b∧x.r.i=x.r.i∧x.r.e=x.r.e∧True)∧True)∧True∧(bytesR x.r x.n).fst=[]∧(((bytesR x.r
 x.n).snd.b=x.r.b∧(bytesR x.r x.n).snd.i=x.r.i∧((bytesR x.r x.n).snd.e=if x.r.e=(0:Int) then (12:Int) else x.r.e)∧True)∧True) ∧
 True)))
theorem rdBytes_eq:rdBytesVC=fnS F129 f67 (bodyOf f67) rdBytesLS rdBytesAnn:=by kernel_rfl
theorem rdBytes_vc:rdBytesVC:=by
 rintro ⟨⟨b,i0,e⟩,m⟩ hx
 have hr:=hx.r
 have hm:=hx.lo
 have hm2:=hx.hi
 simp only at hr hm hm2
 by_cases he:e=0
 case neg=>simp [bytesR,he]
 subst he
 have hl:=left_len _ hr
 have hlen:=hr.len
 have hlo:=hr.lo
 simp only at hl hlen hlo
 have err:∀ n:Int,n≠0→scanB m (Rd.mk b i0 0).left [] 0=([],n,0)→(True∧n=n∧n≠0)∧((b=b∧i0=i0∧(0:Int)=0∧True)∧True)∧True∧(bytesR (Rd.mk b i0 0) m).fst=[]∧(((bytesR (Rd.mk b i0 0) m).snd.b=b∧(bytesR (Rd.mk b i0 0) m).snd.i=i0∧((bytesR (Rd.mk b i0 0) m).snd.e=if (0:Int)=0 then n else 0)∧True)∧True)∧True:=fun n hn h=>by
  rw [bytesR_err rfl h hn]
  exact ⟨⟨trivial,rfl,hn⟩,⟨⟨rfl,rfl,rfl,trivial⟩,trivial⟩,trivial,rfl,⟨⟨rfl,rfl,rfl,trivial⟩,trivial⟩,trivial⟩
 refine ⟨trivial,⟨⟨rfl,rfl,rfl,trivial⟩,trivial⟩,trivial,fun h=>by simp at h,fun _=>⟨fun h=>by simp at h; omega,fun _=>⟨trivial,⟨⟨rfl,rfl,rfl,trivial⟩,trivial⟩,hr,⟨⟨0,[]⟩,⟨Nat.zero_le _,by simpa using hm,rfl⟩,⟨rfl,rfl⟩,⟨⟨rfl,rfl,rfl,trivial⟩,trivial⟩,rfl,trivial⟩,?_⟩⟩⟩
 rintro y ⟨hi,ho,hs⟩ _
 simp only at hi ho hs
 generalize y.i=i at hi ho hs ⊢
 generalize y.out=out at hi ho hs ⊢
 refine ⟨fun h=>?_,fun h=>?_⟩
 case refine_2=>
  simp only [decide_eq_false_iff_not] at h
  exact err 12 (by omega) (by rw [hs,List.drop_of_length_le (by omega)]; rfl)
 simp only [decide_eq_true_eq] at h
 have hi':i<(Rd.mk b i0 0).left.length:=by omega
 rw [drop_at hi'] at hs
 refine ⟨by omega,h,hi',fun h0=>⟨by unfold inI64; omega,fun _=>⟨fun h1=>?_,fun h1=>?_⟩⟩,fun h0 _=>⟨fun h3=>?_,fun h3=>?_⟩⟩
 ·have h0':(Rd.mk b i0 0).left.getD i 0=0:=by simpa using h0
  have h1':(i:Int)+1=(Rd.mk b i0 0).left.length:=by simpa using h1
  rw [h0',List.drop_of_length_le (by omega),scan_last] at hs
  exact err 12 (by omega) hs
 ·have h0':(Rd.mk b i0 0).left.getD i 0=0:=by simpa using h0
  have h1':¬(i:Int)+1=(Rd.mk b i0 0).left.length:=by simpa using h1
  have hj:i+1<(Rd.mk b i0 0).left.length:=by omega
  have ej:((i:Int)+1).toNat=i+1:=by omega
  rw [h0',drop_at hj,scan_zero] at hs
  rw [ej]
  have a1:(0:Int)≤(i:Int)+1:=by omega
  have a2:(i:Int)+1<((Rd.mk b i0 0).left.length:Int):=by omega
  have a3:inI64 ((i:Int)+1+1):=by unfold inI64; omega
  have a4:inI64 (i0+((i:Int)+1+1)):=by unfold inI64; omega
  refine ⟨a1,a2,hj,fun h2=>⟨a3,a4,?_⟩,fun h2=>⟨a1,a2,hj,fun h3=>?_,fun h3 _=>⟨fun h4=>?_,fun h4=>?_⟩⟩⟩
  ·have h2':(Rd.mk b i0 0).left.getD (i+1) 0=0:=by simpa using h2
   rw [if_pos h2'] at hs
   rw [bytesR_fine rfl hs]
   exact ⟨rfl,⟨⟨rfl,by simp only; omega,rfl,trivial⟩,trivial⟩,trivial⟩
  ·have h2':¬(Rd.mk b i0 0).left.getD (i+1) 0=0:=by simpa using h2
   have h3':(Rd.mk b i0 0).left.getD (i+1) 0≠255:=by simpa using h3
   rw [if_neg h2',if_pos h3'] at hs
   exact err 3 (by omega) hs
  ·have h2':¬(Rd.mk b i0 0).left.getD (i+1) 0=0:=by simpa using h2
   have h3':¬(Rd.mk b i0 0).left.getD (i+1) 0≠255:=by simpa using h3
   have h4':(out.length:Int)=m:=by simpa using h4
   rw [if_neg h2',if_neg h3',if_pos h4'] at hs
   exact err 2 (by omega) hs
  ·have h2':¬(Rd.mk b i0 0).left.getD (i+1) 0=0:=by simpa using h2
   have h3':¬(Rd.mk b i0 0).left.getD (i+1) 0≠255:=by simpa using h3
   have h4':¬(out.length:Int)=m:=by simpa using h4
   rw [if_neg h2',if_neg h3',if_neg h4'] at hs
   refine ⟨by simp only [List.length_singleton]; omega,by simp only [List.length_singleton]; omega,by unfold inI64; omega,⟨i+2,out++[0]⟩,⟨by simp only; omega,by simp only [List.length_append,List.length_singleton]; omega,hs⟩,by simp only; omega,⟨by simp only; omega,trivial⟩,⟨⟨rfl,rfl,rfl,trivial⟩,trivial⟩,?_,trivial⟩
   show out++[0]=out++[(Rd.mk b i0 0).left.getD i 0]
   rw [h0']
 ·have h0':(Rd.mk b i0 0).left.getD i 0≠0:=by simpa using h0
  have h3':(out.length:Int)=m:=by simpa using h3
  rw [scan_byte h0',if_pos h3'] at hs
  exact err 2 (by omega) hs
 ·have h0':(Rd.mk b i0 0).left.getD i 0≠0:=by simpa using h0
  have h3':¬(out.length:Int)=m:=by simpa using h3
  rw [scan_byte h0',if_neg h3'] at hs
  exact ⟨by simp only [List.length_singleton]; omega,by simp only [List.length_singleton]; omega,by unfold inI64; omega,⟨i+1,out++[(Rd.mk b i0 0).left.getD i 0]⟩,⟨hi',by simp only [List.length_append,List.length_singleton]; omega,hs⟩,by simp only; omega,⟨by simp only; omega,trivial⟩,⟨⟨rfl,rfl,rfl,trivial⟩,trivial⟩,rfl,trivial⟩
theorem rdBytes_ok:Fits F129 f67 (bodyOf f67) rdBytesLS rdBytesAnn:=by
 constructor
 rw [← rdBytes_eq]
 exact rdBytes_vc
theorem rdBytes_has:Has prog 67 f67 (bodyOf f67):=⟨by kernel_rfl,by kernel_rfl,by kernel_rfl⟩
theorem known160:Known prog L160:=by
 unfold L160
 exact known129.lent mixed rdBytes_has F129_eq rdBytes_ok (fun _ _=>Nat.le_refl _) (fun h=>by cases h)
def takesVC:Prop:=∀ (x:Rd),x.Ok→(True∧(8:Int)=(8:Int))∧((x.b=x.b∧x.i=x.i∧x.e=x.e∧True)∧True)∧(RdN.mk x (8:Int)).Few∧(∃ (x_1:Nat),((countR x
 (8:Int)).fst-(x_1:Int)).NonNeg∧(x_1:Int)=(0:Int)∧(((dBrs x_1 (countR x (8:Int)).snd).snd.b=(countR x (8:Int)).snd.b∧(dBrs x_1
 (countR x (8:Int)).snd).snd.i=(countR x (8:Int)).snd.i∧(dBrs x_1 (countR x (8:Int)).snd).snd.e=(countR x (8:Int)).snd.e∧True) ∧
 ((SV.val (A:=AA) (Value.slice none (0:Nat) (0:Nat)):SV AA)=SV.val (A:=AA) (Value.slice none (0:Nat) (0:Nat))∧True)∧((SV.val (A:=
 AA) (Value.slice none (0:Nat) (0:Nat)):SV AA)=SV.val (A:=AA) (Value.slice none (0:Nat) (0:Nat))∧True)∧True)∧(dBrs x_1 (countR x (8
 : Int)).snd).fst=[]∧True)∧∀ (x_1:Nat),((countR x (8:Int)).fst-(x_1:Int)).NonNeg→(decide ((x_1:Int)<(countR x (8:Int)).fst) =
 true→(True∧(16:Int)=(16:Int))∧(((dBrs x_1 (countR x (8:Int)).snd).snd.b=(dBrs x_1 (countR x (8:Int)).snd).snd.b∧(dBrs x_1 (countR x
 (8:Int)).snd).snd.i=(dBrs x_1 (countR x (8:Int)).snd).snd.i∧(dBrs x_1 (countR x (8:Int)).snd).snd.e=(dBrs x_1 (countR x (8 :
 Int)).snd).snd.e∧True)∧True)∧(RdN.mk (dBrs x_1 (countR x (8:Int)).snd).snd (16:Int)).Few∧(∃ (x_2:Nat),((countR (dBrs x_1 (countR x (8 :
 Int)).snd).snd (16:Int)).fst-(x_2:Int)).NonNeg∧(x_2:Int)=(0:Int)∧(((dKeys x_2 (countR (dBrs x_1 (countR x (8:Int)).snd).snd (16 :
 Int)).snd).snd.b=(countR (dBrs x_1 (countR x (8:Int)).snd).snd (16:Int)).snd.b∧(dKeys x_2 (countR (dBrs x_1 (countR x (8:Int)).snd).snd (16 :
 Int)).snd).snd.i=(countR (dBrs x_1 (countR x (8:Int)).snd).snd (16:Int)).snd.i∧(dKeys x_2 (countR (dBrs x_1 (countR x (8:Int)).snd).snd (16 :
 Int)).snd).snd.e=(countR (dBrs x_1 (countR x (8:Int)).snd).snd (16:Int)).snd.e∧True)∧((SV.val (A:=AA) (Value.slice none (0:Nat) (0 :
 Nat)):SV AA)=SV.val (A:=AA) (Value.slice none (0:Nat) (0:Nat))∧True)∧(True∧True)∧(dBrs x_1 (countR x (8:Int)).snd).fst=(dBrs x_1
 (countR x (8:Int)).snd).fst∧((SV.val (A:=AA) (Value.slice none (0:Nat) (0:Nat)):SV AA)=SV.val (A:=AA) (Value.slice none (0:Nat) (0 :
 Nat))∧List.replicate (32:Nat) (0:Int)=List.replicate (32:Nat) (0:Int)∧(0:Int)=(0:Int)∧(0:Int)=(0:Int)∧True)∧True) ∧
 (dKeys x_2 (countR (dBrs x_1 (countR x (8:Int)).snd).snd (16:Int)).snd).fst=[]∧True)∧∀ (x_2:Nat),((countR (dBrs x_1 (countR x (8 :
 Int)).snd).snd (16:Int)).fst-(x_2:Int)).NonNeg→(decide ((x_2:Int)<(countR (dBrs x_1 (countR x (8:Int)).snd).snd (16:Int)).fst)=true
 → ((True∧(16:Int)=(16:Int))∧(((dKeys x_2 (countR (dBrs x_1 (countR x (8:Int)).snd).snd (16:Int)).snd).snd.b=(dKeys x_2 (countR (dBrs
 x_1 (countR x (8:Int)).snd).snd (16:Int)).snd).snd.b∧(dKeys x_2 (countR (dBrs x_1 (countR x (8:Int)).snd).snd (16:Int)).snd).snd.i=(dKeys
 x_2 (countR (dBrs x_1 (countR x (8:Int)).snd).snd (16:Int)).snd).snd.i∧(dKeys x_2 (countR (dBrs x_1 (countR x (8:Int)).snd).snd (16 :
 Int)).snd).snd.e=(dKeys x_2 (countR (dBrs x_1 (countR x (8:Int)).snd).snd (16:Int)).snd).snd.e∧True)∧True)∧(RdN.mk (dKeys x_2 (countR (dBrs
 x_1 (countR x (8:Int)).snd).snd (16:Int)).snd).snd (16:Int)).Ok∧((dKeys x_2 (countR (dBrs x_1 (countR x (8:Int)).snd).snd (16 :
 Int)).snd).fst.length+[wr IntKind.i64 (uintR (dKeys x_2 (countR (dBrs x_1 (countR x (8:Int)).snd).snd (16:Int)).snd).snd (16:Int)).fst].length)
 * (8:Nat)≤(140737488355328:Nat)∧(dKeys x_2 (countR (dBrs x_1 (countR x (8:Int)).snd).snd (16:Int)).snd).fst.length+[wr IntKind.i64 (uintR
 (dKeys x_2 (countR (dBrs x_1 (countR x (8:Int)).snd).snd (16:Int)).snd).snd (16:Int)).fst].length≤(1152921504606846976:Nat)∧inI64 ((↑x_2 :
 Int)+(1:Int))∧∃ (y:Nat),((countR (dBrs x_1 (countR x (8:Int)).snd).snd (16:Int)).fst-(y:Int)).NonNeg∧(countR (dBrs x_1 (countR x (8 :
 Int)).snd).snd (16:Int)).fst.toNat-y<(countR (dBrs x_1 (countR x (8:Int)).snd).snd (16:Int)).fst.toNat-x_2∧(y:Int)=(x_2:Int)+(1
 : Int)∧(((dKeys y (countR (dBrs x_1 (countR x (8:Int)).snd).snd (16:Int)).snd).snd.b=(uintR (dKeys x_2 (countR (dBrs x_1 (countR x (8 :
 Int)).snd).snd (16:Int)).snd).snd (16:Int)).snd.b∧(dKeys y (countR (dBrs x_1 (countR x (8:Int)).snd).snd (16:Int)).snd).snd.i=(uintR (dKeys
 x_2 (countR (dBrs x_1 (countR x (8:Int)).snd).snd (16:Int)).snd).snd (16:Int)).snd.i∧(dKeys y (countR (dBrs x_1 (countR x (8:Int)).snd).snd
 (16:Int)).snd).snd.e=(uintR (dKeys x_2 (countR (dBrs x_1 (countR x (8:Int)).snd).snd (16:Int)).snd).snd (16:Int)).snd.e∧True)∧((SV.val (A
 := AA) (Value.slice none (0:Nat) (0:Nat)):SV AA)=SV.val (A:=AA) (Value.slice none (0:Nat) (0:Nat))∧True)∧(True∧True)∧(dBrs x_1
 (countR x (8:Int)).snd).fst=(dBrs x_1 (countR x (8:Int)).snd).fst∧(True∧List.replicate (32:Nat) (0:Int)=List.replicate (32:Nat) (0 :
 Int)∧(0:Int)=(0:Int)∧(0:Int)=(0:Int)∧True)∧True)∧(dKeys y (countR (dBrs x_1 (countR x (8:Int)).snd).snd (16:Int)).snd).fst =
 (dKeys x_2 (countR (dBrs x_1 (countR x (8:Int)).snd).snd (16:Int)).snd).fst++[wr IntKind.i64 (uintR (dKeys x_2 (countR (dBrs x_1 (countR x (8 :
 Int)).snd).snd (16:Int)).snd).snd (16:Int)).fst]∧True)∧(True∧(16:Int)=(16:Int))∧(((dKeys x_2 (countR (dBrs x_1 (countR x (8 :
 Int)).snd).snd (16:Int)).snd).snd.b=(dKeys x_2 (countR (dBrs x_1 (countR x (8:Int)).snd).snd (16:Int)).snd).snd.b∧(dKeys x_2 (countR (dBrs
 x_1 (countR x (8:Int)).snd).snd (16:Int)).snd).snd.i=(dKeys x_2 (countR (dBrs x_1 (countR x (8:Int)).snd).snd (16:Int)).snd).snd.i∧(dKeys
 x_2 (countR (dBrs x_1 (countR x (8:Int)).snd).snd (16:Int)).snd).snd.e=(dKeys x_2 (countR (dBrs x_1 (countR x (8:Int)).snd).snd (16 :
 Int)).snd).snd.e∧True)∧True)∧(RdN.mk (dKeys x_2 (countR (dBrs x_1 (countR x (8:Int)).snd).snd (16:Int)).snd).snd (16:Int)).Ok∧((dKeys x_2
 (countR (dBrs x_1 (countR x (8:Int)).snd).snd (16:Int)).snd).fst.length+[wr IntKind.i64 (uintR (dKeys x_2 (countR (dBrs x_1 (countR x (8 :
 Int)).snd).snd (16:Int)).snd).snd (16:Int)).fst].length)*(8:Nat)≤(140737488355328:Nat)∧(dKeys x_2 (countR (dBrs x_1 (countR x (8 :
 Int)).snd).snd (16:Int)).snd).fst.length+[wr IntKind.i64 (uintR (dKeys x_2 (countR (dBrs x_1 (countR x (8:Int)).snd).snd (16:Int)).snd).snd (16
 : Int)).fst].length≤(1152921504606846976:Nat)∧inI64 ((x_2:Int)+(1:Int))∧∃ (y:Nat),((countR (dBrs x_1 (countR x (8:Int)).snd).snd (16 :
 Int)).fst-(y:Int)).NonNeg∧(countR (dBrs x_1 (countR x (8:Int)).snd).snd (16:Int)).fst.toNat-y<(countR (dBrs x_1 (countR x (8 :
 Int)).snd).snd (16:Int)).fst.toNat-x_2∧(y:Int)=(x_2:Int)+(1:Int)∧(((dKeys y (countR (dBrs x_1 (countR x (8:Int)).snd).snd (16 :
 Int)).snd).snd.b=(uintR (dKeys x_2 (countR (dBrs x_1 (countR x (8:Int)).snd).snd (16:Int)).snd).snd (16:Int)).snd.b∧(dKeys y (countR (dBrs
 x_1 (countR x (8:Int)).snd).snd (16:Int)).snd).snd.i=(uintR (dKeys x_2 (countR (dBrs x_1 (countR x (8:Int)).snd).snd (16:Int)).snd).snd (16 :
 Int)).snd.i∧(dKeys y (countR (dBrs x_1 (countR x (8:Int)).snd).snd (16:Int)).snd).snd.e=(uintR (dKeys x_2 (countR (dBrs x_1 (countR x (8 :
 Int)).snd).snd (16:Int)).snd).snd (16:Int)).snd.e∧True)∧((SV.val (A:=AA) (Value.slice none (0:Nat) (0:Nat)):SV AA)=SV.val (A:=AA)
 (Value.slice none (0:Nat) (0:Nat))∧True)∧(True∧True)∧(dBrs x_1 (countR x (8:Int)).snd).fst=(dBrs x_1 (countR x (8:Int)).snd).fst ∧
 (True∧List.replicate (32:Nat) (0:Int)=List.replicate (32:Nat) (0:Int)∧(0:Int)=(0:Int)∧(0:Int)=(0:Int)∧True)∧True) ∧
 (dKeys y (countR (dBrs x_1 (countR x (8:Int)).snd).snd (16:Int)).snd).fst=(dKeys x_2 (countR (dBrs x_1 (countR x (8:Int)).snd).snd (16 :
 Int)).snd).fst++[wr IntKind.i64 (uintR (dKeys x_2 (countR (dBrs x_1 (countR x (8:Int)).snd).snd (16:Int)).snd).snd (16:Int)).fst]∧True) ∧
 (decide ((x_2:Int)<(countR (dBrs x_1 (countR x (8:Int)).snd).snd (16:Int)).fst)=false→True∧(((dKeys x_2 (countR (dBrs x_1 (countR x (8 :
 Int)).snd).snd (16:Int)).snd).snd.b=(dKeys x_2 (countR (dBrs x_1 (countR x (8:Int)).snd).snd (16:Int)).snd).snd.b∧(dKeys x_2 (countR (dBrs
 x_1 (countR x (8:Int)).snd).snd (16:Int)).snd).snd.i=(dKeys x_2 (countR (dBrs x_1 (countR x (8:Int)).snd).snd (16:Int)).snd).snd.i∧(dKeys
 x_2 (countR (dBrs x_1 (countR x (8:Int)).snd).snd (16:Int)).snd).snd.e=(dKeys x_2 (countR (dBrs x_1 (countR x (8:Int)).snd).snd (16 :
 Int)).snd).snd.e∧True)∧True)∧(dKeys x_2 (countR (dBrs x_1 (countR x (8:Int)).snd).snd (16:Int)).snd).snd.Ok∧(True∧(1099511627776:Int) =
 (1099511627776:Int))∧(((hashR (dKeys x_2 (countR (dBrs x_1 (countR x (8:Int)).snd).snd (16:Int)).snd).snd).snd.b=(hashR (dKeys x_2 (countR
 (dBrs x_1 (countR x (8:Int)).snd).snd (16:Int)).snd).snd).snd.b∧(hashR (dKeys x_2 (countR (dBrs x_1 (countR x (8:Int)).snd).snd (16 :
 Int)).snd).snd).snd.i=(hashR (dKeys x_2 (countR (dBrs x_1 (countR x (8:Int)).snd).snd (16:Int)).snd).snd).snd.i∧(hashR (dKeys x_2 (countR (dBrs
 x_1 (countR x (8:Int)).snd).snd (16:Int)).snd).snd).snd.e=(hashR (dKeys x_2 (countR (dBrs x_1 (countR x (8:Int)).snd).snd (16 :
 Int)).snd).snd).snd.e∧True)∧True)∧(RdN.mk (hashR (dKeys x_2 (countR (dBrs x_1 (countR x (8:Int)).snd).snd (16:Int)).snd).snd).snd
 (1099511627776:Int)).Ok∧(True∧(65536:Int)=(65536:Int))∧(((uintR (hashR (dKeys x_2 (countR (dBrs x_1 (countR x (8:Int)).snd).snd (16 :
 Int)).snd).snd).snd (1099511627776:Int)).snd.b=(uintR (hashR (dKeys x_2 (countR (dBrs x_1 (countR x (8:Int)).snd).snd (16:Int)).snd).snd).snd
 (1099511627776:Int)).snd.b∧(uintR (hashR (dKeys x_2 (countR (dBrs x_1 (countR x (8:Int)).snd).snd (16:Int)).snd).snd).snd (1099511627776 :
 Int)).snd.i=(uintR (hashR (dKeys x_2 (countR (dBrs x_1 (countR x (8:Int)).snd).snd (16:Int)).snd).snd).snd (1099511627776:Int)).snd.i∧(uintR
 (hashR (dKeys x_2 (countR (dBrs x_1 (countR x (8:Int)).snd).snd (16:Int)).snd).snd).snd (1099511627776:Int)).snd.e=(uintR (hashR (dKeys x_2
 (countR (dBrs x_1 (countR x (8:Int)).snd).snd (16:Int)).snd).snd).snd (1099511627776:Int)).snd.e∧True)∧True)∧(RdN.mk (uintR (hashR (dKeys
 x_2 (countR (dBrs x_1 (countR x (8:Int)).snd).snd (16:Int)).snd).snd).snd (1099511627776:Int)).snd (65536:Int)).Ok∧((dKeys x_2 (countR (dBrs
 x_1 (countR x (8:Int)).snd).snd (16:Int)).snd).fst=(dKeys x_2 (countR (dBrs x_1 (countR x (8:Int)).snd).snd (16:Int)).snd).fst∧(hashR
 (dKeys x_2 (countR (dBrs x_1 (countR x (8:Int)).snd).snd (16:Int)).snd).snd).fst=(hashR (dKeys x_2 (countR (dBrs x_1 (countR x (8 :
 Int)).snd).snd (16:Int)).snd).snd).fst∧wr IntKind.i64 (uintR (hashR (dKeys x_2 (countR (dBrs x_1 (countR x (8:Int)).snd).snd (16 :
 Int)).snd).snd).snd (1099511627776:Int)).fst=wr IntKind.i64 (uintR (hashR (dKeys x_2 (countR (dBrs x_1 (countR x (8:Int)).snd).snd (16 :
 Int)).snd).snd).snd (1099511627776:Int)).fst∧wr IntKind.i64 (uintR (uintR (hashR (dKeys x_2 (countR (dBrs x_1 (countR x (8:Int)).snd).snd (16 :
 Int)).snd).snd).snd (1099511627776:Int)).snd (65536:Int)).fst=wr IntKind.i64 (uintR (uintR (hashR (dKeys x_2 (countR (dBrs x_1 (countR x (8 :
 Int)).snd).snd (16:Int)).snd).snd).snd (1099511627776:Int)).snd (65536:Int)).fst∧True)∧((dBrs x_1 (countR x (8:Int)).snd).fst.length +
 [Br.mk (dKeys x_2 (countR (dBrs x_1 (countR x (8:Int)).snd).snd (16:Int)).snd).fst (hashR (dKeys x_2 (countR (dBrs x_1 (countR x (8 :
 Int)).snd).snd (16:Int)).snd).snd).fst (wr IntKind.i64 (uintR (hashR (dKeys x_2 (countR (dBrs x_1 (countR x (8:Int)).snd).snd (16 :
 Int)).snd).snd).snd (1099511627776:Int)).fst) (wr IntKind.i64 (uintR (uintR (hashR (dKeys x_2 (countR (dBrs x_1 (countR x (8:Int)).snd).snd (16 :
 Int)).snd).snd).snd (1099511627776:Int)).snd (65536:Int)).fst)].length)*(72:Nat)≤(140737488355328:Nat)∧(dBrs x_1 (countR x (8 :
 Int)).snd).fst.length+[Br.mk (dKeys x_2 (countR (dBrs x_1 (countR x (8:Int)).snd).snd (16:Int)).snd).fst (hashR (dKeys x_2 (countR (dBrs x_1
 (countR x (8:Int)).snd).snd (16:Int)).snd).snd).fst (wr IntKind.i64 (uintR (hashR (dKeys x_2 (countR (dBrs x_1 (countR x (8:Int)).snd).snd (16 :
 Int)).snd).snd).snd (1099511627776:Int)).fst) (wr IntKind.i64 (uintR (uintR (hashR (dKeys x_2 (countR (dBrs x_1 (countR x (8:Int)).snd).snd (16 :
 Int)).snd).snd).snd (1099511627776:Int)).snd (65536:Int)).fst)].length≤(1152921504606846976:Nat)∧inI64 ((x_1:Int)+(1:Int))∧∃ (y:Nat),
 ((countR x (8:Int)).fst-(y:Int)).NonNeg∧(countR x (8:Int)).fst.toNat-y<(countR x (8:Int)).fst.toNat-x_1∧(y:Int)=(x_1:Int)
 + (1:Int)∧(((dBrs y (countR x (8:Int)).snd).snd.b=(uintR (uintR (hashR (dKeys x_2 (countR (dBrs x_1 (countR x (8:Int)).snd).snd (16 :
 Int)).snd).snd).snd (1099511627776:Int)).snd (65536:Int)).snd.b∧(dBrs y (countR x (8:Int)).snd).snd.i=(uintR (uintR (hashR (dKeys x_2 (countR
 (dBrs x_1 (countR x (8:Int)).snd).snd (16:Int)).snd).snd).snd (1099511627776:Int)).snd (65536:Int)).snd.i∧(dBrs y (countR x (8 :
 Int)).snd).snd.e=(uintR (uintR (hashR (dKeys x_2 (countR (dBrs x_1 (countR x (8:Int)).snd).snd (16:Int)).snd).snd).snd (1099511627776:Int)).snd
 (65536:Int)).snd.e∧True)∧(SV.val (A:=AA) (Value.slice none (0:Nat) (0:Nat))=SV.val (A:=AA) (Value.slice none (0:Nat) (0:Nat)) ∧
 True)∧(True∧True)∧True)∧(dBrs y (countR x (8:Int)).snd).fst=(dBrs x_1 (countR x (8:Int)).snd).fst++[Br.mk (dKeys x_2 (countR (dBrs x_1
 (countR x (8:Int)).snd).snd (16:Int)).snd).fst (hashR (dKeys x_2 (countR (dBrs x_1 (countR x (8:Int)).snd).snd (16:Int)).snd).snd).fst (wr
 IntKind.i64 (uintR (hashR (dKeys x_2 (countR (dBrs x_1 (countR x (8:Int)).snd).snd (16:Int)).snd).snd).snd (1099511627776:Int)).fst) (wr
 IntKind.i64 (uintR (uintR (hashR (dKeys x_2 (countR (dBrs x_1 (countR x (8:Int)).snd).snd (16:Int)).snd).snd).snd (1099511627776:Int)).snd (65536
 : Int)).fst)]∧True))∧(decide ((x_1:Int)<(countR x (8:Int)).fst)=false→((dC x).fst=(dBrs x_1 (countR x (8:Int)).snd).fst∧True) ∧
 (((dC x).snd.b=(dBrs x_1 (countR x (8:Int)).snd).snd.b∧(dC x).snd.i=(dBrs x_1 (countR x (8:Int)).snd).snd.i∧(dC x).snd.e=(dBrs x_1
 (countR x (8:Int)).snd).snd.e∧True)∧True)∧True)
theorem takes_eq:takesVC=fnS F160 f68 (bodyOf f68) takesLS takesAnn:=by kernel_rfl
theorem takes_vc:takesVC:=by
 intro x h0
 have few:∀ {r:Rd},r.Ok→∀ {m:Int},0≤m→m≤1000→(RdN.mk r m).Few:=fun hr m h1 h2=>⟨⟨hr,h1⟩,by show m≤1000000; omega⟩
 obtain ⟨c1,c2,c3⟩:=countR_ok h0 (m:=8) (by omega)
 refine ⟨⟨trivial,rfl⟩,⟨⟨rfl,rfl,rfl,trivial⟩,trivial⟩,few h0 (by omega) (by omega),⟨0,?_,rfl,⟨⟨rfl,rfl,rfl,trivial⟩,⟨rfl,trivial⟩,⟨rfl,trivial⟩,trivial⟩,rfl,trivial⟩,fun i hi=>⟨fun h1=>?_,fun h1=>?_⟩⟩
 ·show ((0:Nat):Int)≤(countR x 8).1
  omega
 ·simp only [decide_eq_true_eq] at h1
  obtain ⟨b1,b2⟩:=brsR_ok c1 i
  obtain ⟨d1,d2,d3⟩:=countR_ok b1 (m:=16) (by omega)
  refine ⟨⟨trivial,rfl⟩,⟨⟨rfl,rfl,rfl,trivial⟩,trivial⟩,few b1 (by omega) (by omega),⟨0,?_,rfl,⟨⟨rfl,rfl,rfl,trivial⟩,⟨rfl,trivial⟩,⟨trivial,trivial⟩,rfl,⟨rfl,rfl,rfl,rfl,trivial⟩,trivial⟩,rfl,trivial⟩,fun j hj=>⟨fun h2=>both ?_,fun h2=>?_⟩⟩
  ·show ((0:Nat):Int)≤(countR (dBrs i (countR x 8).2).2 16).1
   omega
  ·simp only [decide_eq_true_eq] at h2
   obtain ⟨k1,k2⟩:=keysR_ok d1 j
   obtain ⟨u1,u2⟩:=uintR_ok k1 (m:=16) (by omega)
   refine ⟨⟨trivial,rfl⟩,⟨⟨rfl,rfl,rfl,trivial⟩,trivial⟩,⟨k1,by show (0:Int)≤16; omega⟩,?_,?_,by unfold inI64; omega,j+1,?_,by omega,by omega,⟨⟨rfl,rfl,rfl,trivial⟩,⟨rfl,trivial⟩,⟨trivial,trivial⟩,rfl,⟨trivial,rfl,rfl,rfl,trivial⟩,trivial⟩,?_,trivial⟩
   ·rw [k2]; simp only [List.length_singleton]; omega
   ·rw [k2]; simp only [List.length_singleton]; omega
   ·show ((j+1:Nat):Int)≤(countR (dBrs i (countR x 8).2).2 16).1
    omega
   ·rw [wr_small u2 (by omega)]
    rfl
  ·simp only [decide_eq_false_iff_not] at h2
   have hj':(j:Int)≤(countR (dBrs i (countR x 8).2).2 16).1:=hj
   have ej:dKeys j (countR (dBrs i (countR x 8).2).2 16).2=dK (dBrs i (countR x 8).2).2:=by
    unfold dK
    rw [show (countR (dBrs i (countR x 8).2).2 16).1.toNat=j by omega]
   rw [ej]
   refine ⟨trivial,⟨⟨rfl,rfl,rfl,trivial⟩,trivial⟩,(kR_ok b1).1,⟨trivial,rfl⟩,⟨⟨rfl,rfl,rfl,trivial⟩,trivial⟩,⟨(hR_ok b1).1,by show (0:Int)≤1099511627776; omega⟩,⟨trivial,rfl⟩,⟨⟨rfl,rfl,rfl,trivial⟩,trivial⟩,⟨(aR_ok b1).1,by show (0:Int)≤65536; omega⟩,⟨rfl,rfl,rfl,rfl,trivial⟩,?_,?_,by unfold inI64; omega,i+1,?_,by omega,by omega,⟨⟨rfl,rfl,rfl,trivial⟩,⟨rfl,trivial⟩,⟨trivial,trivial⟩,trivial⟩,?_,trivial⟩
   ·rw [b2]; simp only [List.length_singleton]; omega
   ·rw [b2]; simp only [List.length_singleton]; omega
   ·show ((i+1:Nat):Int)≤(countR x 8).1
    omega
   ·have e1:wr .i64 (dA (dBrs i (countR x 8).2).2).1=(dA (dBrs i (countR x 8).2).2).1:=wr_small (aR_ok b1).2 (by omega)
    have e2:wr .i64 (dO (dBrs i (countR x 8).2).2).1=(dO (dBrs i (countR x 8).2).2).1:=wr_small (oR_ok b1).2 (by omega)
    show _=(dBrs i (countR x 8).2).1++[Br.mk _ _ (wr .i64 (dA (dBrs i (countR x 8).2).2).1) (wr .i64 (dO (dBrs i (countR x 8).2).2).1)]
    rw [e1,e2]
    rfl
 ·simp only [decide_eq_false_iff_not] at h1
  have hi':(i:Int)≤(countR x 8).1:=hi
  have ei:dBrs i (countR x 8).2=dC x:=by
   unfold dC
   rw [show (countR x 8).1.toNat=i by omega]
  rw [ei]
  exact ⟨⟨rfl,trivial⟩,⟨⟨rfl,rfl,rfl,trivial⟩,trivial⟩,trivial⟩
theorem takes_ok:Fits F160 f68 (bodyOf f68) takesLS takesAnn:=by
 constructor
 rw [← takes_eq]
 exact takes_vc
theorem takes_has:Has prog 68 f68 (bodyOf f68):=⟨by kernel_rfl,by kernel_rfl,by kernel_rfl⟩
theorem known161:Known prog L161:=by
 unfold L161
 exact known160.lent mixed takes_has F160_eq takes_ok (fun _ _=>Nat.le_refl _) (fun h=>by cases h)
end Go.Proofs.YtcglahfmnoghjaaGreatDoor

/-! The document's reader: what is said of it. Conditions: none. -/
namespace Go.Proofs.YtcglahfmnoghjaaGreatDoor
open Go Go.Eng Go.Proofs.Tryz
/-- The document's reader: what is left, the first error. -/
structure RR where
 l:List Int
 e:Int
def rrSL (r:RR):SL AA := .cell (.rints .u8 r.l) (.cell (.int .i64 r.e) .nil)
def decRR (sh:List (SO AA)):SV AA→Option RR
 | .agg (.cell b (.cell n .nil))=>match gI .u8 sh b,asI n with
  | some b,some n=>some ⟨b,n⟩
  | _,_=>none
 | _=>none
def ofR (r:RR):Rd:=⟨r.l,0,r.e⟩
def toR (r:Rd):RR:=⟨r.left,r.e⟩
structure RR.Ok (r:RR):Prop where
 byt:∀ y,y∈r.l→0≤y∧y<256
 len:r.l.length≤1000000000000
theorem RR.Ok.of {r:RR} (h:r.Ok):(ofR r).Ok:=⟨h.byt,by show (0:Int)≤0; omega,by show (0:Int)≤r.l.length; omega,h.len⟩
theorem Rd.Ok.to {r:Rd} (h:r.Ok):(toR r).Ok:=⟨left_byt h,by
 show r.left.length≤1000000000000
 have:=left_len r h
 have:=h.len
 have:=h.lo
 omega⟩
theorem to_of (r:RR):toR (ofR r)=r:=rfl
theorem left_step {r:Rd} (h:r.Ok) {k:Int} (hk:0≤k) (e:Int):(Rd.mk r.b (r.i+k) e).left=r.left.drop k.toNat:=by
 unfold Rd.left
 have:=h.lo
 show List.drop (r.i+k).toNat r.b=_
 rw [List.drop_drop,show (r.i+k).toNat=r.i.toNat+k.toNat by omega]
theorem uint_to {r:Rd} (h:r.Ok) {m:Int} (_hm:0≤m):(uintR (ofR (toR r)) m).1=(uintR r m).1∧toR (uintR (ofR (toR r)) m).2=toR (uintR r m).2:=by
 unfold uintR
 show (if r.e≠0 then (0,ofR (toR r)) else if numE r.left m≠0 then (0,⟨r.left,0,numE r.left m⟩) else (numV r.left,⟨r.left,0+numW r.left,0⟩)).1=_∧toR (if r.e≠0 then (0,ofR (toR r)) else if numE r.left m≠0 then (0,⟨r.left,0,numE r.left m⟩) else (numV r.left,⟨r.left,0+numW r.left,0⟩)).2=_
 split
 ·exact ⟨rfl,rfl⟩
 split
 ·exact ⟨rfl,rfl⟩
 ·rename_i h1 h2
  have nf:=num_facts h (Classical.not_not.1 h2)
  refine ⟨rfl,?_⟩
  show RR.mk _ 0=RR.mk _ 0
  rw [left_step h (by omega)]
  have h3:(Rd.mk r.left 0 0).Ok:=RR.Ok.of (r:=⟨r.left,0⟩) ⟨(Rd.Ok.to h).byt,(Rd.Ok.to h).len⟩
  have:=left_step h3 (k:=numW r.left) (by omega) 0
  rw [this]
  rfl
theorem count_to {r:Rd} (h:r.Ok) {m:Int} (_hm:0≤m):(countR (ofR (toR r)) m).1=(countR r m).1∧toR (countR (ofR (toR r)) m).2=toR (countR r m).2:=by
 unfold countR
 show (if r.e≠0 then (0,ofR (toR r)) else if numE r.left m≠0 then (0,⟨r.left,0,numE r.left m⟩) else if numV r.left>r.left.length-numW r.left then (0,⟨r.left,0,2⟩) else (numV r.left,⟨r.left,0+numW r.left,0⟩)).1=_∧toR (if r.e≠0 then (0,ofR (toR r)) else if numE r.left m≠0 then (0,⟨r.left,0,numE r.left m⟩) else if numV r.left>r.left.length-numW r.left then (0,⟨r.left,0,2⟩) else (numV r.left,⟨r.left,0+numW r.left,0⟩)).2=_
 split
 ·exact ⟨rfl,rfl⟩
 split
 ·exact ⟨rfl,rfl⟩
 split
 ·exact ⟨rfl,rfl⟩
 ·rename_i h1 h2 h4
  have nf:=num_facts h (Classical.not_not.1 h2)
  refine ⟨rfl,?_⟩
  show RR.mk _ 0=RR.mk _ 0
  rw [left_step h (by omega)]
  have h3:(Rd.mk r.left 0 0).Ok:=RR.Ok.of (r:=⟨r.left,0⟩) ⟨(Rd.Ok.to h).byt,(Rd.Ok.to h).len⟩
  have:=left_step h3 (k:=numW r.left) (by omega) 0
  rw [this]
  rfl
theorem hash_to {r:Rd} (h:r.Ok):(hashR (ofR (toR r))).1=(hashR r).1∧toR (hashR (ofR (toR r))).2=toR (hashR r).2:=by
 unfold hashR
 show (if r.e≠0 then (List.replicate 32 0,ofR (toR r)) else if r.left.length<32 then (List.replicate 32 0,⟨r.left,0,12⟩) else (r.left.take 32,⟨r.left,0+32,0⟩)).1=_∧toR (if r.e≠0 then (List.replicate 32 0,ofR (toR r)) else if r.left.length<32 then (List.replicate 32 0,⟨r.left,0,12⟩) else (r.left.take 32,⟨r.left,0+32,0⟩)).2=_
 split
 ·exact ⟨rfl,rfl⟩
 split
 ·exact ⟨rfl,rfl⟩
 ·refine ⟨rfl,?_⟩
  show RR.mk _ 0=RR.mk _ 0
  rw [left_step h (by omega)]
  have h3:(Rd.mk r.left 0 0).Ok:=RR.Ok.of (r:=⟨r.left,0⟩) ⟨(Rd.Ok.to h).byt,(Rd.Ok.to h).len⟩
  have:=left_step h3 (k:=32) (by omega) 0
  rw [this]
  rfl
theorem bytes_to {r:Rd} (h:r.Ok) {m:Int}:(bytesR (ofR (toR r)) m).1=(bytesR r m).1∧toR (bytesR (ofR (toR r)) m).2=toR (bytesR r m).2:=by
 unfold bytesR
 show (if r.e≠0 then ([],ofR (toR r)) else if (scanB m r.left [] 0).2.1≠0 then ([],⟨r.left,0,(scanB m r.left [] 0).2.1⟩) else ((scanB m r.left [] 0).1,⟨r.left,0+((scanB m r.left [] 0).2.2:Int),0⟩)).1=_∧toR (if r.e≠0 then ([],ofR (toR r)) else if (scanB m r.left [] 0).2.1≠0 then ([],⟨r.left,0,(scanB m r.left [] 0).2.1⟩) else ((scanB m r.left [] 0).1,⟨r.left,0+((scanB m r.left [] 0).2.2:Int),0⟩)).2=_
 split
 ·exact ⟨rfl,rfl⟩
 split
 ·exact ⟨rfl,rfl⟩
 ·refine ⟨rfl,?_⟩
  show RR.mk _ 0=RR.mk _ 0
  rw [left_step h (by omega)]
  have h3:(Rd.mk r.left 0 0).Ok:=RR.Ok.of (r:=⟨r.left,0⟩) ⟨(Rd.Ok.to h).byt,(Rd.Ok.to h).len⟩
  have:=left_step h3 (k:=((scanB m r.left [] 0).2.2:Int)) (by omega) 0
  rw [this]
  rfl
structure RRn where
 r:RR
 n:Int
def rrnGet (args:List (SV AA)) (sh:List (SO AA)):Option RRn:=match args with
 | [r,n]=>match decRR sh r,asI n with
  | some r,some n=>some ⟨r,n⟩
  | _,_=>none
 | _=>none
def RR.fail (r:RR) (n:Int):RR:=⟨r.l,if r.e=0 then n else r.e⟩
def rfailLS:LS AA where
 X:=RRn
 pre:=fun _=>True
 args:=fun x=>[.agg (rrSL x.r),.int .i64 x.n]
 hin:=fun _=>[]
 res:=fun x=>[.agg (rrSL (x.r.fail x.n))]
 hout:=fun _=>[]
def L180:List (Nat×SpecT AA):=(113,tLent rfailLS rrnGet)::L161
noncomputable def F161:Eng AA:=EF prog L161
theorem F161_eq:F161=EF prog L161:=by
 unfold F161
 rfl
noncomputable def F180:Eng AA:=EF prog L180
theorem F180_eq:F180=EF prog L180:=by
 unfold F180
 rfl
structure RNum where
 l:List Int
 n:Int
structure RNum.Ok (x:RNum):Prop where
 byt:∀ y,y∈x.l→0≤y∧y<256
 one:1≤x.l.length
 lo:0≤x.n
 hi:x.n≤8
def rnumLS:LS AA where
 X:=RNum
 pre:=RNum.Ok
 args:=fun x=>[.rints .u8 x.l,.int .i64 x.n,.bl false]
 hin:=fun _=>[]
 res:=fun x=>[.int .u64 (lowN2 x.l.tail x.n),.int .i64 (lowE x.l.tail x.n)]
 hout:=fun _=>[]
def rnumGet (args:List (SV AA)) (sh:List (SO AA)):Option RNum:=match args with
 | [l,n,.bl false]=>match gI .u8 sh l,asI n with
  | some l,some n=>some ⟨l,n⟩
  | _,_=>none
 | _=>none
def rnumAnn (x:RNum):Anns AA:=fun _ _ _=>some {
 X:=Nat
 inv:=fun k=>(k:Int)≤x.n∧(0<k→x.l.tail.head?≠some 0)
 meas:=fun k=>x.n.toNat-k
 slots:=fun k=>[(9,.int .i64 ((k:Int)+1)),(8,.int .u64 (bigE (x.l.tail.take k)))]
 heap:=fun _=>[] }
def L181:List (Nat×SpecT AA):=(114,tLent rnumLS rnumGet)::L180
noncomputable def F181:Eng AA:=EF prog L181
theorem F181_eq:F181=EF prog L181:=by
 unfold F181
 rfl
structure RRn.Ok (x:RRn):Prop where
 r:x.r.Ok
 lo:0≤x.n
structure RRn.Few (x:RRn):Prop extends RRn.Ok x where
 hi:x.n≤1000000
def rruGet (args:List (SV AA)) (sh:List (SO AA)):Option RRn:=match args with
 | [r,n]=>match decRR sh r,asU n with
  | some r,some n=>some ⟨r,n⟩
  | _,_=>none
 | _=>none
def rrUintLS:LS AA where
 X:=RRn
 pre:=RRn.Ok
 args:=fun x=>[.agg (rrSL x.r),.int .u64 x.n]
 hin:=fun _=>[]
 res:=fun x=>[.agg (rrSL (toR (uintR (ofR x.r) x.n).2)),.int .u64 (uintR (ofR x.r) x.n).1]
 hout:=fun _=>[]
def L182:List (Nat×SpecT AA):=(69,tLent rrUintLS rruGet)::L181
noncomputable def F182:Eng AA:=EF prog L182
theorem F182_eq:F182=EF prog L182:=by
 unfold F182
 rfl
def rrCountLS:LS AA where
 X:=RRn
 pre:=RRn.Few
 args:=fun x=>[.agg (rrSL x.r),.int .i64 x.n]
 hin:=fun _=>[]
 res:=fun x=>[.agg (rrSL (toR (countR (ofR x.r) x.n).2)),.int .i64 (countR (ofR x.r) x.n).1]
 hout:=fun _=>[]
def L183:List (Nat×SpecT AA):=(70,tLent rrCountLS rrnGet)::L182
noncomputable def F183:Eng AA:=EF prog L183
theorem F183_eq:F183=EF prog L183:=by
 unfold F183
 rfl
def rrGet (args:List (SV AA)) (sh:List (SO AA)):Option RR:=match args with
 | [r]=>decRR sh r
 | _=>none
def rrHashLS:LS AA where
 X:=RR
 pre:=RR.Ok
 args:=fun r=>[.agg (rrSL r)]
 hin:=fun _=>[]
 res:=fun r=>[.agg (rrSL (toR (hashR (ofR r)).2)),hashV (hashR (ofR r)).1]
 hout:=fun _=>[]
def rrHashAnn (r:RR):Anns AA:=fun _ ts sh=>match nth ts 4 with
 | some (.ptr j _)=>(match nth sh j with
  | some (.cells t _)=>some {
   X:=Nat
   inv:=fun k=>k≤32
   meas:=fun k=>32-k
   slots:=fun k=>[(5,.int .i64 k)]
   heap:=fun k=>[(j,.cells t (.run .u8 32 (r.l.take k++List.replicate (32-k) 0) .nil))] }
  | _=>none)
 | _=>none
def L184:List (Nat×SpecT AA):=(71,tLent rrHashLS rrGet)::L183
noncomputable def F184:Eng AA:=EF prog L184
theorem F184_eq:F184=EF prog L184:=by
 unfold F184
 rfl
def rrBytesLS:LS AA where
 X:=RRn
 pre:=RRn.Few
 args:=fun x=>[.agg (rrSL x.r),.int .i64 x.n]
 hin:=fun _=>[]
 res:=fun x=>[.agg (rrSL (toR (bytesR (ofR x.r) x.n).2)),.rints .u8 (bytesR (ofR x.r) x.n).1]
 hout:=fun _=>[]
def rrBytesAnn (x:RRn):Anns AA:=fun _ _ sh=>some {
 X:=ScanX
 inv:=fun y=>y.i≤x.r.l.length∧(y.out.length:Int)≤x.n∧scanB x.n x.r.l [] 0=scanB x.n (x.r.l.drop y.i) y.out y.i
 meas:=fun y=>x.r.l.length-y.i
 slots:=fun y=>[(7,.int .i64 y.i),(6,.vec (cnt sh))]
 heap:=fun _=>[]
 more:=fun y=>[.ivec 5 .u8 y.out] }
def L185:List (Nat×SpecT AA):=(72,tLent rrBytesLS rrnGet)::L184
noncomputable def F185:Eng AA:=EF prog L185
theorem F185_eq:F185=EF prog L185:=by
 unfold F185
 rfl
def doneL (r:RR):Int:=if r.e=0∧r.l≠[] then 3 else r.e
def rrDoneLS:LS AA where
 X:=RR
 pre:=fun _=>True
 args:=fun r=>[.agg (rrSL r)]
 hin:=fun _=>[]
 res:=fun r=>[.int .i64 (doneL r)]
 hout:=fun _=>[]
def L186:List (Nat×SpecT AA):=(55,tLent rrDoneLS rrGet)::L185
noncomputable def F186:Eng AA:=EF prog L186
theorem F186_eq:F186=EF prog L186:=by
 unfold F186
 rfl
end Go.Proofs.YtcglahfmnoghjaaGreatDoor

/-! The document's reader: the walks. Conditions: none. -/
namespace Go.Proofs.YtcglahfmnoghjaaGreatDoor
open Go Go.Eng Go.Proofs.Tryz
def rfailVC:Prop:=∀ (x:RRn),True→((x.r.e==(0:Int))=true→(x.r.l=x.r.l∧(if x.r.e=(0:Int) then x.n else x.r.e)=x.n∧True)∧True∧True)∧((x.r.e
 == (0:Int))=false→(x.r.l=x.r.l∧(if x.r.e=(0:Int) then x.n else x.r.e)=x.r.e∧True)∧True∧True)
theorem rfail_eq:rfailVC=fnS F161 f113 (bodyOf f113) rfailLS noAnn:=by kernel_rfl
theorem rfail_vc:rfailVC:=by
 rintro ⟨⟨l,e⟩,n⟩ _
 refine ⟨fun h=>⟨⟨rfl,?_,trivial⟩,trivial,trivial⟩,fun h=>⟨⟨rfl,?_,trivial⟩,trivial,trivial⟩⟩
 ·rw [if_pos (by simpa using h)]
 ·rw [if_neg (by simpa using h)]
theorem rfail_ok:Fits F161 f113 (bodyOf f113) rfailLS noAnn:=by
 constructor
 rw [← rfail_eq]
 exact rfail_vc
theorem rfail_has:Has prog 113 f113 (bodyOf f113):=⟨by kernel_rfl,by kernel_rfl,by kernel_rfl⟩
theorem known180:Known prog L180:=by
 unfold L180
 exact known161.lent mixed rfail_has F161_eq rfail_ok (fun _ _=>Nat.zero_le _) (fun _ _=>rfl)
theorem mul_byte {a c:Int} (h1:0≤a) (h2:a<72057594037927936) (h3:0≤c) (h4:c<256):wr .u64 (wr .u64 (256*a)+wr .u64 c)=a*256+c:=by
 rw [wr64u,wr64u,wr64u]
 omega
def rnumVC:Prop:=∀ (x:RNum),x.Ok→(x.l.length:Int)≤(9223372036854775807:Int)→inI64 ((1:Int)+x.n)∧(decide ((x.l.length:Int)<(1:Int)+x.n) =
 true→(lowN2 x.l.tail x.n=(0:Int)∧lowE x.l.tail x.n=(12:Int))∧True∧True)∧(decide ((x.l.length:Int)<(1:Int)+x.n)=false→(∃ (x_1:Nat),((x_1:Int)≤x.n∧((0:Nat)<x_1→x.l.tail.head?≠some (0:Int)))∧((x_1:Int)+(1:Int)=(1:Int)∧bigE (List.take x_1 x.l.tail)
 = (0:Int))∧True∧True)∧∀ (x_1:Nat),(x_1:Int)≤x.n∧((0:Nat)<x_1→x.l.tail.head?≠some (0:Int))→(decide ((x_1:Int)+(1 :
 Int)≤x.n)=true→(0:Int)≤(x_1:Int)+(1:Int)∧(x_1:Int)+(1:Int)<(x.l.length:Int)∧((x_1:Int)+(1:Int)).toNat <
 x.l.length∧(((x_1:Int)+(1:Int)==(1:Int))=true→((x.l.getD ((x_1:Int)+(1:Int)).toNat (0:Int)==(0:Int))=true→(lowN2
 x.l.tail x.n=(0:Int)∧lowE x.l.tail x.n=(3:Int))∧True∧True)∧((x.l.getD ((x_1:Int)+(1:Int)).toNat (0:Int)==(0:Int))=false
 → inI64 ((x_1:Int)+(1:Int)+(1:Int))∧∃ (y:Nat),((y:Int)≤x.n∧((0:Nat)<y→x.l.tail.head?≠some (0:Int)))∧x.n.toNat-y <
 x.n.toNat-x_1∧((y:Int)+(1:Int)=(x_1:Int)+(1:Int)+(1:Int)∧bigE (List.take y x.l.tail)=wr IntKind.u64 (wr IntKind.u64 ((256 :
 Int)*bigE (List.take x_1 x.l.tail))+wr IntKind.u64 (x.l.getD ((x_1:Int)+(1:Int)).toNat (0:Int))))∧True∧True))∧(((x_1:Int)+(1 :
 Int)==(1:Int))=false→inI64 ((x_1:Int)+(1:Int)+(1:Int))∧∃ (y:Nat),((y:Int)≤x.n∧((0:Nat)<y→x.l.tail.head?≠some (0:Int)))
 ∧ x.n.toNat-y<x.n.toNat-x_1∧((y:Int)+(1:Int)=(x_1:Int)+(1:Int)+(1:Int)∧bigE (List.take y x.l.tail)=wr IntKind.u64 (wr
 IntKind.u64 ((256:Int)*bigE (List.take x_1 x.l.tail))+wr IntKind.u64 (x.l.getD ((x_1:Int)+(1:Int)).toNat (0:Int))))∧True∧True)) ∧
 (decide ((x_1:Int)+(1:Int)≤x.n)=false→(lowN2 x.l.tail x.n=bigE (List.take x_1 x.l.tail)∧lowE x.l.tail x.n=(0:Int))∧True∧True))
theorem rnum_eq:rnumVC=fnS F180 f114 (bodyOf f114) rnumLS rnumAnn:=by kernel_rfl
theorem rnum_vc:rnumVC:=by
 rintro ⟨l,n⟩ ⟨hb,h1,lo,hi⟩ hl
 simp only at hb h1 lo hi hl
 cases l with
 | nil=>simp at h1
 | cons c s=>
  have hs:∀ y,y∈s→0≤y∧y<256:=fun y hy=>hb y (List.mem_cons_of_mem _ hy)
  simp only [List.length_cons] at hl
  have g:s.getD 0 0=0↔(s=[]∨s.head?=some 0):=by cases s<;>simp
  have up:∀ k:Nat,(k:Int)+1≤n→n≤s.length→bigE (s.take (k+1))=wr .u64 (wr .u64 (256*bigE (s.take k))+wr .u64 ((c::s).getD ((k:Int)+1).toNat 0)):=fun k hk hn=>by
   have e:((k:Int)+1).toNat=k+1:=by omega
   have h2:=bigE_lt hs k (by omega)
   have h3:=byte_getD hs k
   have h4:(256 ^ k:Nat)≤256 ^ 7:=Nat.pow_le_pow_right (by omega) (by omega)
   rw [e,List.getD_cons_succ,mul_byte h2.1 (by omega) h3.1 h3.2,bigE_up (by omega)]
  have hi1:inI64 (1+n):=by unfold inI64; omega
  refine ⟨hi1,fun h=>?_,fun h=>?_⟩
  ·have h':((c::s).length:Int)<1+n:=of_decide_eq_true h
   simp only [List.length_cons] at h'
   have h2:lowE s n=12:=by unfold lowE; rw [if_pos (by omega)]
   exact ⟨⟨by show lowN2 s n=0; unfold lowN2; rw [h2]; rfl,h2⟩,trivial,trivial⟩
  have h':¬((c::s).length:Int)<1+n:=of_decide_eq_false h
  simp only [List.length_cons] at h'
  refine ⟨⟨0,⟨lo,fun h=>by omega⟩,⟨rfl,rfl⟩,trivial,trivial⟩,fun k hk=>⟨fun h2=>?_,fun h2=>?_⟩⟩
  ·have h2':(k:Int)+1≤n:=of_decide_eq_true h2
   have e:((k:Int)+1).toNat=k+1:=by omega
   have hi2:inI64 ((k:Int)+1+1):=by unfold inI64; omega
   have fin:(0<k+1→s.head?≠some 0)→∃ (y:Nat),((y:Int)≤n∧(0<y→s.head?≠some 0))∧n.toNat-y<n.toNat-k∧((y:Int)+1=(k:Int)+1+1∧bigE (s.take y)=wr .u64 (wr .u64 (256*bigE (s.take k))+wr .u64 ((c::s).getD ((k:Int)+1).toNat 0)))∧True∧True:=fun hh=>
    ⟨k+1,⟨by omega,hh⟩,by omega,⟨by omega,up k h2' (by omega)⟩,trivial,trivial⟩
   refine ⟨by omega,by simp only [List.length_cons]; omega,by rw [e]; simp only [List.length_cons]; omega,fun h3=>⟨fun h4=>?_,fun h4=>⟨hi2,fin fun _=>?_⟩⟩,fun h3=>⟨hi2,fin fun _=>hk.2 ?_⟩⟩
   ·have k0:k=0:=by
     have:(k:Int)+1=1:=by simpa using h3
     omega
    subst k0
    have h4':s.getD 0 0=0:=by simpa using h4
    have h5:s.head?=some 0:=by
     rcases g.1 h4' with e2 | e2
     ·rw [e2] at h'
      simp only [List.length_nil] at h'
      omega
     ·exact e2
    have h6:lowE s n=3:=by unfold lowE; rw [if_neg (by omega),if_pos ⟨by omega,h5⟩]
    exact ⟨⟨by show lowN2 s n=0; unfold lowN2; rw [h6]; rfl,h6⟩,trivial,trivial⟩
   ·have k0:k=0:=by
     have:(k:Int)+1=1:=by simpa using h3
     omega
    subst k0
    have h4':¬s.getD 0 0=0:=by simpa using h4
    exact fun h5=>h4' (g.2 (.inr h5))
   ·have:¬(k:Int)+1=1:=by simpa using h3
    omega
  ·have h2':¬(k:Int)+1≤n:=of_decide_eq_false h2
   have hk1:(k:Int)≤n:=hk.1
   have h6:lowE s n=0:=by
    unfold lowE
    rw [if_neg (by omega),if_neg]
    rintro ⟨h7,h8⟩
    exact hk.2 (by omega) h8
   refine ⟨⟨?_,h6⟩,trivial,trivial⟩
   show lowN2 s n=bigE (s.take k)
   unfold lowN2
   rw [if_pos h6,show n.toNat=k by omega]
theorem rnum_ok:Fits F180 f114 (bodyOf f114) rnumLS rnumAnn:=by
 constructor
 rw [← rnum_eq]
 exact rnum_vc
theorem rnum_has:Has prog 114 f114 (bodyOf f114):=⟨by kernel_rfl,by kernel_rfl,by kernel_rfl⟩
theorem known181:Known prog L181:=by
 unfold L181
 exact known180.lent mixed rnum_has F180_eq rnum_ok (fun _ _=>Nat.zero_le _) (fun _ _=>rfl)
def rrUintVC:Prop:=∀ (x:RRn),x.Ok→((x.r.e != (0:Int))=true→(((uintR (ofR x.r) x.n).snd.left=x.r.l∧(uintR (ofR x.r) x.n).snd.e=x.r.e∧True)∧(uintR (ofR
 x.r) x.n).fst=(0:Int))∧True∧True)∧((x.r.e != (0:Int))=false→(x.r.l.length:Int)≤(9223372036854775807:Int)→(((↑x.r.l.length :
 Int)==(0:Int))=true→((x.r.l=x.r.l∧x.r.e=x.r.e∧True)∧(12:Int)=(12:Int))∧True∧True∧(((uintR (ofR x.r) x.n).snd.left=x.r.l
 ∧ ((uintR (ofR x.r) x.n).snd.e=if x.r.e=(0:Int) then (12:Int) else x.r.e)∧True)∧(uintR (ofR x.r) x.n).fst=(0:Int))∧True∧True) ∧
 (((x.r.l.length:Int)==(0:Int))=false→(0:Int)≤(0:Int)∧(0:Int)<(x.r.l.length:Int)∧Int.toNat (0:Int)<x.r.l.length ∧
 (decide (x.r.l.getD (Int.toNat (0:Int)) (0:Int)>(8:Int))=true→((x.r.l=x.r.l∧x.r.e=x.r.e∧True)∧(3:Int)=(3:Int))∧True ∧
 True∧(((uintR (ofR x.r) x.n).snd.left=x.r.l∧((uintR (ofR x.r) x.n).snd.e=if x.r.e=(0:Int) then (3:Int) else x.r.e)∧True)∧(uintR (ofR
 x.r) x.n).fst=(0:Int))∧True∧True)∧(decide (x.r.l.getD (Int.toNat (0:Int)) (0:Int)>(8:Int))=false→(0:Int)≤(0:Int)∧(0 :
 Int)<(x.r.l.length:Int)∧Int.toNat (0:Int)<x.r.l.length∧(x.r.l=x.r.l∧wr IntKind.i64 (x.r.l.getD (Int.toNat (0:Int)) (0:Int))=wr
 IntKind.i64 (x.r.l.getD (Int.toNat (0:Int)) (0:Int))∧false=false)∧True∧(RNum.mk x.r.l (wr IntKind.i64 (x.r.l.getD (Int.toNat (0:Int)) (0
 : Int)))).Ok∧((lowE x.r.l.tail (wr IntKind.i64 (x.r.l.getD (Int.toNat (0:Int)) (0:Int)))==(0:Int))=true→(decide (lowN2 x.r.l.tail (wr
 IntKind.i64 (x.r.l.getD (Int.toNat (0:Int)) (0:Int)))>x.n)=true→((x.r.l=x.r.l∧x.r.e=x.r.e∧True)∧(4:Int)=(4:Int))∧True ∧
 True∧(((uintR (ofR x.r) x.n).snd.left=x.r.l∧((uintR (ofR x.r) x.n).snd.e=if x.r.e=(0:Int) then (4:Int) else x.r.e)∧True)∧(uintR (ofR
 x.r) x.n).fst=(0:Int))∧True∧True)∧(decide (lowN2 x.r.l.tail (wr IntKind.i64 (x.r.l.getD (Int.toNat (0:Int)) (0:Int)))>x.n)=false →
 ((lowE x.r.l.tail (wr IntKind.i64 (x.r.l.getD (Int.toNat (0:Int)) (0:Int))) != (0:Int))=true→((x.r.l=x.r.l∧x.r.e=x.r.e∧True)∧lowE
 x.r.l.tail (wr IntKind.i64 (x.r.l.getD (Int.toNat (0:Int)) (0:Int)))=lowE x.r.l.tail (wr IntKind.i64 (x.r.l.getD (Int.toNat (0:Int)) (0 :
 Int))))∧True∧True∧(((uintR (ofR x.r) x.n).snd.left=x.r.l∧((uintR (ofR x.r) x.n).snd.e=if x.r.e=(0:Int) then lowE x.r.l.tail (wr
 IntKind.i64 (x.r.l.getD (Int.toNat (0:Int)) (0:Int))) else x.r.e)∧True)∧(uintR (ofR x.r) x.n).fst=(0:Int))∧True∧True)∧((lowE
 x.r.l.tail (wr IntKind.i64 (x.r.l.getD (Int.toNat (0:Int)) (0:Int))) != (0:Int))=false→(0:Int)≤(0:Int)∧(0:Int)<(↑x.r.l.length :
 Int)∧Int.toNat (0:Int)<x.r.l.length∧inI64 ((1:Int)+wr IntKind.i64 (x.r.l.getD (Int.toNat (0:Int)) (0:Int)))∧(0:Int)≤(1:Int) +
 wr IntKind.i64 (x.r.l.getD (Int.toNat (0:Int)) (0:Int))∧(1:Int)+wr IntKind.i64 (x.r.l.getD (Int.toNat (0:Int)) (0:Int))≤(↑x.r.l.length
 : Int)∧(x.r.l.length:Int)≤(x.r.l.length:Int)∧(((uintR (ofR x.r) x.n).snd.left=List.drop ((1:Int)+wr IntKind.i64 (x.r.l.getD
 (Int.toNat (0:Int)) (0:Int))).toNat (List.take (x.r.l.length:Int).toNat x.r.l)∧(uintR (ofR x.r) x.n).snd.e=x.r.e∧True)∧(uintR (ofR x.r)
 x.n).fst=lowN2 x.r.l.tail (wr IntKind.i64 (x.r.l.getD (Int.toNat (0:Int)) (0:Int))))∧True∧True)))∧((lowE x.r.l.tail (wr IntKind.i64
 (x.r.l.getD (Int.toNat (0:Int)) (0:Int)))==(0:Int))=false→((lowE x.r.l.tail (wr IntKind.i64 (x.r.l.getD (Int.toNat (0:Int)) (0:Int)))
 != (0:Int))=true→((x.r.l=x.r.l∧x.r.e=x.r.e∧True)∧lowE x.r.l.tail (wr IntKind.i64 (x.r.l.getD (Int.toNat (0:Int)) (0:Int)))=lowE
 x.r.l.tail (wr IntKind.i64 (x.r.l.getD (Int.toNat (0:Int)) (0:Int))))∧True∧True∧(((uintR (ofR x.r) x.n).snd.left=x.r.l∧((uintR (ofR x.r)
 x.n).snd.e=if x.r.e=(0:Int) then lowE x.r.l.tail (wr IntKind.i64 (x.r.l.getD (Int.toNat (0:Int)) (0:Int))) else x.r.e)∧True)∧(uintR (ofR
 x.r) x.n).fst=(0:Int))∧True∧True)∧((lowE x.r.l.tail (wr IntKind.i64 (x.r.l.getD (Int.toNat (0:Int)) (0:Int))) != (0:Int))=false→(0
 : Int)≤(0:Int)∧(0:Int)<(x.r.l.length:Int)∧Int.toNat (0:Int)<x.r.l.length∧inI64 ((1:Int)+wr IntKind.i64 (x.r.l.getD (Int.toNat
 (0:Int)) (0:Int)))∧(0:Int)≤(1:Int)+wr IntKind.i64 (x.r.l.getD (Int.toNat (0:Int)) (0:Int))∧(1:Int)+wr IntKind.i64 (x.r.l.getD
 (Int.toNat (0:Int)) (0:Int))≤(x.r.l.length:Int)∧(x.r.l.length:Int)≤(x.r.l.length:Int)∧(((uintR (ofR x.r) x.n).snd.left=List.drop
 ((1:Int)+wr IntKind.i64 (x.r.l.getD (Int.toNat (0:Int)) (0:Int))).toNat (List.take (x.r.l.length:Int).toNat x.r.l)∧(uintR (ofR x.r)
 x.n).snd.e=x.r.e∧True)∧(uintR (ofR x.r) x.n).fst=lowN2 x.r.l.tail (wr IntKind.i64 (x.r.l.getD (Int.toNat (0:Int)) (0:Int))))∧True ∧
 True)))))
theorem rrUint_eq:rrUintVC=fnS F181 f69 (bodyOf f69) rrUintLS noAnn:=by kernel_rfl
theorem rrUint_vc:rrUintVC:=by
 rintro ⟨⟨l,e⟩,m⟩ hx
 have hb:∀ y,y∈l→0≤y∧y<256:=hx.r.byt
 have hlen:l.length≤1000000000000:=hx.r.len
 by_cases he:e=0
 case neg=>simp [uintR,ofR,he,Rd.left]
 subst he
 cases l with
 | nil=>simp [uintR,ofR,Rd.left,numE]
 | cons c s=>
  have hc:0≤c∧c<256:=hb c List.mem_cons_self
  have hw:wr .i64 c=c:=by rw [wr64 (by unfold inI64; omega)]
  have hi:inI64 (1+c):=by unfold inI64; omega
  have hL:(ofR ⟨c::s,0⟩).left=c::s:=rfl
  have hE0:(ofR ⟨c::s,0⟩).e=0:=rfl
  by_cases h8:c>8
  ·have hE:numE (c::s) m=3:=by simp [numE,h8]
   simp [uintR,hL,hE0,hE,h8]
   simp [ofR,Rd.left]
   omega
  ·have hnum:(RNum.mk (c::s) c).Ok:=⟨hb,by simp,hc.1,by show c≤8; omega⟩
   by_cases hE:lowE s c=0
   ·have hN:lowN2 s c=bigE (s.take c.toNat):=by unfold lowN2; rw [if_pos hE]
    by_cases hB:bigE (s.take c.toNat)>m
    ·have hE2:numE (c::s) m=4:=by simp only [numE]; rw [if_neg h8,if_neg (fun h=>h hE),if_pos hB]
     simp [uintR,hL,hE0,hE,hE2,h8,hw,hnum,hN,hB]
     simp [ofR,Rd.left]
     omega
    ·have hE2:numE (c::s) m=0:=by simp only [numE]; rw [if_neg h8,if_neg (fun h=>h hE),if_neg hB]
     have hs:¬((s.length:Int)<c):=fun h=>by
      unfold lowE at hE
      rw [if_pos h] at hE
      omega
     have e2:(1+c).toNat=c.toNat+1:=by omega
     simp [uintR,hL,hE0,hE,hE2,h8,hw,hnum,hN,hB,hi,numV,numW,e2]
     simp [ofR,Rd.left,e2]
     omega
   ·have hE2:numE (c::s) m=lowE s c:=by simp only [numE]; rw [if_neg h8,if_pos hE]
    simp [uintR,hL,hE0,hE,hE2,h8,hw,hnum]
    simp [ofR,Rd.left]
    omega
theorem rrUint_ok:Fits F181 f69 (bodyOf f69) rrUintLS noAnn:=by
 constructor
 rw [← rrUint_eq]
 exact rrUint_vc
theorem rrUint_has:Has prog 69 f69 (bodyOf f69):=⟨by kernel_rfl,by kernel_rfl,by kernel_rfl⟩
theorem known182:Known prog L182:=by
 unfold L182
 exact known181.lent mixed rrUint_has F181_eq rrUint_ok (fun _ _=>Nat.zero_le _) (fun _ _=>rfl)
def rrCountVC:Prop:=∀ (x:RRn),x.Few→(decide (x.n<(0:Int))=true→((x.r.l=x.r.l∧x.r.e=x.r.e∧True)∧wr IntKind.u64 (0:Int)=wr IntKind.u64 (0:Int))
 ∧ True∧(RRn.mk (RR.mk x.r.l x.r.e) (wr IntKind.u64 (0:Int))).Ok∧(((uintR (ofR (RR.mk x.r.l x.r.e)) (wr IntKind.u64 (0:Int))).snd.e != (0 :
 Int))=true→((x.r.l=x.r.l∧x.r.e=x.r.e∧True)∧(uintR (ofR (RR.mk x.r.l x.r.e)) (wr IntKind.u64 (0:Int))).snd.e=(uintR (ofR (RR.mk x.r.l
 x.r.e)) (wr IntKind.u64 (0:Int))).snd.e)∧True∧True∧(((countR (ofR x.r) x.n).snd.left=x.r.l∧((countR (ofR x.r) x.n).snd.e=if x.r.e=(0 :
 Int) then (uintR (ofR (RR.mk x.r.l x.r.e)) (wr IntKind.u64 (0:Int))).snd.e else x.r.e)∧True)∧(countR (ofR x.r) x.n).fst=(0:Int))∧True ∧
 True)∧(((uintR (ofR (RR.mk x.r.l x.r.e)) (wr IntKind.u64 (0:Int))).snd.e != (0:Int))=false→(↑(uintR (ofR (RR.mk x.r.l x.r.e)) (wr IntKind.u64
 (0:Int))).snd.left.length:Int)≤(9223372036854775807:Int)→(decide ((uintR (ofR (RR.mk x.r.l x.r.e)) (wr IntKind.u64 (0:Int))).fst>wr
 IntKind.u64 (↑(uintR (ofR (RR.mk x.r.l x.r.e)) (wr IntKind.u64 (0:Int))).snd.left.length:Int))=true→((x.r.l=x.r.l∧x.r.e=x.r.e∧True) ∧
 (2:Int)=(2:Int))∧True∧True∧(((countR (ofR x.r) x.n).snd.left=x.r.l∧((countR (ofR x.r) x.n).snd.e=if x.r.e=(0:Int) then (2:Int)
 else x.r.e)∧True)∧(countR (ofR x.r) x.n).fst=(0:Int))∧True∧True)∧(decide ((uintR (ofR (RR.mk x.r.l x.r.e)) (wr IntKind.u64 (0 :
 Int))).fst>wr IntKind.u64 (↑(uintR (ofR (RR.mk x.r.l x.r.e)) (wr IntKind.u64 (0:Int))).snd.left.length:Int))=false→(((countR (ofR x.r)
 x.n).snd.left=(uintR (ofR (RR.mk x.r.l x.r.e)) (wr IntKind.u64 (0:Int))).snd.left∧(countR (ofR x.r) x.n).snd.e=(uintR (ofR (RR.mk x.r.l x.r.e))
 (wr IntKind.u64 (0:Int))).snd.e∧True)∧(countR (ofR x.r) x.n).fst=wr IntKind.i64 (uintR (ofR (RR.mk x.r.l x.r.e)) (wr IntKind.u64 (0 :
 Int))).fst)∧True∧True)))∧(decide (x.n<(0:Int))=false→((x.r.l=x.r.l∧x.r.e=x.r.e∧True)∧wr IntKind.u64 x.n=wr IntKind.u64 x.n) ∧
 True∧(RRn.mk (RR.mk x.r.l x.r.e) (wr IntKind.u64 x.n)).Ok∧(((uintR (ofR (RR.mk x.r.l x.r.e)) (wr IntKind.u64 x.n)).snd.e != (0:Int))=true →
 ((x.r.l=x.r.l∧x.r.e=x.r.e∧True)∧(uintR (ofR (RR.mk x.r.l x.r.e)) (wr IntKind.u64 x.n)).snd.e=(uintR (ofR (RR.mk x.r.l x.r.e)) (wr
 IntKind.u64 x.n)).snd.e)∧True∧True∧(((countR (ofR x.r) x.n).snd.left=x.r.l∧((countR (ofR x.r) x.n).snd.e=if x.r.e=(0:Int) then (uintR
 (ofR (RR.mk x.r.l x.r.e)) (wr IntKind.u64 x.n)).snd.e else x.r.e)∧True)∧(countR (ofR x.r) x.n).fst=(0:Int))∧True∧True)∧(((uintR (ofR
 (RR.mk x.r.l x.r.e)) (wr IntKind.u64 x.n)).snd.e != (0:Int))=false→(↑(uintR (ofR (RR.mk x.r.l x.r.e)) (wr IntKind.u64 x.n)).snd.left.length :
 Int)≤(9223372036854775807:Int)→(decide ((uintR (ofR (RR.mk x.r.l x.r.e)) (wr IntKind.u64 x.n)).fst>wr IntKind.u64 (↑(uintR (ofR (RR.mk x.r.l
 x.r.e)) (wr IntKind.u64 x.n)).snd.left.length:Int))=true→((x.r.l=x.r.l∧x.r.e=x.r.e∧True)∧(2:Int)=(2:Int))∧True∧True ∧
 (((countR (ofR x.r) x.n).snd.left=x.r.l∧((countR (ofR x.r) x.n).snd.e=if x.r.e=(0:Int) then (2:Int) else x.r.e)∧True)∧(countR (ofR x.r)
 x.n).fst=(0:Int))∧True∧True)∧(decide ((uintR (ofR (RR.mk x.r.l x.r.e)) (wr IntKind.u64 x.n)).fst>wr IntKind.u64 (↑(uintR (ofR (RR.mk x.r.l
 x.r.e)) (wr IntKind.u64 x.n)).snd.left.length:Int))=false→(((countR (ofR x.r) x.n).snd.left=(uintR (ofR (RR.mk x.r.l x.r.e)) (wr IntKind.u64
 x.n)).snd.left∧(countR (ofR x.r) x.n).snd.e=(uintR (ofR (RR.mk x.r.l x.r.e)) (wr IntKind.u64 x.n)).snd.e∧True)∧(countR (ofR x.r) x.n).fst=wr
 IntKind.i64 (uintR (ofR (RR.mk x.r.l x.r.e)) (wr IntKind.u64 x.n)).fst)∧True∧True)))
theorem rrCount_eq:rrCountVC=fnS F182 f70 (bodyOf f70) rrCountLS noAnn:=by kernel_rfl
theorem rrCount_vc:rrCountVC:=by
 rintro ⟨⟨l,e⟩,m⟩ hx
 have hm:0≤m:=hx.lo
 have hm2:m≤1000000:=hx.hi
 have hw:wr .u64 m=m:=by rw [wr64u]; omega
 have hlt:¬m<0:=by omega
 have hok:(RRn.mk (RR.mk l e) m).Ok:=hx.toOk
 have hr:(RR.mk l e).Ok:=hx.r
 by_cases he:e=0
 case neg=>simp [uintR,countR,ofR,he,Rd.left,hw,hlt,hok]
 subst he
 have hL:(ofR ⟨l,0⟩).left=l:=rfl
 have hE0:(ofR ⟨l,0⟩).e=0:=rfl
 by_cases hz:numE l m=0
 case neg=>
  simp [uintR,countR,hL,hE0,hz,hw,hlt,hok]
  simp [ofR,Rd.left]
 have nf:=num_facts hr.of (m:=m) (by rw [hL]; exact hz)
 rw [hL] at nf
 have hlen:l.length≤1000000000000:=hr.len
 have e1:(Rd.mk l (numW l) 0).left=l.drop (numW l).toNat:=by
  rfl
 have e2:(((Rd.mk l (numW l) 0).left.length:Nat):Int)=(l.length:Int)-numW l:=by
  rw [e1,List.length_drop]
  omega
 have hw2:wr .u64 (((Rd.mk l (numW l) 0).left.length:Nat):Int)=(l.length:Int)-numW l:=by
  rw [e2,wr64u]
  omega
 have hw3:wr .i64 (numV l)=numV l:=wr64 (by unfold inI64; omega)
 have hu:uintR (ofR ⟨l,0⟩) m=(numV l,⟨l,numW l,0⟩):=by
  unfold uintR
  rw [if_neg (by simp [hE0]),hL,if_neg (by simp [hz])]
  show (numV l,Rd.mk l (0+numW l) 0)=_
  rw [Int.zero_add]
 by_cases hc:numV l>(l.length:Int)-numW l
 ·have hcr:countR (ofR ⟨l,0⟩) m=(0,⟨l,0,2⟩):=by
   unfold countR
   rw [if_neg (by simp [hE0]),hL,if_neg (by simp [hz]),if_pos hc]
   rfl
  simp [hu,hcr,hw,hlt,hok,hw2,hc]
  simp [Rd.left]
 ·have hcr:countR (ofR ⟨l,0⟩) m=(numV l,⟨l,numW l,0⟩):=by
   unfold countR
   rw [if_neg (by simp [hE0]),hL,if_neg (by simp [hz]),if_neg hc]
   show (numV l,Rd.mk l (0+numW l) 0)=_
   rw [Int.zero_add]
  simp [hu,hcr,hw,hlt,hok,hw2,hw3,hc]
theorem rrCount_ok:Fits F182 f70 (bodyOf f70) rrCountLS noAnn:=by
 constructor
 rw [← rrCount_eq]
 exact rrCount_vc
theorem rrCount_has:Has prog 70 f70 (bodyOf f70):=⟨by kernel_rfl,by kernel_rfl,by kernel_rfl⟩
theorem known183:Known prog L183:=by
 unfold L183
 exact known182.lent mixed rrCount_has F182_eq rrCount_ok (fun _ _=>Nat.zero_le _) (fun _ _=>rfl)
def rrDoneVC:Prop:=∀ (x:RR),True→((x.e==(0:Int))=true→(x.l.length:Int)≤(9223372036854775807:Int)→(decide ((x.l.length:Int)>(0:Int))=true →
 doneL x=(3:Int)∧True∧True)∧(decide ((x.l.length:Int)>(0:Int))=false→doneL x=x.e∧True∧True))∧((x.e==(0:Int))=false →
 doneL x=x.e∧True∧True)
theorem rrDone_eq:rrDoneVC=fnS F185 f55 (bodyOf f55) rrDoneLS noAnn:=by kernel_rfl
theorem rrDone_vc:rrDoneVC:=by
 rintro ⟨l,e⟩ _
 by_cases he:e=0
 ·subst he
  cases l with
  | nil=>simp [doneL]
  | cons c s=>
   simp [doneL]
 ·simp [doneL,he]
theorem rrDone_ok:Fits F185 f55 (bodyOf f55) rrDoneLS noAnn:=by
 constructor
 rw [← rrDone_eq]
 exact rrDone_vc
theorem rrDone_has:Has prog 55 f55 (bodyOf f55):=⟨by kernel_rfl,by kernel_rfl,by kernel_rfl⟩
def rrHashVC:Prop:=∀ (x:RR),x.Ok→((x.e != (0:Int))=true→((((hashR (ofR x)).snd.left=x.l∧(hashR (ofR x)).snd.e=x.e∧True)∧(hashR (ofR x)).fst =
 List.replicate (32:Nat) (0:Int)∧True)∧True∧True)∧(((hashR (ofR x)).snd.left=x.l∧(hashR (ofR x)).snd.e=x.e∧True)∧(hashR (ofR
 x)).fst=List.replicate (32:Nat) (0:Int)∧True)∧True∧True)∧((x.e != (0:Int))=false→(x.l.length:Int)≤(9223372036854775807:Int)
 → (decide ((x.l.length:Int)<(32:Int))=true→(((x.l=x.l∧x.e=x.e∧True)∧(12:Int)=(12:Int))∧True∧True∧((((hashR (ofR
 x)).snd.left=x.l∧((hashR (ofR x)).snd.e=if x.e=(0:Int) then (12:Int) else x.e)∧True)∧(hashR (ofR x)).fst=List.replicate (32:Nat) (0
 : Int)∧True)∧True∧True)∧(((hashR (ofR x)).snd.left=x.l∧((hashR (ofR x)).snd.e=if x.e=(0:Int) then (12:Int) else x.e)∧True) ∧
 (hashR (ofR x)).fst=List.replicate (32:Nat) (0:Int)∧True)∧True∧True)∧((x.l=x.l∧x.e=x.e∧True)∧(12:Int)=(12:Int))∧True ∧
 True∧(((hashR (ofR x)).snd.left=x.l∧((hashR (ofR x)).snd.e=if x.e=(0:Int) then (12:Int) else x.e)∧True)∧(hashR (ofR x)).fst =
 List.replicate (32:Nat) (0:Int)∧True)∧True∧True)∧(decide ((x.l.length:Int)<(32:Int))=false→(∃ (x_1:Nat),Nat.le x_1 (32:Nat)∧(↑x_1
 : Int)=(0:Int)∧((x.l=x.l∧x.e=x.e∧True)∧((SV.val (A:=AA) (Value.slice none (0:Nat) (0:Nat)):SV AA)=SV.val (A:=AA)
 (Value.slice none (0:Nat) (0:Nat))∧(0:Int)=(0:Int)∧True)∧(List.replicate (32:Nat) (0:Int)=List.replicate (32:Nat) (0:Int) ∧
 True)∧(List.take x_1 x.l++List.replicate ((32:Nat)-x_1) (0:Int)=List.replicate (32:Nat) (0:Int)∧True)∧True)∧True)∧∀ (x_1 :
 Nat),x_1.le (32:Nat)→(decide ((x_1:Int)<(32:Int))=true→(0:Int)≤(x_1:Int)∧(x_1:Int)<(x.l.length:Int)∧(↑x_1 :
 Int).toNat<x.l.length∧(0:Int)≤(x_1:Int)∧(x_1:Int)<(↑(32:Nat):Int)∧∀ (ys:List Int),ys=(List.take x_1 x.l++List.replicate
 ((32:Nat)-x_1) (0:Int)).set (x_1:Int).toNat (x.l.getD (x_1:Int).toNat (0:Int))→inI64 ((x_1:Int)+(1:Int))∧∃ (y:Nat),Nat.le y (32 :
 Nat)∧(32:Nat)-y<(32:Nat)-x_1∧(y:Int)=(x_1:Int)+(1:Int)∧((x.l=x.l∧x.e=x.e∧True)∧((SV.val (A:=AA) (Value.slice
 none (0:Nat) (0:Nat)):SV AA)=SV.val (A:=AA) (Value.slice none (0:Nat) (0:Nat))∧(0:Int)=(0:Int)∧True)∧(List.replicate (32 :
 Nat) (0:Int)=List.replicate (32:Nat) (0:Int)∧True)∧(List.take y x.l++List.replicate ((32:Nat)-y) (0:Int)=ys∧True)∧True) ∧
 True)∧(decide ((x_1:Int)<(32:Int))=false→(0:Int)≤(32:Int)∧(32:Int)≤(x.l.length:Int)∧(x.l.length:Int)≤(↑x.l.length :
 Int)∧((((hashR (ofR x)).snd.left=List.drop (Int.toNat (32:Int)) (List.take (x.l.length:Int).toNat x.l)∧(hashR (ofR x)).snd.e=x.e∧True) ∧
 (hashR (ofR x)).fst=List.take x_1 x.l++List.replicate ((32:Nat)-x_1) (0:Int)∧True)∧True∧True)∧(((hashR (ofR x)).snd.left=List.drop
 (Int.toNat (32:Int)) (List.take (x.l.length:Int).toNat x.l)∧(hashR (ofR x)).snd.e=x.e∧True)∧(hashR (ofR x)).fst=List.take x_1 x.l ++
 List.replicate ((32:Nat)-x_1) (0:Int)∧True)∧True∧True)))
theorem rrHash_eq:rrHashVC=fnS F183 f71 (bodyOf f71) rrHashLS rrHashAnn:=by kernel_rfl
theorem rrHash_vc:rrHashVC:=by
 rintro ⟨l,e⟩ hr
 have hlen:l.length≤1000000000000:=hr.len
 have hL:(ofR ⟨l,e⟩).left=l:=rfl
 by_cases he:e=0
 case neg=>simp [hashR,ofR,he,Rd.left]
 subst he
 have hE0:(ofR ⟨l,0⟩).e=0:=rfl
 by_cases hz:l.length<32
 ·have hz':(l.length:Int)<32:=by omega
  simp [hashR,hL,hE0,hz,hz']
  simp [ofR,Rd.left]
 have hz':¬(l.length:Int)<32:=by omega
 have hh:hashR (ofR ⟨l,0⟩)=(l.take 32,⟨l,0+32,0⟩):=by
  unfold hashR
  rw [if_neg (by simp [hE0]),hL,if_neg hz]
  rfl
 have hd:(Rd.mk l (0+32) 0).left=l.drop 32:=rfl
 refine ⟨fun h=>by simp at h,fun _ _=>⟨fun h=>absurd (of_decide_eq_true h) hz',fun _=>⟨⟨0,Nat.zero_le _,rfl,⟨⟨rfl,rfl,trivial⟩,⟨rfl,rfl,trivial⟩,⟨rfl,trivial⟩,⟨rfl,trivial⟩,trivial⟩,trivial⟩,fun k hk=>⟨fun h=>?_,fun h=>?_⟩⟩⟩⟩
 ·have h':(k:Int)<32:=of_decide_eq_true h
  have hk':k<l.length:=by omega
  refine ⟨by omega,by simp only; omega,hk',by omega,by omega,fun ys hy=>⟨by unfold inI64; omega,k+1,by show k+1≤32; omega,by omega,by omega,⟨⟨rfl,rfl,trivial⟩,⟨rfl,rfl,trivial⟩,⟨rfl,trivial⟩,⟨?_,trivial⟩,trivial⟩,trivial⟩⟩
  rw [hy]
  show l.take (k+1)++List.replicate (32-(k+1)) 0=(l.take k++List.replicate (32-k) 0).set k (l.getD k 0)
  have e1:(l.take k).length=k:=by rw [List.length_take]; omega
  rw [List.set_append_right _ _ (by omega),e1,Nat.sub_self,show 32-k=(32-(k+1))+1 by omega,List.replicate_succ,List.set_cons_zero,List.getD_eq_getElem?_getD,List.getElem?_eq_getElem hk']
  have e5:l.take (k+1)=l.take k++[l[k]]:=by rw [List.take_add_one,List.getElem?_eq_getElem hk']; rfl
  rw [e5,List.append_assoc]
  rfl
 ·have h':¬(k:Int)<32:=of_decide_eq_false h
  have hk2:k≤32:=hk
  have e:k=32:=by omega
  subst e
  rw [hh]
  have e2:(Rd.mk l (0+32) 0).left=l.drop 32:=rfl
  have e3:List.take (l.length:Int).toNat l=l:=by rw [Int.toNat_natCast,List.take_length]
  have fin:(((Rd.mk l (0+32) 0).left=List.drop (Int.toNat (32:Int)) (List.take (l.length:Int).toNat l)∧(Rd.mk l (0+32) 0).e=0∧True)∧l.take 32=l.take 32++List.replicate (32-32) 0∧True)∧True∧True:=by
   rw [e3]
   exact ⟨⟨⟨rfl,rfl,trivial⟩,by simp,trivial⟩,trivial,trivial⟩
  exact ⟨by omega,by simp only; omega,by omega,fin,fin⟩
theorem rrHash_ok:Fits F183 f71 (bodyOf f71) rrHashLS rrHashAnn:=by
 constructor
 rw [← rrHash_eq]
 exact rrHash_vc
theorem rrHash_has:Has prog 71 f71 (bodyOf f71):=⟨by kernel_rfl,by kernel_rfl,by kernel_rfl⟩
theorem known184:Known prog L184:=by
 unfold L184
 exact known183.lent mixed rrHash_has F183_eq rrHash_ok (fun _ _=>Nat.zero_le _) (fun _ _=>rfl)
def rrBytesVC:Prop:=∀ (x:RRn),x.Few→((x.r.e != (0:Int))=true→(((bytesR (ofR x.r) x.n).snd.left=x.r.l∧(bytesR (ofR x.r) x.n).snd.e=x.r.e∧True)∧(bytesR
 (ofR x.r) x.n).fst=[])∧True∧True)∧((x.r.e != (0:Int))=false→(decide (x.n<(0:Int))=true→((x.r.l=x.r.l∧x.r.e=x.r.e∧True) ∧
 (1:Int)=(1:Int))∧True∧True∧(((bytesR (ofR x.r) x.n).snd.left=x.r.l∧((bytesR (ofR x.r) x.n).snd.e=if x.r.e=(0:Int) then (1:Int)
 else x.r.e)∧True)∧(bytesR (ofR x.r) x.n).fst=[])∧True∧True)∧(decide (x.n<(0:Int))=false→(∃ (x_1:ScanX),(x_1.i≤x.r.l.length ∧
 (x_1.out.length:Int)≤x.n∧scanB x.n x.r.l [] (0:Nat)=scanB x.n (List.drop x_1.i x.r.l) x_1.out x_1.i)∧((x_1.i:Int)=(0:Int)∧(SV.val
 (A:=AA) (Value.slice none (0:Nat) (0:Nat)):SV AA)=SV.val (A:=AA) (Value.slice none (0:Nat) (0:Nat)))∧((x.r.l=x.r.l∧x.r.e=x.r.e
 ∧ True)∧((SV.val (A:=AA) (Value.slice none (0:Nat) (0:Nat)):SV AA)=SV.val (A:=AA) (Value.slice none (0:Nat) (0:Nat))∧(0:Int)=(0
 : Int)∧True)∧True)∧x_1.out=[]∧True)∧∀ (x_1:ScanX),x_1.i≤x.r.l.length∧(x_1.out.length:Int)≤x.n∧scanB x.n x.r.l [] (0:Nat) =
 scanB x.n (List.drop x_1.i x.r.l) x_1.out x_1.i→(x.r.l.length:Int)≤(9223372036854775807:Int)→(decide ((x_1.i:Int)<(↑x.r.l.length :
 Int))=true→(0:Int)≤(x_1.i:Int)∧(x_1.i:Int)<(x.r.l.length:Int)∧(x_1.i:Int).toNat<x.r.l.length∧((x.r.l.getD (↑x_1.i :
 Int).toNat (0:Int)==(0:Int))=true→inI64 ((x_1.i:Int)+(1:Int))∧((x.r.l.length:Int)≤(9223372036854775807:Int)→(((↑x_1.i :
 Int)+(1:Int)==(x.r.l.length:Int))=true→((x.r.l=x.r.l∧x.r.e=x.r.e∧True)∧(12:Int)=(12:Int))∧True∧True∧(((bytesR (ofR
 x.r) x.n).snd.left=x.r.l∧((bytesR (ofR x.r) x.n).snd.e=if x.r.e=(0:Int) then (12:Int) else x.r.e)∧True)∧(bytesR (ofR x.r) x.n).fst =
 [])∧True∧True)∧(((x_1.i:Int)+(1:Int)==(x.r.l.length:Int))=false→inI64 ((x_1.i:Int)+(1:Int))∧(0:Int)≤(x_1.i:Int) +
 (1:Int)∧(x_1.i:Int)+(1:Int)<(x.r.l.length:Int)∧((x_1.i:Int)+(1:Int)).toNat<x.r.l.length∧((x.r.l.getD ((x_1.i:Int)+(1
 : Int)).toNat (0:Int)==(0:Int))=true→inI64 ((x_1.i:Int)+(2:Int))∧(0:Int)≤(x_1.i:Int)+(2:Int)∧(x_1.i:Int)+(2:Int)
 ≤ (x.r.l.length:Int)∧(x.r.l.length:Int)≤(x.r.l.length:Int)∧(((bytesR (ofR x.r) x.n).snd.left=List.drop ((x_1.i:Int)+(2 :
 Int)).toNat (List.take (x.r.l.length:Int).toNat x.r.l)∧(bytesR (ofR x.r) x.n).snd.e=x.r.e∧True)∧(bytesR (ofR x.r) x.n).fst=x_1.out)∧True
 ∧ True)∧((x.r.l.getD ((x_1.i:Int)+(1:Int)).toNat (0:Int)==(0:Int))=false→inI64 ((x_1.i:Int)+(1:Int))∧(0:Int)≤(↑x_1.i :
 Int)+(1:Int)∧(x_1.i:Int)+(1:Int)<(x.r.l.length:Int)∧((x_1.i:Int)+(1:Int)).toNat<x.r.l.length∧((x.r.l.getD ((↑x_1.i :
 Int)+(1:Int)).toNat (0:Int) != (255:Int))=true→((x.r.l=x.r.l∧x.r.e=x.r.e∧True)∧(3:Int)=(3:Int))∧True∧True∧(((bytesR
 (ofR x.r) x.n).snd.left=x.r.l∧((bytesR (ofR x.r) x.n).snd.e=if x.r.e=(0:Int) then (3:Int) else x.r.e)∧True)∧(bytesR (ofR x.r) x.n).fst
 = [])∧True∧True)∧((x.r.l.getD ((x_1.i:Int)+(1:Int)).toNat (0:Int) != (255:Int))=false→(x_1.out.length:Int) ≤
 (9223372036854775807:Int)→(decide ((x_1.out.length:Int)≥x.n)=true→((x.r.l=x.r.l∧x.r.e=x.r.e∧True)∧(2:Int)=(2:Int))∧True
 ∧ True∧(((bytesR (ofR x.r) x.n).snd.left=x.r.l∧((bytesR (ofR x.r) x.n).snd.e=if x.r.e=(0:Int) then (2:Int) else x.r.e)∧True)∧(bytesR
 (ofR x.r) x.n).fst=[])∧True∧True)∧(decide ((x_1.out.length:Int)≥x.n)=false→(0:Int)≤(x_1.i:Int)∧(x_1.i:Int) <
 (x.r.l.length:Int)∧(x_1.i:Int).toNat<x.r.l.length∧(x_1.out.length+[x.r.l.getD (x_1.i:Int).toNat (0:Int)].length)*(1:Nat) ≤
 (140737488355328:Nat)∧x_1.out.length+[x.r.l.getD (x_1.i:Int).toNat (0:Int)].length≤(1152921504606846976:Nat)∧inI64 ((x_1.i:Int) +
 (2:Int))∧∃ (y:ScanX),(y.i≤x.r.l.length∧(y.out.length:Int)≤x.n∧scanB x.n x.r.l [] (0:Nat)=scanB x.n (List.drop y.i x.r.l) y.out y.i) ∧
 x.r.l.length-y.i<x.r.l.length-x_1.i∧((y.i:Int)=(x_1.i:Int)+(2:Int)∧True)∧((x.r.l=x.r.l∧x.r.e=x.r.e∧True)∧(SV.val (A
 := AA) (Value.slice none (0:Nat) (0:Nat))=SV.val (A:=AA) (Value.slice none (0:Nat) (0:Nat))∧(0:Int)=(0:Int)∧True)∧True)∧y.out
 = x_1.out++[x.r.l.getD (x_1.i:Int).toNat (0:Int)]∧True))))))∧((x.r.l.getD (x_1.i:Int).toNat (0:Int)==(0:Int))=false →
 (x_1.out.length:Int)≤(9223372036854775807:Int)→(decide ((x_1.out.length:Int)≥x.n)=true→((x.r.l=x.r.l∧x.r.e=x.r.e∧True)∧(2 :
 Int)=(2:Int))∧True∧True∧(((bytesR (ofR x.r) x.n).snd.left=x.r.l∧((bytesR (ofR x.r) x.n).snd.e=if x.r.e=(0:Int) then (2:Int) else
 x.r.e)∧True)∧(bytesR (ofR x.r) x.n).fst=[])∧True∧True)∧(decide ((x_1.out.length:Int)≥x.n)=false→(0:Int)≤(x_1.i:Int) ∧
 (x_1.i:Int)<(x.r.l.length:Int)∧(x_1.i:Int).toNat<x.r.l.length∧(x_1.out.length+[x.r.l.getD (x_1.i:Int).toNat (0:Int)].length) *
 (1:Nat)≤(140737488355328:Nat)∧x_1.out.length+[x.r.l.getD (x_1.i:Int).toNat (0:Int)].length≤(1152921504606846976:Nat)∧inI64
 ((x_1.i:Int)+(1:Int))∧∃ (y:ScanX),(y.i≤x.r.l.length∧(y.out.length:Int)≤x.n∧scanB x.n x.r.l [] (0:Nat)=scanB x.n (List.drop y.i x.r.l)
 y.out y.i)∧x.r.l.length-y.i<x.r.l.length-x_1.i∧((y.i:Int)=(x_1.i:Int)+(1:Int)∧True)∧((x.r.l=x.r.l∧x.r.e=x.r.e∧True) ∧
 ((SV.val (A:=AA) (Value.slice none (0:Nat) (0:Nat)):SV AA)=SV.val (A:=AA) (Value.slice none (0:Nat) (0:Nat))∧(0:Int)=(0:Int) ∧
 True)∧True)∧y.out=x_1.out++[x.r.l.getD (x_1.i:Int).toNat (0:Int)]∧True)))∧(decide ((x_1.i:Int)<(x.r.l.length:Int))=false →
 ((x.r.l=x.r.l∧x.r.e=x.r.e∧True)∧(12:Int)=(12:Int))∧True∧True∧(((bytesR (ofR x.r) x.n).snd.left=x.r.l∧((bytesR (ofR x.r)
 x.n).snd.e=if x.r.e=(0:Int) then (12:Int) else x.r.e)∧True)∧(bytesR (ofR x.r) x.n).fst=[])∧True∧True)))
theorem rrBytes_eq:rrBytesVC=fnS F184 f72 (bodyOf f72) rrBytesLS rrBytesAnn:=by kernel_rfl
theorem rrBytes_vc:rrBytesVC:=by
 rintro ⟨⟨l,e⟩,m⟩ hx
 have hr:(RR.mk l e).Ok:=hx.r
 have hm:0≤m:=hx.lo
 have hm2:m≤1000000:=hx.hi
 have hlen:l.length≤1000000000000:=hr.len
 by_cases he:e=0
 case neg=>simp [bytesR,ofR,Rd.left,he]
 subst he
 have err:∀ n:Int,n≠0→scanB m l [] 0=([],n,0)→((l=l∧(0:Int)=0∧True)∧n=n)∧True∧True∧(((bytesR (ofR ⟨l,0⟩) m).snd.left=l∧((bytesR (ofR ⟨l,0⟩) m).snd.e=if (0:Int)=0 then n else 0)∧True)∧(bytesR (ofR ⟨l,0⟩) m).fst=[])∧True∧True:=fun n hn h=>by
  have h':scanB m (ofR ⟨l,0⟩).left [] 0=([],n,0):=h
  rw [bytesR_err rfl h' hn]
  exact ⟨⟨⟨rfl,rfl,trivial⟩,rfl⟩,trivial,trivial,⟨⟨rfl,rfl,trivial⟩,rfl⟩,trivial,trivial⟩
 refine ⟨fun h=>by simp at h,fun _=>⟨fun h=>by simp at h; omega,fun _=>⟨⟨⟨0,[]⟩,⟨Nat.zero_le _,by simpa using hm,rfl⟩,⟨rfl,rfl⟩,⟨⟨rfl,rfl,trivial⟩,⟨rfl,rfl,trivial⟩,trivial⟩,rfl,trivial⟩,?_⟩⟩⟩
 rintro y ⟨hi,ho,hs⟩ _
 simp only at hi ho hs
 generalize y.i=i at hi ho hs ⊢
 generalize y.out=out at hi ho hs ⊢
 refine ⟨fun h=>?_,fun h=>?_⟩
 case refine_2=>
  have h':¬(i:Int)<l.length:=of_decide_eq_false h
  exact err 12 (by omega) (by rw [hs,List.drop_of_length_le (by omega)]; rfl)
 have h':(i:Int)<l.length:=of_decide_eq_true h
 have hi':i<l.length:=by omega
 rw [drop_at hi'] at hs
 refine ⟨by omega,h',hi',fun h0=>⟨by unfold inI64; omega,fun _=>⟨fun h1=>?_,fun h1=>?_⟩⟩,fun h0 _=>⟨fun h3=>?_,fun h3=>?_⟩⟩
 ·have h0':l.getD i 0=0:=by simpa using h0
  have h1':(i:Int)+1=l.length:=by simpa using h1
  rw [h0',List.drop_of_length_le (by omega),scan_last] at hs
  exact err 12 (by omega) hs
 ·have h0':l.getD i 0=0:=by simpa using h0
  have h1':¬(i:Int)+1=l.length:=by simpa using h1
  have hj:i+1<l.length:=by omega
  have ej:((i:Int)+1).toNat=i+1:=by omega
  rw [h0',drop_at hj,scan_zero] at hs
  rw [ej]
  have a1:(0:Int)≤(i:Int)+1:=by omega
  have a2:(i:Int)+1<(l.length:Int):=by omega
  have a5:inI64 ((i:Int)+1):=by unfold inI64; omega
  have a3:inI64 ((i:Int)+2):=by unfold inI64; omega
  refine ⟨a5,a1,a2,hj,fun h2=>⟨a3,by omega,by simp only; omega,Int.le_refl _,?_⟩,fun h2=>⟨a5,a1,a2,hj,fun h3=>?_,fun h3 _=>⟨fun h4=>?_,fun h4=>?_⟩⟩⟩
  ·have h2':l.getD (i+1) 0=0:=by simpa using h2
   rw [if_pos h2'] at hs
   have hs':scanB m (ofR ⟨l,0⟩).left [] 0=(out,0,i+2):=hs
   rw [bytesR_fine rfl hs']
   refine ⟨⟨⟨?_,rfl,trivial⟩,rfl⟩,trivial,trivial⟩
   show List.drop (0+((i+2:Nat):Int)).toNat l=List.drop ((i:Int)+2).toNat (List.take (l.length:Int).toNat l)
   rw [Int.toNat_natCast,List.take_length,show (0+((i+2:Nat):Int)).toNat=((i:Int)+2).toNat by omega]
  ·have h2':¬l.getD (i+1) 0=0:=by simpa using h2
   have h3':l.getD (i+1) 0≠255:=by simpa using h3
   rw [if_neg h2',if_pos h3'] at hs
   exact err 3 (by omega) hs
  ·have h2':¬l.getD (i+1) 0=0:=by simpa using h2
   have h3':¬l.getD (i+1) 0≠255:=by simpa using h3
   have h4':(out.length:Int)=m:=by
    have:(out.length:Int)≥m:=of_decide_eq_true h4
    omega
   rw [if_neg h2',if_neg h3',if_pos h4'] at hs
   exact err 2 (by omega) hs
  ·have h2':¬l.getD (i+1) 0=0:=by simpa using h2
   have h3':¬l.getD (i+1) 0≠255:=by simpa using h3
   have h4':¬(out.length:Int)=m:=by
    have:¬(out.length:Int)≥m:=of_decide_eq_false h4
    omega
   rw [if_neg h2',if_neg h3',if_neg h4'] at hs
   refine ⟨by omega,h',hi',by simp only [List.length_singleton]; omega,by simp only [List.length_singleton]; omega,a3,⟨i+2,out++[0]⟩,⟨by simp only; omega,by simp only [List.length_append,List.length_singleton]; omega,hs⟩,by simp only; omega,⟨by simp only; omega,trivial⟩,⟨⟨rfl,rfl,trivial⟩,⟨rfl,rfl,trivial⟩,trivial⟩,?_,trivial⟩
   show out++[0]=out++[l.getD i 0]
   rw [h0']
 ·have h0':l.getD i 0≠0:=by simpa using h0
  have h3':(out.length:Int)=m:=by
   have:(out.length:Int)≥m:=of_decide_eq_true h3
   omega
  rw [scan_byte h0',if_pos h3'] at hs
  exact err 2 (by omega) hs
 ·have h0':l.getD i 0≠0:=by simpa using h0
  have h3':¬(out.length:Int)=m:=by
   have:¬(out.length:Int)≥m:=of_decide_eq_false h3
   omega
  rw [scan_byte h0',if_neg h3'] at hs
  exact ⟨by omega,h',hi',by simp only [List.length_singleton]; omega,by simp only [List.length_singleton]; omega,by unfold inI64; omega,⟨i+1,out++[l.getD i 0]⟩,⟨hi',by simp only [List.length_append,List.length_singleton]; omega,hs⟩,by simp only; omega,⟨by simp only; omega,trivial⟩,⟨⟨rfl,rfl,trivial⟩,⟨rfl,rfl,trivial⟩,trivial⟩,rfl,trivial⟩
theorem rrBytes_ok:Fits F184 f72 (bodyOf f72) rrBytesLS rrBytesAnn:=by
 constructor
 rw [← rrBytes_eq]
 exact rrBytes_vc
theorem rrBytes_has:Has prog 72 f72 (bodyOf f72):=⟨by kernel_rfl,by kernel_rfl,by kernel_rfl⟩
theorem known185:Known prog L185:=by
 unfold L185
 exact known184.lent mixed rrBytes_has F184_eq rrBytes_ok (fun _ _=>Nat.zero_le _) (fun _ _=>rfl)
theorem known186:Known prog L186:=by
 unfold L186
 exact known185.lent mixed rrDone_has F185_eq rrDone_ok (fun _ _=>Nat.zero_le _) (fun _ _=>rfl)
end Go.Proofs.YtcglahfmnoghjaaGreatDoor

/-! The document's loops stop at the first error: what they read is the same. Conditions: none. -/
namespace Go.Proofs.YtcglahfmnoghjaaGreatDoor
open Go Go.Eng Go.Proofs.Tryz
/-- How far a loop goes that stops where a reader has failed. -/
def stopN (g:Nat→Rd):Nat→Nat
 | 0=>0
 | n+1=>if stopN g n=n∧(g n).e=0 then n+1 else stopN g n
theorem stop_le (g:Nat→Rd):∀ n,stopN g n≤n
 | 0=>Nat.le_refl _
 | n+1=>by
  have:=stop_le g n
  simp only [stopN]
  split<;>omega
theorem stop_up {g:Nat→Rd} {n:Nat} (h:stopN g n=n) (h0:(g n).e=0):stopN g (n+1)=n+1:=by
 simp only [stopN]
 rw [if_pos ⟨h,h0⟩]
theorem stop_here {g:Nat→Rd} {n:Nat} (h:stopN g n=n) (h0:(g n).e≠0):∀ m,n≤m→stopN g m=n
 | 0,hm=>by
  have e:n=0:=by omega
  subst e
  exact h
 | m+1,hm=>by
  rcases Nat.lt_or_ge m n with h1 | h1
  ·have e:n=m+1:=by omega
   subst e
   exact h
  ·have ih:=stop_here h h0 m h1
   simp only [stopN]
   rw [if_neg,ih]
   rintro ⟨h2,h3⟩
   have e:n=m:=by omega
   subst e
   exact h0 h3
/-- Where a loop that stops early stops: at its end, or at the first failed reader. -/
theorem stop_end (g:Nat→Rd):∀ n,stopN g n=n∨(g (stopN g n)).e≠0
 | 0 => .inl rfl
 | n+1=>by
  simp only [stopN]
  split
  ·exact .inl rfl
  ·rename_i h
   rcases stop_end g n with h1 | h1
   ·refine .inr ?_
    rw [h1]
    exact fun h2=>h ⟨h1,h2⟩
   ·exact .inr h1
def rKeys (m:Nat) (r:Rd):List Int×Rd:=dKeys (stopN (fun i=>(dKeys i r).2) m) r
def rK (r:Rd):List Int×Rd:=rKeys (countR r 16).1.toNat (countR r 16).2
def rH (r:Rd):List Int×Rd:=hashR (rK r).2
def rA (r:Rd):Int×Rd:=uintR (rH r).2 1099511627776
def rO (r:Rd):Int×Rd:=uintR (rA r).2 65536
def rBr (r:Rd):Br×Rd:=(⟨(rK r).1,(rH r).1,(rA r).1,(rO r).1⟩,(rO r).2)
def rBrs:Nat→Rd→List Br×Rd
 | 0,r=>([],r)
 | k+1,r=>((rBrs k r).1++[(rBr (rBrs k r).2).1],(rBr (rBrs k r).2).2)
def rC (r:Rd):List Br×Rd:=rBrs (stopN (fun i=>(rBrs i (countR r 8).2).2) (countR r 8).1.toNat) (countR r 8).2
theorem dKeys_more {r:Rd} {k:Nat} (h:(dKeys k r).2.e≠0):∀ m,k≤m→(dKeys m r).2=(dKeys k r).2
 | 0,hm=>by
  have e:k=0:=by omega
  subst e
  rfl
 | m+1,hm=>by
  rcases Nat.lt_or_ge m k with h1 | h1
  ·have e:k=m+1:=by omega
   subst e
   rfl
  ·have ih:=dKeys_more h m h1
   show (uintR (dKeys m r).2 16).2=_
   rw [ih,uint_dead h]
theorem rKeys_two (m:Nat) (r:Rd):(rKeys m r).2=(dKeys m r).2∧((rKeys m r).2.e=0→rKeys m r=dKeys m r):=by
 unfold rKeys
 rcases stop_end (fun i=>(dKeys i r).2) m with h | h
 ·rw [h]
  exact ⟨rfl,fun _=>rfl⟩
 ·exact ⟨(dKeys_more h m (stop_le _ m)).symm,fun h2=>(h h2).elim⟩
theorem rBr_two (r:Rd):(rBr r).2=(dBr r).2∧((rBr r).2.e=0→(rBr r).1=(dBr r).1):=by
 obtain ⟨h1,h2⟩:=rKeys_two (countR r 16).1.toNat (countR r 16).2
 change (rK r).2=(dK r).2 at h1
 change (rK r).2.e=0→rK r=dK r at h2
 have eH:rH r=dH r:=by unfold rH dH; rw [h1]
 have eA:rA r=dA r:=by unfold rA dA; rw [eH]
 have eO:rO r=dO r:=by unfold rO dO; rw [eA]
 refine ⟨by show (rO r).2=(dO r).2; rw [eO],fun h=>?_⟩
 have h3:(rK r).2.e=0:=Classical.byContradiction fun h3=>by
  have:(rO r).2.e≠0:=by
   show (uintR (uintR (hashR (rK r).2).2 1099511627776).2 65536).2.e≠0
   rw [hash_dead h3,uint_dead h3,uint_dead h3]
   exact h3
  exact this h
 show Br.mk (rK r).1 (rH r).1 (rA r).1 (rO r).1=Br.mk (dK r).1 (dH r).1 (dA r).1 (dO r).1
 rw [h2 h3,eH,eA,eO]
theorem rBrs_two (r:Rd):∀ k,(rBrs k r).2=(dBrs k r).2∧((rBrs k r).2.e=0→(rBrs k r).1=(dBrs k r).1)
 | 0=>⟨rfl,fun _=>rfl⟩
 | k+1=>by
  obtain ⟨h1,h2⟩:=rBrs_two r k
  obtain ⟨h3,h4⟩:=rBr_two (rBrs k r).2
  refine ⟨?_,fun h=>?_⟩
  ·show (rBr (rBrs k r).2).2=(dBr (dBrs k r).2).2
   rw [h3,h1]
  ·change (rBr (rBrs k r).2).2.e=0 at h
   have h5:(rBrs k r).2.e=0:=Classical.byContradiction fun h5=>by
    rw [h3] at h
    exact br_dead h5 h
   show (rBrs k r).1++[(rBr (rBrs k r).2).1]=(dBrs k r).1++[(dBr (dBrs k r).2).1]
   rw [h2 h5,h4 h,h1]
theorem dBrs_more {r:Rd} {k:Nat} (h:(dBrs k r).2.e≠0):∀ m,k≤m→(dBrs m r).2.e≠0
 | 0,hm=>by
  have e:k=0:=by omega
  subst e
  exact h
 | m+1,hm=>by
  rcases Nat.lt_or_ge m k with h1 | h1
  ·have e:k=m+1:=by omega
   subst e
   exact h
  ·exact br_dead (dBrs_more h m h1)
/-- Both read the same, where both read. -/
theorem rC_two (r:Rd):((rC r).2.e=0∧rC r=dC r)∨((rC r).2.e≠0∧(dC r).2.e≠0):=by
 unfold rC dC
 obtain ⟨h1,h2⟩:=rBrs_two (countR r 8).2 (stopN (fun i=>(rBrs i (countR r 8).2).2) (countR r 8).1.toNat)
 rcases stop_end (fun i=>(rBrs i (countR r 8).2).2) (countR r 8).1.toNat with h | h
 ·rw [h] at h1 h2 ⊢
  by_cases h3:(rBrs (countR r 8).1.toNat (countR r 8).2).2.e=0
  ·exact .inl ⟨h3,Prod.ext (h2 h3) h1⟩
  ·exact .inr ⟨h3,by rw [← h1]; exact h3⟩
 ·refine .inr ⟨h,?_⟩
  have h4:(dBrs (stopN (fun i=>(rBrs i (countR r 8).2).2) (countR r 8).1.toNat) (countR r 8).2).2.e≠0:=by
   rw [← h1]; exact h
  exact dBrs_more h4 _ (stop_le _ _)
theorem done_to {r:Rd} (h:r.Ok):doneL (toR r)=doneR r:=by
 unfold doneL doneR toR
 have hl:=left_len r h
 by_cases he:r.e=0
 ·rw [if_neg (c:=r.e≠0) (by simp [he])]
  by_cases hi:r.i<r.b.length
  ·rw [if_pos hi,if_pos]
   refine ⟨he,fun e=>?_⟩
   have e:r.left=[]:=e
   rw [e] at hl
   simp only [List.length_nil] at hl
   omega
  ·rw [if_neg hi,if_neg]
   ·exact he
   ·rintro ⟨_,h2⟩
    refine h2 (List.eq_nil_of_length_eq_zero ?_)
    show r.left.length=0
    omega
 ·rw [if_pos (c:=r.e≠0) he,if_neg (fun h2=>he h2.1)]
end Go.Proofs.YtcglahfmnoghjaaGreatDoor

/-! The document's condition, and transaction, of bytes: what is said of them. Conditions: none. -/
namespace Go.Proofs.YtcglahfmnoghjaaGreatDoor
open Go Go.Eng Go.Proofs.Tryz
theorem uint_same {r r':Rd} (h:r.Ok) (h':r'.Ok) (e:toR r=toR r') {m:Int} (hm:0≤m):(uintR r m).1=(uintR r' m).1∧toR (uintR r m).2=toR (uintR r' m).2:=by
 obtain ⟨a,b⟩:=uint_to h hm
 obtain ⟨c,d⟩:=uint_to h' hm
 rw [e] at a b
 exact ⟨a.symm.trans c,b.symm.trans d⟩
theorem count_same {r r':Rd} (h:r.Ok) (h':r'.Ok) (e:toR r=toR r') {m:Int} (hm:0≤m):(countR r m).1=(countR r' m).1∧toR (countR r m).2=toR (countR r' m).2:=by
 obtain ⟨a,b⟩:=count_to h hm
 obtain ⟨c,d⟩:=count_to h' hm
 rw [e] at a b
 exact ⟨a.symm.trans c,b.symm.trans d⟩
theorem hash_same {r r':Rd} (h:r.Ok) (h':r'.Ok) (e:toR r=toR r'):(hashR r).1=(hashR r').1∧toR (hashR r).2=toR (hashR r').2:=by
 obtain ⟨a,b⟩:=hash_to h
 obtain ⟨c,d⟩:=hash_to h'
 rw [e] at a b
 exact ⟨a.symm.trans c,b.symm.trans d⟩
theorem keys_same {r r':Rd} (h:r.Ok) (h':r'.Ok) (e:toR r=toR r'):∀ k,(dKeys k r).1=(dKeys k r').1∧toR (dKeys k r).2=toR (dKeys k r').2
 | 0=>⟨rfl,e⟩
 | k+1=>by
  obtain ⟨h1,h2⟩:=keys_same h h' e k
  obtain ⟨h3,h4⟩:=uint_same (keysR_ok h k).1 (keysR_ok h' k).1 h2 (m:=16) (by omega)
  refine ⟨?_,h4⟩
  show (dKeys k r).1++[(uintR (dKeys k r).2 16).1]=(dKeys k r').1++[(uintR (dKeys k r').2 16).1]
  rw [h1,h3]
theorem to_e {r r':Rd} (e:toR r=toR r'):r.e=r'.e:=congrArg RR.e e
def rTakeLS:LS AA where
 X:=RR
 pre:=RR.Ok
 args:=fun r=>[.agg (rrSL r)]
 hin:=fun _=>[]
 res:=fun r=>[.agg (rrSL (toR (rC (ofR r)).2)),.agg (.cell (.rseq 85 (show List (AA 85) from (rC (ofR r)).1)) .nil)]
 hout:=fun _=>[]
/-- What a box holds: a reader of the document's. -/
def rrAt (sh:List (SO AA)):SV AA→Option RR
 | .ptr i 0=>match nth sh i with
  | some (.cells _ cs)=>decRR sh (.agg cs)
  | _=>none
 | _=>none
def rTakeAnn (x:RR):Anns AA:=fun k ts sh=>if k=5 then (match nth ts 1,nth ts 4 with
  | some (.ptr j1 _),some (.ptr j4 _)=>some {
   X:=Nat
   inv:=fun i=>(i:Int)≤(countR (ofR x) 8).1∧stopN (fun i=>(rBrs i (countR (ofR x) 8).2).2) i=i
   meas:=fun i=>(countR (ofR x) 8).1.toNat-i
   slots:=fun i=>[(6,.int .i64 i)]
   heap:=fun i=>[(j1,.cells 113 (rrSL (toR (rBrs i (countR (ofR x) 8).2).2))),(j4,.cells 50 (.cell (.vec (cnt sh)) .nil))]
   more:=fun i=>[.svec 85 (show List (AA 85) from (rBrs i (countR (ofR x) 8).2).1)] }
  | _,_=>none)
 else (match nth ts 1,nth ts 7,nth ts 8 with
  | some (.ptr j1 o1),some (.ptr j7 _),some (.int _ n)=>(match rrAt sh (.ptr j1 o1),nth sh j7 with
   | some r,some (.cells t (.cell _ rest))=>some {
    X:=Nat
    inv:=fun i=>(i:Int)≤n∧stopN (fun i=>(dKeys i (ofR r)).2) i=i
    meas:=fun i=>n.toNat-i
    slots:=fun i=>[(10,.int .i64 i)]
    heap:=fun i=>[(j1,.cells 113 (rrSL (toR (dKeys i (ofR r)).2))),(j7,.cells t (.cell (.vec (cnt sh)) rest))]
    more:=fun i=>[.ivec 3 .i64 (dKeys i (ofR r)).1] }
   | _,_=>none)
  | _,_,_=>none)
def L187:List (Nat×SpecT AA):=(54,tLent rTakeLS rrGet)::L186
end Go.Proofs.YtcglahfmnoghjaaGreatDoor

/-! An error's number, for the transactions' laws. Conditions: the variable errors.errorType holds what its row says. Began as the kit's worked example 'ToyasWalks', turned to this program. -/
namespace Go.Proofs.YtcglahfmnoghjaaGreatDoor
open Go.RowKit Go.Extern.Stop Go.Stop Go.Extern
set_option maxHeartbeats 4000000 in
theorem num5_nil (w:World):Calls Tryz.prog 34 #[.nilIface] w fun e w'=>e = .returned (.int .i64 0)∧w'=w.alloc (.cells #[.int .i64 0] 111):=by
 go_enter Tryz.func34,Tryz.ntmps34
 go_wp2
 go_ret
 exact ⟨rfl,rfl⟩
set_option maxHeartbeats 4000000 in
theorem num5_errno (n:Int) (w:World) (hg:w.cell? ⟨0,0,none⟩=some (.iface 209 (.agg #[.pointer (some ⟨3,57,none⟩)]))) :
  Calls Tryz.prog 34 #[.iface 111 (.int .i64 n)] w fun e w'=>e = .returned (.int .i64 n)∧w'=((((w.alloc (.cells #[.int .i64 n] 111)).alloc (.cells #[.pointer (some ⟨w.heap.size,0,none⟩)] 128)).alloc (.cells #[.pointer (some ⟨3,128,none⟩),.pointer (some ⟨w.heap.size+1,0,none⟩),.int .u64 150] 174)).alloc (.cells #[.pointer (some ⟨3,128,none⟩),.pointer (some ⟨w.heap.size+1,0,none⟩),.int .u64 150] 174)).alloc (.cells #[.int .i64 n] 111):=by
 have hlt:0<w.heap.size:=by
  rcases Nat.eq_zero_or_pos w.heap.size with h0 | h
  ·simp [World.cell?,h0] at hg
  ·exact h
 have hgA:(w.alloc (.cells #[.int .i64 0] 111)).cell? ⟨0,0,none⟩=some (.iface 209 (.agg #[.pointer (some ⟨3,57,none⟩)])):=by
  rw [World.cell?_alloc_lt _ _ ⟨0,0,none⟩ hlt]; exact hg
 have htA:(w.alloc (.cells #[.int .i64 0] 111)).cell? ⟨w.heap.size,0,none⟩=some (.int .i64 0):=by simp
 have hfA:(w.alloc (.cells #[.int .i64 0] 111)).frozen? ⟨w.heap.size,0,none⟩=false:=by simp
 have hit:=as_hit n ⟨w.heap.size,0,none⟩ (.int .i64 0) _ hgA htA hfA
 go_enter Tryz.func34,Tryz.ntmps34
 go_wp2_with (first | (go_at_call 65; refine hit.mono ?_; rintro e w' ⟨rfl,rfl⟩))
 go_ret
 exact ⟨rfl,rfl⟩
end Go.Proofs.YtcglahfmnoghjaaGreatDoor

/-! Transactions: whether one can be, what its outputs have; its bytes; its sum: what is said of them. Conditions: none. -/
namespace Go.Proofs.YtcglahfmnoghjaaGreatDoor
open Go Go.Eng Go.Proofs.Tryz
structure TxD where
 lock:Int
 ins:List TIn
 outs:List TOut
def txSL (t:TxD):SL AA := .cell (.int .i64 t.lock) (.cell (.rseq 87 (show List (AA 87) from t.ins)) (.cell (.rseq 90 (show List (AA 90) from t.outs)) .nil))
def decTx (sh:List (SO AA)):SV AA→Option TxD
 | .agg (.cell l (.cell a (.cell b .nil)))=>match asI l,seqOfS 87 sh a,seqOfS 90 sh b with
  | some l,some a,some b=>some ⟨l,a,b⟩
  | _,_,_=>none
 | _=>none
def tinSL (x:TIn):SL AA := .run .u8 32 x.tx (.cell (.int .i64 x.n) (.cell (.int .i64 x.branch) (.cell (.rints .u8 x.secret) .nil)))
def decTin (sh:List (SO AA)):SV AA→Option TIn
 | .agg (.run .u8 _ tx (.cell n (.cell b (.cell s .nil))))=>match asI n,asI b,gI .u8 sh s with
  | some n,some b,some s=>some ⟨tx,n,b,s⟩
  | _,_,_=>none
 | _=>none
def inOk (x:TIn):Bool:=decide (0≤x.n)&&(decide (x.n<64)&&(decide (0≤x.branch)&&(decide (x.branch<8)&&decide ((x.secret.length:Int)≤64))))
def trightLS:LS AA where
 X:=TIn
 pre:=fun _=>True
 args:=fun x=>[.agg (tinSL x)]
 hin:=fun _=>[]
 res:=fun x=>[.sb 0 (inOk x)]
 hout:=fun _=>[]
def tinGet (args:List (SV AA)) (sh:List (SO AA)):Option TIn:=match args with
 | [x]=>decTin sh x
 | _=>none
/-- An error's number. -/
def L80:List (Nat×SpecT AA):=(34,numT)::L74
def L81:List (Nat×SpecT AA):=(79,tLent trightLS tinGet)::L80
noncomputable def E80:Eng AA:=EE prog L80
theorem E80_eq:E80=EE prog L80:=by
 unfold E80
 rfl
noncomputable def E81:Eng AA:=EE prog L81
theorem E81_eq:E81=EE prog L81:=by
 unfold E81
 rfl
def oddInLS:LS AA where
 X:=TIn
 pre:=fun _=>True
 args:=fun x=>[.agg (tinSL x)]
 hin:=fun _=>[]
 res:=fun x=>[.sb 0 (!inOk x)]
 hout:=fun _=>[]
def L82:List (Nat×SpecT AA):=(78,tLent oddInLS tinGet)::L81
noncomputable def E82:Eng AA:=EE prog L82
theorem E82_eq:E82=EE prog L82:=by
 unfold E82
 rfl
/-- Where the first input is that can't be, or -1. -/
def badIn:List TIn→Nat→Int
 | [],_ => -1
 | x::l,n=>if inOk x=true then badIn l (n+1) else n
def indexInLS:LS AA where
 X:=List TIn
 pre:=fun _=>True
 args:=fun l=>[.rseq 87 (show List (AA 87) from l),.fn (.func 78) .nil .nil]
 hin:=fun _=>[]
 res:=fun l=>[.int .i64 (badIn l 0)]
 hout:=fun _=>[]
def insGet (args:List (SV AA)) (sh:List (SO AA)):Option (List TIn):=match args with
 | [s,_]=>seqOfS 87 sh s
 | _=>none
def indexInAnn (l:List TIn):Anns AA:=fun _ _ _=>some {
 X:=Nat
 inv:=fun k=>k≤l.length∧l.length≤9223372036854775807∧badIn l 0=badIn (l.drop k) k
 meas:=fun k=>l.length-k
 slots:=fun k=>[(8,.int .i64 k)]
 heap:=fun _=>[] }
def L83:List (Nat×SpecT AA):=(86,tLent indexInLS insGet)::L82
noncomputable def E83:Eng AA:=EE prog L83
theorem E83_eq:E83=EE prog L83:=by
 unfold E83
 rfl
def anyInLS:LS AA where
 X:=List TIn
 pre:=fun _=>True
 args:=fun l=>[.rseq 87 (show List (AA 87) from l),.fn (.func 78) .nil .nil]
 hin:=fun _=>[]
 res:=fun l=>[.sb 0 (decide (badIn l 0≥0))]
 hout:=fun _=>[]
def L84:List (Nat×SpecT AA):=(38,tLent anyInLS insGet)::L83
noncomputable def E84:Eng AA:=EE prog L84
theorem E84_eq:E84=EE prog L84:=by
 unfold E84
 rfl
def someB (n:Int):Bool:=decide (n≥1)&&decide (n≤64)
def someLS:LS AA where
 X:=Int
 pre:=fun _=>True
 args:=fun n=>[.int .i64 n]
 hin:=fun _=>[]
 res:=fun n=>[.sb 0 (someB n)]
 hout:=fun _=>[]
def intGet (args:List (SV AA)) (_:List (SO AA)):Option Int:=match args with
 | [s]=>asI s
 | _=>none
def L85:List (Nat×SpecT AA):=(80,tLent someLS intGet)::L84
noncomputable def E85:Eng AA:=EE prog L85
theorem E85_eq:E85=EE prog L85:=by
 unfold E85
 rfl
noncomputable def outE (o:TOut):Int:=if o.amount<10 then 27 else if o.amount>1125899906842624 then 5 else checkN o.cond
noncomputable def ocheckLS:LS AA where
 X:=TOut
 pre:=fun _=>True
 args:=fun o=>[.agg (.cell (.int .i64 o.amount) (.cell (.rseq 102 (show List (AA 102) from o.cond)) .nil))]
 hin:=fun _=>[]
 res:=fun o=>[.err 111 (outE o)]
 hout:=fun _=>[]
def outGet (args:List (SV AA)) (sh:List (SO AA)):Option TOut:=match args with
 | [.agg (.cell n (.cell s .nil))]=>match asI n,seqOfS 102 sh s with
  | some n,some bs=>some ⟨n,bs⟩
  | _,_=>none
 | _=>none
noncomputable def L86:List (Nat×SpecT AA):=(81,tLent ocheckLS outGet)::L85
noncomputable def E86:Eng AA:=EE prog L86
theorem E86_eq:E86=EE prog L86:=by
 unfold E86
 rfl
/-- What all have together, behind so much; the error. -/
def totG:List TOut→Int→Int×Int
 | [],n=>(n,0)
 | o::l,n=>if o.amount<0∨o.amount>1125899906842624-n then (0,5) else totG l (n+o.amount)
def totalLS:LS AA where
 X:=TxD
 pre:=fun _=>True
 args:=fun t=>[.agg (txSL t)]
 hin:=fun _=>[]
 res:=fun t=>[.int .i64 (totG t.outs 0).1,.err 111 (totG t.outs 0).2]
 hout:=fun _=>[]
def txGet (args:List (SV AA)) (sh:List (SO AA)):Option TxD:=match args with
 | [x]=>decTx sh x
 | _=>none
structure TotI (l:List TOut) (k:Nat) (n:Int):Prop where
 le:k≤l.length
 len:l.length≤9223372036854775807
 lo:0≤n
 hi:n≤1125899906842624
 eq:totG l 0=totG (l.drop k) n
def totalAnn (t:TxD):Anns AA:=fun _ _ _=>some {
 X:=Nat×Int
 inv:=fun x=>TotI t.outs x.1 x.2
 meas:=fun x=>t.outs.length-x.1
 slots:=fun x=>[(10,.int .i64 x.1),(4,.int .i64 x.2)]
 heap:=fun _=>[] }
noncomputable def L87:List (Nat×SpecT AA):=(82,tLent totalLS txGet)::L86
noncomputable def E87:Eng AA:=EE prog L87
theorem E87_eq:E87=EE prog L87:=by
 unfold E87
 rfl
def ptOf (x:TIn):Pt:=⟨x.tx,x.n⟩
noncomputable def outsE:List TOut→Int
 | []=>0
 | o::l=>if outE o=0 then outsE l else outE o
noncomputable def checkT (t:TxD):Int:=
 open Classical in
 if t.lock<0∨t.lock>1099511627776∨someB t.ins.length=false∨someB t.outs.length=false∨badIn t.ins 0≥0 then 4
 else if ¬(t.ins.map ptOf).Nodup then 9
 else if outsE t.outs≠0 then outsE t.outs else (totG t.outs 0).2
noncomputable def tcheckLS:LS AA where
 X:=TxD
 pre:=fun _=>True
 args:=fun t=>[.agg (txSL t)]
 hin:=fun _=>[]
 res:=fun t=>[.err 111 (checkT t)]
 hout:=fun _=>[]
/-- What the map holds behind so many inputs. -/
structure MapI (l:List TIn) (k:Nat) (es:List (Pt×Int)) (st:List Int):Prop where
 le:k≤l.length
 len:es.length=st.length
 dis:(es.map (·.1)).Nodup
 mem:∀ p,p∈es.map (·.1)↔p∈(l.take k).map ptOf
 val:∀ p,p∈es→0≤p.2∧p.2≤k
 cnt:es.length≤k
structure MapX where
 k:Nat
 es:List (Pt×Int)
 st:List Int
noncomputable def tcheckAnn (t:TxD):Anns AA:=fun k ts _=>if k=7 then (match nth ts 4 with
  | some (.ptr i _)=>some {
   X:=MapX
   inv:=fun x=>MapI t.ins x.k x.es x.st
   meas:=fun x=>t.ins.length-x.k
   slots:=fun x=>[(45,.int .i64 x.k)]
   heap:=fun x=>[(i,.smap 38 3 (show List (AA 38×AA 3) from x.es) x.st)] }
  | _=>none)
 else some {
  X:=Nat
  inv:=fun n=>n≤t.outs.length∧outsE t.outs=outsE (t.outs.drop n)
  meas:=fun n=>t.outs.length-n
  slots:=fun n=>[(67,.int .i64 n)]
  heap:=fun _=>[] }
noncomputable def L88:List (Nat×SpecT AA):=(35,tLent tcheckLS txGet)::L87
noncomputable def E88:Eng AA:=EE prog L88
theorem E88_eq:E88=EE prog L88:=by
 unfold E88
 rfl
end Go.Proofs.YtcglahfmnoghjaaGreatDoor

/-! Transactions: whether one can be, what its outputs have: plain laws; the walks hold. Conditions: none. -/
namespace Go.Proofs.YtcglahfmnoghjaaGreatDoor
open Go Go.Eng Go.Proofs.Tryz
theorem f34_body:f34.body=some (bodyOf f34):=by kernel_rfl
theorem f34_name : (f34.name == "runtime.NumGoroutine") = false := by kernel_rfl
theorem known80:Known prog L80:=by
 unfold L80
 exact num_known known74 func34 f34_name f34_body num5_nil num5_errno
def trightVC:Prop:=∀ (x:TIn),True→(decide (x.n≥(0:Int))=true→(decide (x.n<(64:Int))=true→(decide (x.branch≥(0:Int))=true→(decide (x.branch <
 (8:Int))=true→(x.secret.length:Int)≤(9223372036854775807:Int)→inOk x=decide ((x.secret.length:Int)≤(64:Int))∧True∧True) ∧
 (decide (x.branch<(8:Int))=false→inOk x=false∧True∧True))∧(decide (x.branch≥(0:Int))=false→inOk x=false∧True∧True)) ∧
 (decide (x.n<(64:Int))=false→inOk x=false∧True∧True))∧(decide (x.n≥(0:Int))=false→inOk x=false∧True∧True)
theorem tright_eq:trightVC=fnS E80 f79 (bodyOf f79) trightLS noAnn:=by kernel_rfl
theorem tright_vc:trightVC:=by
 intro x _
 unfold inOk
 refine ⟨fun h1=>⟨fun h2=>⟨fun h3=>⟨fun h4 _=>?_,fun h4=>?_⟩,fun h3=>?_⟩,fun h2=>?_⟩,fun h1=>?_⟩
 all_goals
  refine ⟨?_,trivial,trivial⟩
  simp only [decide_eq_true_eq,decide_eq_false_iff_not] at *
  first
  | (rw [decide_eq_true (show 0≤x.n by omega),decide_eq_true h2,decide_eq_true (show 0≤x.branch by omega),decide_eq_true h4]; rfl)
  | (rw [decide_eq_false h4]; simp)
  | (rw [decide_eq_false (show ¬0≤x.branch by omega)]; simp)
  | (rw [decide_eq_false h2]; simp)
  | (rw [decide_eq_false (show ¬0≤x.n by omega)]; simp)
theorem tright_ok:Fits E80 f79 (bodyOf f79) trightLS noAnn:=by
 constructor
 rw [← tright_eq]
 exact tright_vc
theorem f66_has:Has prog 79 f79 (bodyOf f79):=⟨by kernel_rfl,by kernel_rfl,by kernel_rfl⟩
theorem known81:Known prog L81:=by
 unfold L81
 exact known80.lent mixed f66_has E80_eq tright_ok (fun _ _=>Nat.le_refl _) (fun _ _=>rfl)
def oddInVC:Prop:=∀ (x:TIn),True→(x.tx=x.tx∧x.n=x.n∧x.branch=x.branch∧x.secret=x.secret∧True)∧True∧True∧(!inOk x)=!inOk (TIn.mk x.tx x.n
 x.branch x.secret)∧True∧True
theorem oddIn_eq:oddInVC=fnS E81 f78 (bodyOf f78) oddInLS noAnn:=by kernel_rfl
theorem oddIn_ok:Fits E81 f78 (bodyOf f78) oddInLS noAnn:=by
 constructor
 rw [← oddIn_eq]
 exact fun x _=>⟨⟨rfl,rfl,rfl,rfl,trivial⟩,trivial,trivial,rfl,trivial,trivial⟩
theorem f65_has:Has prog 78 f78 (bodyOf f78):=⟨by kernel_rfl,by kernel_rfl,by kernel_rfl⟩
theorem known82:Known prog L82:=by
 unfold L82
 exact known81.lent mixed f65_has E81_eq oddIn_ok (fun _ _=>Nat.le_refl _) (fun _ _=>rfl)
theorem dropAt {α:Type} {l:List α} {i:Nat} {y:α} (h:l[i]?=some y):l.drop i=y::l.drop (i+1):=by
 have hl:=(List.getElem?_eq_some_iff.1 h).1
 rw [List.drop_eq_getElem_cons hl]
 rw [List.getElem?_eq_getElem hl] at h
 rw [Option.some.inj h]
def indexInVC:Prop:=∀ (x:List TIn),True→(x.length:Int)≤(9223372036854775807:Int)→(∃ x_1,(x_1≤x.length∧x.length≤(9223372036854775807:Nat)∧badIn x
 (0:Nat)=badIn (List.drop x_1 x) x_1)∧(x_1:Int)=(0:Int)∧True∧True)∧∀ (x_1:Nat),x_1≤x.length∧x.length≤(9223372036854775807 :
 Nat)∧badIn x (0:Nat)=badIn (List.drop x_1 x) x_1→(decide ((x_1:Int)<(x.length:Int))=true→(0:Int)≤(x_1:Int)∧(x_1:Int) <
 (x.length:Int)∧∀ (y:AA (87:Nat)),x[(x_1:Int).toNat]?=some y→(y.tx=y.tx∧y.n=y.n∧y.branch=y.branch∧y.secret=y.secret ∧
 True)∧True∧True∧((!inOk (TIn.mk y.tx y.n y.branch y.secret))=true→badIn x (0:Nat)=(x_1:Int)∧True∧True)∧((!inOk (TIn.mk y.tx y.n
 y.branch y.secret))=false→inI64 ((x_1:Int)+(1:Int))∧∃ y,(y≤x.length∧x.length≤(9223372036854775807:Nat)∧badIn x (0:Nat) =
 badIn (List.drop y x) y)∧x.length-y<x.length-x_1∧(y:Int)=(x_1:Int)+(1:Int)∧True∧True))∧(decide ((x_1:Int)<(↑x.length :
 Int))=false→badIn x (0:Nat)=(-1:Int)∧True∧True)
theorem indexIn_eq:indexInVC=fnS E82 f86 (bodyOf f86) indexInLS indexInAnn:=by kernel_rfl
theorem indexIn_vc:indexInVC:=by
 intro l _
 simp only [true_and,and_true,decide_eq_true_eq,decide_eq_false_iff_not,Int.toNat_natCast]
 refine fun hl=>⟨⟨0,⟨Nat.zero_le _,by omega,rfl⟩,rfl⟩,fun i hi=>⟨fun h=>?_,fun h=>?_⟩⟩
 ·have hi':i<l.length:=by omega
  refine ⟨by omega,h,fun y hy=>⟨fun h1=>?_,fun h1=>⟨by unfold inI64; omega,i+1,⟨hi',hi.2.1,?_⟩,by omega,by omega⟩⟩⟩
  ·rw [hi.2.2,dropAt (α:=TIn) (y:=y) hy]
   have h1':¬inOk y=true:=by
    have:inOk (TIn.mk y.tx y.n y.branch y.secret)=false:=by simpa using h1
    rw [show (y:TIn)=TIn.mk (TIn.tx y) (TIn.n y) (TIn.branch y) (TIn.secret y) from rfl,this]
    simp
   simp only [badIn,if_neg h1']
  ·rw [hi.2.2,dropAt (α:=TIn) (y:=y) hy]
   have h1'':inOk (TIn.mk y.tx y.n y.branch y.secret)=true:=by simpa using h1
   have h1':inOk y=true:=h1''
   simp only [badIn,if_pos h1']
 ·rw [hi.2.2,List.drop_of_length_le (by omega)]
  rfl
theorem indexIn_ok:Fits E82 f86 (bodyOf f86) indexInLS indexInAnn:=by
 constructor
 rw [← indexIn_eq]
 exact indexIn_vc
theorem f103_has:Has prog 86 f86 (bodyOf f86):=⟨by kernel_rfl,by kernel_rfl,by kernel_rfl⟩
theorem known83:Known prog L83:=by
 unfold L83
 exact known82.lent mixed f103_has E82_eq indexIn_ok (fun _ _=>Nat.le_refl _) (fun _ _=>rfl)
def anyInVC:Prop:=∀ (x:List TIn),True→(x=x∧Fn.func (78:FuncId)=Fn.func (78:FuncId)∧True∧True)∧True∧True∧decide (badIn x (0:Nat)≥(0:Int)) =
 decide (badIn x (0:Nat)≥(0:Int))∧True∧True
theorem anyIn_eq:anyInVC=fnS E83 f38 (bodyOf f38) anyInLS noAnn:=by kernel_rfl
theorem anyIn_ok:Fits E83 f38 (bodyOf f38) anyInLS noAnn:=by
 constructor
 rw [← anyIn_eq]
 exact fun x _=>⟨⟨rfl,rfl,trivial,trivial⟩,trivial,trivial,rfl,trivial,trivial⟩
theorem f68_has:Has prog 38 f38 (bodyOf f38):=⟨by kernel_rfl,by kernel_rfl,by kernel_rfl⟩
theorem known84:Known prog L84:=by
 unfold L84
 exact known83.lent mixed f68_has E83_eq anyIn_ok (fun _ _=>Nat.le_refl _) (fun _ _=>rfl)
def someVC:Prop:=∀ (x:Int),True→(decide (x≥(1:Int))=true→someB x=decide (x≤(64:Int))∧True∧True)∧(decide (x≥(1:Int))=false→someB x =
 false∧True∧True)
theorem some_eq:someVC=fnS E84 f80 (bodyOf f80) someLS noAnn:=by kernel_rfl
theorem some_ok:Fits E84 f80 (bodyOf f80) someLS noAnn:=by
 constructor
 rw [← some_eq]
 intro x _
 refine ⟨fun h=>⟨?_,trivial,trivial⟩,fun h=>⟨?_,trivial,trivial⟩⟩
 ·unfold someB; rw [h]; simp
 ·unfold someB; rw [h]; simp
theorem f67_has:Has prog 80 f80 (bodyOf f80):=⟨by kernel_rfl,by kernel_rfl,by kernel_rfl⟩
theorem known85:Known prog L85:=by
 unfold L85
 exact known84.lent mixed f67_has E84_eq some_ok (fun _ _=>Nat.le_refl _) (fun _ _=>rfl)
def ocheckVC:Prop:=∀ (x:TOut),True→(decide (x.amount<(10:Int))=true→(outE x=(27:Int)∧(27:Int)≠(0:Int))∧True∧True)∧(decide (x.amount<(10 :
 Int))=false→(decide (x.amount>(1125899906842624:Int))=true→(outE x=(5:Int)∧(5:Int)≠(0:Int))∧True∧True)∧(decide (x.amount
 > (1125899906842624:Int))=false→(x.cond=x.cond∧True)∧True∧True∧outE x=checkN x.cond∧True∧True))
theorem ocheck_eq:ocheckVC=fnS E85 f81 (bodyOf f81) ocheckLS noAnn:=by kernel_rfl
theorem ocheck_ok:Fits E85 f81 (bodyOf f81) ocheckLS noAnn:=by
 constructor
 rw [← ocheck_eq]
 intro x _
 simp only [true_and,and_true,decide_eq_true_eq,decide_eq_false_iff_not]
 refine ⟨fun h=>⟨?_,by decide⟩,fun h=>⟨fun h2=>⟨?_,by decide⟩,fun h2=>?_⟩⟩
 ·unfold outE; rw [if_pos h]
 ·unfold outE; rw [if_neg h,if_pos h2]
 ·unfold outE; rw [if_neg h,if_neg h2]
theorem f69_has:Has prog 81 f81 (bodyOf f81):=⟨by kernel_rfl,by kernel_rfl,by kernel_rfl⟩
theorem known86:Known prog L86:=by
 unfold L86
 exact known85.lent mixed f69_has E85_eq ocheck_ok (fun _ _=>Nat.le_refl _) (fun _ _=>rfl)
def totalVC:Prop:=∀ (x:TxD),True→(x.outs.length:Int)≤(9223372036854775807:Int)→(∃ (x_1:Nat×Int),TotI x.outs x_1.fst x_1.snd∧((x_1.fst:Int)=(0 :
 Int)∧x_1.snd=(0:Int))∧((x.lock=x.lock∧x.ins=x.ins∧x.outs=x.outs∧True)∧True)∧True)∧∀ (x_1:Nat×Int),TotI x.outs x_1.fst
 x_1.snd→(decide ((x_1.fst:Int)<(x.outs.length:Int))=true→(0:Int)≤(x_1.fst:Int)∧(x_1.fst:Int)<(x.outs.length:Int)∧∀ (y
 : AA (90:Nat)),x.outs[(x_1.fst:Int).toNat]?=some y→(decide (y.amount<(0:Int))=true→((totG x.outs (0:Int)).fst=(0:Int)∧(totG
 x.outs (0:Int)).snd=(5:Int)∧(5:Int)≠(0:Int))∧True∧True)∧(decide (y.amount<(0:Int))=false→inI64 ((1125899906842624:Int) -
 x_1.snd)∧(decide (y.amount>(1125899906842624:Int)-x_1.snd)=true→((totG x.outs (0:Int)).fst=(0:Int)∧(totG x.outs (0:Int)).snd=(5
 : Int)∧(5:Int)≠(0:Int))∧True∧True)∧(decide (y.amount>(1125899906842624:Int)-x_1.snd)=false→inI64 (x_1.snd+y.amount)∧inI64
 ((x_1.fst:Int)+(1:Int))∧∃ (y_1:Nat×Int),TotI x.outs y_1.fst y_1.snd∧x.outs.length-y_1.fst<x.outs.length-x_1.fst∧((↑y_1.fst :
 Int)=(x_1.fst:Int)+(1:Int)∧y_1.snd=x_1.snd+y.amount)∧((x.lock=x.lock∧x.ins=x.ins∧x.outs=x.outs∧True)∧True)∧True))) ∧
 (decide ((x_1.fst:Int)<(x.outs.length:Int))=false→((totG x.outs (0:Int)).fst=x_1.snd∧(totG x.outs (0:Int)).snd=(0:Int))∧True
 ∧ True)
theorem total_eq:totalVC=fnS E86 f82 (bodyOf f82) totalLS totalAnn:=by kernel_rfl
theorem total_vc:totalVC:=by
 rintro ⟨lock,ins,outs⟩ _
 simp only [true_and,and_true,decide_eq_true_eq,decide_eq_false_iff_not,Int.toNat_natCast,ne_eq]
 refine fun hl=>⟨⟨(0,0),⟨Nat.zero_le _,by omega,by simp,by simp,rfl⟩,rfl,rfl⟩,?_⟩
 rintro ⟨i,n⟩ ⟨h1,h2,h3,h4,h5⟩
 simp only at h1 h2 h3 h4 h5 ⊢
 refine ⟨fun h=>?_,fun h=>?_⟩
 ·refine ⟨by omega,h,fun y hy=>?_⟩
  have hd:=dropAt (α:=TOut) (y:=y) hy
  have five:(y.amount<0∨y.amount>1125899906842624-n)→totG outs 0=(0,5):=fun hc=>by
   rw [h5,hd]
   simp only [totG]
   rw [if_pos hc]
  refine ⟨fun hc=>?_,fun hc=>⟨by unfold inI64; omega,fun hc2=>?_,fun hc2=>⟨by unfold inI64; omega,by unfold inI64; omega,(i+1,n+y.amount),⟨?_,h2,?_,?_,?_⟩,?_,?_,?_⟩⟩⟩
  ·rw [five (.inl hc)]; exact ⟨rfl,rfl,by decide⟩
  ·rw [five (.inr hc2)]; exact ⟨rfl,rfl,by decide⟩
  ·simp only; omega
  ·simp only; omega
  ·simp only; omega
  ·rw [h5,hd]
   simp only [totG]
   rw [if_neg (by omega)]
  ·simp only; omega
  ·simp only; omega
  ·rfl
 ·rw [h5,List.drop_of_length_le (by omega)]
  exact ⟨rfl,rfl⟩
theorem total_ok:Fits E86 f82 (bodyOf f82) totalLS totalAnn:=by
 constructor
 rw [← total_eq]
 exact total_vc
theorem f31_has:Has prog 82 f82 (bodyOf f82):=⟨by kernel_rfl,by kernel_rfl,by kernel_rfl⟩
theorem known87:Known prog L87:=by
 unfold L87
 exact known86.lent mixed f31_has E86_eq total_ok (fun _ _=>Nat.le_refl _) (fun _ _=>rfl)
theorem mfind_some {K V:Type} {k:K}:∀ {es:List (K×V)} {j:Nat} {z:V},mfind k es=some (j,z)→es[j]?=some (k,z)
 | [],j,z,h=>by simp [mfind] at h
 | p::l,j,z,h=>by
  simp only [mfind] at h
  split at h
  ·rename_i e
   simp only [Option.some.injEq,Prod.mk.injEq] at h
   obtain ⟨rfl,rfl⟩:=h
   rw [← e]
   rfl
  ·split at h
   ·rename_i i v hv
    simp only [Option.some.injEq,Prod.mk.injEq] at h
    obtain ⟨rfl,rfl⟩:=h
    simpa using mfind_some hv
   ·cases h
theorem mfind_none {K V:Type} {k:K}:∀ {es:List (K×V)},mfind k es=none→k∉es.map (·.1)
 | [],_=>by simp
 | p::l,h=>by
  simp only [mfind] at h
  split at h
  ·cases h
  ·rename_i e
   split at h
   ·cases h
   ·rename_i hv
    simp only [List.map_cons,List.mem_cons,not_or]
    exact ⟨fun e'=>e e'.symm,mfind_none hv⟩
theorem mfind_new {K V:Type} {k:K} {v:V}:∀ {es:List (K×V)},mfind k es=none→mfind k (es++[(k,v)])=some (es.length,v)
 | [],_=>by simp [mfind]
 | p::l,h=>by
  simp only [mfind] at h
  split at h
  ·cases h
  ·rename_i e
   split at h
   ·cases h
   ·rename_i hv
    simp only [List.cons_append,mfind,if_neg e,mfind_new hv,List.length_cons]
theorem mapSet_fst {K V:Type} (es:List (K×V)) (j:Nat) (v:V):(mapSet es j v).map (·.1)=es.map (·.1):=by
 unfold mapSet
 apply List.ext_getElem?
 intro i
 rw [List.getElem?_map,List.getElem?_map,List.getElem?_modify]
 cases es[i]? with
 | none=>rfl
 | some p=>
  simp only [Option.map_some]
  split<;>rfl
theorem mapSet_len {K V:Type} (es:List (K×V)) (j:Nat) (v:V):(mapSet es j v).length=es.length:=by
 simp [mapSet]
theorem mapSet_mem {K V:Type} {es:List (K×V)} {j:Nat} {v:V} {p:K×V} (h:p∈mapSet es j v):p∈es∨p.2=v:=by
 obtain ⟨i,hi⟩:=List.getElem?_of_mem h
 unfold mapSet at hi
 rw [List.getElem?_modify] at hi
 cases hq:es[i]? with
 | none=>rw [hq] at hi; cases hi
 | some q=>
  rw [hq] at hi
  by_cases e:j=i
  ·right
   simp [e] at hi
   rw [← hi]
  ·left
   simp [e] at hi
   rw [← hi]; exact List.mem_of_getElem? hq
theorem take_pts {l:List TIn} {k:Nat} {y:TIn} (h:l[k]?=some y):(l.take (k+1)).map ptOf=(l.take k).map ptOf++[ptOf y]:=by
 rw [List.take_add_one,h]
 simp
theorem MapI.old {l:List TIn} {k:Nat} {es:List (Pt×Int)} {st:List Int} (h:MapI l k es st) {y:TIn} (hy:l[k]?=some y) {j:Nat} {z:Int} (hf:mfind (ptOf y) es=some (j,z)) {i:Nat}:MapI l (k+1) (mapSet es i (z+1)) st:=by
 have hm:=mfind_some hf
 have hk:=(List.getElem?_eq_some_iff.1 hy).1
 have hz:=h.val _ (List.mem_of_getElem? hm)
 have hin:ptOf y∈es.map (·.1):=List.mem_map.2 ⟨_,List.mem_of_getElem? hm,rfl⟩
 refine ⟨hk,by rw [mapSet_len]; exact h.len,by rw [mapSet_fst]; exact h.dis,fun p=>?_,fun p hp=>?_,by rw [mapSet_len]; have:=h.cnt; omega⟩
 ·rw [mapSet_fst,take_pts hy,List.mem_append,List.mem_singleton,h.mem]
  refine ⟨.inl,fun hp=>hp.elim id (fun e=>?_)⟩
  rw [e,← h.mem]
  exact hin
 ·rcases mapSet_mem hp with h1 | h1
  ·have:=h.val p h1; omega
  ·rw [h1]
   omega
theorem MapI.new {l:List TIn} {k:Nat} {es:List (Pt×Int)} {st:List Int} (h:MapI l k es st) {y:TIn} (hy:l[k]?=some y) (hf:mfind (ptOf y) es=none) {i:Nat} {b:Int}:MapI l (k+1) (mapSet (es++[(ptOf y,(0:Int))]) i 1) (st++[b]):=by
 have hm:=mfind_none hf
 have hk:=(List.getElem?_eq_some_iff.1 hy).1
 refine ⟨hk,by rw [mapSet_len]; simp [h.len],?_,fun p=>?_,fun p hp=>?_,by rw [mapSet_len]; have:=h.cnt; simp; omega⟩
 ·rw [mapSet_fst,List.map_append,List.nodup_append]
  refine ⟨h.dis,by simp,fun x hx z hz e=>?_⟩
  simp only [List.map_cons,List.map_nil,List.mem_singleton] at hz
  rw [e,hz] at hx
  exact hm hx
 ·rw [mapSet_fst,take_pts hy,List.map_append,List.mem_append,List.mem_append,h.mem]
  rfl
 ·rcases mapSet_mem hp with h1 | h1
  ·rcases List.mem_append.1 h1 with h2 | h2
   ·have:=h.val p h2; omega
   ·simp only [List.mem_singleton] at h2
    rw [h2]
    simp only
    omega
  ·rw [h1]; omega
theorem sub_len {α:Type}:∀ {a b:List α},a.Nodup→(∀ x,x∈a→x∈b)→a.length≤b.length
 | [],_,_,_=>by simp
 | x::a,b,hn,h=>by
  obtain ⟨s,t,rfl⟩:=List.append_of_mem (h x List.mem_cons_self)
  obtain ⟨h1,h2⟩:=List.nodup_cons.1 hn
  have:=sub_len (b:=s++t) h2 (fun y hy=>by
   have h3:=h y (List.mem_cons_of_mem _ hy)
   have hne:y≠x:=fun e=>h1 (e▸hy)
   simp only [List.mem_append,List.mem_cons] at h3 ⊢
   rcases h3 with h3 | h3 | h3
   ·exact .inl h3
   ·exact absurd h3 hne
   ·exact .inr h3)
  simp only [List.length_append,List.length_cons] at this ⊢
  omega
theorem nodup_of_len {α:Type}:∀ {a b:List α},a.Nodup→(∀ x,x∈a→x∈b)→b.length≤a.length→b.Nodup
 | [],b,_,_,hl=>by
  have:b=[]:=List.eq_nil_of_length_eq_zero (by simpa using hl)
  rw [this]
  exact List.nodup_nil
 | x::a,b,hn,h,hl=>by
  obtain ⟨s,t,rfl⟩:=List.append_of_mem (h x List.mem_cons_self)
  obtain ⟨h1,h2⟩:=List.nodup_cons.1 hn
  have hsub:∀ y,y∈a→y∈s++t:=fun y hy=>by
   have h3:=h y (List.mem_cons_of_mem _ hy)
   have hne:y≠x:=fun e=>h1 (e▸hy)
   simp only [List.mem_append,List.mem_cons] at h3 ⊢
   rcases h3 with h3 | h3 | h3
   ·exact .inl h3
   ·exact absurd h3 hne
   ·exact .inr h3
  simp only [List.length_append,List.length_cons] at hl
  have h4:=nodup_of_len h2 hsub (by simp only [List.length_append]; omega)
  refine List.perm_middle.nodup_iff.2 (List.nodup_cons.2 ⟨fun hx=>?_,h4⟩)
  have h5:=sub_len hn (b:=s++t) (fun y hy=>by
   rcases List.mem_cons.1 hy with e | e
   ·rw [e]; exact hx
   ·exact hsub y e)
  simp only [List.length_append,List.length_cons] at h5
  omega
/-- As many in the map as there are inputs: no point is twice. -/
theorem MapI.end_ {l:List TIn} {es:List (Pt×Int)} {st:List Int} (h:MapI l l.length es st):es.length=l.length↔(l.map ptOf).Nodup:=by
 have hm:=h.mem
 rw [List.take_length] at hm
 have e1:(es.map (·.1)).length=es.length:=List.length_map _
 have e2:(l.map ptOf).length=l.length:=List.length_map _
 constructor
 ·intro hl
  exact nodup_of_len h.dis (fun p hp=>(hm p).1 hp) (by omega)
 ·intro hn
  have h1:=sub_len h.dis (fun p hp=>(hm p).1 hp)
  have h2:=sub_len hn (fun p hp=>(hm p).2 hp)
  omega
def tcheckVC:Prop:=∀ (x:TxD),True→(decide (x.lock<(0:Int))=true→(checkT x=(4:Int)∧(4:Int)≠(0:Int))∧True∧True)∧(decide (x.lock<(0:Int))
 = false→(decide (x.lock>(1099511627776:Int))=true→(checkT x=(4:Int)∧(4:Int)≠(0:Int))∧True∧True)∧(decide (x.lock >
 (1099511627776:Int))=false→(x.ins.length:Int)≤(9223372036854775807:Int)→(x.ins.length:Int)=(x.ins.length:Int)∧True∧True ∧
 ((!someB (x.ins.length:Int))=true→(checkT x=(4:Int)∧(4:Int)≠(0:Int))∧True∧True)∧((!someB (x.ins.length:Int))=false →
 (x.outs.length:Int)≤(9223372036854775807:Int)→(x.outs.length:Int)=(x.outs.length:Int)∧True∧True∧((!someB (x.outs.length:Int))
 = true→(checkT x=(4:Int)∧(4:Int)≠(0:Int))∧True∧True)∧((!someB (x.outs.length:Int))=false→(x.ins=x.ins∧Fn.func (78:FuncId)=Fn.func (78:Nat)∧True∧True)∧True∧True∧(decide (badIn x.ins (0:Nat)≥(0:Int))=true→(checkT x=(4:Int)∧(4:Int)≠(0
 : Int))∧True∧True)∧(decide (badIn x.ins (0:Nat)≥(0:Int))=false→(x.ins.length:Int)≤(9223372036854775807:Int)→(∃ (x_1:MapX),
 MapI x.ins x_1.k x_1.es x_1.st∧(x_1.k:Int)=(0:Int)∧((x.lock=x.lock∧x.ins=x.ins∧x.outs=x.outs∧True)∧(x_1.es=[]∧x_1.st=[])
 ∧ True)∧True)∧∀ (x_1:MapX),MapI x.ins x_1.k x_1.es x_1.st→(decide ((x_1.k:Int)<(x.ins.length:Int))=true→(0:Int)≤(x_1.k:Int)
 ∧ (x_1.k:Int)<(x.ins.length:Int)∧∀ (y:AA (87:Nat)),x.ins[(x_1.k:Int).toNat]?=some y→((y.tx=y.tx∧y.n=y.n∧True)∧(∀ (j :
 Nat) (z:Int),mfind (Pt.mk y.tx y.n) x_1.es=some (j,z)→inI64 (z+(1:Int))∧(y.tx=y.tx∧y.n=y.n∧True)∧(∀ (j:Nat) (z_1:Int),
 mfind (Pt.mk y.tx y.n) x_1.es=some (j,z_1)→∀ (b:Int),x_1.st[j]?=some b→(z+(1:Int)=z+(1:Int)∧True)∧∃ j,x_1.st[j]?=some b ∧
 inI64 ((x_1.k:Int)+(1:Int))∧∃ (y:MapX),MapI x.ins y.k y.es y.st∧x.ins.length-y.k<x.ins.length-x_1.k∧(y.k:Int)=(x_1.k:Int)
 + (1:Int)∧((x.lock=x.lock∧x.ins=x.ins∧x.outs=x.outs∧True)∧(y.es=mapSet x_1.es j (z+(1:Int))∧y.st=x_1.st)∧True)∧True) ∧
 (mfind (Pt.mk y.tx y.n) x_1.es=none→∀ (b:Int),¬b∈x_1.st→x_1.es.length=x_1.st.length→((0:Int)=(0:Int)∧True)∧(z+(1:Int)=z
 + (1:Int)∧True)∧∃ j,(x_1.st++[b])[j]?=some b∧inI64 ((x_1.k:Int)+(1:Int))∧∃ (y_1:MapX),MapI x.ins y_1.k y_1.es y_1.st ∧
 x.ins.length-y_1.k<x.ins.length-x_1.k∧(y_1.k:Int)=(x_1.k:Int)+(1:Int)∧((x.lock=x.lock∧x.ins=x.ins∧x.outs=x.outs∧True)
 ∧ (y_1.es=mapSet (x_1.es++[(Pt.mk y.tx y.n,(0:Int))]) j (z+(1:Int))∧y_1.st=x_1.st++[b])∧True)∧True))∧(mfind (Pt.mk y.tx y.n)
 x_1.es=none→(y.tx=y.tx∧y.n=y.n∧True)∧(∀ (j:Nat) (z:Int),mfind (Pt.mk y.tx y.n) x_1.es=some (j,z)→∀ (b:Int),x_1.st[j]?=some
 b→(wr IntKind.i64 ((0:Int)+(1:Int))=wr IntKind.i64 ((0:Int)+(1:Int))∧True)∧∃ j,x_1.st[j]?=some b∧inI64 ((x_1.k:Int)+(1 :
 Int))∧∃ (y:MapX),MapI x.ins y.k y.es y.st∧x.ins.length-y.k<x.ins.length-x_1.k∧(y.k:Int)=(x_1.k:Int)+(1:Int)∧((x.lock =
 x.lock∧x.ins=x.ins∧x.outs=x.outs∧True)∧(y.es=mapSet x_1.es j (wr IntKind.i64 ((0:Int)+(1:Int)))∧y.st=x_1.st)∧True)∧True) ∧
 (mfind (Pt.mk y.tx y.n) x_1.es=none→∀ (b:Int),¬b∈x_1.st→x_1.es.length=x_1.st.length→((0:Int)=(0:Int)∧True)∧(wr IntKind.i64 ((0
 : Int)+(1:Int))=wr IntKind.i64 ((0:Int)+(1:Int))∧True)∧∃ j,(x_1.st++[b])[j]?=some b∧inI64 ((x_1.k:Int)+(1:Int))∧∃ (y_1
 : MapX),MapI x.ins y_1.k y_1.es y_1.st∧x.ins.length-y_1.k<x.ins.length-x_1.k∧(y_1.k:Int)=(x_1.k:Int)+(1:Int)∧((x.lock=x.lock
 ∧ x.ins=x.ins∧x.outs=x.outs∧True)∧(y_1.es=mapSet (x_1.es++[(Pt.mk y.tx y.n,(0:Int))]) j (wr IntKind.i64 ((0:Int)+(1:Int))) ∧
 y_1.st=x_1.st++[b])∧True)∧True)))∧(y.tx=y.tx∧y.n=y.n∧True)∧(∀ (j:Nat) (z:Int),mfind (Pt.mk y.tx y.n) x_1.es=some (j,z)→∀
 (b:Int),x_1.st[j]?=some b→(y.tx=y.tx∧y.n=y.n∧True)∧(∀ (j:Nat) (z:Int),mfind (Pt.mk y.tx y.n) x_1.es=some (j,z)→inI64 (z+(1
 : Int))∧(z+(1:Int)=z+(1:Int)∧True)∧∃ j,x_1.st[j]?=some b∧inI64 ((x_1.k:Int)+(1:Int))∧∃ (y:MapX),MapI x.ins y.k y.es
 y.st∧x.ins.length-y.k<x.ins.length-x_1.k∧(y.k:Int)=(x_1.k:Int)+(1:Int)∧((x.lock=x.lock∧x.ins=x.ins∧x.outs=x.outs ∧
 True)∧(y.es=mapSet x_1.es j (z+(1:Int))∧y.st=x_1.st)∧True)∧True)∧(mfind (Pt.mk y.tx y.n) x_1.es=none→(wr IntKind.i64 ((0:Int) +
 (1:Int))=wr IntKind.i64 ((0:Int)+(1:Int))∧True)∧∃ j,x_1.st[j]?=some b∧inI64 ((x_1.k:Int)+(1:Int))∧∃ (y:MapX),MapI x.ins
 y.k y.es y.st∧x.ins.length-y.k<x.ins.length-x_1.k∧(y.k:Int)=(x_1.k:Int)+(1:Int)∧((x.lock=x.lock∧x.ins=x.ins∧x.outs =
 x.outs∧True)∧(y.es=mapSet x_1.es j (wr IntKind.i64 ((0:Int)+(1:Int)))∧y.st=x_1.st)∧True)∧True))∧(mfind (Pt.mk y.tx y.n) x_1.es =
 none→∀ (b:Int),¬b∈x_1.st→x_1.es.length=x_1.st.length→((0:Int)=(0:Int)∧True)∧(y.tx=y.tx∧y.n=y.n∧True)∧(∀ (j:Nat) (z :
 Int),mfind (Pt.mk y.tx y.n) (x_1.es++[(Pt.mk y.tx y.n,(0:Int))])=some (j,z)→inI64 (z+(1:Int))∧(z+(1:Int)=z+(1:Int)∧True) ∧
 ∃ j,(x_1.st++[b])[j]?=some b∧inI64 ((x_1.k:Int)+(1:Int))∧∃ (y_1:MapX),MapI x.ins y_1.k y_1.es y_1.st∧x.ins.length-y_1.k <
 x.ins.length-x_1.k∧(y_1.k:Int)=(x_1.k:Int)+(1:Int)∧((x.lock=x.lock∧x.ins=x.ins∧x.outs=x.outs∧True)∧(y_1.es=mapSet
 (x_1.es++[(Pt.mk y.tx y.n,(0:Int))]) j (z+(1:Int))∧y_1.st=x_1.st++[b])∧True)∧True)∧(mfind (Pt.mk y.tx y.n) (x_1.es++[(Pt.mk y.tx
 y.n,(0:Int))])=none→(wr IntKind.i64 ((0:Int)+(1:Int))=wr IntKind.i64 ((0:Int)+(1:Int))∧True)∧∃ j,(x_1.st++[b])[j]?=some b
 ∧ inI64 ((x_1.k:Int)+(1:Int))∧∃ (y_1:MapX),MapI x.ins y_1.k y_1.es y_1.st∧x.ins.length-y_1.k<x.ins.length-x_1.k∧(y_1.k:Int) =
 (x_1.k:Int)+(1:Int)∧((x.lock=x.lock∧x.ins=x.ins∧x.outs=x.outs∧True)∧(y_1.es=mapSet (x_1.es++[(Pt.mk y.tx y.n,(0:Int))]) j
 (wr IntKind.i64 ((0:Int)+(1:Int)))∧y_1.st=x_1.st++[b])∧True)∧True)))∧(decide ((x_1.k:Int)<(x.ins.length:Int))=false →
 (x.ins.length:Int)≤(9223372036854775807:Int)→(((x_1.es.length:Int) != (x.ins.length:Int))=true→(checkT x=(9:Int)∧(9:Int) ≠
 (0:Int))∧True∧True)∧(((x_1.es.length:Int) != (x.ins.length:Int))=false→(x.outs.length:Int)≤(9223372036854775807:Int)→(∃ x_2,
 (x_2≤x.outs.length∧outsE x.outs=outsE (List.drop x_2 x.outs))∧(x_2:Int)=(0:Int)∧((x.lock=x.lock∧x.ins=x.ins∧x.outs=x.outs ∧
 True)∧(x_1.es=x_1.es∧x_1.st=x_1.st)∧True)∧True)∧∀ (x_2:Nat),x_2≤x.outs.length∧outsE x.outs=outsE (List.drop x_2 x.outs) →
 (decide ((x_2:Int)<(x.outs.length:Int))=true→(0:Int)≤(x_2:Int)∧(x_2:Int)<(x.outs.length:Int)∧∀ (y:AA (90:Nat)),
 x.outs[(x_2:Int).toNat]?=some y→(y.amount=y.amount∧y.cond=y.cond∧True)∧True∧True∧((!outE (TOut.mk y.amount y.cond)==(0:Int)) =
 true→checkT x=outE (TOut.mk y.amount y.cond)∧True∧True)∧((!outE (TOut.mk y.amount y.cond)==(0:Int))=false→inI64 ((x_2:Int)+(1 :
 Int))∧∃ y,(y≤x.outs.length∧outsE x.outs=outsE (List.drop y x.outs))∧x.outs.length-y<x.outs.length-x_2∧(y:Int)=(x_2:Int)+(1
 : Int)∧((x.lock=x.lock∧x.ins=x.ins∧x.outs=x.outs∧True)∧(x_1.es=x_1.es∧x_1.st=x_1.st)∧True)∧True))∧(decide ((x_2:Int) <
 (x.outs.length:Int))=false→(x.lock=x.lock∧x.ins=x.ins∧x.outs=x.outs∧True)∧True∧True∧checkT x=(totG x.outs (0:Int)).snd ∧
 True∧True))))))))
theorem tcheck_eq:tcheckVC=fnS E87 f35 (bodyOf f35) tcheckLS tcheckAnn:=by kernel_rfl
theorem tcheck_vc:tcheckVC:=by
 rintro ⟨lock,ins,outs⟩ _
 have e1:wr .i64 ((0:Int)+1)=1:=by decide
 have c4:(lock<0∨lock>1099511627776∨someB (ins.length:Int)=false∨someB (outs.length:Int)=false∨badIn ins 0≥0)→checkT (TxD.mk lock ins outs)=4∧(4:Int)≠0:=fun h=>⟨by unfold checkT; rw [if_pos h],by decide⟩
 simp only [true_and,and_true,decide_eq_true_eq,decide_eq_false_iff_not,Int.toNat_natCast,Bool.not_eq_true',Bool.not_eq_false',beq_iff_eq,beq_eq_false_iff_ne,bne_iff_ne,bne_eq_false_iff_eq,e1]
 refine ⟨fun h1=>c4 (.inl h1),fun h1=>⟨fun h2=>c4 (.inr (.inl h2)),fun h2 _=>⟨fun h3=>c4 (.inr (.inr (.inl h3))),fun h3 _=>⟨fun h4=>c4 (.inr (.inr (.inr (.inl h4)))),fun h4=>⟨fun h5=>c4 (.inr (.inr (.inr (.inr h5)))),fun h5 _=>⟨⟨⟨0,[],[]⟩,⟨Nat.zero_le _,rfl,by simp,by simp,by simp,by simp⟩,rfl,rfl,rfl⟩,?_⟩⟩⟩⟩⟩⟩
 have hle:ins.length≤64:=by
  unfold someB at h3
  simp only [Bool.and_eq_true,decide_eq_true_eq] at h3
  omega
 have hno:¬(lock<0∨lock>1099511627776∨someB (ins.length:Int)=false∨someB (outs.length:Int)=false∨badIn ins 0≥0):=by
  rw [h3,h4]
  simp only [Bool.true_eq_false,false_or]
  omega
 rintro ⟨k,es,st⟩ hm
 simp only at hm ⊢
 refine ⟨fun h6=>?_,fun h6 _=>?_⟩
 ·have hk':k<ins.length:=by omega
  refine ⟨by omega,h6,fun y hy=>?_⟩
  have kk:inI64 ((k:Int)+1):=by unfold inI64; omega
  have hpt:Pt.mk y.tx y.n=ptOf y:=rfl
  rw [hpt]
  have zz:∀ {j:Nat} {z:Int},mfind (ptOf y) es=some (j,z)→inI64 (z+1):=fun {j z} hf=>by
   have:=hm.val _ (List.mem_of_getElem? (mfind_some hf))
   simp only at this
   unfold inI64
   omega
  have old:∀ {j:Nat} {z:Int} (i:Nat),mfind (ptOf y) es=some (j,z)→∃ x:MapX,MapI ins x.k x.es x.st∧ins.length-x.k<ins.length-k∧(x.k:Int)=(k:Int)+1∧x.es=mapSet es i (z+1)∧x.st=st:=fun {j z} i hf=>
   ⟨⟨k+1,mapSet es i (z+1),st⟩,hm.old hy hf,by simp only; omega,by simp only; omega,rfl,rfl⟩
  have new:∀ (i:Nat) (b:Int),mfind (ptOf y) es=none→∃ x:MapX,MapI ins x.k x.es x.st∧ins.length-x.k<ins.length-k∧(x.k:Int)=(k:Int)+1∧x.es=mapSet (es++[(ptOf y,0)]) i 1∧x.st=st++[b]:=fun i b hn=>
   ⟨⟨k+1,mapSet (es++[(ptOf y,0)]) i 1,st++[b]⟩,hm.new hy hn,by simp only; omega,by simp only; omega,rfl,rfl⟩
  have app:∀ b:Int,(st++[b])[st.length]?=some b:=fun b=>by simp
  refine ⟨⟨fun j z hf=>⟨zz hf,fun j2 z2 _ b hb=>⟨j2,hb,kk,old _ hf⟩,fun hn=>?_⟩,fun hn=>⟨fun j2 z2 hf _ _=>?_,fun _ b _ _=>⟨st.length,app b,kk,new _ _ hn⟩⟩⟩,
   ⟨fun j z hf b hb=>⟨fun j2 z2 hf2=>⟨zz hf2,j,hb,kk,old _ hf2⟩,fun hn=>?_⟩,fun hn b _ _=>⟨fun j2 z2 hf2=>?_,fun hn2=>?_⟩⟩⟩
  ·rw [hf] at hn; cases hn
  ·rw [hn] at hf; cases hf
  ·rw [hf] at hn; cases hn
  ·rw [mfind_new hn] at hf2
   cases hf2
   exact ⟨by unfold inI64; omega,st.length,app b,kk,new _ _ hn⟩
  ·rw [mfind_new hn] at hn2
   cases hn2
 ·have hkl:k=ins.length:=by have:=hm.le; omega
  subst hkl
  have hend:=hm.end_
  refine ⟨fun h7=>⟨?_,by decide⟩,fun h7 _=>?_⟩
  ·unfold checkT
   rw [if_neg hno,if_pos (fun hn=>h7 (by have:=hend.2 hn; omega))]
  have hnd:(ins.map ptOf).Nodup:=hend.1 (by omega)
  have hck:checkT (TxD.mk lock ins outs)=if outsE outs≠0 then outsE outs else (totG outs 0).2:=by
   unfold checkT
   rw [if_neg hno,if_neg (fun h=>h hnd)]
  refine ⟨⟨0,⟨Nat.zero_le _,rfl⟩,rfl⟩,fun i hi=>⟨fun h8=>?_,fun h8=>?_⟩⟩
  ·have hi':i<outs.length:=by omega
   refine ⟨by omega,h8,fun y hy=>?_⟩
   have hd:=dropAt (α:=TOut) (y:=y) hy
   have hy':outE (TOut.mk y.amount y.cond)=outE y:=rfl
   rw [hy']
   refine ⟨fun h9=>?_,fun h9=>⟨by unfold inI64; omega,i+1,⟨hi',?_⟩,by omega,by omega⟩⟩
   ·have he:outsE outs=outE y:=by
     rw [hi.2,hd]
     simp only [outsE]
     rw [if_neg h9]
    rw [hck,he,if_pos h9]
   ·rw [hi.2,hd]
    simp only [outsE]
    rw [if_pos h9]
  ·have he:outsE outs=0:=by
    rw [hi.2,List.drop_of_length_le (by omega)]
    rfl
   rw [hck,he,if_neg (fun h=>h rfl)]
theorem tcheck_ok:Fits E87 f35 (bodyOf f35) tcheckLS tcheckAnn:=by
 constructor
 rw [← tcheck_eq]
 exact tcheck_vc
theorem f35_has:Has prog 35 f35 (bodyOf f35):=⟨by kernel_rfl,by kernel_rfl,by kernel_rfl⟩
theorem known88:Known prog L88:=by
 unfold L88
 exact known87.lent mixed f35_has E87_eq tcheck_ok (fun _ _=>Nat.le_refl _) (fun _ _=>rfl)
end Go.Proofs.YtcglahfmnoghjaaGreatDoor

/-! A transaction's bytes, its sum; the totals' law: what is said of them. Conditions: none. -/
namespace Go.Proofs.YtcglahfmnoghjaaGreatDoor
open Go Go.Eng Go.Proofs.Tryz
/-- Bytes, so told that their end is seen. -/
def stuffB:List Int→List Int
 | []=>[]
 | c::l=>if c=0 then 0::255::stuffB l else c::stuffB l
def bytesB (xs:List Int):List Int:=stuffB xs++[0,0]
structure BB where
 xs:List Int
 b:List Int
structure BB.Ok (x:BB):Prop where
 len:x.xs.length≤1000000000000
 b:x.b.length≤1000000000
def wBytesLS:LS AA where
 X:=BB
 pre:=BB.Ok
 args:=fun x=>[.ptr 0 0,.rints .u8 x.b]
 hin:=fun x=>[wcell 1,.ivec 5 .u8 x.xs]
 res:=fun _=>[.ptr 0 0]
 hout:=fun x=>[wcell 2,.dead,.ivec 5 .u8 (x.xs++bytesB x.b)]
def wBytesGet (args:List (SV AA)) (sh:List (SO AA)):Option BB:=match args with
 | [w,s]=>match lineOf sh w,gI .u8 sh s with
  | some xs,some b=>some ⟨xs,b⟩
  | _,_=>none
 | _=>none
def wBytesAnn (x:BB):Anns AA:=fun _ _ _=>some {
 X:=Nat
 inv:=fun n=>n≤x.b.length
 meas:=fun n=>x.b.length-n
 slots:=fun n=>[(11,.int .i64 n)]
 heap:=fun _=>[(0,wcell 2),(1,.dead)]
 more:=fun n=>[.ivec 5 .u8 (x.xs++stuffB (x.b.take n))] }
noncomputable def L89:List (Nat×SpecT AA):=(119,tLent wBytesLS wBytesGet)::L88
noncomputable def E89:Eng AA:=EE prog L89
theorem E89_eq:E89=EE prog L89:=by
 unfold E89
 rfl
def inB (sec:TIn→List Int) (x:TIn):List Int:=x.tx++uintB (wr .u64 x.n)++uintB (wr .u64 x.branch)++bytesB (sec x)
def insB (sec:TIn→List Int):List TIn→List Int
 | []=>[]
 | x::l=>inB sec x++insB sec l
def toutB (o:TOut):List Int:=uintB (wr .u64 o.amount)++putB o.cond
def toutsB:List TOut→List Int
 | []=>[]
 | o::l=>toutB o++toutsB l
def putTx (sec:TIn→List Int) (t:TxD):List Int:=uintB (wr .u64 t.lock)++uintB (wr .u64 (t.ins.length:Int))++insB sec t.ins++uintB (wr .u64 (t.outs.length:Int))++toutsB t.outs
def sumW:List TOut→Nat
 | []=>0
 | o::l=>weight o.cond+sumW l
def Byt (l:List Int):Prop:=∀ y,y∈l→0≤y∧y<256
structure TxOk (t:TxD):Prop where
 n:t.ins.length≤2000000
 m:t.outs.length≤2000000
 w:sumW t.outs≤2000000
 tx:∀ x,x∈t.ins→x.tx.length=32∧Byt x.tx
 locks:∀ o,o∈t.outs→Locks o.cond∧∀ b,b∈o.cond→Byt b.lock
/-- A closure that put is handed: what it tells of an input. -/
def secOf (g:Nat):TIn→List Int:=cond (Nat.beq g 76) (fun _=>[]) (fun x=>x.secret)
/-- What a closure hands back: nothing. -/
def id1LS:LS AA where
 X:=TIn
 pre:=fun _=>True
 args:=fun x=>[.agg (tinSL x)]
 hin:=fun _=>[]
 res:=fun _=>[.val (.slice none 0 0)]
 hout:=fun _=>[]
noncomputable def L90:List (Nat×SpecT AA):=(76,tLent id1LS tinGet)::L89
noncomputable def E90:Eng AA:=EE prog L90
theorem E90_eq:E90=EE prog L90:=by
 unfold E90
 rfl
def tputAnn:Anns AA:=fun k ts sh=>if k=4 then (match writerAt ts sh 5,nth ts 1,nth ts 22 with
  | some (i,j,xs),some (.fn (.func g) _ _),some (.rseq u l0)=>match castL 87 l0 with
   | some l=>some {
    X:=Nat
    inv:=fun n=>n≤l.length
    meas:=fun n=>l.length-n
    slots:=fun n=>[(24,.int .i64 n)]
    heap:=fun _=>[(i,wcell (cnt sh)),(j,.dead)]
    more:=fun n=>[.ivec 5 .u8 (xs++insB (secOf g) (l.take n))] }
   | none=>none
  | _,_,_=>none)
 else (match nth ts 8,nth ts 55 with
  | some (.vec j),some (.rseq u l0)=>match nth sh j,castL 90 l0 with
   | some (.ivec _ _ xs),some l=>some {
    X:=Nat
    inv:=fun n=>n≤l.length
    meas:=fun n=>l.length-n
    slots:=fun n=>[(57,.int .i64 n),(8,.vec (cnt sh))]
    heap:=fun _=>[(j,.dead)]
    more:=fun n=>[.ivec 5 .u8 (xs++toutsB (l.take n))] }
   | _,_=>none
  | _,_=>none)
noncomputable def L91:List (Nat×SpecT AA):=(75,tInline E90 f75 (bodyOf f75) tputAnn)::L90
noncomputable def E91:Eng AA:=EE prog L91
theorem E91_eq:E91=EE prog L91:=by
 unfold E91
 rfl
noncomputable def idB (t:TxD):List Int:=sumB orderL (putTx (fun _=>[]) t)
noncomputable def idLS:LS AA where
 X:=TxD
 pre:=TxOk
 args:=fun t=>[.agg (txSL t)]
 hin:=fun _=>[]
 res:=fun t=>[hashV (idB t)]
 hout:=fun _=>[]
noncomputable def L92:List (Nat×SpecT AA):=(31,tLent idLS txGet)::L91
noncomputable def E92:Eng AA:=EE prog L92
theorem E92_eq:E92=EE prog L92:=by
 unfold E92
 rfl
structure AtX where
 t:TxD
 n:Int
noncomputable def atLS:LS AA where
 X:=AtX
 pre:=fun x=>TxOk x.t
 args:=fun x=>[.agg (txSL x.t),.int .i64 x.n]
 hin:=fun _=>[]
 res:=fun x=>[.agg (.run .u8 32 (idB x.t) (.cell (.int .i64 x.n) .nil))]
 hout:=fun _=>[]
def atGet (args:List (SV AA)) (sh:List (SO AA)):Option AtX:=match args with
 | [t,n]=>match decTx sh t,asI n with
  | some t,some n=>some ⟨t,n⟩
  | _,_=>none
 | _=>none
noncomputable def L93:List (Nat×SpecT AA):=(17,tLent atLS atGet)::L92
noncomputable def E93:Eng AA:=EE prog L93
theorem E93_eq:E93=EE prog L93:=by
 unfold E93
 rfl
noncomputable def L94:List (Nat×SpecT AA):=(9,tLent sureLS sureGet)::L93
noncomputable def E94:Eng AA:=EE prog L94
theorem E94_eq:E94=EE prog L94:=by
 unfold E94
 rfl
def txRSL (t:TxD):SL AA := .cell (.int .i64 t.lock) (.cell (.rseq 80 (show List (AA 80) from t.ins)) (.cell (.rseq 82 (show List (AA 82) from t.outs)) .nil))
def decTxR (sh:List (SO AA)):SV AA→Option TxD
 | .agg (.cell l (.cell a (.cell b .nil)))=>match asI l,seqOfS 80 sh a,seqOfS 82 sh b with
  | some l,some a,some b=>some ⟨l,a,b⟩
  | _,_,_=>none
 | _=>none
def rTotalLS:LS AA where
 X:=TxD
 pre:=fun _=>True
 args:=fun t=>[.agg (txRSL t)]
 hin:=fun _=>[]
 res:=fun t=>[.int .i64 (totG t.outs 0).1,.int .i64 (totG t.outs 0).2]
 hout:=fun _=>[]
def txRGet (args:List (SV AA)) (sh:List (SO AA)):Option TxD:=match args with
 | [x]=>decTxR sh x
 | _=>none
def rTotalAnn (t:TxD):Anns AA:=fun _ _ _=>some {
 X:=Nat×Int
 inv:=fun x=>x.1≤t.outs.length∧0≤x.2∧x.2≤1125899906842624∧totG t.outs 0=totG (t.outs.drop x.1) x.2
 meas:=fun x=>t.outs.length-x.1
 slots:=fun x=>[(5,.int .i64 x.1),(4,.int .i64 x.2)]
 heap:=fun _=>[] }
noncomputable def L95:List (Nat×SpecT AA):=(115,tLent rTotalLS txRGet)::L94
end Go.Proofs.YtcglahfmnoghjaaGreatDoor

/-! A transaction's bytes, its sum; the totals' law: plain laws; the walks hold. Conditions: none. -/
namespace Go.Proofs.YtcglahfmnoghjaaGreatDoor
open Go Go.Eng Go.Proofs.Tryz
theorem stuffB_le:∀ l:List Int,(stuffB l).length≤2*l.length
 | []=>by simp [stuffB]
 | c::l=>by
  have:=stuffB_le l
  simp only [stuffB]
  split<;>simp only [List.length_cons]<;>omega
theorem stuffB_app:∀ a b:List Int,stuffB (a++b)=stuffB a++stuffB b
 | [],b=>rfl
 | c::a,b=>by
  simp only [List.cons_append,stuffB]
  split<;>simp [stuffB_app a b]
theorem stuffB_take_le (l:List Int) (i:Nat):(stuffB (l.take i)).length≤2*l.length:=by
 have h1:=stuffB_le (l.take i)
 have h2:(l.take i).length≤l.length:=by rw [List.length_take]; omega
 omega
def wBytesVC:Prop:=∀ (x:BB),x.Ok→(x.b.length:Int)≤(9223372036854775807:Int)→(∃ x_1,Nat.le x_1 x.b.length∧(x_1:Int)=(0:Int)∧((True∧True) ∧
 True)∧x.xs++stuffB (List.take x_1 x.b)=x.xs∧True)∧∀ (x_1:Nat),x_1.le x.b.length→(decide ((x_1:Int)<(x.b.length:Int))=true→(0
 : Int)≤(x_1:Int)∧(x_1:Int)<(x.b.length:Int)∧(x_1:Int).toNat<x.b.length∧((x.xs++stuffB (List.take x_1 x.b)).length+[x.b.getD
 (x_1:Int).toNat (0:Int)].length)*(1:Nat)≤(140737488355328:Nat)∧(x.xs++stuffB (List.take x_1 x.b)).length+[x.b.getD (↑x_1 :
 Int).toNat (0:Int)].length≤(1152921504606846976:Nat)∧((x.b.getD (x_1:Int).toNat (0:Int)==(0:Int))=true→((x.xs++stuffB (List.take
 x_1 x.b)++[x.b.getD (x_1:Int).toNat (0:Int)]).length+[(255:Int)].length)*(1:Nat)≤(140737488355328:Nat)∧(x.xs++stuffB (List.take
 x_1 x.b)++[x.b.getD (x_1:Int).toNat (0:Int)]).length+[(255:Int)].length≤(1152921504606846976:Nat)∧inI64 ((x_1:Int)+(1:Int))∧∃
 y,Nat.le y x.b.length∧x.b.length-y<x.b.length-x_1∧(y:Int)=(x_1:Int)+(1:Int)∧((True∧True)∧True)∧x.xs++stuffB (List.take
 y x.b)=x.xs++stuffB (List.take x_1 x.b)++[x.b.getD (x_1:Int).toNat (0:Int)]++[(255:Int)]∧True)∧((x.b.getD (x_1:Int).toNat (0 :
 Int)==(0:Int))=false→inI64 ((x_1:Int)+(1:Int))∧∃ y,Nat.le y x.b.length∧x.b.length-y<x.b.length-x_1∧(y:Int)=(↑x_1 :
 Int)+(1:Int)∧((True∧True)∧True)∧x.xs++stuffB (List.take y x.b)=x.xs++stuffB (List.take x_1 x.b)++[x.b.getD (x_1:Int).toNat (0 :
 Int)]∧True))∧(decide ((x_1:Int)<(x.b.length:Int))=false→((x.xs++stuffB (List.take x_1 x.b)).length+[(0:Int),(0:Int)].length) *
 (1:Nat)≤(140737488355328:Nat)∧(x.xs++stuffB (List.take x_1 x.b)).length+[(0:Int),(0:Int)].length≤(1152921504606846976:Nat)∧True
 ∧ ((True∧True)∧True)∧x.xs++bytesB x.b=x.xs++stuffB (List.take x_1 x.b)++[(0:Int),(0:Int)]∧True)
theorem wBytes_eq:wBytesVC=fnS E88 f119 (bodyOf f119) wBytesLS wBytesAnn:=by kernel_rfl
theorem wBytes_vc:wBytesVC:=by
 rintro ⟨xs,b⟩ ⟨hl,hb⟩
 simp only at hl hb
 simp only [true_and,and_true,decide_eq_true_eq,decide_eq_false_iff_not,Int.toNat_natCast,List.length_append,List.length_singleton,List.length_cons,List.length_nil,beq_iff_eq,beq_eq_false_iff_ne,ne_eq]
 refine fun _=>⟨⟨0,Nat.zero_le _,rfl,by simp [stuffB]⟩,fun i hi=>⟨fun h=>?_,fun h=>?_⟩⟩
 ·have hi':i<b.length:=by omega
  have p1:=stuffB_take_le b i
  have hup:=take_up hi' rfl
  refine ⟨by omega,h,hi',by omega,by omega,fun h0=>⟨by omega,by omega,by unfold inI64; omega,i+1,hi',by omega,by omega,?_⟩,fun h0=>⟨by unfold inI64; omega,i+1,hi',by omega,by omega,?_⟩⟩
  ·rw [hup,stuffB_app,h0]
   simp [stuffB]
  ·rw [hup,stuffB_app]
   simp only [stuffB,if_neg h0,List.append_assoc]
 ·have p1:=stuffB_take_le b i
  refine ⟨by omega,by omega,?_⟩
  rw [List.take_of_length_le (by omega)]
  simp [bytesB]
theorem wBytes_ok:Fits E88 f119 (bodyOf f119) wBytesLS wBytesAnn:=by
 constructor
 rw [← wBytes_eq]
 exact wBytes_vc
theorem f104_has:Has prog 119 f119 (bodyOf f119):=⟨by kernel_rfl,by kernel_rfl,by kernel_rfl⟩
theorem known89:Known prog L89:=by
 unfold L89
 exact known88.lent mixed f104_has E88_eq wBytes_ok (fun _ _=>by simp [wBytesLS]) (fun h=>by cases h)
def id1VC:Prop:=∀ (x:TIn),True→(SV.val (A:=AA) (Value.slice none (0:Nat) (0:Nat)):SV AA)=SV.val (A:=AA) (Value.slice none (0:Nat) (0:Nat))∧True
 ∧ True
theorem id1_eq:id1VC=fnS E89 f76 (bodyOf f76) id1LS noAnn:=by kernel_rfl
theorem id1_ok:Fits E89 f76 (bodyOf f76) id1LS noAnn:=by
 constructor
 rw [← id1_eq]
 exact fun _ _=>⟨rfl,trivial,trivial⟩
theorem f71_has:Has prog 76 f76 (bodyOf f76):=⟨by kernel_rfl,by kernel_rfl,by kernel_rfl⟩
theorem known90:Known prog L90:=by
 unfold L90
 exact known89.lent mixed f71_has E89_eq id1_ok (fun _ _=>Nat.le_refl _) (fun _ _=>rfl)
theorem f70_has:Has prog 75 f75 (bodyOf f75):=⟨by kernel_rfl,by kernel_rfl,by kernel_rfl⟩
theorem known91:Known prog L91:=by
 unfold L91
 exact known90.inl mixed f70_has E90_eq (by rfl)
theorem byt_app {a b:List Int} (ha:Byt a) (hb:Byt b):Byt (a++b):=fun y hy=>by
 rcases List.mem_append.1 hy with h | h
 ·exact ha y h
 ·exact hb y h
theorem byt_nil:Byt []:=fun y h=>by cases h
theorem uintB_byt (x:Int):Byt (uintB (wr .u64 x)):=fun y hy=>by
 rcases List.mem_cons.1 hy with h | h
 ·have:=digs_le (u64_wr x)
  rw [h]
  omega
 ·exact digs_byte h
theorem keysB_byt:∀ l:List Int,Byt (keysB l)
 | []=>byt_nil
 | k::l=>byt_app (uintB_byt k) (keysB_byt l)
theorem brsB_byt:∀ {l:List Br},(∀ b,b∈l→Byt b.lock)→Byt (brsB l)
 | [],_=>byt_nil
 | b::l,h=>by
  refine byt_app ?_ (brsB_byt fun c hc=>h c (List.mem_cons_of_mem _ hc))
  exact byt_app (byt_app (byt_app (byt_app (uintB_byt _) (keysB_byt _)) (h b List.mem_cons_self)) (uintB_byt _)) (uintB_byt _)
theorem stuffB_byt:∀ {l:List Int},Byt l→Byt (stuffB l)
 | [],_=>byt_nil
 | c::l,h=>by
  have h1:=stuffB_byt (l:=l) (fun y hy=>h y (List.mem_cons_of_mem _ hy))
  have h2:=h c List.mem_cons_self
  intro y hy
  simp only [stuffB] at hy
  split at hy
  ·simp only [List.mem_cons] at hy
   rcases hy with rfl | rfl | hy
   ·omega
   ·omega
   ·exact h1 y hy
  ·rcases List.mem_cons.1 hy with rfl | hy
   ·exact h2
   ·exact h1 y hy
theorem bytesB_byt {l:List Int} (h:Byt l):Byt (bytesB l):=byt_app (stuffB_byt h) (fun y hy=>by simp only [List.mem_cons,List.not_mem_nil,or_false] at hy; omega)
theorem insB_app (sec:TIn→List Int):∀ a b:List TIn,insB sec (a++b)=insB sec a++insB sec b
 | [],b=>rfl
 | x::a,b=>by simp [insB,insB_app sec a b]
theorem insB_up {sec:TIn→List Int} {l:List TIn} {i:Nat} {y:TIn} (h:l[i]?=some y):insB sec (l.take (i+1))=insB sec (l.take i)++inB sec y:=by
 rw [List.take_add_one,h,insB_app]
 simp [insB]
theorem toutsB_app:∀ a b:List TOut,toutsB (a++b)=toutsB a++toutsB b
 | [],b=>rfl
 | x::a,b=>by simp [toutsB,toutsB_app a b]
theorem toutsB_up {l:List TOut} {i:Nat} {y:TOut} (h:l[i]?=some y):toutsB (l.take (i+1))=toutsB (l.take i)++toutB y:=by
 rw [List.take_add_one,h,toutsB_app]
 simp [toutsB]
theorem insB_le {sec:TIn→List Int} {m:Nat} (hs:∀ x,(sec x).length≤m):∀ {l:List TIn},(∀ x,x∈l→x.tx.length=32)→(insB sec l).length≤(52+2*m)*l.length
 | [],_=>by simp [insB]
 | x::l,h=>by
  have h1:=insB_le hs (l:=l) (fun y hy=>h y (List.mem_cons_of_mem _ hy))
  have h2:=h x List.mem_cons_self
  have h3:=uintB_le x.n
  have h4:=uintB_le x.branch
  have h5:=stuffB_le (sec x)
  have h6:=hs x
  simp only [insB,inB,bytesB,List.length_append,List.length_cons,List.length_nil]
  have e:(52+2*m)*(l.length+1)=(52+2*m)*l.length+(52+2*m):=by rw [Nat.mul_add,Nat.mul_one]
  omega
theorem toutsB_le:∀ {l:List TOut},(∀ o,o∈l→Locks o.cond)→(toutsB l).length≤18*l.length+59*sumW l
 | [],_=>by simp [toutsB]
 | o::l,h=>by
  have h1:=toutsB_le (l:=l) (fun y hy=>h y (List.mem_cons_of_mem _ hy))
  have h2:=putB_le (h o List.mem_cons_self)
  have h3:=uintB_le o.amount
  simp only [toutsB,toutB,sumW,List.length_append,List.length_cons]
  omega
theorem insB_take_le {sec:TIn→List Int} {m:Nat} (hs:∀ x,(sec x).length≤m) {l:List TIn} (h:∀ x,x∈l→x.tx.length=32) (i:Nat):(insB sec (l.take i)).length≤(52+2*m)*l.length:=by
 have h1:=insB_le hs h
 have h2:=congrArg (fun x=>(insB sec x).length) (List.take_append_drop i l)
 simp only [insB_app,List.length_append] at h2
 omega
theorem toutsB_take_le {l:List TOut} (h:∀ o,o∈l→Locks o.cond) (i:Nat):(toutsB (l.take i)).length≤18*l.length+59*sumW l:=by
 have h1:=toutsB_le h
 have h2:=congrArg (fun x=>(toutsB x).length) (List.take_append_drop i l)
 simp only [toutsB_app,List.length_append] at h2
 omega
theorem weight_sum:∀ {l:List TOut} {o:TOut},o∈l→weight o.cond≤sumW l
 | [],o,h=>by cases h
 | p::l,o,h=>by
  simp only [sumW]
  rcases List.mem_cons.1 h with rfl | h
  ·omega
  ·have:=weight_sum h; omega
theorem insB_byt {sec:TIn→List Int} (hs:∀ x,Byt (sec x)):∀ {l:List TIn},(∀ x,x∈l→Byt x.tx)→Byt (insB sec l)
 | [],_=>byt_nil
 | x::l,h=>byt_app (byt_app (byt_app (byt_app (h x List.mem_cons_self) (uintB_byt _)) (uintB_byt _)) (bytesB_byt (hs x))) (insB_byt hs fun y hy=>h y (List.mem_cons_of_mem _ hy))
theorem toutsB_byt:∀ {l:List TOut},(∀ o,o∈l→∀ b,b∈o.cond→Byt b.lock)→Byt (toutsB l)
 | [],_=>byt_nil
 | o::l,h=>byt_app (byt_app (uintB_byt _) (byt_app (uintB_byt _) (brsB_byt (h o List.mem_cons_self)))) (toutsB_byt fun y hy=>h y (List.mem_cons_of_mem _ hy))
end Go.Proofs.YtcglahfmnoghjaaGreatDoor

/-! A transaction's sum: the walk holds. Conditions: none. -/
namespace Go.Proofs.YtcglahfmnoghjaaGreatDoor
open Go Go.Eng Go.Proofs.Tryz
def tA0 (x:TxD):List Int:=[]++uintB (wr IntKind.u64 x.lock)
def tA1 (x:TxD):List Int:=[]++uintB (wr IntKind.u64 x.lock)++uintB (wr IntKind.u64 (x.ins.length:Int))
def tA2 (x:TxD) (k:Nat):List Int:=tA1 x++insB (secOf (76:Nat)) (List.take k x.ins)
def tA3 (x:TxD) (k:Nat) (y:TIn):List Int:=tA2 x k++y.tx
def tA4 (x:TxD) (k:Nat) (y:TIn):List Int:=tA3 x k y++uintB (wr IntKind.u64 y.n)
def tA5 (x:TxD) (k:Nat) (y:TIn):List Int:=tA4 x k y++uintB (wr IntKind.u64 y.branch)
def tA6 (x:TxD) (k:Nat):List Int:=tA2 x k++uintB (wr IntKind.u64 (x.outs.length:Int))
def tA7 (x:TxD) (k i:Nat):List Int:=tA6 x k++toutsB (List.take i x.outs)
def tA8 (y:TOut):List Int:=[]++uintB (wr IntKind.u64 y.amount)
def tH (x:TxD):Prop:=((x.lock=x.lock∧x.ins=x.ins∧x.outs=x.outs∧True)∧(List.replicate (32:Nat) (0:Int)=List.replicate (32:Nat) (0:Int)∧True)∧(x.lock=x.lock∧x.ins=x.ins∧x.outs=x.outs∧True)∧(True∧True)∧True)
def tH2 (x:TxD) (k:Nat):Prop:=((x.lock=x.lock∧x.ins=x.ins∧x.outs=x.outs∧True)∧(List.replicate (32:Nat) (0:Int)=List.replicate (32:Nat) (0:Int)∧True)∧(x.lock=x.lock∧x.ins=x.ins∧x.outs=x.outs∧True)∧(True∧True)∧tA6 x k=tA6 x k∧True)
theorem tH_ok (x:TxD):tH x:=⟨⟨rfl,rfl,rfl,trivial⟩,⟨rfl,trivial⟩,⟨rfl,rfl,rfl,trivial⟩,⟨trivial,trivial⟩,trivial⟩
theorem tH2_ok (x:TxD) (k:Nat):tH2 x k:=⟨⟨rfl,rfl,rfl,trivial⟩,⟨rfl,trivial⟩,⟨rfl,rfl,rfl,trivial⟩,⟨trivial,trivial⟩,rfl,trivial⟩
def tF (x:TxD) (k:Nat) (y:TIn):Prop:=inI64 ((k:Int)+(1:Int))∧∃ y_1,Nat.le y_1 x.ins.length∧x.ins.length-y_1<x.ins.length-k∧(y_1:Int)=(k:Int)+(1:Int)∧tH x∧tA1 x++insB (secOf (76:Nat)) (List.take y_1 x.ins)=tA5 x k y++bytesB []∧True
def tG (x:TxD) (k:Nat) (y:TIn):Prop:=(y.tx=y.tx∧y.n=y.n∧y.branch=y.branch∧y.secret=y.secret∧True)∧True∧True∧(True∧([]:List Int)=[])∧((True∧True)∧tA5 x k y=tA5 x k y∧True)∧(BB.mk (tA5 x k y) []).Ok∧tF x k y
def tK (x:TxD) (k:Nat) (y:TIn):Prop:=(True∧wr IntKind.u64 y.branch=wr IntKind.u64 y.branch)∧((True∧True)∧tA4 x k y=tA4 x k y∧True)∧(BN.mk (tA4 x k y) (wr IntKind.u64 y.branch)).Low∧tG x k y
def tL (x:TxD) (k:Nat) (y:TIn):Prop:=(True∧wr IntKind.u64 y.n=wr IntKind.u64 y.n)∧((True∧True)∧tA3 x k y=tA3 x k y∧True)∧(BN.mk (tA3 x k y) (wr IntKind.u64 y.n)).Low∧tK x k y
def tM (x:TxD) (k i:Nat) (y:TOut):Prop:=((tA7 x k i).length+(tA8 y).length)*(1:Nat)≤(140737488355328:Nat)∧(tA7 x k i).length+(tA8 y).length≤(1152921504606846976:Nat)∧(tA7 x k i++(tA8 y)=tA7 x k i++(tA8 y)∧y.cond=y.cond∧True)∧True∧(PutX.mk (tA7 x k i++(tA8 y)) y.cond).Ok∧inI64 ((i:Int)+(1:Int))∧∃ y_1,Nat.le y_1 x.outs.length∧x.outs.length-y_1<x.outs.length-i∧((y_1:Int)=(i:Int)+(1:Int)∧True)∧tH2 x k∧tA6 x k++toutsB (List.take y_1 x.outs)=tA7 x k i++(tA8 y)++putB y.cond∧True
def tBody (x:TxD):Prop:=((x.ins.length:Int)≤(9223372036854775807:Int)→(∃ x_1,Nat.le x_1 x.ins.length∧(x_1:Int)=(0:Int)∧tH x∧tA2 x x_1=tA1 x∧True) ∧
 ∀ (x_1:Nat),x_1.le x.ins.length→(decide ((x_1:Int)<(x.ins.length:Int))=true→(0:Int)≤(x_1:Int)∧(x_1:Int)<(↑x.ins.length :
 Int)∧∀ (y:AA (87:Nat)),x.ins[(x_1:Int).toNat]?=some y→((True∧y.tx=y.tx∧True)∧((True∧True)∧tA2 x x_1=tA2 x x_1∧True) ∧
 (BH.mk (tA2 x x_1) y.tx).Ok∧((True∧wr IntKind.u64 y.n=wr IntKind.u64 y.n)∧((True∧True)∧tA3 x x_1 y=tA3 x x_1 y∧True)∧(BN.mk (tA3 x
 x_1 y) (wr IntKind.u64 y.n)).Low∧(tK x x_1 y)∧tK x x_1 y)∧(((True∧wr IntKind.u64 y.n=wr IntKind.u64 y.n)∧((True∧True)∧tA3 x x_1 y=tA3
 x x_1 y∧True)∧(BN.mk (tA3 x x_1 y) (wr IntKind.u64 y.n)).Low∧(tK x x_1 y)∧tK x x_1 y)∧tL x x_1 y)∧(tL x x_1 y)∧tL x x_1 y)∧(((True ∧
 y.tx=y.tx∧True)∧((True∧True)∧tA2 x x_1=tA2 x x_1∧True)∧(BH.mk (tA2 x x_1) y.tx).Ok∧((True∧wr IntKind.u64 y.n=wr IntKind.u64 y.n)
 ∧ ((True∧True)∧tA3 x x_1 y=tA3 x x_1 y∧True)∧(BN.mk (tA3 x x_1 y) (wr IntKind.u64 y.n)).Low∧(tK x x_1 y)∧tK x x_1 y)∧(((True∧wr
 IntKind.u64 y.n=wr IntKind.u64 y.n)∧((True∧True)∧tA3 x x_1 y=tA3 x x_1 y∧True)∧(BN.mk (tA3 x x_1 y) (wr IntKind.u64 y.n)).Low∧(tK x x_1
 y)∧tK x x_1 y)∧tL x x_1 y)∧(tL x x_1 y)∧tL x x_1 y)∧(((True∧y.tx=y.tx∧True)∧((True∧True)∧tA2 x x_1=tA2 x x_1∧True)∧(BH.mk
 (tA2 x x_1) y.tx).Ok∧((True∧wr IntKind.u64 y.n=wr IntKind.u64 y.n)∧((True∧True)∧tA3 x x_1 y=tA3 x x_1 y∧True)∧(BN.mk (tA3 x x_1 y)
 (wr IntKind.u64 y.n)).Low∧(tK x x_1 y)∧tK x x_1 y)∧tL x x_1 y)∧(True∧y.tx=y.tx∧True)∧((True∧True)∧tA2 x x_1=tA2 x x_1∧True) ∧
 (BH.mk (tA2 x x_1) y.tx).Ok∧tL x x_1 y)∧((True∧y.tx=y.tx∧True)∧((True∧True)∧tA2 x x_1=tA2 x x_1∧True)∧(BH.mk (tA2 x x_1) y.tx).Ok
 ∧ (tL x x_1 y)∧tL x x_1 y)∧(True∧y.tx=y.tx∧True)∧((True∧True)∧tA2 x x_1=tA2 x x_1∧True)∧(BH.mk (tA2 x x_1) y.tx).Ok∧tL x x_1 y)
 ∧ (((True∧y.tx=y.tx∧True)∧((True∧True)∧tA2 x x_1=tA2 x x_1∧True)∧(BH.mk (tA2 x x_1) y.tx).Ok∧((True∧wr IntKind.u64 y.n=wr
 IntKind.u64 y.n)∧((True∧True)∧tA3 x x_1 y=tA3 x x_1 y∧True)∧(BN.mk (tA3 x x_1 y) (wr IntKind.u64 y.n)).Low∧(tK x x_1 y)∧tK x x_1 y) ∧
 tL x x_1 y)∧(((True∧y.tx=y.tx∧True)∧((True∧True)∧tA2 x x_1=tA2 x x_1∧True)∧(BH.mk (tA2 x x_1) y.tx).Ok∧((True∧wr IntKind.u64
 y.n=wr IntKind.u64 y.n)∧((True∧True)∧tA3 x x_1 y=tA3 x x_1 y∧True)∧(BN.mk (tA3 x x_1 y) (wr IntKind.u64 y.n)).Low∧(tK x x_1 y)∧tK x
 x_1 y)∧tL x x_1 y)∧(True∧y.tx=y.tx∧True)∧((True∧True)∧tA2 x x_1=tA2 x x_1∧True)∧(BH.mk (tA2 x x_1) y.tx).Ok∧tL x x_1 y) ∧
 ((True∧y.tx=y.tx∧True)∧((True∧True)∧tA2 x x_1=tA2 x x_1∧True)∧(BH.mk (tA2 x x_1) y.tx).Ok∧tL x x_1 y)∧(True∧y.tx=y.tx∧True)
 ∧ ((True∧True)∧tA2 x x_1=tA2 x x_1∧True)∧(BH.mk (tA2 x x_1) y.tx).Ok∧tL x x_1 y)∧((True∧y.tx=y.tx∧True)∧((True∧True)∧tA2 x
 x_1=tA2 x x_1∧True)∧(BH.mk (tA2 x x_1) y.tx).Ok∧(tL x x_1 y)∧tL x x_1 y)∧(((True∧y.tx=y.tx∧True)∧((True∧True)∧tA2 x x_1=tA2 x
 x_1∧True)∧(BH.mk (tA2 x x_1) y.tx).Ok∧(tL x x_1 y)∧tL x x_1 y)∧(True∧y.tx=y.tx∧True)∧((True∧True)∧tA2 x x_1=tA2 x x_1∧True) ∧
 (BH.mk (tA2 x x_1) y.tx).Ok∧tL x x_1 y)∧((True∧y.tx=y.tx∧True)∧((True∧True)∧tA2 x x_1=tA2 x x_1∧True)∧(BH.mk (tA2 x x_1) y.tx).Ok
 ∧ tL x x_1 y)∧(True∧y.tx=y.tx∧True)∧((True∧True)∧tA2 x x_1=tA2 x x_1∧True)∧(BH.mk (tA2 x x_1) y.tx).Ok∧tL x x_1 y)∧(decide
 ((x_1:Int)<(x.ins.length:Int))=false→(x.outs.length:Int)≤(9223372036854775807:Int)→(True∧wr IntKind.u64 (x.outs.length:Int) =
 wr IntKind.u64 (x.outs.length:Int))∧((True∧True)∧tA2 x x_1=tA2 x x_1∧True)∧(BN.mk (tA2 x x_1) (wr IntKind.u64 (↑x.outs.length :
 Int))).Low∧True∧((True∧True)∧tA6 x x_1=tA6 x x_1∧True)∧(tA6 x x_1).length.le (1099511627776:Nat)∧((x.outs.length:Int) ≤
 (9223372036854775807:Int)→(∃ x_2,Nat.le x_2 x.outs.length∧((x_2:Int)=(0:Int)∧True)∧tH2 x x_1∧tA7 x x_1 x_2=tA6 x x_1∧True)∧∀
 (x_2:Nat),x_2.le x.outs.length→(decide ((x_2:Int)<(x.outs.length:Int))=true→(0:Int)≤(x_2:Int)∧(x_2:Int)<(↑x.outs.length
 : Int)∧∀ (y:AA (90:Nat)),x.outs[(x_2:Int).toNat]?=some y→(True∧True∧True∧((True∧wr IntKind.u64 y.amount=wr IntKind.u64
 y.amount)∧((SV.val (A:=AA) (Value.slice none (0:Nat) (0:Nat))=SV.val (A:=AA) (Value.slice none (0:Nat) (0:Nat))∧True)∧([]:List
 Int)=[]∧True)∧(BN.mk [] (wr IntKind.u64 y.amount)).Low∧(True∧((True∧True)∧tA8 y=tA8 y∧True)∧(tA8 y).length.le (1099511627776:Nat)
 ∧ (tM x x_1 x_2 y)∧tM x x_1 x_2 y)∧True∧((True∧True)∧tA8 y=tA8 y∧True)∧(tA8 y).length.le (1099511627776:Nat)∧tM x x_1 x_2 y) ∧
 (True∧wr IntKind.u64 y.amount=wr IntKind.u64 y.amount)∧((SV.val (A:=AA) (Value.slice none (0:Nat) (0:Nat))=SV.val (A:=AA) (Value.slice
 none (0:Nat) (0:Nat))∧True)∧([]:List Int)=[]∧True)∧(BN.mk [] (wr IntKind.u64 y.amount)).Low∧True∧((True∧True)∧tA8 y=tA8 y ∧
 True)∧(tA8 y).length.le (1099511627776:Nat)∧tM x x_1 x_2 y)∧True∧True∧True∧(True∧wr IntKind.u64 y.amount=wr IntKind.u64 y.amount) ∧
 ((SV.val (A:=AA) (Value.slice none (0:Nat) (0:Nat))=SV.val (A:=AA) (Value.slice none (0:Nat) (0:Nat))∧True)∧([]:List Int)=[] ∧
 True)∧(BN.mk [] (wr IntKind.u64 y.amount)).Low∧True∧((True∧True)∧tA8 y=tA8 y∧True)∧(tA8 y).length.le (1099511627776:Nat)∧tM x x_1
 x_2 y)∧(decide ((x_2:Int)<(x.outs.length:Int))=false→tA7 x x_1 x_2=tA7 x x_1 x_2∧True∧Bytes (tA7 x x_1 x_2)∧(idB x=sumB orderL
 (tA7 x x_1 x_2)∧True)∧True∧True))))
def tidVC:Prop:=∀ (x:TxD),TxOk x→(True∧True∧True∧((True∧wr IntKind.u64 x.lock=wr IntKind.u64 x.lock)∧(((SV.val (A:=AA) (Value.slice none (0:Nat)
 (0:Nat)):SV AA)=SV.val (A:=AA) (Value.slice none (0:Nat) (0:Nat))∧True)∧([]:List Int)=[]∧True)∧(BN.mk [] (wr IntKind.u64
 x.lock)).Low∧((x.ins.length:Int)≤(9223372036854775807:Int)→(True∧wr IntKind.u64 (x.ins.length:Int)=wr IntKind.u64 (↑x.ins.length :
 Int))∧((True∧True)∧tA0 x=tA0 x∧True)∧(BN.mk (tA0 x) (wr IntKind.u64 (x.ins.length:Int))).Low∧tBody x))∧((x.ins.length:Int) ≤
 (9223372036854775807:Int)→(True∧wr IntKind.u64 x.lock=wr IntKind.u64 x.lock)∧(((SV.val (A:=AA) (Value.slice none (0:Nat) (0:Nat)):SV
 AA)=SV.val (A:=AA) (Value.slice none (0:Nat) (0:Nat))∧True)∧([]:List Int)=[]∧True)∧(BN.mk [] (wr IntKind.u64 x.lock)).Low∧(True ∧
 wr IntKind.u64 (x.ins.length:Int)=wr IntKind.u64 (x.ins.length:Int))∧((True∧True)∧tA0 x=tA0 x∧True)∧(BN.mk (tA0 x) (wr IntKind.u64
 (x.ins.length:Int))).Low∧tBody x))∧((x.ins.length:Int)≤(9223372036854775807:Int)→True∧True∧True∧(True∧wr IntKind.u64 x.lock =
 wr IntKind.u64 x.lock)∧(((SV.val (A:=AA) (Value.slice none (0:Nat) (0:Nat)):SV AA)=SV.val (A:=AA) (Value.slice none (0:Nat) (0:Nat))
 ∧ True)∧([]:List Int)=[]∧True)∧(BN.mk [] (wr IntKind.u64 x.lock)).Low∧(True∧wr IntKind.u64 (x.ins.length:Int)=wr IntKind.u64
 (x.ins.length:Int))∧((True∧True)∧tA0 x=tA0 x∧True)∧(BN.mk (tA0 x) (wr IntKind.u64 (x.ins.length:Int))).Low∧tBody x)
theorem tid_eq:tidVC=fnS E91 f31 (bodyOf f31) idLS noAnn:=by kernel_rfl
theorem low_of {xs:List Int} {n:Int} (h:xs.length≤1000000000000):(BN.mk xs (wr .u64 n)).Low:=⟨h,u64_wr n⟩
theorem tA1_le (x:TxD):(tA1 x).length≤18:=by
 have h1:=uintB_le x.lock
 have h2:=uintB_le (x.ins.length:Int)
 simp only [tA1,List.nil_append,List.length_append]
 omega
theorem sec0_le:∀ x:TIn,(secOf 76 x).length≤0:=fun _=>Nat.le_refl _
theorem tA2_le {x:TxD} (h:TxOk x) (k:Nat):(tA2 x k).length≤18+52*x.ins.length:=by
 have h1:=tA1_le x
 have h2:=insB_take_le sec0_le (fun y hy=>(h.tx y hy).1) k
 simp only [tA2,List.length_append]
 omega
theorem tA6_le {x:TxD} (h:TxOk x) (k:Nat):(tA6 x k).length≤27+52*x.ins.length:=by
 have h1:=tA2_le h k
 have h2:=uintB_le (x.outs.length:Int)
 simp only [tA6,List.length_append]
 omega
theorem tA7_le {x:TxD} (h:TxOk x) (k i:Nat):(tA7 x k i).length≤27+52*x.ins.length+18*x.outs.length+59*sumW x.outs:=by
 have h1:=tA6_le h k
 have h2:=toutsB_take_le (fun o ho=>(h.locks o ho).1) i
 simp only [tA7,List.length_append]
 omega
theorem tF_ok {x:TxD} (hx:TxOk x) {k:Nat} (hk:k<x.ins.length) {y:TIn} (hy:x.ins[k]?=some y):tF x k y:=by
 have h1:=hx.n
 refine ⟨by unfold inI64; omega,k+1,hk,by omega,by omega,tH_ok x,?_,trivial⟩
 rw [insB_up hy]
 simp only [tA5,tA4,tA3,tA2,inB,List.append_assoc]
 rfl
theorem tG_ok {x:TxD} (hx:TxOk x) {k:Nat} (hk:k<x.ins.length) {y:TIn} (hy:x.ins[k]?=some y):tG x k y:=by
 have h1:=hx.n
 have h2:=tA2_le hx k
 have h3:=(hx.tx y (List.mem_of_getElem? hy)).1
 have h4:=uintB_le y.n
 have h5:=uintB_le y.branch
 refine ⟨⟨rfl,rfl,rfl,rfl,trivial⟩,trivial,trivial,⟨trivial,rfl⟩,⟨⟨trivial,trivial⟩,rfl,trivial⟩,⟨?_,by simp⟩,tF_ok hx hk hy⟩
 simp only [tA5,tA4,tA3,List.length_append]
 omega
theorem tK_ok {x:TxD} (hx:TxOk x) {k:Nat} (hk:k<x.ins.length) {y:TIn} (hy:x.ins[k]?=some y):tK x k y:=by
 have h1:=hx.n
 have h2:=tA2_le hx k
 have h3:=(hx.tx y (List.mem_of_getElem? hy)).1
 have h4:=uintB_le y.n
 refine ⟨⟨trivial,rfl⟩,⟨⟨trivial,trivial⟩,rfl,trivial⟩,low_of ?_,tG_ok hx hk hy⟩
 simp only [tA4,tA3,List.length_append]
 omega
theorem tL_ok {x:TxD} (hx:TxOk x) {k:Nat} (hk:k<x.ins.length) {y:TIn} (hy:x.ins[k]?=some y):tL x k y:=by
 have h1:=hx.n
 have h2:=tA2_le hx k
 have h3:=(hx.tx y (List.mem_of_getElem? hy)).1
 refine ⟨⟨trivial,rfl⟩,⟨⟨trivial,trivial⟩,rfl,trivial⟩,low_of ?_,tK_ok hx hk hy⟩
 simp only [tA3,List.length_append]
 omega
theorem tM_ok {x:TxD} (hx:TxOk x) (k:Nat) {i:Nat} (hi:i<x.outs.length) {y:TOut} (hy:x.outs[i]?=some y):tM x k i y:=by
 have h1:=hx.n
 have h2:=hx.m
 have h3:=hx.w
 have h4:=tA7_le hx k i
 have h5:=uintB_le y.amount
 have h6:=weight_sum (List.mem_of_getElem? hy)
 have h7:(tA8 y).length≤9:=by simp only [tA8,List.nil_append]; exact h5
 refine ⟨by omega,by omega,⟨rfl,rfl,trivial⟩,trivial,⟨?_,show weight y.cond≤2000000 by omega,(hx.locks y (List.mem_of_getElem? hy)).1⟩,by unfold inI64; omega,i+1,hi,by omega,⟨by omega,trivial⟩,tH2_ok x k,?_,trivial⟩
 ·simp only [List.length_append]
  omega
 ·rw [toutsB_up hy]
  simp only [tA7,tA8,toutB,List.nil_append,List.append_assoc]
theorem tA7_all {x:TxD} {k i:Nat} (hk:x.ins.length≤k) (hi:x.outs.length≤i):tA7 x k i=putTx (fun _=>[]) x:=by
 simp only [tA7,tA6,tA2,tA1,putTx,List.take_of_length_le hk,List.take_of_length_le hi,List.nil_append]
 rfl
theorem putTx_byt {x:TxD} (hx:TxOk x):Byt (putTx (fun _=>[]) x):=
 byt_app (byt_app (byt_app (byt_app (uintB_byt _) (uintB_byt _)) (insB_byt (fun _=>byt_nil) fun y hy=>(hx.tx y hy).2)) (uintB_byt _)) (toutsB_byt fun o ho=>(hx.locks o ho).2)
theorem tBody_ok {x:TxD} (hx:TxOk x):tBody x:=by
 have h1:=hx.n
 have h2:=hx.m
 have h3:=hx.w
 unfold tBody
 simp only [true_and,and_true,decide_eq_true_eq,decide_eq_false_iff_not,Int.toNat_natCast,tH_ok,tH2_ok]
 refine fun _=>⟨⟨0,Nat.zero_le _,rfl,by simp [tA2,insB]⟩,fun k hk=>⟨fun h=>?_,fun h _=>?_⟩⟩
 ·have hk':k<x.ins.length:=by omega
  refine ⟨by omega,h,fun y hy=>?_⟩
  have p1:=tL_ok hx hk' (y:=y) hy
  have p2:=tK_ok hx hk' (y:=y) hy
  have p3:=tA2_le hx k
  have p4:y.tx.length=32:=(hx.tx y (List.mem_of_getElem? hy)).1
  have p5:(BH.mk (tA2 x k) y.tx).Ok:=⟨show (tA2 x k).length≤1099511627776 by omega,p4⟩
  have p6:(BN.mk (tA3 x k y) (wr .u64 y.n)).Low:=p1.2.2.1
  simp only [p1,p2,p5,p6,and_self]
 ·have q1:=tA2_le hx k
  have q2:=tA6_le hx k
  refine ⟨low_of (by omega),show (tA6 x k).length≤1099511627776 by omega,fun _=>⟨⟨0,Nat.zero_le _,rfl,by simp [tA7,toutsB]⟩,fun i hi=>⟨fun h4=>?_,fun h4=>?_⟩⟩⟩
  ·have hi':i<x.outs.length:=by omega
   refine ⟨by omega,h4,fun y hy=>?_⟩
   have p1:=tM_ok hx k hi' (y:=y) hy
   have p2:(BN.mk [] (wr .u64 y.amount)).Low:=low_of (by simp)
   have p3:(tA8 y).length.le 1099511627776:=by
    have:=uintB_le y.amount
    show (tA8 y).length≤1099511627776
    simp only [tA8,List.nil_append]
    omega
   simp only [p1,p2,p3,and_self]
  ·rw [tA7_all (by omega) (by omega)]
   have hl:=tA7_le hx x.ins.length x.outs.length
   rw [tA7_all (Nat.le_refl _) (Nat.le_refl _)] at hl
   exact ⟨⟨putTx_byt hx,by omega⟩,rfl⟩
theorem tid_vc:tidVC:=by
 intro x hx
 have h1:=tBody_ok hx
 have h2:(BN.mk [] (wr .u64 x.lock)).Low:=low_of (by simp)
 have h3:(BN.mk (tA0 x) (wr .u64 (x.ins.length:Int))).Low:=low_of (by
  have:=uintB_le x.lock
  simp only [tA0,List.nil_append]
  omega)
 simp only [h1,h2,h3,and_self,implies_true]
theorem tid_ok:Fits E91 f31 (bodyOf f31) idLS noAnn:=by
 constructor
 rw [← tid_eq]
 exact tid_vc
theorem f37_has:Has prog 31 f31 (bodyOf f31):=⟨by kernel_rfl,by kernel_rfl,by kernel_rfl⟩
theorem known92:Known prog L92:=by
 unfold L92
 exact known91.lent mixed f37_has E91_eq tid_ok (fun _ _=>Nat.le_refl _) (fun _ _=>rfl)
end Go.Proofs.YtcglahfmnoghjaaGreatDoor

/-! At, sure, the document's total, the totals' law: the walks hold. Conditions: none. -/
namespace Go.Proofs.YtcglahfmnoghjaaGreatDoor
open Go Go.Eng Go.Proofs.Tryz
def tatVC:Prop:=∀ (x:AtX),TxOk x.t→(x.t.lock=x.t.lock∧x.t.ins=x.t.ins∧x.t.outs=x.t.outs∧True)∧True∧TxOk (TxD.mk x.t.lock x.t.ins x.t.outs)∧(idB
 x.t=idB (TxD.mk x.t.lock x.t.ins x.t.outs)∧x.n=x.n∧True)∧True∧True
theorem tat_eq:tatVC=fnS E92 f17 (bodyOf f17) atLS noAnn:=by kernel_rfl
theorem tat_ok:Fits E92 f17 (bodyOf f17) atLS noAnn:=by
 constructor
 rw [← tat_eq]
 exact fun x hx=>⟨⟨rfl,rfl,rfl,trivial⟩,trivial,hx,⟨rfl,rfl,trivial⟩,trivial,trivial⟩
theorem f63_has:Has prog 17 f17 (bodyOf f17):=⟨by kernel_rfl,by kernel_rfl,by kernel_rfl⟩
theorem known93:Known prog L93:=by
 unfold L93
 exact known92.lent mixed f63_has E92_eq tat_ok (fun _ _=>Nat.le_refl _) (fun _ _=>rfl)
theorem zero_tx:(List.replicate 32 (0:Int)).length=32∧Byt (List.replicate 32 (0:Int)):=by
 refine ⟨by simp,fun y hy=>?_⟩
 rw [List.eq_of_mem_replicate hy]
 omega
theorem allOf_1:allOf [1]=[⟨[1],List.replicate 32 0,0,0⟩]:=by
 unfold allOf
 have h:Lib.compact (sortI [1])=[1]:=by
  have:sortI [1]=[1]:=by simp [sortI]
  rw [this]
  decide
 rw [h]
theorem sure_tx (s:List Int):TxOk (TxD.mk 0 [TIn.mk (List.replicate 32 0) 0 0 s] [TOut.mk 5 (allOf [1])]) where
 n:=by simp
 m:=by simp
 w:=by
  rw [allOf_1]
  simp [sumW,weight,sumK]
 tx:=fun x hx=>by
  simp only [List.mem_singleton] at hx
  rw [hx]
  exact zero_tx
 locks:=fun o ho=>by
  simp only [List.mem_singleton] at ho
  rw [ho,allOf_1]
  refine ⟨fun b hb=>?_,fun b hb=>?_⟩
  ·simp only [List.mem_singleton] at hb
   rw [hb]
   simp
  ·simp only [List.mem_singleton] at hb
   rw [hb]
   exact zero_tx.2
theorem sure_check:checkT (TxD.mk 0 [TIn.mk (List.replicate 32 0) 0 0 []] [TOut.mk 5 (allOf [1])])=27:=by
 unfold checkT
 rw [if_neg (by simp [someB,badIn,inOk]),if_neg (by simp)]
 simp [outsE,outE]
def sure5VC:Prop:=∀ (_:Unit),True→(List.replicate (32:Nat) (0:Int)=List.replicate (32:Nat) (0:Int)∧(0:Int)=(0:Int)∧(0:Int)=(0:Int)∧([] :
 List Int)=[]∧True)∧[(1:Int)]=[(1:Int)]∧True∧[(1:Int)].length.le (1000000:Nat)∧((5:Int)=(5:Int) ∧
 Proofs.YtcglahfmnoghjaaGreatDoor.allOf [(1:Int)]=Proofs.YtcglahfmnoghjaaGreatDoor.allOf [(1:Int)]∧True)∧[(115:Int)]≠[]∧(List.replicate (32:Nat)
 (0:Int)=List.replicate (32:Nat) (0:Int)∧(0:Int)=(0:Int)∧(0:Int)=(0:Int)∧[(115:Int)]=[(115:Int)]∧True)∧[(1:Int)] =
 [(1:Int)]∧True∧[(1:Int)].length.le (1000000:Nat)∧((5:Int)=(5:Int)∧Proofs.YtcglahfmnoghjaaGreatDoor.allOf [(1:Int)] =
 Proofs.YtcglahfmnoghjaaGreatDoor.allOf [(1:Int)]∧True)∧((0:Int)=(0:Int)∧[TIn.mk (List.replicate (32:Nat) (0:Int)) (0:Int) (0:Int) []]
 = [TIn.mk (List.replicate (32:Nat) (0:Int)) (0:Int) (0:Int) []]∧[TOut.mk (5:Int) (Proofs.YtcglahfmnoghjaaGreatDoor.allOf [(1:Int)])] =
 [TOut.mk (5:Int) (Proofs.YtcglahfmnoghjaaGreatDoor.allOf [(1:Int)])]∧True)∧True∧True∧((checkT (TxD.mk (0:Int) [TIn.mk (List.replicate (32 :
 Nat) (0:Int)) (0:Int) (0:Int) []] [TOut.mk (5:Int) (Proofs.YtcglahfmnoghjaaGreatDoor.allOf [(1:Int)])])==(27:Int))=true→((0:Int)=(0 :
 Int)∧[TIn.mk (List.replicate (32:Nat) (0:Int)) (0:Int) (0:Int) []]=[TIn.mk (List.replicate (32:Nat) (0:Int)) (0:Int) (0:Int) []] ∧
 [TOut.mk (5:Int) (Proofs.YtcglahfmnoghjaaGreatDoor.allOf [(1:Int)])]=[TOut.mk (5:Int) (Proofs.YtcglahfmnoghjaaGreatDoor.allOf [(1:Int)])]∧True) ∧
 True∧TxOk (TxD.mk (0:Int) [TIn.mk (List.replicate (32:Nat) (0:Int)) (0:Int) (0:Int) []] [TOut.mk (5:Int)
 (Proofs.YtcglahfmnoghjaaGreatDoor.allOf [(1:Int)])])∧((0:Int)=(0:Int)∧[TIn.mk (List.replicate (32:Nat) (0:Int)) (0:Int) (0:Int) [(115 :
 Int)]]=[TIn.mk (List.replicate (32:Nat) (0:Int)) (0:Int) (0:Int) [(115:Int)]]∧[TOut.mk (5:Int) (Proofs.YtcglahfmnoghjaaGreatDoor.allOf [(1 :
 Int)])]=[TOut.mk (5:Int) (Proofs.YtcglahfmnoghjaaGreatDoor.allOf [(1:Int)])]∧True)∧True∧TxOk (TxD.mk (0:Int) [TIn.mk (List.replicate (32 :
 Nat) (0:Int)) (0:Int) (0:Int) [(115:Int)]] [TOut.mk (5:Int) (Proofs.YtcglahfmnoghjaaGreatDoor.allOf [(1:Int)])])∧((idB (TxD.mk (0:Int)
 [TIn.mk (List.replicate (32:Nat) (0:Int)) (0:Int) (0:Int) []] [TOut.mk (5:Int) (Proofs.YtcglahfmnoghjaaGreatDoor.allOf [(1:Int)])])==idB
 (TxD.mk (0:Int) [TIn.mk (List.replicate (32:Nat) (0:Int)) (0:Int) (0:Int) [(115:Int)]] [TOut.mk (5:Int)
 (Proofs.YtcglahfmnoghjaaGreatDoor.allOf [(1:Int)])]))=true→(((0:Int)=(0:Int)∧[TIn.mk (List.replicate (32:Nat) (0:Int)) (0:Int) (0:Int)
 []]=[TIn.mk (List.replicate (32:Nat) (0:Int)) (0:Int) (0:Int) []]∧[TOut.mk (5:Int) (Proofs.YtcglahfmnoghjaaGreatDoor.allOf [(1:Int)])] =
 [TOut.mk (5:Int) (Proofs.YtcglahfmnoghjaaGreatDoor.allOf [(1:Int)])]∧True)∧(3:Int)=(3:Int))∧True∧TxOk (TxD.mk (0:Int) [TIn.mk
 (List.replicate (32:Nat) (0:Int)) (0:Int) (0:Int) []] [TOut.mk (5:Int) (Proofs.YtcglahfmnoghjaaGreatDoor.allOf [(1:Int)])])∧true=((3:Int)
 == (3:Int))∧True∧True)∧((idB (TxD.mk (0:Int) [TIn.mk (List.replicate (32:Nat) (0:Int)) (0:Int) (0:Int) []] [TOut.mk (5:Int)
 (Proofs.YtcglahfmnoghjaaGreatDoor.allOf [(1:Int)])])==idB (TxD.mk (0:Int) [TIn.mk (List.replicate (32:Nat) (0:Int)) (0:Int) (0:Int) [(115 :
 Int)]] [TOut.mk (5:Int) (Proofs.YtcglahfmnoghjaaGreatDoor.allOf [(1:Int)])]))=false→true=false∧True∧True))∧((checkT (TxD.mk (0:Int)
 [TIn.mk (List.replicate (32:Nat) (0:Int)) (0:Int) (0:Int) []] [TOut.mk (5:Int) (Proofs.YtcglahfmnoghjaaGreatDoor.allOf [(1:Int)])])==(27 :
 Int))=false→true=false∧True∧True)
theorem sure5_eq:sure5VC=fnS E93 f9 (bodyOf f9) sureLS noAnn:=by kernel_rfl
theorem sure5_vc:sure5VC:=by
 intro _ _
 have h1:=sure_tx []
 have h2:=sure_tx [115]
 have h3:idB (TxD.mk 0 [TIn.mk (List.replicate 32 0) 0 0 [115]] [TOut.mk 5 (allOf [1])])=idB (TxD.mk 0 [TIn.mk (List.replicate 32 0) 0 0 []] [TOut.mk 5 (allOf [1])]):=rfl
 have h4:[(1:Int)].length.le 1000000:=show 1≤1000000 by decide
 simp only [sure_check,h1,h2,h3,h4,beq_self_eq_true,true_and,and_true,Bool.true_eq_false,false_implies,implies_true,forall_const,ne_eq,List.cons_ne_nil,not_false_eq_true]
theorem sure5_ok:Fits E93 f9 (bodyOf f9) sureLS noAnn:=by
 constructor
 rw [← sure5_eq]
 exact sure5_vc
theorem f30_has:Has prog 9 f9 (bodyOf f9):=⟨by kernel_rfl,by kernel_rfl,by kernel_rfl⟩
theorem known94:Known prog L94:=by
 unfold L94
 exact known93.lent mixed f30_has E93_eq sure5_ok (fun _ _=>Nat.le_refl _) (fun _ _=>rfl)
def rTotalVC:Prop:=∀ (x:TxD),True→(∃ (x_1:Nat×Int),(x_1.fst≤x.outs.length∧(0:Int)≤x_1.snd∧x_1.snd≤(1125899906842624:Int)∧totG x.outs (0:Int) =
 totG (List.drop x_1.fst x.outs) x_1.snd)∧((x_1.fst:Int)=(0:Int)∧x_1.snd=(0:Int))∧((x.lock=x.lock∧x.ins=x.ins∧x.outs=x.outs ∧
 True)∧True)∧True)∧∀ (x_1:Nat×Int),x_1.fst≤x.outs.length∧(0:Int)≤x_1.snd∧x_1.snd≤(1125899906842624:Int)∧totG x.outs (0:Int)
 = totG (List.drop x_1.fst x.outs) x_1.snd→(x.outs.length:Int)≤(9223372036854775807:Int)→(decide ((x_1.fst:Int)<(x.outs.length:Int))
 = true→(0:Int)≤(x_1.fst:Int)∧(x_1.fst:Int)<(x.outs.length:Int)∧∀ (y:AA (82:Nat)),x.outs[(x_1.fst:Int).toNat]?=some y →
 (decide (y.amount<(0:Int))=true→((totG x.outs (0:Int)).fst=(0:Int)∧(totG x.outs (0:Int)).snd=(5:Int))∧True∧True)∧(decide
 (y.amount<(0:Int))=false→(decide (y.amount>(1125899906842624:Int))=true→((totG x.outs (0:Int)).fst=(0:Int)∧(totG x.outs (0 :
 Int)).snd=(5:Int))∧True∧True)∧(decide (y.amount>(1125899906842624:Int))=false→inI64 (x_1.snd+y.amount)∧(decide (x_1.snd +
 y.amount>(1125899906842624:Int))=true→((totG x.outs (0:Int)).fst=(0:Int)∧(totG x.outs (0:Int)).snd=(5:Int))∧True∧True) ∧
 (decide (x_1.snd+y.amount>(1125899906842624:Int))=false→inI64 (x_1.snd+y.amount)∧inI64 ((x_1.fst:Int)+(1:Int))∧∃ (y_1:Nat ×
 Int),(y_1.fst≤x.outs.length∧(0:Int)≤y_1.snd∧y_1.snd≤(1125899906842624:Int)∧totG x.outs (0:Int)=totG (List.drop y_1.fst x.outs)
 y_1.snd)∧x.outs.length-y_1.fst<x.outs.length-x_1.fst∧((y_1.fst:Int)=(x_1.fst:Int)+(1:Int)∧y_1.snd=x_1.snd+y.amount) ∧
 ((x.lock=x.lock∧x.ins=x.ins∧x.outs=x.outs∧True)∧True)∧True))))∧(decide ((x_1.fst:Int)<(x.outs.length:Int))=false→((totG
 x.outs (0:Int)).fst=x_1.snd∧(totG x.outs (0:Int)).snd=(0:Int))∧True∧True)
theorem rTotal_eq:rTotalVC=fnS E94 f115 (bodyOf f115) rTotalLS rTotalAnn:=by kernel_rfl
theorem rTotal_vc:rTotalVC:=by
 rintro ⟨lock,ins,outs⟩ _
 simp only [true_and,and_true,decide_eq_true_eq,decide_eq_false_iff_not,Int.toNat_natCast]
 refine ⟨⟨(0,0),⟨Nat.zero_le _,by simp,by simp,rfl⟩,rfl,rfl⟩,?_⟩
 rintro ⟨i,n⟩ ⟨h1,h3,h4,h5⟩ hl
 simp only at h1 h3 h4 h5 ⊢
 refine ⟨fun h=>?_,fun h=>?_⟩
 ·refine ⟨by omega,h,fun y hy=>?_⟩
  have hd:=dropAt (α:=TOut) (y:=y) hy
  have five:(y.amount<0∨y.amount>1125899906842624-n)→totG outs 0=(0,5):=fun hc=>by
   rw [h5,hd]
   simp only [totG]
   rw [if_pos hc]
  refine ⟨fun hc=>?_,fun hc=>⟨fun hc2=>?_,fun hc2=>⟨by unfold inI64; omega,fun hc3=>?_,fun hc3=>⟨by unfold inI64; omega,by unfold inI64; omega,(i+1,n+y.amount),⟨?_,?_,?_,?_⟩,?_,?_,?_⟩⟩⟩⟩
  ·rw [five (.inl hc)]; exact ⟨rfl,rfl⟩
  ·rw [five (.inr (by omega))]; exact ⟨rfl,rfl⟩
  ·rw [five (.inr (by omega))]; exact ⟨rfl,rfl⟩
  ·simp only; omega
  ·simp only; omega
  ·simp only; omega
  ·rw [h5,hd]
   simp only [totG]
   rw [if_neg (by omega)]
  ·simp only; omega
  ·simp only; omega
  ·rfl
 ·rw [h5,List.drop_of_length_le (by omega)]
  exact ⟨rfl,rfl⟩
theorem rTotal_ok:Fits E94 f115 (bodyOf f115) rTotalLS rTotalAnn:=by
 constructor
 rw [← rTotal_eq]
 exact rTotal_vc
theorem f33_has:Has prog 115 f115 (bodyOf f115):=⟨by kernel_rfl,by kernel_rfl,by kernel_rfl⟩
theorem known95:Known prog L95:=by
 unfold L95
 exact known94.lent mixed f33_has E94_eq rTotal_ok (fun _ _=>Nat.le_refl _) (fun _ _=>rfl)
end Go.Proofs.YtcglahfmnoghjaaGreatDoor

/-! A transaction given and checked: what is said of it. Conditions: none. -/
namespace Go.Proofs.YtcglahfmnoghjaaGreatDoor
open Go Go.Eng Go.Proofs.Tryz
def rcondGet (args:List (SV AA)) (sh:List (SO AA)):Option (List Br):=match args with
 | [.agg (.cell s .nil)]=>seqOfS 85 sh s
 | _=>none
def gcondLS:LS AA where
 X:=List Br
 pre:=fun bs=>weight bs≤2000000
 args:=fun bs=>[.agg (.cell (.rseq 85 (show List (AA 85) from bs)) .nil)]
 hin:=fun _=>[]
 res:=fun bs=>[.agg (.cell (.rseq 102 (show List (AA 102) from bs)) .nil)]
 hout:=fun _=>[]
noncomputable def L96:List (Nat×SpecT AA):=(37,tLent gcondLS rcondGet)::L95
noncomputable def F96:Eng AA:=EF prog L96
theorem F96_eq:F96=EF prog L96:=by
 unfold F96
 rfl
noncomputable def F95:Eng AA:=EF prog L95
theorem F95_eq:F95=EF prog L95:=by
 unfold F95
 rfl
def secN:List TIn→Int
 | []=>0
 | x::l=>(x.secret.length:Int).tdiv 16+secN l
def keyCut:List Br→Int→Int
 | [],n=>n
 | b::l,n=>if n<400 then keyCut l (n+b.keys.length) else n
def outCut:List TOut→Int→Int
 | [],n=>n
 | o::l,n=>outCut l (keyCut o.cond (n+o.cond.length))
def longB (t:TxD):Bool:=if (t.ins.length:Int)+t.outs.length>300 then true else decide (outCut t.outs ((t.ins.length:Int)+t.outs.length+secN t.ins)>400)
def sumS:List TIn→Nat
 | []=>0
 | x::l=>x.secret.length+sumS l
structure Small (t:TxD):Prop where
 n:t.ins.length≤2000000
 m:t.outs.length≤2000000
 s:∀ x,x∈t.ins→x.secret.length≤2000000
 w:sumW t.outs≤2000000
def longTxLS:LS AA where
 X:=TxD
 pre:=Small
 args:=fun t=>[.agg (txRSL t)]
 hin:=fun _=>[]
 res:=fun t=>[.sb 0 (longB t)]
 hout:=fun _=>[]
structure LongI (t:TxD) (i:Nat) (n:Int):Prop where
 le:i≤t.ins.length
 few:(t.ins.length:Int)+t.outs.length≤300
 lo:0≤n
 hi:n≤300+2000000*(i:Int)
 eq:(t.ins.length:Int)+t.outs.length+secN t.ins=n+secN (t.ins.drop i)
structure LongJ (t:TxD) (j:Nat) (n:Int):Prop where
 le:j≤t.outs.length
 few:(t.ins.length:Int)+t.outs.length≤300
 lo:0≤n
 hi:n≤1000000000+10000000*(j:Int)
 eq:outCut t.outs ((t.ins.length:Int)+t.outs.length+secN t.ins)=outCut (t.outs.drop j) n
structure LongK (o:TOut) (m:Int) (i:Nat) (n:Int):Prop where
 le:i≤o.cond.length
 lo:0≤n
 hi:n≤400+2000000∨n≤m
 eq:keyCut o.cond m=keyCut (o.cond.drop i) n
def longTxAnn (t:TxD):Anns AA:=fun k ts _=>if k=6 then some {
  X:=Nat×Int
  inv:=fun x=>LongI t x.1 x.2
  meas:=fun x=>t.ins.length-x.1
  slots:=fun x=>[(4,.int .i64 x.1),(3,.int .i64 x.2)]
  heap:=fun _=>[] }
 else if k=10 then some {
  X:=Nat×Int
  inv:=fun x=>LongJ t x.1 x.2
  meas:=fun x=>t.outs.length-x.1
  slots:=fun x=>[(5,.int .i64 x.1),(3,.int .i64 x.2)]
  heap:=fun _=>[] }
 else (match nth ts 3,nth ts 5 with
  | some (.int _ m),some (.int _ j)=>some {
   X:=Nat×Int
   inv:=fun x=>∀ o:TOut,t.outs[j.toNat]?=some o→LongK o m x.1 x.2
   meas:=fun x=>2000001-x.1
   slots:=fun x=>[(6,.int .i64 x.1),(3,.int .i64 x.2)]
   heap:=fun _=>[] }
  | _,_=>none)
noncomputable def L97:List (Nat×SpecT AA):=(8,tLent longTxLS txRGet)::L96
noncomputable def F97:Eng AA:=EF prog L97
theorem F97_eq:F97=EF prog L97:=by
 unfold F97
 rfl
def giveTxLS:LS AA where
 X:=TxD
 pre:=Small
 args:=fun t=>[.agg (txRSL t)]
 hin:=fun _=>[]
 res:=fun t=>[.agg (.cell (.int .i64 t.lock) (.cell (.vec 0) (.cell (.vec 1) .nil)))]
 hout:=fun t=>[.svec 87 (show List (AA 87) from t.ins),.svec 90 (show List (AA 90) from t.outs)]
def giveTxAnn (t:TxD):Anns AA:=fun k _ sh=>if k=4 then some {
  X:=Nat
  inv:=fun i=>i≤t.ins.length
  meas:=fun i=>t.ins.length-i
  slots:=fun i=>[(4,.int .i64 i)]
  heap:=fun _=>[(2,.cells 36 (.cell (.int .i64 t.lock) (.cell (.vec (cnt sh)) (.cell (.val (.slice none 0 0)) .nil))))]
  more:=fun i=>[.svec 87 (show List (AA 87) from t.ins.take i)] }
 else (match nth sh 2 with
  | some (.cells _ (.cell _ (.cell v _)))=>some {
   X:=Nat
   inv:=fun i=>i≤t.outs.length
   meas:=fun i=>t.outs.length-i
   slots:=fun i=>[(6,.int .i64 i)]
   heap:=fun _=>[(2,.cells 36 (.cell (.int .i64 t.lock) (.cell v (.cell (.vec (cnt sh)) .nil))))]
   more:=fun i=>[.svec 90 (show List (AA 90) from t.outs.take i)] }
  | _=>none)
noncomputable def L98:List (Nat×SpecT AA):=(10,tLent giveTxLS txRGet)::L97
noncomputable def F98:Eng AA:=EF prog L98
theorem F98_eq:F98=EF prog L98:=by
 unfold F98
 rfl
structure Lens (t:TxD):Prop where
 n:t.ins.length≤2000000
 m:t.outs.length≤2000000
 c:∀ o,o∈t.outs→o.cond.length≤2000000
noncomputable def rcheckLS:LS AA where
 X:=TxD
 pre:=Lens
 args:=fun t=>[.agg (txRSL t)]
 hin:=fun _=>[]
 res:=fun t=>[.int .i64 (checkT t)]
 hout:=fun _=>[]
noncomputable def rcheckAnn (t:TxD):Anns AA:=fun k ts _=>if k=5 then some {
  X:=Nat
  inv:=fun i=>i≤t.ins.length∧badIn t.ins 0=badIn (t.ins.drop i) i
  meas:=fun i=>t.ins.length-i
  slots:=fun i=>[(3,.int .i64 i)]
  heap:=fun _=>[] }
 else if k=11 then some {
  X:=Nat
  inv:=fun i=>i≤t.ins.length∧((t.ins.take i).map ptOf).Nodup
  meas:=fun i=>t.ins.length-i
  slots:=fun i=>[(5,.int .i64 i)]
  heap:=fun _=>[] }
 else if k=14 then (match nth ts 5 with
  | some (.int _ i)=>some {
   X:=Nat
   inv:=fun j=>(j:Int)≤i∧∀ x:TIn,t.ins[i.toNat]?=some x→ptOf x∉(t.ins.take j).map ptOf
   meas:=fun j=>i.toNat-j
   slots:=fun j=>[(6,.int .i64 j)]
   heap:=fun _=>[] }
  | _=>none)
 else some {
  X:=Nat
  inv:=fun n=>n≤t.outs.length∧outsE t.outs=outsE (t.outs.drop n)
  meas:=fun n=>t.outs.length-n
  slots:=fun n=>[(7,.int .i64 n)]
  heap:=fun _=>[] }
noncomputable def L99:List (Nat×SpecT AA):=(73,tLent rcheckLS txRGet)::L98
noncomputable def F99:Eng AA:=EF prog L99
theorem F99_eq:F99=EF prog L99:=by
 unfold F99
 rfl
end Go.Proofs.YtcglahfmnoghjaaGreatDoor

/-! A transaction given and checked: the walks hold. Conditions: none. -/
namespace Go.Proofs.YtcglahfmnoghjaaGreatDoor
open Go Go.Eng Go.Proofs.Tryz
def gcondVC:Prop:=∀ (x:List Br),(weight x).le (2000000:Nat)→(∃ x_1,Nat.le x_1 x.length∧((SV.val (A:=AA) (Value.slice none (0:Nat) (0:Nat)):SV AA) =
 SV.val (A:=AA) (Value.slice none (0:Nat) (0:Nat))∧(x_1:Int)=(0:Int))∧((x=x∧True)∧((SV.val (A:=AA) (Value.slice none (0:Nat)
 (0:Nat)):SV AA)=SV.val (A:=AA) (Value.slice none (0:Nat) (0:Nat))∧True)∧True)∧List.take x_1 x=[]∧True)∧∀ (x_1:Nat),x_1.le
 x.length→(x.length:Int)≤(9223372036854775807:Int)→(decide ((x_1:Int)<(x.length:Int))=true→(0:Int)≤(x_1:Int)∧(↑x_1 :
 Int)<(x.length:Int)∧∀ (y:AA (85:Nat)),x[(x_1:Int).toNat]?=some y→(0:Int)≤(x_1:Int)∧(x_1:Int)<(x.length:Int)∧∀
 (y_1:AA (85:Nat)),x[(x_1:Int).toNat]?=some y_1→y_1.keys.length*(8:Nat)≤(140737488355328:Nat)∧y_1.keys.length ≤
 (1152921504606846976:Nat)∧(y_1.keys=y_1.keys∧y.lock=y.lock∧y.after=y.after∧y.older=y.older∧True)∧((List.take x_1 x).length +
 [Br.mk y_1.keys y.lock y.after y.older].length)*(72:Nat)≤(140737488355328:Nat)∧(List.take x_1 x).length+[Br.mk y_1.keys y.lock y.after
 y.older].length≤(1152921504606846976:Nat)∧inI64 ((x_1:Int)+(1:Int))∧∃ y_2,Nat.le y_2 x.length∧x.length-y_2<x.length-x_1∧(True
 ∧ (y_2:Int)=(x_1:Int)+(1:Int))∧((x=x∧True)∧((SV.val (A:=AA) (Value.slice none (0:Nat) (0:Nat)):SV AA)=SV.val (A:=AA)
 (Value.slice none (0:Nat) (0:Nat))∧True)∧True)∧List.take y_2 x=List.take x_1 x++[Br.mk y_1.keys y.lock y.after y.older]∧True)∧(decide
 ((x_1:Int)<(x.length:Int))=false→(x=List.take x_1 x∧True)∧True∧True)
theorem gcond_eq:gcondVC=fnS F95 f37 (bodyOf f37) gcondLS giveAnn:=by kernel_rfl
theorem gcond_vc:gcondVC:=by
 intro bs hw
 have hw:bs.length+sumK bs≤2000000:=hw
 refine ⟨⟨0,Nat.zero_le _,⟨rfl,rfl⟩,⟨⟨rfl,trivial⟩,⟨rfl,trivial⟩,trivial⟩,rfl,trivial⟩,?_⟩
 intro k hk hl
 have hk:k≤bs.length:=hk
 refine ⟨fun h1=>?_,fun h1=>?_⟩
 ·simp only [decide_eq_true_eq] at h1
  refine ⟨by omega,by omega,fun y hy=>⟨by omega,by omega,fun y' hy'=>?_⟩⟩
  have hyy:y=y':=by rw [hy] at hy'; exact Option.some.inj hy'
  subst hyy
  change Br at y
  have hy2:bs[k]?=some y:=by
   have h0:=hy
   rw [Int.toNat_natCast] at h0
   exact h0
  have hkl:=len_weight hy2
  have htl:(bs.take k).length=k:=by rw [List.length_take]; omega
  have hlen:∀ z:Br,((bs.take k).length+[z].length)=k+1:=fun z=>by rw [htl]; rfl
  have h8:y.keys.length≤2000000:=by omega
  have hk300:k<2000000:=by omega
  have hcat:bs.take (k+1)=bs.take k++[show Br from y]:=by
   rw [List.take_add_one,hy2]; rfl
  refine ⟨by omega,by omega,⟨rfl,rfl,rfl,rfl,trivial⟩,?_,?_,by unfold inI64; omega,k+1,Nat.succ_le_of_lt (by omega),by omega,⟨trivial,by omega⟩,⟨⟨rfl,trivial⟩,⟨rfl,trivial⟩,trivial⟩,hcat,trivial⟩
  ·exact Nat.le_trans (Nat.mul_le_mul_right 72 (Nat.le_of_eq (hlen _))) (by omega)
  ·exact Nat.le_trans (Nat.le_of_eq (hlen _)) (by omega)
 ·simp only [decide_eq_false_iff_not] at h1
  exact ⟨⟨(List.take_of_length_le (by omega)).symm,trivial⟩,trivial,trivial⟩
theorem gcond_ok:Fits F95 f37 (bodyOf f37) gcondLS giveAnn:=by
 constructor
 rw [← gcond_eq]
 exact gcond_vc
theorem f64_has:Has prog 37 f37 (bodyOf f37):=⟨by kernel_rfl,by kernel_rfl,by kernel_rfl⟩
theorem known96:Known prog L96:=by
 unfold L96
 exact known95.lent mixed f64_has F95_eq gcond_ok (fun _ _=>Nat.le_refl _) (fun _ _=>rfl)
theorem weight_le:∀ {l:List TOut} {o:TOut},o∈l→weight o.cond≤sumW l
 | x::l,o,h=>by
  simp only [sumW]
  rcases List.mem_cons.1 h with e | h
  ·subst e; omega
  ·have:=weight_le h; omega
theorem keys_le {bs:List Br} {b:Br} (h:b∈bs):b.keys.length≤sumK bs:=by
 obtain ⟨k,hk⟩:=List.getElem?_of_mem h
 exact len_weight hk
theorem Small.cond {t:TxD} (h:Small t) {o:TOut} {j:Nat} (ho:t.outs[j]?=some o):o.cond.length+sumK o.cond≤2000000:=by
 have:=weight_le (List.mem_of_getElem? ho)
 have:=h.w
 unfold weight at *
 omega
theorem tdiv16 {n:Nat} (h:n≤2000000):wr IntKind.i64 ((n:Int).tdiv 16)=(n:Int).tdiv 16∧0≤(n:Int).tdiv 16∧(n:Int).tdiv 16≤2000000:=by
 have h1:(n:Int).tdiv 16=(n:Int) / 16:=Int.tdiv_eq_ediv_of_nonneg (by omega)
 rw [h1]
 refine ⟨wr64 (by unfold inI64; omega),by omega,by omega⟩
def longTxVC:Prop:=∀ (x:TxD),Small x→(x.ins.length:Int)≤(9223372036854775807:Int)→(x.outs.length:Int)≤(9223372036854775807:Int)→inI64
 ((x.ins.length:Int)+(x.outs.length:Int))∧(decide ((x.ins.length:Int)+(x.outs.length:Int)>(300:Int))=true→longB x=true ∧
 True∧True)∧(decide ((x.ins.length:Int)+(x.outs.length:Int)>(300:Int))=false→(∃ (x_1:Nat×Int),LongI x x_1.fst x_1.snd∧((x_1.fst:Int) =
 (0:Int)∧x_1.snd=(x.ins.length:Int)+(x.outs.length:Int))∧((x.lock=x.lock∧x.ins=x.ins∧x.outs=x.outs∧True)∧True)∧True)∧∀
 (x_1:Nat×Int),LongI x x_1.fst x_1.snd→(x.ins.length:Int)≤(9223372036854775807:Int)→(decide ((x_1.fst:Int)<(x.ins.length:Int)) =
 true→(0:Int)≤(x_1.fst:Int)∧(x_1.fst:Int)<(x.ins.length:Int)∧∀ (y:AA (80:Nat)),x.ins[(x_1.fst:Int).toNat]?=some y →
 (y.secret.length:Int)≤(9223372036854775807:Int)→(16:Int)≠(0:Int)∧inI64 (x_1.snd+wr IntKind.i64 ((y.secret.length:Int).tdiv (16 :
 Int)))∧inI64 ((x_1.fst:Int)+(1:Int))∧∃ (y_1:Nat×Int),LongI x y_1.fst y_1.snd∧x.ins.length-y_1.fst<x.ins.length-x_1.fst∧((y_1.fst:Int) =
 (x_1.fst:Int)+(1:Int)∧y_1.snd=x_1.snd+wr IntKind.i64 ((y.secret.length:Int).tdiv (16:Int)))∧((x.lock=x.lock∧x.ins=x.ins ∧
 x.outs=x.outs∧True)∧True)∧True)∧(decide ((x_1.fst:Int)<(x.ins.length:Int))=false→(∃ (x_2:Nat×Int),LongJ x x_2.fst x_2.snd∧((↑x_2.fst :
 Int)=(0:Int)∧x_2.snd=x_1.snd)∧((x.lock=x.lock∧x.ins=x.ins∧x.outs=x.outs∧True)∧True)∧True)∧∀ (x_2:Nat×Int),LongJ x
 x_2.fst x_2.snd→(x.outs.length:Int)≤(9223372036854775807:Int)→(decide ((x_2.fst:Int)<(x.outs.length:Int))=true→(0:Int) ≤
 (x_2.fst:Int)∧(x_2.fst:Int)<(x.outs.length:Int)∧∀ (y:AA (82:Nat)),x.outs[(x_2.fst:Int).toNat]?=some y→(y.cond.length:Int)
 ≤ (9223372036854775807:Int)→inI64 (x_2.snd+(y.cond.length:Int))∧(∃ (x_3:Nat×Int),(∀ (o:TOut),x.outs[(x_2.fst:Int).toNat]?=some o→LongK o
 (x_2.snd+(y.cond.length:Int)) x_3.fst x_3.snd)∧((x_3.fst:Int)=(0:Int)∧x_3.snd=x_2.snd+(y.cond.length:Int))∧((x.lock=x.lock ∧
 x.ins=x.ins∧x.outs=x.outs∧True)∧True)∧True)∧∀ (x_3:Nat×Int),(∀ (o:TOut),x.outs[(x_2.fst:Int).toNat]?=some o→LongK o
 (x_2.snd+(y.cond.length:Int)) x_3.fst x_3.snd)→(0:Int)≤(x_2.fst:Int)∧(x_2.fst:Int)<(x.outs.length:Int)∧∀ (y_1:AA (82:Nat)),x.outs[(x_2.fst:Int).toNat]?=some y_1→(y_1.cond.length:Int)≤(9223372036854775807:Int)→(decide ((x_3.fst:Int) <
 (y_1.cond.length:Int))=true→(decide (x_3.snd<(400:Int))=true→(0:Int)≤(x_2.fst:Int)∧(x_2.fst:Int)<(x.outs.length:Int) ∧
 ∀ (y_2:AA (82:Nat)),x.outs[(x_2.fst:Int).toNat]?=some y_2→(0:Int)≤(x_3.fst:Int)∧(x_3.fst:Int)<(y_2.cond.length:Int)∧∀
 (y_3:AA (85:Nat)),y_2.cond[(x_3.fst:Int).toNat]?=some y_3→(y_3.keys.length:Int)≤(9223372036854775807:Int)→inI64 (x_3.snd +
 (y_3.keys.length:Int))∧inI64 ((x_3.fst:Int)+(1:Int))∧∃ (y_4:Nat×Int),(∀ (o:TOut),x.outs[(x_2.fst:Int).toNat]?=some o→LongK o (x_2.snd +
 (y.cond.length:Int)) y_4.fst y_4.snd)∧(2000001:Nat)-y_4.fst<(2000001:Nat)-x_3.fst∧((y_4.fst:Int)=(x_3.fst:Int)+(1:Int) ∧
 y_4.snd=x_3.snd+(y_3.keys.length:Int))∧((x.lock=x.lock∧x.ins=x.ins∧x.outs=x.outs∧True)∧True)∧True)∧(decide (x_3.snd<(400 :
 Int))=false→inI64 ((x_2.fst:Int)+(1:Int))∧∃ (y:Nat×Int),LongJ x y.fst y.snd∧x.outs.length-y.fst<x.outs.length-x_2.fst∧((y.fst:Int) =
 (x_2.fst:Int)+(1:Int)∧y.snd=x_3.snd)∧((x.lock=x.lock∧x.ins=x.ins∧x.outs=x.outs∧True)∧True)∧True))∧(decide ((↑x_3.fst :
 Int)<(y_1.cond.length:Int))=false→inI64 ((x_2.fst:Int)+(1:Int))∧∃ (y:Nat×Int),LongJ x y.fst y.snd∧x.outs.length-y.fst<x.outs.length -
 x_2.fst∧((y.fst:Int)=(x_2.fst:Int)+(1:Int)∧y.snd=x_3.snd)∧((x.lock=x.lock∧x.ins=x.ins∧x.outs=x.outs∧True)∧True) ∧
 True))∧(decide ((x_2.fst:Int)<(x.outs.length:Int))=false→longB x=decide (x_2.snd>(400:Int))∧True∧True)))
theorem longTx_eq:longTxVC=fnS F96 f8 (bodyOf f8) longTxLS longTxAnn:=by kernel_rfl
theorem longTx_vc:longTxVC:=by
 intro t hs
 have hn:=hs.n
 have hm:=hs.m
 simp only [and_true,decide_eq_true_eq,decide_eq_false_iff_not,Int.toNat_natCast]
 refine fun _ _=>⟨by unfold inI64; omega,fun h=>?_,fun h=>⟨⟨(0,_),⟨Nat.zero_le _,by omega,by omega,by simp only; omega,rfl⟩,rfl,rfl⟩,?_⟩⟩
 ·unfold longB
  rw [if_pos h]
 rintro ⟨i,n⟩ hI _
 simp only at hI ⊢
 refine ⟨fun hlt=>⟨by omega,hlt,fun y hy _=>?_⟩,fun hge=>⟨⟨(0,_),?_,rfl,rfl⟩,?_⟩⟩
 ·have hd:=dropAt (α:=TIn) (y:=y) hy
  obtain ⟨h1,h2,h3⟩:=tdiv16 (hs.s y (List.mem_of_getElem? hy))
  obtain ⟨i1,i2,i3,i4,i5⟩:=hI
  rw [h1]
  rw [hd] at i5
  simp only [secN] at i5
  exact ⟨by decide,by unfold inI64; omega,by unfold inI64; omega,(i+1,_),⟨by simp only; omega,i2,by simp only; omega,by simp only; omega,by simp only; omega⟩,by simp only; omega,by simp only; omega,rfl⟩
 ·obtain ⟨i1,i2,i3,i4,i5⟩:=hI
  rw [List.drop_of_length_le (by omega)] at i5
  simp only [secN] at i5
  exact ⟨Nat.zero_le _,i2,i3,by simp only; omega,by rw [i5]; simp⟩
 rintro ⟨j,n2⟩ hJ _
 simp only at hJ ⊢
 obtain ⟨j1,j2,j3,j4,j5⟩:=hJ
 refine ⟨fun hlt=>⟨by omega,hlt,fun y hy _=>?_⟩,fun hge=>?_⟩
 ·change TOut at y
  have hc:=hs.cond hy
  have hd:=dropAt (α:=TOut) (y:=y) hy
  rw [hd] at j5
  simp only [outCut] at j5
  refine ⟨by unfold inI64; omega,⟨(0,_),fun o ho=>?_,rfl,rfl⟩,?_⟩
  ·have e:y=o:=by rw [hy] at ho; exact Option.some.inj ho
   subst e
   exact ⟨Nat.zero_le _,by simp only; omega,.inr (Int.le_refl _),rfl⟩
  rintro ⟨k,n3⟩ hK
  obtain ⟨k1,k2,k3,k4⟩:=hK y hy
  simp only at k1 k2 k3 k4 ⊢
  have fin:n3=keyCut y.cond (n2+y.cond.length)→inI64 ((j:Int)+1)∧∃ z:Nat×Int,LongJ t z.1 z.2∧t.outs.length-z.1<t.outs.length-j∧(z.1:Int)=(j:Int)+1∧z.2=n3:=fun e=>
   ⟨by unfold inI64; omega,(j+1,n3),⟨by simp only; omega,j2,k2,by simp only; omega,by rw [j5,e]⟩,by simp only; omega,by simp only; omega,rfl⟩
  refine ⟨by omega,hlt,fun y1 hy1 _=>?_⟩
  have e:y=y1:=by rw [hy] at hy1; exact Option.some.inj hy1
  subst e
  refine ⟨fun hk=>⟨fun h4=>⟨by omega,hlt,fun y2 hy2=>?_⟩,fun h4=>?_⟩,fun hk=>?_⟩
  ·have e:y=y2:=by rw [hy] at hy2; exact Option.some.inj hy2
   subst e
   refine ⟨by omega,hk,fun b hb _=>?_⟩
   change Br at b
   have hb2:=keys_le (List.mem_of_getElem? hb)
   have hd2:=dropAt (α:=Br) (y:=b) hb
   refine ⟨by unfold inI64; omega,by unfold inI64; omega,(k+1,_),fun o ho=>?_,by simp only; omega,by simp only; omega,rfl⟩
   have e:y=o:=by rw [hy] at ho; exact Option.some.inj ho
   subst e
   refine ⟨by simp only; omega,by simp only; omega,.inl (by simp only; omega),?_⟩
   rw [k4,hd2]
   simp only [keyCut]
   rw [if_pos h4]
  ·refine fin ?_
   have hk':k<y.cond.length:=by omega
   rw [k4,List.drop_eq_getElem_cons hk']
   simp only [keyCut]
   rw [if_neg h4]
  ·refine fin ?_
   rw [k4,List.drop_of_length_le (by omega)]
   rfl
 ·unfold longB
  rw [if_neg h,j5,List.drop_of_length_le (by omega)]
  rfl
theorem longTx_ok:Fits F96 f8 (bodyOf f8) longTxLS longTxAnn:=by
 constructor
 rw [← longTx_eq]
 exact longTx_vc
theorem f29_has:Has prog 8 f8 (bodyOf f8):=⟨by kernel_rfl,by kernel_rfl,by kernel_rfl⟩
theorem known97:Known prog L97:=by
 unfold L97
 exact known96.lent mixed f29_has F96_eq longTx_ok (fun _ _=>Nat.le_refl _) (fun _ _=>rfl)
end Go.Proofs.YtcglahfmnoghjaaGreatDoor

/-! A transaction given; the document's check; TxChecks: the walks hold. Conditions: none. -/
namespace Go.Proofs.YtcglahfmnoghjaaGreatDoor
open Go Go.Eng Go.Proofs.Tryz
def giveTxVC:Prop:=∀ (x:TxD),Small x→(∃ x_1,Nat.le x_1 x.ins.length∧(x_1:Int)=(0:Int)∧((x.lock=x.lock∧x.ins=x.ins∧x.outs=x.outs∧True)∧((0 :
 Int)=(0:Int)∧(SV.val (A:=AA) (Value.slice none (0:Nat) (0:Nat)):SV AA)=SV.val (A:=AA) (Value.slice none (0:Nat) (0:Nat)) ∧
 (SV.val (A:=AA) (Value.slice none (0:Nat) (0:Nat)):SV AA)=SV.val (A:=AA) (Value.slice none (0:Nat) (0:Nat))∧True)∧(x.lock=x.lock
 ∧ (SV.val (A:=AA) (Value.slice none (0:Nat) (0:Nat)):SV AA)=SV.val (A:=AA) (Value.slice none (0:Nat) (0:Nat))∧(SV.val (A:=AA)
 (Value.slice none (0:Nat) (0:Nat)):SV AA)=SV.val (A:=AA) (Value.slice none (0:Nat) (0:Nat))∧True)∧True)∧List.take x_1 x.ins=[] ∧
 True)∧∀ (x_1:Nat),x_1.le x.ins.length→(x.ins.length:Int)≤(9223372036854775807:Int)→(decide ((x_1:Int)<(x.ins.length:Int)) =
 true→(0:Int)≤(x_1:Int)∧(x_1:Int)<(x.ins.length:Int)∧∀ (y:AA (80:Nat)),x.ins[(x_1:Int).toNat]?=some y→(0:Int) ≤
 (x_1:Int)∧(x_1:Int)<(x.ins.length:Int)∧∀ (y_1:AA (80:Nat)),x.ins[(x_1:Int).toNat]?=some y_1→(0:Int)≤(x_1:Int) ∧
 (x_1:Int)<(x.ins.length:Int)∧∀ (y_2:AA (80:Nat)),x.ins[(x_1:Int).toNat]?=some y_2→y_2.secret.length*(1:Nat) ≤
 (140737488355328:Nat)∧y_2.secret.length≤(1152921504606846976:Nat)∧(y.tx=y.tx∧y.n=y.n∧y_1.branch=y_1.branch∧y_2.secret =
 y_2.secret∧True)∧((List.take x_1 x.ins).length+[TIn.mk y.tx y.n y_1.branch y_2.secret].length)*(72:Nat)≤(140737488355328:Nat) ∧
 (List.take x_1 x.ins).length+[TIn.mk y.tx y.n y_1.branch y_2.secret].length≤(1152921504606846976:Nat)∧inI64 ((x_1:Int)+(1:Int))∧∃ y_3,
 Nat.le y_3 x.ins.length∧x.ins.length-y_3<x.ins.length-x_1∧(y_3:Int)=(x_1:Int)+(1:Int)∧((x.lock=x.lock∧x.ins=x.ins ∧
 x.outs=x.outs∧True)∧((0:Int)=(0:Int)∧(SV.val (A:=AA) (Value.slice none (0:Nat) (0:Nat)):SV AA)=SV.val (A:=AA) (Value.slice
 none (0:Nat) (0:Nat))∧(SV.val (A:=AA) (Value.slice none (0:Nat) (0:Nat)):SV AA)=SV.val (A:=AA) (Value.slice none (0:Nat) (0:Nat))
 ∧ True)∧(x.lock=x.lock∧True∧(SV.val (A:=AA) (Value.slice none (0:Nat) (0:Nat)):SV AA)=SV.val (A:=AA) (Value.slice none (0:Nat) (0
 : Nat))∧True)∧True)∧List.take y_3 x.ins=List.take x_1 x.ins++[TIn.mk y.tx y.n y_1.branch y_2.secret]∧True)∧(decide ((x_1:Int) <
 (x.ins.length:Int))=false→(∃ x_2,Nat.le x_2 x.outs.length∧(x_2:Int)=(0:Int)∧((x.lock=x.lock∧x.ins=x.ins∧x.outs=x.outs ∧
 True)∧((0:Int)=(0:Int)∧(SV.val (A:=AA) (Value.slice none (0:Nat) (0:Nat)):SV AA)=SV.val (A:=AA) (Value.slice none (0:Nat) (0 :
 Nat))∧(SV.val (A:=AA) (Value.slice none (0:Nat) (0:Nat)):SV AA)=SV.val (A:=AA) (Value.slice none (0:Nat) (0:Nat))∧True)∧(x.lock =
 x.lock∧True∧(SV.val (A:=AA) (Value.slice none (0:Nat) (0:Nat)):SV AA)=SV.val (A:=AA) (Value.slice none (0:Nat) (0:Nat))∧True) ∧
 List.take x_1 x.ins=List.take x_1 x.ins∧True)∧List.take x_2 x.outs=[]∧True)∧∀ (x_2:Nat),x_2.le x.outs.length→(x.outs.length:Int) ≤
 (9223372036854775807:Int)→(decide ((x_2:Int)<(x.outs.length:Int))=true→(0:Int)≤(x_2:Int)∧(x_2:Int)<(x.outs.length:Int)
 ∧ ∀ (y:AA (82:Nat)),x.outs[(x_2:Int).toNat]?=some y→(0:Int)≤(x_2:Int)∧(x_2:Int)<(x.outs.length:Int)∧∀ (y_1:AA (82:Nat)),x.outs[(x_2:Int).toNat]?=some y_1→(y_1.cond=y_1.cond∧True)∧True∧(weight y_1.cond).le (2000000:Nat)∧(y.amount=y.amount ∧
 y_1.cond=y_1.cond∧True)∧((List.take x_2 x.outs).length+[TOut.mk y.amount y_1.cond].length)*(32:Nat)≤(140737488355328:Nat)∧(List.take
 x_2 x.outs).length+[TOut.mk y.amount y_1.cond].length≤(1152921504606846976:Nat)∧inI64 ((x_2:Int)+(1:Int))∧∃ y_2,Nat.le y_2
 x.outs.length∧x.outs.length-y_2<x.outs.length-x_2∧(y_2:Int)=(x_2:Int)+(1:Int)∧((x.lock=x.lock∧x.ins=x.ins∧x.outs =
 x.outs∧True)∧((0:Int)=(0:Int)∧SV.val (A:=AA) (Value.slice none (0:Nat) (0:Nat))=SV.val (A:=AA) (Value.slice none (0:Nat) (0 :
 Nat))∧SV.val (A:=AA) (Value.slice none (0:Nat) (0:Nat))=SV.val (A:=AA) (Value.slice none (0:Nat) (0:Nat))∧True)∧(x.lock=x.lock ∧
 True∧True∧True)∧List.take x_1 x.ins=List.take x_1 x.ins∧True)∧List.take y_2 x.outs=List.take x_2 x.outs++[TOut.mk y.amount y_1.cond] ∧
 True)∧(decide ((x_2:Int)<(x.outs.length:Int))=false→(x.lock=x.lock∧True∧True∧True)∧True∧x.ins=List.take x_1 x.ins∧x.outs
 = List.take x_2 x.outs∧True))
theorem giveTx_eq:giveTxVC=fnS F97 f10 (bodyOf f10) giveTxLS giveTxAnn:=by kernel_rfl
theorem giveTx_vc:giveTxVC:=by
 intro t hs
 have hn:=hs.n
 have hm:=hs.m
 simp only [true_and,and_true,decide_eq_true_eq,decide_eq_false_iff_not,Int.toNat_natCast,and_self]
 refine ⟨⟨0,Nat.zero_le _,rfl,rfl⟩,fun i hi _=>⟨fun hlt=>⟨by omega,hlt,fun y hy=>⟨by omega,hlt,fun y1 hy1=>⟨by omega,hlt,fun y2 hy2=>?_⟩⟩⟩,fun hge=>⟨⟨0,Nat.zero_le _,rfl,rfl⟩,fun j hj _=>⟨fun hlt=>⟨by omega,hlt,fun y hy=>⟨by omega,hlt,fun y1 hy1=>?_⟩⟩,fun hge2=>?_⟩⟩⟩⟩
 ·change TIn at y
  change TIn at y1
  change TIn at y2
  have e:y=y1:=by rw [hy] at hy1; exact Option.some.inj hy1
  subst e
  have e:y=y2:=by rw [hy] at hy2; exact Option.some.inj hy2
  subst e
  have hs1:=hs.s y (List.mem_of_getElem? hy)
  have hl:(t.ins.take i).length=i:=by rw [List.length_take]; omega
  have hcat:t.ins.take (i+1)=t.ins.take i++[show TIn from y]:=by
   have hy':t.ins[i]?=some y:=hy
   rw [List.take_add_one,hy']; rfl
  have hi':i<t.ins.length:=by omega
  have h1:(t.ins.take i).length+1≤2000000:=by omega
  exact ⟨by omega,by omega,Nat.le_trans (Nat.mul_le_mul_right 72 h1) (by decide),Nat.le_trans h1 (by decide),by unfold inI64; omega,i+1,hi',by omega,by omega,hcat⟩
 ·change TOut at y
  change TOut at y1
  have e:y=y1:=by rw [hy] at hy1; exact Option.some.inj hy1
  subst e
  have hc:=hs.cond hy
  have hl:(t.outs.take j).length=j:=by rw [List.length_take]; omega
  have hcat:t.outs.take (j+1)=t.outs.take j++[show TOut from y]:=by
   have hy':t.outs[j]?=some y:=hy
   rw [List.take_add_one,hy']; rfl
  have hj':j<t.outs.length:=by omega
  have h1:(t.outs.take j).length+1≤2000000:=by omega
  exact ⟨hc,Nat.le_trans (Nat.mul_le_mul_right 32 h1) (by decide),Nat.le_trans h1 (by decide),by unfold inI64; omega,j+1,hj',by omega,by omega,hcat⟩
 ·exact ⟨(List.take_of_length_le (by omega)).symm,(List.take_of_length_le (by omega)).symm⟩
theorem giveTx_ok:Fits F97 f10 (bodyOf f10) giveTxLS giveTxAnn:=by
 constructor
 rw [← giveTx_eq]
 exact giveTx_vc
theorem f32_has:Has prog 10 f10 (bodyOf f10):=⟨by kernel_rfl,by kernel_rfl,by kernel_rfl⟩
theorem known98:Known prog L98:=by
 unfold L98
 exact known97.lent mixed f32_has F97_eq giveTx_ok (fun _ _=>Nat.zero_le _) (fun _ _=>rfl)
def Odd4 (t:TxD):Prop:=t.lock<0∨t.lock>1099511627776∨someB t.ins.length=false∨someB t.outs.length=false∨badIn t.ins 0≥0
theorem checkT_4 {t:TxD} (h:Odd4 t):checkT t=4:=by
 unfold checkT
 exact if_pos h
theorem checkT_9 {t:TxD} (h:¬Odd4 t) (h2:¬(t.ins.map ptOf).Nodup):checkT t=9:=by
 unfold checkT
 exact (if_neg h).trans (if_pos h2)
theorem checkT_o {t:TxD} (h:¬Odd4 t) (h2:(t.ins.map ptOf).Nodup):checkT t=if outsE t.outs≠0 then outsE t.outs else (totG t.outs 0).2:=by
 unfold checkT
 refine (if_neg h).trans ((if_neg (fun h3=>h3 h2)).trans ?_)
 split<;>rfl
theorem some_out {n:Int} (h:n<1∨n>64):someB n=false:=by
 unfold someB
 simp only [Bool.and_eq_false_imp,decide_eq_true_eq,decide_eq_false_iff_not]
 omega
theorem some_in {n:Int} (h:¬n<1) (h2:¬n>64):someB n=true:=by
 unfold someB
 simp only [Bool.and_eq_true,decide_eq_true_eq]
 omega
theorem inOk_iff {x:TIn}:inOk x=true↔0≤x.n∧x.n<64∧0≤x.branch∧x.branch<8∧(x.secret.length:Int)≤64:=by
 unfold inOk
 simp only [Bool.and_eq_true,decide_eq_true_eq]
def rcheckVC:Prop:=∀ (x:TxD),Lens x→(decide (x.lock<(0:Int))=true→checkT x=(4:Int)∧True∧True)∧(decide (x.lock<(0:Int))=false→(decide
 (x.lock>(1099511627776:Int))=true→checkT x=(4:Int)∧True∧True)∧(decide (x.lock>(1099511627776:Int))=false→(↑x.ins.length :
 Int)≤(9223372036854775807:Int)→(decide ((x.ins.length:Int)<(1:Int))=true→checkT x=(4:Int)∧True∧True)∧(decide ((↑x.ins.length
 : Int)<(1:Int))=false→(x.ins.length:Int)≤(9223372036854775807:Int)→(decide ((x.ins.length:Int)>(64:Int))=true→checkT x=(4
 : Int)∧True∧True)∧(decide ((x.ins.length:Int)>(64:Int))=false→(x.outs.length:Int)≤(9223372036854775807:Int)→(decide
 ((x.outs.length:Int)<(1:Int))=true→checkT x=(4:Int)∧True∧True)∧(decide ((x.outs.length:Int)<(1:Int))=false →
 (x.outs.length:Int)≤(9223372036854775807:Int)→(decide ((x.outs.length:Int)>(64:Int))=true→checkT x=(4:Int)∧True∧True) ∧
 (decide ((x.outs.length:Int)>(64:Int))=false→(∃ (x_1:Nat),(x_1≤x.ins.length∧badIn x.ins (0:Nat)=badIn (List.drop x_1 x.ins) x_1)∧(↑x_1
 : Int)=(0:Int)∧((x.lock=x.lock∧x.ins=x.ins∧x.outs=x.outs∧True)∧True)∧True)∧∀ (x_1:Nat),x_1≤x.ins.length∧badIn x.ins (0 :
 Nat)=badIn (List.drop x_1 x.ins) x_1→(x.ins.length:Int)≤(9223372036854775807:Int)→(decide ((x_1:Int)<(x.ins.length:Int))=true →
 (0:Int)≤(x_1:Int)∧(x_1:Int)<(x.ins.length:Int)∧∀ (y:AA (80:Nat)),x.ins[(x_1:Int).toNat]?=some y→(decide (y.n<(0 :
 Int))=true→checkT x=(4:Int)∧True∧True)∧(decide (y.n<(0:Int))=false→(decide (y.n>(63:Int))=true→checkT x=(4:Int) ∧
 True∧True)∧(decide (y.n>(63:Int))=false→(decide (y.branch<(0:Int))=true→checkT x=(4:Int)∧True∧True)∧(decide (y.branch <
 (0:Int))=false→(decide (y.branch>(7:Int))=true→checkT x=(4:Int)∧True∧True)∧(decide (y.branch>(7:Int))=false →
 (y.secret.length:Int)≤(9223372036854775807:Int)→(decide ((y.secret.length:Int)>(64:Int))=true→checkT x=(4:Int)∧True∧True) ∧
 (decide ((y.secret.length:Int)>(64:Int))=false→inI64 ((x_1:Int)+(1:Int))∧∃ (y:Nat),(y≤x.ins.length∧badIn x.ins (0:Nat)=badIn
 (List.drop y x.ins) y)∧x.ins.length-y<x.ins.length-x_1∧(y:Int)=(x_1:Int)+(1:Int)∧((x.lock=x.lock∧x.ins=x.ins∧x.outs =
 x.outs∧True)∧True)∧True))))))∧(decide ((x_1:Int)<(x.ins.length:Int))=false→(∃ (x_2:Nat),(x_2≤x.ins.length∧(List.map ptOf (List.take
 x_2 x.ins)).Nodup)∧(x_2:Int)=(0:Int)∧((x.lock=x.lock∧x.ins=x.ins∧x.outs=x.outs∧True)∧True)∧True)∧∀ (x_2:Nat),x_2 ≤
 x.ins.length∧(List.map ptOf (List.take x_2 x.ins)).Nodup→(x.ins.length:Int)≤(9223372036854775807:Int)→(decide ((x_2:Int) <
 (x.ins.length:Int))=true→(∃ (x_3:Nat),((x_3:Int)≤(x_2:Int)∧∀ (x_4:TIn),x.ins[(x_2:Int).toNat]?=some x_4→¬ptOf x_4∈List.map ptOf
 (List.take x_3 x.ins))∧(x_3:Int)=(0:Int)∧((x.lock=x.lock∧x.ins=x.ins∧x.outs=x.outs∧True)∧True)∧True)∧∀ (x_3:Nat),((↑x_3
 : Int)≤(x_2:Int)∧∀ (x_4:TIn),x.ins[(x_2:Int).toNat]?=some x_4→¬ptOf x_4∈List.map ptOf (List.take x_3 x.ins))→(decide ((x_3:Int)
 < (x_2:Int))=true→(0:Int)≤(x_2:Int)∧(x_2:Int)<(x.ins.length:Int)∧∀ (y:AA (80:Nat)),x.ins[(x_2:Int).toNat]?=some y
 → (0:Int)≤(x_3:Int)∧(x_3:Int)<(x.ins.length:Int)∧∀ (y_1:AA (80:Nat)),x.ins[(x_3:Int).toNat]?=some y_1→((y.tx==y_1.tx
 && (y.n==y_1.n&&true))=true→checkT x=(9:Int)∧True∧True)∧((y.tx==y_1.tx&&(y.n==y_1.n&&true))=false→inI64 ((x_3:Int) +
 (1:Int))∧∃ (y:Nat),((y:Int)≤(x_2:Int)∧∀ (x_4:TIn),x.ins[(x_2:Int).toNat]?=some x_4→¬ptOf x_4∈List.map ptOf (List.take y x.ins)) ∧
 (x_2:Int).toNat-y<(x_2:Int).toNat-x_3∧(y:Int)=(x_3:Int)+(1:Int)∧((x.lock=x.lock∧x.ins=x.ins∧x.outs=x.outs∧True)
 ∧ True)∧True))∧(decide ((x_3:Int)<(x_2:Int))=false→inI64 ((x_2:Int)+(1:Int))∧∃ (y:Nat),(y≤x.ins.length∧(List.map ptOf
 (List.take y x.ins)).Nodup)∧x.ins.length-y<x.ins.length-x_2∧(y:Int)=(x_2:Int)+(1:Int)∧((x.lock=x.lock∧x.ins=x.ins ∧
 x.outs=x.outs∧True)∧True)∧True))∧(decide ((x_2:Int)<(x.ins.length:Int))=false→(∃ (x_3:Nat),(x_3≤x.outs.length∧outsE x.outs=outsE
 (List.drop x_3 x.outs))∧(x_3:Int)=(0:Int)∧((x.lock=x.lock∧x.ins=x.ins∧x.outs=x.outs∧True)∧True)∧True)∧∀ (x_3:Nat),x_3 ≤
 x.outs.length∧outsE x.outs=outsE (List.drop x_3 x.outs)→(x.outs.length:Int)≤(9223372036854775807:Int)→(decide ((x_3:Int) <
 (x.outs.length:Int))=true→(0:Int)≤(x_3:Int)∧(x_3:Int)<(x.outs.length:Int)∧∀ (y:AA (82:Nat)),x.outs[(x_3:Int).toNat]?
 = some y→(decide (y.amount<(10:Int))=true→checkT x=(27:Int)∧True∧True)∧(decide (y.amount<(10:Int))=false→(0:Int)≤(↑x_3
 : Int)∧(x_3:Int)<(x.outs.length:Int)∧∀ (y:AA (82:Nat)),x.outs[(x_3:Int).toNat]?=some y→(decide (y.amount>(1125899906842624 :
 Int))=true→checkT x=(5:Int)∧True∧True)∧(decide (y.amount>(1125899906842624:Int))=false→(0:Int)≤(x_3:Int)∧(x_3:Int) <
 (x.outs.length:Int)∧∀ (y:AA (82:Nat)),x.outs[(x_3:Int).toNat]?=some y→y.cond.length.le (9223372036854775807:Nat)∧(((bif fineB
 y.cond then (0:Int) else (1:Int)) != (0:Int))=true→(checkT x=bif fineB y.cond then (0:Int) else (1:Int))∧True∧True)∧(((bif fineB
 y.cond then (0:Int) else (1:Int)) != (0:Int))=false→inI64 ((x_3:Int)+(1:Int))∧∃ (y:Nat),(y≤x.outs.length∧outsE x.outs=outsE
 (List.drop y x.outs))∧x.outs.length-y<x.outs.length-x_3∧(y:Int)=(x_3:Int)+(1:Int)∧((x.lock=x.lock∧x.ins=x.ins∧x.outs =
 x.outs∧True)∧True)∧True))))∧(decide ((x_3:Int)<(x.outs.length:Int))=false→(x.lock=x.lock∧x.ins=x.ins∧x.outs=x.outs ∧
 True)∧True∧True∧checkT x=(totG x.outs (0:Int)).snd∧True∧True)))))))))
theorem rcheck_eq:rcheckVC=fnS F98 f73 (bodyOf f73) rcheckLS rcheckAnn:=by kernel_rfl
theorem rcheck_vc:rcheckVC:=by
 intro t hs
 have hn:=hs.n
 have hm:=hs.m
 simp only [true_and,and_true,decide_eq_true_eq,decide_eq_false_iff_not,Int.toNat_natCast]
 refine ⟨fun h=>checkT_4 (.inl h),fun a1=>⟨fun h=>checkT_4 (.inr (.inl h)),fun a2 _=>⟨fun h=>checkT_4 (.inr (.inr (.inl (some_out (.inl h))))),fun a3 _=>⟨fun h=>checkT_4 (.inr (.inr (.inl (some_out (.inr h))))),
  fun a4 _=>⟨fun h=>checkT_4 (.inr (.inr (.inr (.inl (some_out (.inl h)))))),fun a5 _=>⟨fun h=>checkT_4 (.inr (.inr (.inr (.inl (some_out (.inr h)))))),fun a6=>?_⟩⟩⟩⟩⟩⟩
 refine ⟨⟨0,⟨Nat.zero_le _,rfl⟩,rfl⟩,fun i hi _=>⟨fun hlt=>⟨by omega,hlt,fun y hy=>?_⟩,fun hge=>?_⟩⟩
 ·change TIn at y
  have hd:=dropAt (α:=TIn) (y:=y) hy
  have hb:=hi.2
  rw [hd] at hb
  simp only [badIn] at hb
  have bad:¬inOk y=true→checkT t=4:=fun h=>by
   rw [if_neg h] at hb
   exact checkT_4 (.inr (.inr (.inr (.inr (by rw [hb]; omega)))))
  refine ⟨fun h=>bad (by rw [inOk_iff]; omega),fun b1=>⟨fun h=>bad (by rw [inOk_iff]; omega),fun b2=>⟨fun h=>bad (by rw [inOk_iff]; omega),fun b3=>⟨fun h=>bad (by rw [inOk_iff]; omega),fun b4 _=>⟨fun h=>bad (by rw [inOk_iff]; omega),fun b5=>
   ⟨by unfold inI64; omega,i+1,⟨by omega,?_⟩,by omega,by omega⟩⟩⟩⟩⟩⟩
  rw [hb,if_pos (by rw [inOk_iff]; omega)]
 have hb:badIn t.ins 0 = -1:=by
  rw [hi.2,List.drop_of_length_le (by omega)]
  rfl
 have first:¬Odd4 t:=by
  rintro (h | h | h | h | h)
  ·exact a1 h
  ·exact a2 h
  ·rw [some_in a3 a4] at h; cases h
  ·rw [some_in a5 a6] at h; cases h
  ·omega
 refine ⟨⟨0,⟨Nat.zero_le _,by simp⟩,rfl⟩,fun i2 hi2 _=>⟨fun hlt=>?_,fun hge2=>?_⟩⟩
 ·have hl2:i2<t.ins.length:=by omega
  refine ⟨⟨0,⟨by omega,fun x _=>by simp⟩,rfl⟩,fun j hj=>⟨fun hlt2=>⟨by omega,hlt,fun y hy=>⟨by omega,by omega,fun y1 hy1=>⟨fun heq=>?_,fun hne=>?_⟩⟩⟩,fun hge3=>?_⟩⟩
  ·change TIn at y
   change TIn at y1
   refine checkT_9 first fun hnd=>?_
   have hp:ptOf y=ptOf y1:=by
    simp only [Bool.and_eq_true,beq_iff_eq,and_true] at heq
    unfold ptOf
    rw [heq.1,heq.2]
   have hy':t.ins[i2]?=some y:=hy
   have hy1':t.ins[j]?=some y1:=hy1
   have hjl:j<t.ins.length:=by omega
   have h1:=List.pairwise_iff_getElem.1 hnd j i2 (by simpa using hjl) (by simpa using hl2) (by omega)
   rw [List.getElem?_eq_getElem hl2] at hy'
   rw [List.getElem?_eq_getElem hjl] at hy1'
   rw [List.getElem_map,List.getElem_map,Option.some.inj hy',Option.some.inj hy1'] at h1
   exact h1 hp.symm
  ·change TIn at y
   change TIn at y1
   refine ⟨by unfold inI64; omega,j+1,⟨by omega,fun x hx=>?_⟩,by omega,by omega⟩
   have e:y=x:=by
    have hy':t.ins[i2]?=some y:=hy
    rw [hy'] at hx
    exact Option.some.inj hx
   subst e
   have hy1':t.ins[j]?=some y1:=hy1
   rw [List.take_add_one,hy1',List.map_append,List.mem_append]
   rintro (h | h)
   ·exact hj.2 y hx h
   ·simp only [Option.toList_some,List.map_cons,List.map_nil,List.mem_singleton] at h
    simp only [ptOf,Pt.mk.injEq] at h
    simp [h.1,h.2] at hne
  ·refine ⟨by unfold inI64; omega,i2+1,⟨by omega,?_⟩,by omega,by omega⟩
   have hij:j=i2:=by omega
   subst hij
   have hx:t.ins[j]?=some t.ins[j]:=List.getElem?_eq_getElem hl2
   rw [List.take_add_one,hx,List.map_append,List.nodup_append]
   refine ⟨hi2.2,by simp,fun p hp q hq e=>?_⟩
   simp only [Option.toList_some,List.map_cons,List.map_nil,List.mem_singleton] at hq
   subst e
   rw [hq] at hp
   exact hj.2 _ hx hp
 have hnd:(t.ins.map ptOf).Nodup:=by
  have:=hi2.2
  rwa [List.take_of_length_le (by omega)] at this
 have hout:=checkT_o first hnd
 refine ⟨⟨0,⟨Nat.zero_le _,rfl⟩,rfl⟩,fun k hk _=>⟨fun hlt=>⟨by omega,hlt,fun y hy=>?_⟩,fun hge4=>?_⟩⟩
 ·change TOut at y
  have hd:=dropAt (α:=TOut) (y:=y) hy
  have ho:=hk.2
  rw [hd] at ho
  simp only [outsE] at ho
  have bad:outE y≠0→checkT t=outE y:=fun h=>by
   rw [if_neg h] at ho
   rw [hout,ho,if_pos h]
  refine ⟨fun h=>?_,fun c1=>⟨by omega,hlt,fun y2 hy2=>?_⟩⟩
  ·have:outE y=27:=by unfold outE; rw [if_pos h]
   rw [bad (by rw [this]; decide),this]
  have e:y=y2:=by rw [hy] at hy2; exact Option.some.inj hy2
  subst e
  refine ⟨fun h=>?_,fun c2=>⟨by omega,hlt,fun y2 hy2=>?_⟩⟩
  ·have:outE y=5:=by unfold outE; rw [if_neg c1,if_pos h]
   rw [bad (by rw [this]; decide),this]
  have e:y=y2:=by rw [hy] at hy2; exact Option.some.inj hy2
  subst e
  have hce:outE y=checkN y.cond:=by unfold outE; rw [if_neg c1,if_neg c2]
  have hc:=hs.c y (List.mem_of_getElem? hy)
  refine ⟨Nat.le_trans hc (by decide),fun h=>?_,fun h=>⟨by unfold inI64; omega,k+1,⟨by omega,?_⟩,by omega,by omega⟩⟩
  ·have h':outE y≠0:=by rw [hce]; simpa [checkN] using h
   rw [bad h',hce]
   rfl
  ·have h':outE y=0:=by rw [hce]; simpa [checkN] using h
   rw [ho,if_pos h']
 ·rw [hout,hk.2,List.drop_of_length_le (by omega)]
  rfl
theorem rcheck_ok:Fits F98 f73 (bodyOf f73) rcheckLS rcheckAnn:=by
 constructor
 rw [← rcheck_eq]
 exact rcheck_vc
theorem f36_has:Has prog 73 f73 (bodyOf f73):=⟨by kernel_rfl,by kernel_rfl,by kernel_rfl⟩
theorem known99:Known prog L99:=by
 unfold L99
 exact known98.lent mixed f36_has F98_eq rcheck_ok (fun _ _=>Nat.le_refl _) (fun _ _=>rfl)
theorem Small.lens {t:TxD} (h:Small t):Lens t where
 n:=h.n
 m:=h.m
 c:=fun o ho=>by
  have:=weight_le ho
  have:=h.w
  unfold weight at *
  omega
end Go.Proofs.YtcglahfmnoghjaaGreatDoor

/-! A transaction's bytes; TxSecrets: what is said of them. Conditions: none. -/
namespace Go.Proofs.YtcglahfmnoghjaaGreatDoor
open Go Go.Eng Go.Proofs.Tryz
/-- What a closure hands back: the secret. -/
def shownLS:LS AA where
 X:=TIn
 pre:=fun _=>True
 args:=fun x=>[.agg (tinSL x)]
 hin:=fun _=>[]
 res:=fun x=>[.rints .u8 x.secret]
 hout:=fun _=>[]
noncomputable def L110:List (Nat×SpecT AA):=(77,tLent shownLS tinGet)::L99
noncomputable def F110:Eng AA:=EF prog L110
theorem F110_eq:F110=EF prog L110:=by
 unfold F110
 rfl
noncomputable def L111:List (Nat×SpecT AA):=(75,tInline F110 f75 (bodyOf f75) tputAnn)::L110
noncomputable def F111:Eng AA:=EF prog L111
theorem F111_eq:F111=EF prog L111:=by
 unfold F111
 rfl
structure EncOk (t:TxD):Prop extends TxOk t where
 s:sumS t.ins≤3000000
noncomputable def encLS:LS AA where
 X:=TxD
 pre:=EncOk
 args:=fun t=>[.agg (txSL t)]
 hin:=fun _=>[]
 res:=fun _=>[.vec 0]
 hout:=fun t=>[.ivec 5 .u8 (putTx (fun x=>x.secret) t)]
noncomputable def L112:List (Nat×SpecT AA):=(32,tLent encLS txGet)::L111
structure SecX where
 t:TxD
 n:Int
 s:List Int
structure SecX.Ok (x:SecX):Prop extends Small x.t,TxOk x.t where
 sum:sumS x.t.ins≤2000000
 bytes:∀ y,y∈x.t.ins→Byt y.secret
end Go.Proofs.YtcglahfmnoghjaaGreatDoor

/-! A transaction's bytes: the walk holds. Conditions: none. -/
namespace Go.Proofs.YtcglahfmnoghjaaGreatDoor
open Go Go.Eng Go.Proofs.Tryz
def shownVC:Prop:=∀ (x:TIn),True→x.secret=x.secret∧True∧True
theorem shown_eq:shownVC=fnS F99 f77 (bodyOf f77) shownLS noAnn:=by kernel_rfl
theorem shown_ok:Fits F99 f77 (bodyOf f77) shownLS noAnn:=by
 constructor
 rw [← shown_eq]
 exact fun _ _=>⟨rfl,trivial,trivial⟩
theorem f72_has:Has prog 77 f77 (bodyOf f77):=⟨by kernel_rfl,by kernel_rfl,by kernel_rfl⟩
theorem known110:Known prog L110:=by
 unfold L110
 exact known99.lent mixed f72_has F99_eq shown_ok (fun _ _=>Nat.le_refl _) (fun _ _=>rfl)
theorem known111:Known prog L111:=by
 unfold L111
 exact known110.inl mixed f70_has F110_eq (by rfl)
def eA2 (x:TxD) (k:Nat):List Int:=tA1 x++insB (secOf (77:Nat)) (List.take k x.ins)
def eA3 (x:TxD) (k:Nat) (y:TIn):List Int:=eA2 x k++y.tx
def eA4 (x:TxD) (k:Nat) (y:TIn):List Int:=eA3 x k y++uintB (wr IntKind.u64 y.n)
def eA5 (x:TxD) (k:Nat) (y:TIn):List Int:=eA4 x k y++uintB (wr IntKind.u64 y.branch)
def eA6 (x:TxD) (k:Nat):List Int:=eA2 x k++uintB (wr IntKind.u64 (x.outs.length:Int))
def eA7 (x:TxD) (k i:Nat):List Int:=eA6 x k++toutsB (List.take i x.outs)
def eH (x:TxD):Prop:=((x.lock=x.lock∧x.ins=x.ins∧x.outs=x.outs∧True)∧(x.lock=x.lock∧x.ins=x.ins∧x.outs=x.outs∧True)∧(True∧True)∧True)
def eH2 (x:TxD) (k:Nat):Prop:=((x.lock=x.lock∧x.ins=x.ins∧x.outs=x.outs∧True)∧(x.lock=x.lock∧x.ins=x.ins∧x.outs=x.outs∧True)∧(True∧True)∧eA6 x k=eA6 x k∧True)
theorem eH_ok (x:TxD):eH x:=⟨⟨rfl,rfl,rfl,trivial⟩,⟨rfl,rfl,rfl,trivial⟩,⟨trivial,trivial⟩,trivial⟩
theorem eH2_ok (x:TxD) (k:Nat):eH2 x k:=⟨⟨rfl,rfl,rfl,trivial⟩,⟨rfl,rfl,rfl,trivial⟩,⟨trivial,trivial⟩,rfl,trivial⟩
def eF (x:TxD) (k:Nat) (y:TIn):Prop:=inI64 ((k:Int)+(1:Int))∧∃ y_1,Nat.le y_1 x.ins.length∧x.ins.length-y_1<x.ins.length-k∧(y_1:Int)=(k:Int)+(1:Int)∧eH x∧tA1 x++insB (secOf (77:Nat)) (List.take y_1 x.ins)=eA5 x k y++bytesB y.secret∧True
def eG (x:TxD) (k:Nat) (y:TIn):Prop:=(y.tx=y.tx∧y.n=y.n∧y.branch=y.branch∧y.secret=y.secret∧True)∧True∧True∧(True∧y.secret=y.secret)∧((True∧True)∧eA5 x k y=eA5 x k y∧True)∧(BB.mk (eA5 x k y) y.secret).Ok∧eF x k y
def eK (x:TxD) (k:Nat) (y:TIn):Prop:=(True∧wr IntKind.u64 y.branch=wr IntKind.u64 y.branch)∧((True∧True)∧eA4 x k y=eA4 x k y∧True)∧(BN.mk (eA4 x k y) (wr IntKind.u64 y.branch)).Low∧eG x k y
def eL (x:TxD) (k:Nat) (y:TIn):Prop:=(True∧wr IntKind.u64 y.n=wr IntKind.u64 y.n)∧((True∧True)∧eA3 x k y=eA3 x k y∧True)∧(BN.mk (eA3 x k y) (wr IntKind.u64 y.n)).Low∧eK x k y
def eM (x:TxD) (k i:Nat) (y:TOut):Prop:=((eA7 x k i).length+(tA8 y).length)*(1:Nat)≤(140737488355328:Nat)∧(eA7 x k i).length+(tA8 y).length≤(1152921504606846976:Nat)∧(eA7 x k i++(tA8 y)=eA7 x k i++(tA8 y)∧y.cond=y.cond∧True)∧True∧(PutX.mk (eA7 x k i++(tA8 y)) y.cond).Ok∧inI64 ((i:Int)+(1:Int))∧∃ y_1,Nat.le y_1 x.outs.length∧x.outs.length-y_1<x.outs.length-i∧((y_1:Int)=(i:Int)+(1:Int)∧True)∧eH2 x k∧eA6 x k++toutsB (List.take y_1 x.outs)=eA7 x k i++(tA8 y)++putB y.cond∧True
def eBody (x:TxD):Prop:=((x.ins.length:Int)≤(9223372036854775807:Int)→(∃ x_1,Nat.le x_1 x.ins.length∧(x_1:Int)=(0:Int)∧eH x∧eA2 x x_1=tA1 x∧True) ∧
 ∀ (x_1:Nat),x_1.le x.ins.length→(decide ((x_1:Int)<(x.ins.length:Int))=true→(0:Int)≤(x_1:Int)∧(x_1:Int)<(↑x.ins.length :
 Int)∧∀ (y:AA (87:Nat)),x.ins[(x_1:Int).toNat]?=some y→((True∧y.tx=y.tx∧True)∧((True∧True)∧eA2 x x_1=eA2 x x_1∧True) ∧
 (BH.mk (eA2 x x_1) y.tx).Ok∧((True∧wr IntKind.u64 y.n=wr IntKind.u64 y.n)∧((True∧True)∧eA3 x x_1 y=eA3 x x_1 y∧True)∧(BN.mk (eA3 x
 x_1 y) (wr IntKind.u64 y.n)).Low∧(eK x x_1 y)∧eK x x_1 y)∧(((True∧wr IntKind.u64 y.n=wr IntKind.u64 y.n)∧((True∧True)∧eA3 x x_1 y=eA3
 x x_1 y∧True)∧(BN.mk (eA3 x x_1 y) (wr IntKind.u64 y.n)).Low∧(eK x x_1 y)∧eK x x_1 y)∧eL x x_1 y)∧(eL x x_1 y)∧eL x x_1 y)∧(((True ∧
 y.tx=y.tx∧True)∧((True∧True)∧eA2 x x_1=eA2 x x_1∧True)∧(BH.mk (eA2 x x_1) y.tx).Ok∧((True∧wr IntKind.u64 y.n=wr IntKind.u64 y.n)
 ∧ ((True∧True)∧eA3 x x_1 y=eA3 x x_1 y∧True)∧(BN.mk (eA3 x x_1 y) (wr IntKind.u64 y.n)).Low∧(eK x x_1 y)∧eK x x_1 y)∧(((True∧wr
 IntKind.u64 y.n=wr IntKind.u64 y.n)∧((True∧True)∧eA3 x x_1 y=eA3 x x_1 y∧True)∧(BN.mk (eA3 x x_1 y) (wr IntKind.u64 y.n)).Low∧(eK x x_1
 y)∧eK x x_1 y)∧eL x x_1 y)∧(eL x x_1 y)∧eL x x_1 y)∧(((True∧y.tx=y.tx∧True)∧((True∧True)∧eA2 x x_1=eA2 x x_1∧True)∧(BH.mk
 (eA2 x x_1) y.tx).Ok∧((True∧wr IntKind.u64 y.n=wr IntKind.u64 y.n)∧((True∧True)∧eA3 x x_1 y=eA3 x x_1 y∧True)∧(BN.mk (eA3 x x_1 y)
 (wr IntKind.u64 y.n)).Low∧(eK x x_1 y)∧eK x x_1 y)∧eL x x_1 y)∧(True∧y.tx=y.tx∧True)∧((True∧True)∧eA2 x x_1=eA2 x x_1∧True) ∧
 (BH.mk (eA2 x x_1) y.tx).Ok∧eL x x_1 y)∧((True∧y.tx=y.tx∧True)∧((True∧True)∧eA2 x x_1=eA2 x x_1∧True)∧(BH.mk (eA2 x x_1) y.tx).Ok
 ∧ (eL x x_1 y)∧eL x x_1 y)∧(True∧y.tx=y.tx∧True)∧((True∧True)∧eA2 x x_1=eA2 x x_1∧True)∧(BH.mk (eA2 x x_1) y.tx).Ok∧eL x x_1 y)
 ∧ (((True∧y.tx=y.tx∧True)∧((True∧True)∧eA2 x x_1=eA2 x x_1∧True)∧(BH.mk (eA2 x x_1) y.tx).Ok∧((True∧wr IntKind.u64 y.n=wr
 IntKind.u64 y.n)∧((True∧True)∧eA3 x x_1 y=eA3 x x_1 y∧True)∧(BN.mk (eA3 x x_1 y) (wr IntKind.u64 y.n)).Low∧(eK x x_1 y)∧eK x x_1 y) ∧
 eL x x_1 y)∧(((True∧y.tx=y.tx∧True)∧((True∧True)∧eA2 x x_1=eA2 x x_1∧True)∧(BH.mk (eA2 x x_1) y.tx).Ok∧((True∧wr IntKind.u64
 y.n=wr IntKind.u64 y.n)∧((True∧True)∧eA3 x x_1 y=eA3 x x_1 y∧True)∧(BN.mk (eA3 x x_1 y) (wr IntKind.u64 y.n)).Low∧(eK x x_1 y)∧eK x
 x_1 y)∧eL x x_1 y)∧(True∧y.tx=y.tx∧True)∧((True∧True)∧eA2 x x_1=eA2 x x_1∧True)∧(BH.mk (eA2 x x_1) y.tx).Ok∧eL x x_1 y) ∧
 ((True∧y.tx=y.tx∧True)∧((True∧True)∧eA2 x x_1=eA2 x x_1∧True)∧(BH.mk (eA2 x x_1) y.tx).Ok∧eL x x_1 y)∧(True∧y.tx=y.tx∧True)
 ∧ ((True∧True)∧eA2 x x_1=eA2 x x_1∧True)∧(BH.mk (eA2 x x_1) y.tx).Ok∧eL x x_1 y)∧((True∧y.tx=y.tx∧True)∧((True∧True)∧eA2 x
 x_1=eA2 x x_1∧True)∧(BH.mk (eA2 x x_1) y.tx).Ok∧(eL x x_1 y)∧eL x x_1 y)∧(((True∧y.tx=y.tx∧True)∧((True∧True)∧eA2 x x_1=eA2 x
 x_1∧True)∧(BH.mk (eA2 x x_1) y.tx).Ok∧(eL x x_1 y)∧eL x x_1 y)∧(True∧y.tx=y.tx∧True)∧((True∧True)∧eA2 x x_1=eA2 x x_1∧True) ∧
 (BH.mk (eA2 x x_1) y.tx).Ok∧eL x x_1 y)∧((True∧y.tx=y.tx∧True)∧((True∧True)∧eA2 x x_1=eA2 x x_1∧True)∧(BH.mk (eA2 x x_1) y.tx).Ok
 ∧ eL x x_1 y)∧(True∧y.tx=y.tx∧True)∧((True∧True)∧eA2 x x_1=eA2 x x_1∧True)∧(BH.mk (eA2 x x_1) y.tx).Ok∧eL x x_1 y)∧(decide
 ((x_1:Int)<(x.ins.length:Int))=false→(x.outs.length:Int)≤(9223372036854775807:Int)→(True∧wr IntKind.u64 (x.outs.length:Int) =
 wr IntKind.u64 (x.outs.length:Int))∧((True∧True)∧eA2 x x_1=eA2 x x_1∧True)∧(BN.mk (eA2 x x_1) (wr IntKind.u64 (↑x.outs.length :
 Int))).Low∧True∧((True∧True)∧eA6 x x_1=eA6 x x_1∧True)∧(eA6 x x_1).length.le (1099511627776:Nat)∧((x.outs.length:Int) ≤
 (9223372036854775807:Int)→(∃ x_2,Nat.le x_2 x.outs.length∧((x_2:Int)=(0:Int)∧True)∧eH2 x x_1∧eA7 x x_1 x_2=eA6 x x_1∧True)∧∀
 (x_2:Nat),x_2.le x.outs.length→(decide ((x_2:Int)<(x.outs.length:Int))=true→(0:Int)≤(x_2:Int)∧(x_2:Int)<(↑x.outs.length
 : Int)∧∀ (y:AA (90:Nat)),x.outs[(x_2:Int).toNat]?=some y→(True∧True∧True∧((True∧wr IntKind.u64 y.amount=wr IntKind.u64
 y.amount)∧((SV.val (A:=AA) (Value.slice none (0:Nat) (0:Nat))=SV.val (A:=AA) (Value.slice none (0:Nat) (0:Nat))∧True)∧([]:List
 Int)=[]∧True)∧(BN.mk [] (wr IntKind.u64 y.amount)).Low∧(True∧((True∧True)∧tA8 y=tA8 y∧True)∧(tA8 y).length.le (1099511627776:Nat)
 ∧ (eM x x_1 x_2 y)∧eM x x_1 x_2 y)∧True∧((True∧True)∧tA8 y=tA8 y∧True)∧(tA8 y).length.le (1099511627776:Nat)∧eM x x_1 x_2 y) ∧
 (True∧wr IntKind.u64 y.amount=wr IntKind.u64 y.amount)∧((SV.val (A:=AA) (Value.slice none (0:Nat) (0:Nat))=SV.val (A:=AA) (Value.slice
 none (0:Nat) (0:Nat))∧True)∧([]:List Int)=[]∧True)∧(BN.mk [] (wr IntKind.u64 y.amount)).Low∧True∧((True∧True)∧tA8 y=tA8 y ∧
 True)∧(tA8 y).length.le (1099511627776:Nat)∧eM x x_1 x_2 y)∧True∧True∧True∧(True∧wr IntKind.u64 y.amount=wr IntKind.u64 y.amount) ∧
 ((SV.val (A:=AA) (Value.slice none (0:Nat) (0:Nat))=SV.val (A:=AA) (Value.slice none (0:Nat) (0:Nat))∧True)∧([]:List Int)=[] ∧
 True)∧(BN.mk [] (wr IntKind.u64 y.amount)).Low∧True∧((True∧True)∧tA8 y=tA8 y∧True)∧(tA8 y).length.le (1099511627776:Nat)∧eM x x_1
 x_2 y)∧(decide ((x_2:Int)<(x.outs.length:Int))=false→True∧True∧putTx (fun x=>x.secret) x=eA7 x x_1 x_2∧True))))
def tencVC:Prop:=∀ (x:TxD),EncOk x→(True∧True∧True∧((True∧wr IntKind.u64 x.lock=wr IntKind.u64 x.lock)∧(((SV.val (A:=AA) (Value.slice none (0:Nat)
 (0:Nat)):SV AA)=SV.val (A:=AA) (Value.slice none (0:Nat) (0:Nat))∧True)∧([]:List Int)=[]∧True)∧(BN.mk [] (wr IntKind.u64
 x.lock)).Low∧((x.ins.length:Int)≤(9223372036854775807:Int)→(True∧wr IntKind.u64 (x.ins.length:Int)=wr IntKind.u64 (↑x.ins.length :
 Int))∧((True∧True)∧tA0 x=tA0 x∧True)∧(BN.mk (tA0 x) (wr IntKind.u64 (x.ins.length:Int))).Low∧eBody x))∧((x.ins.length:Int) ≤
 (9223372036854775807:Int)→(True∧wr IntKind.u64 x.lock=wr IntKind.u64 x.lock)∧(((SV.val (A:=AA) (Value.slice none (0:Nat) (0:Nat)):SV
 AA)=SV.val (A:=AA) (Value.slice none (0:Nat) (0:Nat))∧True)∧([]:List Int)=[]∧True)∧(BN.mk [] (wr IntKind.u64 x.lock)).Low∧(True ∧
 wr IntKind.u64 (x.ins.length:Int)=wr IntKind.u64 (x.ins.length:Int))∧((True∧True)∧tA0 x=tA0 x∧True)∧(BN.mk (tA0 x) (wr IntKind.u64
 (x.ins.length:Int))).Low∧eBody x))∧((x.ins.length:Int)≤(9223372036854775807:Int)→True∧True∧True∧(True∧wr IntKind.u64 x.lock =
 wr IntKind.u64 x.lock)∧(((SV.val (A:=AA) (Value.slice none (0:Nat) (0:Nat)):SV AA)=SV.val (A:=AA) (Value.slice none (0:Nat) (0:Nat))
 ∧ True)∧([]:List Int)=[]∧True)∧(BN.mk [] (wr IntKind.u64 x.lock)).Low∧(True∧wr IntKind.u64 (x.ins.length:Int)=wr IntKind.u64
 (x.ins.length:Int))∧((True∧True)∧tA0 x=tA0 x∧True)∧(BN.mk (tA0 x) (wr IntKind.u64 (x.ins.length:Int))).Low∧eBody x)
theorem tenc_eq:tencVC=fnS F111 f32 (bodyOf f32) encLS noAnn:=by kernel_rfl
theorem insS_le:∀ {l:List TIn},(∀ x,x∈l→x.tx.length=32)→(insB (secOf 77) l).length≤52*l.length+2*sumS l
 | [],_=>by simp [insB]
 | x::l,h=>by
  have h1:=insS_le (l:=l) (fun y hy=>h y (List.mem_cons_of_mem _ hy))
  have h2:=h x List.mem_cons_self
  have h3:=uintB_le x.n
  have h4:=uintB_le x.branch
  have h5:=stuffB_le x.secret
  have e:secOf 77 x=x.secret:=rfl
  simp only [insB,inB,bytesB,e,sumS,List.length_append,List.length_cons,List.length_nil]
  omega
theorem insS_take_le {l:List TIn} (h:∀ x,x∈l→x.tx.length=32) (i:Nat):(insB (secOf 77) (l.take i)).length≤52*l.length+2*sumS l:=by
 have h1:=insS_le h
 have h2:=congrArg (fun x=>(insB (secOf 77) x).length) (List.take_append_drop i l)
 simp only [insB_app,List.length_append] at h2
 omega
theorem sec_le:∀ {l:List TIn} {x:TIn},x∈l→x.secret.length≤sumS l
 | y::l,x,h=>by
  simp only [sumS]
  rcases List.mem_cons.1 h with rfl | h
  ·omega
  ·have:=sec_le h; omega
theorem eA2_le {x:TxD} (h:EncOk x) (k:Nat):(eA2 x k).length≤18+(52*x.ins.length+2*sumS x.ins):=by
 have h1:=tA1_le x
 have h2:=insS_take_le (fun y hy=>(h.tx y hy).1) k
 simp only [eA2,List.length_append]
 omega
theorem eA6_le {x:TxD} (h:EncOk x) (k:Nat):(eA6 x k).length≤27+(52*x.ins.length+2*sumS x.ins):=by
 have h1:=eA2_le h k
 have h2:=uintB_le (x.outs.length:Int)
 simp only [eA6,List.length_append]
 omega
theorem eA7_le {x:TxD} (h:EncOk x) (k i:Nat):(eA7 x k i).length≤27+(52*x.ins.length+2*sumS x.ins)+18*x.outs.length+59*sumW x.outs:=by
 have h1:=eA6_le h k
 have h2:=toutsB_take_le (fun o ho=>(h.locks o ho).1) i
 simp only [eA7,List.length_append]
 omega
theorem eF_ok {x:TxD} (hx:EncOk x) {k:Nat} (hk:k<x.ins.length) {y:TIn} (hy:x.ins[k]?=some y):eF x k y:=by
 have h1:=hx.n
 refine ⟨by unfold inI64; omega,k+1,hk,by omega,by omega,eH_ok x,?_,trivial⟩
 rw [insB_up hy]
 simp only [eA5,eA4,eA3,eA2,inB,List.append_assoc]
 rfl
theorem eG_ok {x:TxD} (hx:EncOk x) {k:Nat} (hk:k<x.ins.length) {y:TIn} (hy:x.ins[k]?=some y):eG x k y:=by
 have h1:=hx.n
 have h2:=eA2_le hx k
 have h3:=(hx.tx y (List.mem_of_getElem? hy)).1
 have h4:=uintB_le y.n
 have h5:=uintB_le y.branch
 have h6:=hx.s
 have h7:=sec_le (List.mem_of_getElem? hy)
 refine ⟨⟨rfl,rfl,rfl,rfl,trivial⟩,trivial,trivial,⟨trivial,rfl⟩,⟨⟨trivial,trivial⟩,rfl,trivial⟩,⟨?_,show y.secret.length≤1000000000 by omega⟩,eF_ok hx hk hy⟩
 simp only [eA5,eA4,eA3,List.length_append]
 omega
theorem eK_ok {x:TxD} (hx:EncOk x) {k:Nat} (hk:k<x.ins.length) {y:TIn} (hy:x.ins[k]?=some y):eK x k y:=by
 have h1:=hx.n
 have h2:=eA2_le hx k
 have h3:=(hx.tx y (List.mem_of_getElem? hy)).1
 have h4:=uintB_le y.n
 have h6:=hx.s
 refine ⟨⟨trivial,rfl⟩,⟨⟨trivial,trivial⟩,rfl,trivial⟩,low_of ?_,eG_ok hx hk hy⟩
 simp only [eA4,eA3,List.length_append]
 omega
theorem eL_ok {x:TxD} (hx:EncOk x) {k:Nat} (hk:k<x.ins.length) {y:TIn} (hy:x.ins[k]?=some y):eL x k y:=by
 have h1:=hx.n
 have h2:=eA2_le hx k
 have h3:=(hx.tx y (List.mem_of_getElem? hy)).1
 have h6:=hx.s
 refine ⟨⟨trivial,rfl⟩,⟨⟨trivial,trivial⟩,rfl,trivial⟩,low_of ?_,eK_ok hx hk hy⟩
 simp only [eA3,List.length_append]
 omega
theorem eM_ok {x:TxD} (hx:EncOk x) (k:Nat) {i:Nat} (hi:i<x.outs.length) {y:TOut} (hy:x.outs[i]?=some y):eM x k i y:=by
 have h1:=hx.n
 have h2:=hx.m
 have h3:=hx.w
 have h4:=eA7_le hx k i
 have h5:=uintB_le y.amount
 have h6:=weight_sum (List.mem_of_getElem? hy)
 have h8:=hx.s
 have h7:(tA8 y).length≤9:=by simp only [tA8,List.nil_append]; exact h5
 refine ⟨by omega,by omega,⟨rfl,rfl,trivial⟩,trivial,⟨?_,show weight y.cond≤2000000 by omega,(hx.locks y (List.mem_of_getElem? hy)).1⟩,by unfold inI64; omega,i+1,hi,by omega,⟨by omega,trivial⟩,eH2_ok x k,?_,trivial⟩
 ·simp only [List.length_append]
  omega
 ·rw [toutsB_up hy]
  simp only [eA7,tA8,toutB,List.nil_append,List.append_assoc]
theorem eA7_all {x:TxD} {k i:Nat} (hk:x.ins.length≤k) (hi:x.outs.length≤i):eA7 x k i=putTx (fun y=>y.secret) x:=by
 simp only [eA7,eA6,eA2,tA1,putTx,List.take_of_length_le hk,List.take_of_length_le hi,List.nil_append]
 rfl
theorem eBody_ok {x:TxD} (hx:EncOk x):eBody x:=by
 have h1:=hx.n
 have h2:=hx.m
 have h3:=hx.w
 have h0:=hx.s
 unfold eBody
 simp only [true_and,and_true,decide_eq_true_eq,decide_eq_false_iff_not,Int.toNat_natCast,eH_ok,eH2_ok]
 refine fun _=>⟨⟨0,Nat.zero_le _,rfl,by simp [eA2,insB]⟩,fun k hk=>⟨fun h=>?_,fun h _=>?_⟩⟩
 ·have hk':k<x.ins.length:=by omega
  refine ⟨by omega,h,fun y hy=>?_⟩
  have p1:=eL_ok hx hk' (y:=y) hy
  have p2:=eK_ok hx hk' (y:=y) hy
  have p3:=eA2_le hx k
  have p4:y.tx.length=32:=(hx.tx y (List.mem_of_getElem? hy)).1
  have p5:(BH.mk (eA2 x k) y.tx).Ok:=⟨show (eA2 x k).length≤1099511627776 by omega,p4⟩
  have p6:(BN.mk (eA3 x k y) (wr .u64 y.n)).Low:=p1.2.2.1
  simp only [p1,p2,p5,p6,and_self]
 ·have q1:=eA2_le hx k
  have q2:=eA6_le hx k
  refine ⟨low_of (by omega),show (eA6 x k).length≤1099511627776 by omega,fun _=>⟨⟨0,Nat.zero_le _,rfl,by simp [eA7,toutsB]⟩,fun i hi=>⟨fun h4=>?_,fun h4=>?_⟩⟩⟩
  ·have hi':i<x.outs.length:=by omega
   refine ⟨by omega,h4,fun y hy=>?_⟩
   have p1:=eM_ok hx k hi' (y:=y) hy
   have p2:(BN.mk [] (wr .u64 y.amount)).Low:=low_of (by simp)
   have p3:(tA8 y).length.le 1099511627776:=by
    have:=uintB_le y.amount
    show (tA8 y).length≤1099511627776
    simp only [tA8,List.nil_append]
    omega
   simp only [p1,p2,p3,and_self]
  ·rw [eA7_all (by omega) (by omega)]
theorem tenc_vc:tencVC:=by
 intro x hx
 have h1:=eBody_ok hx
 have h2:(BN.mk [] (wr .u64 x.lock)).Low:=low_of (by simp)
 have h3:(BN.mk (tA0 x) (wr .u64 (x.ins.length:Int))).Low:=low_of (by
  have:=uintB_le x.lock
  simp only [tA0,List.nil_append]
  omega)
 simp only [h1,h2,h3,and_self,implies_true]
theorem tenc_ok:Fits F111 f32 (bodyOf f32) encLS noAnn:=by
 constructor
 rw [← tenc_eq]
 exact tenc_vc
theorem f38_has:Has prog 32 f32 (bodyOf f32):=⟨by kernel_rfl,by kernel_rfl,by kernel_rfl⟩
theorem known112:Known prog L112:=by
 unfold L112
 exact known111.lent mixed f38_has F111_eq tenc_ok (fun _ _=>Nat.zero_le _) (fun _ _=>rfl)
end Go.Proofs.YtcglahfmnoghjaaGreatDoor

/-! A transaction of bytes; TxBack: what is said of them. Conditions: none. -/
namespace Go.Proofs.YtcglahfmnoghjaaGreatDoor
open Go Go.Eng Go.Proofs.Tryz
noncomputable def L162:List (Nat×SpecT AA):=(48,tLent readLS bytesGet1)::L112
theorem read_at:ttOf L161 48=tLent readLS bytesGet1:=by
 unfold L161
 rfl
theorem known162:Known prog L162:=by
 unfold L162
 exact known161.over _ _ read_at known112
noncomputable def L163:List (Nat×SpecT AA):=(50,tLent rUintLS2 rdnGet)::L162
theorem uint_here:ttOf L161 50=tLent rUintLS2 rdnGet:=by
 unfold L161
 rfl
theorem known163:Known prog L163:=by
 unfold L163
 exact known161.over _ _ uint_here known162
noncomputable def L164:List (Nat×SpecT AA):=(49,tLent countLS rdiGet)::L163
theorem count_here:ttOf L161 49=tLent countLS rdiGet:=by
 unfold L161
 rfl
theorem known164:Known prog L164:=by
 unfold L164
 exact known161.over _ _ count_here known163
noncomputable def L165:List (Nat×SpecT AA):=(51,tLent rHashLS2 rdGet)::L164
theorem hash_here:ttOf L161 51=tLent rHashLS2 rdGet:=by
 unfold L161
 rfl
theorem known165:Known prog L165:=by
 unfold L165
 exact known161.over _ _ hash_here known164
noncomputable def L166:List (Nat×SpecT AA):=(52,tLent rDoneLS rdGet)::L165
theorem done_here:ttOf L161 52=tLent rDoneLS rdGet:=by
 unfold L161
 rfl
theorem known166:Known prog L166:=by
 unfold L166
 exact known161.over _ _ done_here known165
noncomputable def L167:List (Nat×SpecT AA):=(67,tLent rdBytesLS rdiGet)::L166
theorem bytes_here:ttOf L161 67=tLent rdBytesLS rdiGet:=by
 unfold L161
 rfl
theorem known167:Known prog L167:=by
 unfold L167
 exact known161.over _ _ bytes_here known166
noncomputable def L168:List (Nat×SpecT AA):=(68,tLent takesLS rdGet)::L167
theorem takes_here:ttOf L161 68=tLent takesLS rdGet:=by
 unfold L161
 rfl
theorem known168:Known prog L168:=by
 unfold L168
 exact known161.over _ _ takes_here known167
noncomputable def F168:Eng AA:=EF prog L168
theorem F168_eq:F168=EF prog L168:=by
 unfold F168
 rfl
def dIn (r:Rd):TIn×Rd:=(⟨(hashR r).1,(uintR (hashR r).2 64).1,(uintR (uintR (hashR r).2 64).2 8).1,(bytesR (uintR (uintR (hashR r).2 64).2 8).2 64).1⟩,(bytesR (uintR (uintR (hashR r).2 64).2 8).2 64).2)
def dIns:Nat→Rd→List TIn×Rd
 | 0,r=>([],r)
 | k+1,r=>((dIns k r).1++[(dIn (dIns k r).2).1],(dIn (dIns k r).2).2)
def dOut (r:Rd):TOut×Rd:=(⟨(uintR r 1125899906842624).1,(dC (uintR r 1125899906842624).2).1⟩,(dC (uintR r 1125899906842624).2).2)
def dOuts:Nat→Rd→List TOut×Rd
 | 0,r=>([],r)
 | k+1,r=>((dOuts k r).1++[(dOut (dOuts k r).2).1],(dOut (dOuts k r).2).2)
def dLock (b:List Int):Int×Rd:=uintR ⟨b,0,0⟩ 1099511627776
def dN (b:List Int):Int×Rd:=countR (dLock b).2 64
def dI (b:List Int):List TIn×Rd:=dIns (dN b).1.toNat (dN b).2
def dM (b:List Int):Int×Rd:=countR (dI b).2 64
def dU (b:List Int):List TOut×Rd:=dOuts (dM b).1.toNat (dM b).2
def dTx (b:List Int):TxD:=⟨(dLock b).1,(dI b).1,(dU b).1⟩
noncomputable def decTxOk (b:List Int):Bool:=decide (doneR (dU b).2=0)&&decide (checkT (dTx b)=0)
noncomputable def decTxB (b:List Int):TxD:=if decTxOk b then dTx b else ⟨0,[],[]⟩
noncomputable def decTxE (b:List Int):Int:=if decTxOk b then 0 else 3
noncomputable def decTxLS:LS AA where
 X:=List Int
 pre:=DecIn
 args:=fun b=>[.rints .u8 b]
 hin:=fun _=>[]
 res:=fun b=>[.agg (txSL (decTxB b)),.err 111 (decTxE b)]
 hout:=fun _=>[]
def decTxAnn (b:List Int):Anns AA:=fun k ts sh=>match nth ts 5 with
 | some (.ptr j _)=>(match nth sh j with
  | some (.cells t (.cell lk (.cell ins rest)))=>if k=5 then some {
    X:=Nat
    inv:=fun i=>(i:Int)≤(dN b).1
    meas:=fun i=>(dN b).1.toNat-i
    slots:=fun i=>[(15,.int .i64 i)]
    heap:=fun i=>[(1,rcell (dIns i (dN b).2).2),(j,.cells t (.cell lk (.cell (.vec (cnt sh)) rest)))]
    more:=fun i=>[.svec 87 (show List (AA 87) from (dIns i (dN b).2).1)] }
   else some {
    X:=Nat
    inv:=fun i=>(i:Int)≤(dM b).1
    meas:=fun i=>(dM b).1.toNat-i
    slots:=fun i=>[(38,.int .i64 i)]
    heap:=fun i=>[(1,rcell (dOuts i (dM b).2).2),(j,.cells t (.cell lk (.cell ins (.cell (.vec (cnt sh)) .nil))))]
    more:=fun i=>[.svec 90 (show List (AA 90) from (dOuts i (dM b).2).1)] }
  | _=>none)
 | _=>none
noncomputable def L169:List (Nat×SpecT AA):=(29,tLent decTxLS bytesGet1)::L168
end Go.Proofs.YtcglahfmnoghjaaGreatDoor

/-! A transaction made of its own bytes, plainly. Conditions: none. -/
namespace Go.Proofs.YtcglahfmnoghjaaGreatDoor
open Go Go.Eng Go.Proofs.Tryz
theorem bytes_dead {r:Rd} {m:Int} (h:r.e≠0):(bytesR r m).2=r:=by unfold bytesR; rw [if_pos h]
theorem in_dead1 {r:Rd} (h:(uintR (hashR r).2 64).2.e≠0):(dIn r).2.e≠0:=by
 show (bytesR (uintR (uintR (hashR r).2 64).2 8).2 64).2.e≠0
 rw [uint_dead h,bytes_dead h]; exact h
theorem in_dead {r:Rd} (h:r.e≠0):(dIn r).2.e≠0:=in_dead1 (by rw [hash_dead h,uint_dead h]; exact h)
theorem inOk_of {x:TIn} (h:inOk x=true):0≤x.n∧x.n<64∧0≤x.branch∧x.branch<8∧(x.secret.length:Int)≤64:=by
 simpa [inOk,Bool.and_eq_true,decide_eq_true_eq] using h
theorem brs_dead {r:Rd} (h:r.e≠0):∀ k,(dBrs k r).2.e≠0
 | 0=>h
 | k+1=>br_dead (brs_dead h k)
theorem dC_dead {r:Rd} (h:r.e≠0):(dC r).2.e≠0:=by
 unfold dC
 rw [count_dead h]
 exact brs_dead h _
theorem out_dead1 {r:Rd} (h:(uintR r 1125899906842624).2.e≠0):(dOut r).2.e≠0:=dC_dead h
theorem out_dead {r:Rd} (h:r.e≠0):(dOut r).2.e≠0:=out_dead1 (by rw [uint_dead h]; exact h)
theorem badIn_of:∀ {l:List TIn} {x:TIn},x∈l→inOk x=false→∀ k,badIn l k≥0
 | y::l,x,h,hx,k=>by
  simp only [badIn]
  split
  ·rename_i hy
   rcases List.mem_cons.1 h with e | e
   ·rw [e] at hx
    rw [hx] at hy
    cases hy
   ·exact badIn_of e hx (k+1)
  ·omega
theorem check_four {t:TxD} (h:t.lock<0∨t.lock>1099511627776∨someB t.ins.length=false∨someB t.outs.length=false∨badIn t.ins 0≥0):checkT t≠0:=by
 unfold checkT
 rw [if_pos h]
 omega
theorem outs_dead {r:Rd} (h:r.e≠0):∀ k,(dOuts k r).2.e≠0
 | 0=>h
 | k+1=>out_dead (outs_dead h k)
theorem dU_dead3 {b:List Int} (h:(dM b).2.e≠0):(dU b).2.e≠0:=outs_dead h _
theorem dU_dead2 {b:List Int} (h:(dI b).2.e≠0):(dU b).2.e≠0:=dU_dead3 (by unfold dM; rw [count_dead h]; exact h)
end Go.Proofs.YtcglahfmnoghjaaGreatDoor

/-! A transaction of bytes; TxBack: the walks. Conditions: none. -/
namespace Go.Proofs.YtcglahfmnoghjaaGreatDoor
open Go Go.Eng Go.Proofs.Tryz
theorem scan_le {m:Int}:∀ (n:Nat) (l out:List Int) (i:Nat),l.length≤n→(scanB m l out i).2.1=0→(scanB m l out i).2.2≤i+l.length:=by
 intro n
 induction n with
 | zero=>
  intro l out i hl h
  have e:l=[]:=List.eq_nil_of_length_eq_zero (by omega)
  subst e
  simp [scanB] at h
 | succ n ih=>
  intro l out i hl h
  cases l with
  | nil=>simp [scanB] at h
  | cons c l=>
   simp only [List.length_cons] at hl ⊢
   by_cases hc:c=0
   ·subst hc
    cases l with
    | nil=>
     rw [scan_last] at h
     simp at h
    | cons d l=>
     simp only [List.length_cons] at hl ⊢
     rw [scan_zero] at h ⊢
     split
     ·simp only; omega
     ·rename_i h1
      rw [if_neg h1] at h
      split
      ·simp only; omega
      ·rename_i h2
       rw [if_neg h2] at h
       split
       ·simp only; omega
       ·rename_i h3
        rw [if_neg h3] at h
        have:=ih l (out++[0]) (i+2) (by omega) h
        omega
   ·rw [scan_byte hc] at h ⊢
    split
    ·simp only; omega
    ·rename_i h3
     rw [if_neg h3] at h
     have:=ih l (out++[c]) (i+1) (by omega) h
     omega
theorem bytesR_ok {r:Rd} (h:r.Ok) {m:Int}:(bytesR r m).2.Ok:=by
 unfold bytesR
 split
 ·exact h
 split
 ·exact ⟨h.byt,h.lo,h.hi,h.len⟩
 ·rename_i h2
  have h3:=scan_le (m:=m) _ r.left [] 0 (Nat.le_refl _) (Classical.not_not.1 h2)
  have hl:=left_len r h
  have:=h.lo
  exact ⟨h.byt,by show 0≤r.i+((scanB m r.left [] 0).2.2:Int); omega,by show r.i+((scanB m r.left [] 0).2.2:Int)≤r.b.length; omega,h.len⟩
theorem inR_ok {r:Rd} (h:r.Ok):(dIn r).2.Ok:=bytesR_ok (uintR_ok (uintR_ok (hashR_ok h).1 (by omega)).1 (by omega)).1
theorem insR_ok {r:Rd} (h:r.Ok):∀ k,(dIns k r).2.Ok∧(dIns k r).1.length=k
 | 0=>⟨h,rfl⟩
 | k+1=>by
  obtain ⟨h1,h2⟩:=insR_ok h k
  refine ⟨inR_ok h1,?_⟩
  show ((dIns k r).1++[(dIn (dIns k r).2).1]).length=k+1
  rw [List.length_append,h2]
  rfl
theorem cR_ok {r:Rd} (h:r.Ok):(dC r).2.Ok:=(brsR_ok (countR_ok h (m:=8) (by omega)).1 _).1
theorem outsR_ok {r:Rd} (h:r.Ok):∀ k,(dOuts k r).2.Ok∧(dOuts k r).1.length=k
 | 0=>⟨h,rfl⟩
 | k+1=>by
  obtain ⟨h1,h2⟩:=outsR_ok h k
  refine ⟨cR_ok (uintR_ok h1 (by omega)).1,?_⟩
  show ((dOuts k r).1++[(dOut (dOuts k r).2).1]).length=k+1
  rw [List.length_append,h2]
  rfl
theorem few_of {r:Rd} (hr:r.Ok) {m:Int} (h1:0≤m) (h2:m≤1000):(RdN.mk r m).Few:=⟨⟨hr,h1⟩,by show m≤1000000; omega⟩
def dtK (x:List Int) (x_1:Nat):Prop:=(True∧(64:Int)=(64:Int))∧(((uintR (uintR (hashR (dIns x_1 (dN x).snd).snd).snd (64:Int)).snd (8:Int)).snd.b=(uintR (uintR (hashR (dIns
 x_1 (dN x).snd).snd).snd (64:Int)).snd (8:Int)).snd.b∧(uintR (uintR (hashR (dIns x_1 (dN x).snd).snd).snd (64:Int)).snd (8:Int)).snd.i =
 (uintR (uintR (hashR (dIns x_1 (dN x).snd).snd).snd (64:Int)).snd (8:Int)).snd.i∧(uintR (uintR (hashR (dIns x_1 (dN x).snd).snd).snd (64 :
 Int)).snd (8:Int)).snd.e=(uintR (uintR (hashR (dIns x_1 (dN x).snd).snd).snd (64:Int)).snd (8:Int)).snd.e∧True)∧True)∧(RdN.mk (uintR
 (uintR (hashR (dIns x_1 (dN x).snd).snd).snd (64:Int)).snd (8:Int)).snd (64:Int)).Few∧((hashR (dIns x_1 (dN x).snd).snd).fst=(hashR (dIns x_1
 (dN x).snd).snd).fst∧wr IntKind.i64 (uintR (hashR (dIns x_1 (dN x).snd).snd).snd (64:Int)).fst=wr IntKind.i64 (uintR (hashR (dIns x_1 (dN
 x).snd).snd).snd (64:Int)).fst∧wr IntKind.i64 (uintR (uintR (hashR (dIns x_1 (dN x).snd).snd).snd (64:Int)).snd (8:Int)).fst=wr IntKind.i64
 (uintR (uintR (hashR (dIns x_1 (dN x).snd).snd).snd (64:Int)).snd (8:Int)).fst∧(bytesR (uintR (uintR (hashR (dIns x_1 (dN x).snd).snd).snd (64 :
 Int)).snd (8:Int)).snd (64:Int)).fst=(bytesR (uintR (uintR (hashR (dIns x_1 (dN x).snd).snd).snd (64:Int)).snd (8:Int)).snd (64:Int)).fst ∧
 True)∧((dIns x_1 (dN x).snd).fst.length+[TIn.mk (hashR (dIns x_1 (dN x).snd).snd).fst (wr IntKind.i64 (uintR (hashR (dIns x_1 (dN x).snd).snd).snd
 (64:Int)).fst) (wr IntKind.i64 (uintR (uintR (hashR (dIns x_1 (dN x).snd).snd).snd (64:Int)).snd (8:Int)).fst) (bytesR (uintR (uintR (hashR (dIns
 x_1 (dN x).snd).snd).snd (64:Int)).snd (8:Int)).snd (64:Int)).fst].length)*(72:Nat)≤(140737488355328:Nat)∧(dIns x_1 (dN
 x).snd).fst.length+[TIn.mk (hashR (dIns x_1 (dN x).snd).snd).fst (wr IntKind.i64 (uintR (hashR (dIns x_1 (dN x).snd).snd).snd (64:Int)).fst) (wr
 IntKind.i64 (uintR (uintR (hashR (dIns x_1 (dN x).snd).snd).snd (64:Int)).snd (8:Int)).fst) (bytesR (uintR (uintR (hashR (dIns x_1 (dN
 x).snd).snd).snd (64:Int)).snd (8:Int)).snd (64:Int)).fst].length≤(1152921504606846976:Nat)∧inI64 ((x_1:Int)+(1:Int))∧∃ (y:Nat),
 ((dN x).fst-(y:Int)).NonNeg∧(dN x).fst.toNat-y<(dN x).fst.toNat-x_1∧(y:Int)=(x_1:Int)+(1:Int)∧(((0:Int)=(0:Int) ∧
 SV.val (A:=AA) (Value.slice none (0:Nat) (0:Nat))=SV.val (A:=AA) (Value.slice none (0:Nat) (0:Nat))∧SV.val (A:=AA) (Value.slice none
 (0:Nat) (0:Nat))=SV.val (A:=AA) (Value.slice none (0:Nat) (0:Nat))∧True)∧((dIns y (dN x).snd).snd.b=(bytesR (uintR (uintR (hashR
 (dIns x_1 (dN x).snd).snd).snd (64:Int)).snd (8:Int)).snd (64:Int)).snd.b∧(dIns y (dN x).snd).snd.i=(bytesR (uintR (uintR (hashR (dIns x_1
 (dN x).snd).snd).snd (64:Int)).snd (8:Int)).snd (64:Int)).snd.i∧(dIns y (dN x).snd).snd.e=(bytesR (uintR (uintR (hashR (dIns x_1 (dN
 x).snd).snd).snd (64:Int)).snd (8:Int)).snd (64:Int)).snd.e∧True)∧(wr IntKind.i64 (dLock x).fst=wr IntKind.i64 (dLock x).fst∧True ∧
 SV.val (A:=AA) (Value.slice none (0:Nat) (0:Nat))=SV.val (A:=AA) (Value.slice none (0:Nat) (0:Nat))∧True)∧True)∧(dIns y (dN
 x).snd).fst=(dIns x_1 (dN x).snd).fst++[TIn.mk (hashR (dIns x_1 (dN x).snd).snd).fst (wr IntKind.i64 (uintR (hashR (dIns x_1 (dN x).snd).snd).snd
 (64:Int)).fst) (wr IntKind.i64 (uintR (uintR (hashR (dIns x_1 (dN x).snd).snd).snd (64:Int)).snd (8:Int)).fst) (bytesR (uintR (uintR (hashR (dIns
 x_1 (dN x).snd).snd).snd (64:Int)).snd (8:Int)).snd (64:Int)).fst]∧True
def dtA (x:List Int) (x_1:Nat) (P:Prop):Prop:=(True∧(8:Int)=(8:Int))∧(((uintR (hashR (dIns x_1 (dN x).snd).snd).snd (64:Int)).snd.b=(uintR (hashR (dIns x_1 (dN x).snd).snd).snd (64 :
 Int)).snd.b∧(uintR (hashR (dIns x_1 (dN x).snd).snd).snd (64:Int)).snd.i=(uintR (hashR (dIns x_1 (dN x).snd).snd).snd (64:Int)).snd.i∧(uintR
 (hashR (dIns x_1 (dN x).snd).snd).snd (64:Int)).snd.e=(uintR (hashR (dIns x_1 (dN x).snd).snd).snd (64:Int)).snd.e∧True)∧True)∧(RdN.mk
 (uintR (hashR (dIns x_1 (dN x).snd).snd).snd (64:Int)).snd (8:Int)).Ok∧P
def dtQ (x:List Int) (x_1 x_2:Nat):Prop:=True∧(((uintR (dOuts x_2 (dM x).snd).snd (1125899906842624:Int)).snd.b=(uintR (dOuts x_2 (dM x).snd).snd (1125899906842624:Int)).snd.b∧(uintR
 (dOuts x_2 (dM x).snd).snd (1125899906842624:Int)).snd.i=(uintR (dOuts x_2 (dM x).snd).snd (1125899906842624:Int)).snd.i∧(uintR (dOuts x_2 (dM
 x).snd).snd (1125899906842624:Int)).snd.e=(uintR (dOuts x_2 (dM x).snd).snd (1125899906842624:Int)).snd.e∧True)∧True)∧(uintR (dOuts x_2 (dM
 x).snd).snd (1125899906842624:Int)).snd.Ok∧(wr IntKind.i64 (uintR (dOuts x_2 (dM x).snd).snd (1125899906842624:Int)).fst=wr IntKind.i64 (uintR
 (dOuts x_2 (dM x).snd).snd (1125899906842624:Int)).fst∧(dC (uintR (dOuts x_2 (dM x).snd).snd (1125899906842624:Int)).snd).fst=(dC (uintR (dOuts
 x_2 (dM x).snd).snd (1125899906842624:Int)).snd).fst∧True)∧((dOuts x_2 (dM x).snd).fst.length+[TOut.mk (wr IntKind.i64 (uintR (dOuts x_2 (dM
 x).snd).snd (1125899906842624:Int)).fst) (dC (uintR (dOuts x_2 (dM x).snd).snd (1125899906842624:Int)).snd).fst].length)*(32:Nat) ≤
 (140737488355328:Nat)∧(dOuts x_2 (dM x).snd).fst.length+[TOut.mk (wr IntKind.i64 (uintR (dOuts x_2 (dM x).snd).snd (1125899906842624:Int)).fst)
 (dC (uintR (dOuts x_2 (dM x).snd).snd (1125899906842624:Int)).snd).fst].length≤(1152921504606846976:Nat)∧inI64 ((x_2:Int)+(1:Int))∧∃
 (y:Nat),((dM x).fst-(y:Int)).NonNeg∧(dM x).fst.toNat-y<(dM x).fst.toNat-x_2∧(y:Int)=(x_2:Int)+(1:Int)∧(((0:Int)=(0
 : Int)∧SV.val (A:=AA) (Value.slice none (0:Nat) (0:Nat))=SV.val (A:=AA) (Value.slice none (0:Nat) (0:Nat))∧SV.val (A:=AA)
 (Value.slice none (0:Nat) (0:Nat))=SV.val (A:=AA) (Value.slice none (0:Nat) (0:Nat))∧True)∧((dOuts y (dM x).snd).snd.b=(dC (uintR
 (dOuts x_2 (dM x).snd).snd (1125899906842624:Int)).snd).snd.b∧(dOuts y (dM x).snd).snd.i=(dC (uintR (dOuts x_2 (dM x).snd).snd (1125899906842624
 : Int)).snd).snd.i∧(dOuts y (dM x).snd).snd.e=(dC (uintR (dOuts x_2 (dM x).snd).snd (1125899906842624:Int)).snd).snd.e∧True)∧(wr IntKind.i64
 (dLock x).fst=wr IntKind.i64 (dLock x).fst∧True∧True∧True)∧(dIns x_1 (dN x).snd).fst=(dIns x_1 (dN x).snd).fst∧True)∧(dOuts y (dM
 x).snd).fst=(dOuts x_2 (dM x).snd).fst++[TOut.mk (wr IntKind.i64 (uintR (dOuts x_2 (dM x).snd).snd (1125899906842624:Int)).fst) (dC (uintR (dOuts
 x_2 (dM x).snd).snd (1125899906842624:Int)).snd).fst]∧True
def dtB (x:List Int) (x_2:Nat) (P:Prop):Prop:=(True∧(1125899906842624:Int)=(1125899906842624:Int))∧(((dOuts x_2 (dM x).snd).snd.b=(dOuts x_2 (dM x).snd).snd.b∧(dOuts x_2 (dM
 x).snd).snd.i=(dOuts x_2 (dM x).snd).snd.i∧(dOuts x_2 (dM x).snd).snd.e=(dOuts x_2 (dM x).snd).snd.e∧True)∧True)∧(RdN.mk (dOuts x_2 (dM
 x).snd).snd (1125899906842624:Int)).Ok∧P
def decTxVC:Prop:=∀ (x:List Int),DecIn x→x=x∧True∧True∧(True∧(1099511627776:Int)=(1099511627776:Int))∧((x=x∧(0:Int)=(0:Int)∧(0:Int)
 = (0:Int)∧True)∧True)∧(RdN.mk (Rd.mk x (0:Int) (0:Int)) (1099511627776:Int)).Ok∧(True∧(64:Int)=(64:Int))∧(((dLock x).snd.b =
 (dLock x).snd.b∧(dLock x).snd.i=(dLock x).snd.i∧(dLock x).snd.e=(dLock x).snd.e∧True)∧True)∧(RdN.mk (dLock x).snd (64:Int)).Few∧(∃
 (x_1:Nat),((dN x).fst-(x_1:Int)).NonNeg∧(x_1:Int)=(0:Int)∧(((0:Int)=(0:Int)∧(SV.val (A:=AA) (Value.slice none (0:Nat) (0
 : Nat)):SV AA)=SV.val (A:=AA) (Value.slice none (0:Nat) (0:Nat))∧(SV.val (A:=AA) (Value.slice none (0:Nat) (0:Nat)):SV AA)=SV.val
 (A:=AA) (Value.slice none (0:Nat) (0:Nat))∧True)∧((dIns x_1 (dN x).snd).snd.b=(dN x).snd.b∧(dIns x_1 (dN x).snd).snd.i=(dN x).snd.i ∧
 (dIns x_1 (dN x).snd).snd.e=(dN x).snd.e∧True)∧(wr IntKind.i64 (dLock x).fst=wr IntKind.i64 (dLock x).fst∧(SV.val (A:=AA) (Value.slice none
 (0:Nat) (0:Nat)):SV AA)=SV.val (A:=AA) (Value.slice none (0:Nat) (0:Nat))∧(SV.val (A:=AA) (Value.slice none (0:Nat) (0:Nat)):SV
 AA)=SV.val (A:=AA) (Value.slice none (0:Nat) (0:Nat))∧True)∧True)∧(dIns x_1 (dN x).snd).fst=[]∧True)∧∀ (x_1:Nat),((dN x).fst -
 (x_1:Int)).NonNeg→(decide ((x_1:Int)<(dN x).fst)=true→True∧(((dIns x_1 (dN x).snd).snd.b=(dIns x_1 (dN x).snd).snd.b∧(dIns x_1 (dN
 x).snd).snd.i=(dIns x_1 (dN x).snd).snd.i∧(dIns x_1 (dN x).snd).snd.e=(dIns x_1 (dN x).snd).snd.e∧True)∧True)∧(dIns x_1 (dN x).snd).snd.Ok
 ∧ (True∧(64:Int)=(64:Int))∧(((hashR (dIns x_1 (dN x).snd).snd).snd.b=(hashR (dIns x_1 (dN x).snd).snd).snd.b∧(hashR (dIns x_1 (dN
 x).snd).snd).snd.i=(hashR (dIns x_1 (dN x).snd).snd).snd.i∧(hashR (dIns x_1 (dN x).snd).snd).snd.e=(hashR (dIns x_1 (dN x).snd).snd).snd.e ∧
 True)∧True)∧(RdN.mk (hashR (dIns x_1 (dN x).snd).snd).snd (64:Int)).Ok∧((dtA x x_1 (dtK x x_1))∧dtA x x_1 ((dtK x x_1)∧dtK x x_1))∧((dtA
 x x_1 (dtK x x_1))∧dtA x x_1 ((dtK x x_1)∧dtK x x_1))∧dtA x x_1 (((dtK x x_1)∧dtK x x_1)∧((dtK x x_1)∧dtK x x_1)∧dtK x x_1))∧(decide
 ((x_1:Int)<(dN x).fst)=false→(True∧(64:Int)=(64:Int))∧(((dIns x_1 (dN x).snd).snd.b=(dIns x_1 (dN x).snd).snd.b∧(dIns x_1 (dN
 x).snd).snd.i=(dIns x_1 (dN x).snd).snd.i∧(dIns x_1 (dN x).snd).snd.e=(dIns x_1 (dN x).snd).snd.e∧True)∧True)∧(RdN.mk (dIns x_1 (dN
 x).snd).snd (64:Int)).Few∧(∃ (x_2:Nat),((dM x).fst-(x_2:Int)).NonNeg∧(x_2:Int)=(0:Int)∧(((0:Int)=(0:Int)∧(SV.val (A:=
 AA) (Value.slice none (0:Nat) (0:Nat)):SV AA)=SV.val (A:=AA) (Value.slice none (0:Nat) (0:Nat))∧(SV.val (A:=AA) (Value.slice none (0
 : Nat) (0:Nat)):SV AA)=SV.val (A:=AA) (Value.slice none (0:Nat) (0:Nat))∧True)∧((dOuts x_2 (dM x).snd).snd.b=(countR (dIns x_1 (dN
 x).snd).snd (64:Int)).snd.b∧(dOuts x_2 (dM x).snd).snd.i=(countR (dIns x_1 (dN x).snd).snd (64:Int)).snd.i∧(dOuts x_2 (dM x).snd).snd.e =
 (countR (dIns x_1 (dN x).snd).snd (64:Int)).snd.e∧True)∧(wr IntKind.i64 (dLock x).fst=wr IntKind.i64 (dLock x).fst∧True∧(SV.val (A:=AA)
 (Value.slice none (0:Nat) (0:Nat)):SV AA)=SV.val (A:=AA) (Value.slice none (0:Nat) (0:Nat))∧True)∧(dIns x_1 (dN x).snd).fst=(dIns
 x_1 (dN x).snd).fst∧True)∧(dOuts x_2 (dM x).snd).fst=[]∧True)∧∀ (x_2:Nat),((dM x).fst-(x_2:Int)).NonNeg→(decide ((x_2:Int) <
 (countR (dIns x_1 (dN x).snd).snd (64:Int)).fst)=true→(dtB x x_2 (dtQ x x_1 x_2))∧dtB x x_2 ((dtQ x x_1 x_2)∧dtQ x x_1 x_2))∧(decide ((↑x_2
 : Int)<(countR (dIns x_1 (dN x).snd).snd (64:Int)).fst)=false→True∧(((dOuts x_2 (dM x).snd).snd.b=(dOuts x_2 (dM x).snd).snd.b∧(dOuts x_2
 (dM x).snd).snd.i=(dOuts x_2 (dM x).snd).snd.i∧(dOuts x_2 (dM x).snd).snd.e=(dOuts x_2 (dM x).snd).snd.e∧True)∧True)∧True∧((!doneR (dOuts
 x_2 (dM x).snd).snd==(0:Int))=true→(((decTxB x).lock=(0:Int)∧(decTxB x).ins=[]∧(decTxB x).outs=[]∧True)∧decTxE x=(3:Int) ∧
 (3:Int)≠(0:Int))∧True∧True)∧((!doneR (dOuts x_2 (dM x).snd).snd==(0:Int))=false→(wr IntKind.i64 (dLock x).fst=wr IntKind.i64
 (dLock x).fst∧(dIns x_1 (dN x).snd).fst=(dIns x_1 (dN x).snd).fst∧(dOuts x_2 (dM x).snd).fst=(dOuts x_2 (dM x).snd).fst∧True)∧True∧True ∧
 ((!checkT (TxD.mk (wr IntKind.i64 (dLock x).fst) (dIns x_1 (dN x).snd).fst (dOuts x_2 (dM x).snd).fst)==(0:Int))=true→(((decTxB x).lock=(0 :
 Int)∧(decTxB x).ins=[]∧(decTxB x).outs=[]∧True)∧decTxE x=(3:Int)∧(3:Int)≠(0:Int))∧True∧True)∧((!checkT (TxD.mk (wr
 IntKind.i64 (dLock x).fst) (dIns x_1 (dN x).snd).fst (dOuts x_2 (dM x).snd).fst)==(0:Int))=false→(((decTxB x).lock=wr IntKind.i64 (dLock
 x).fst∧(decTxB x).ins=(dIns x_1 (dN x).snd).fst∧(decTxB x).outs=(dOuts x_2 (dM x).snd).fst∧True)∧decTxE x=(0:Int))∧True∧True))))
theorem decTx_eq:decTxVC=fnS F168 f29 (bodyOf f29) decTxLS decTxAnn:=by kernel_rfl
theorem dtK_ok {x:List Int} {k:Nat} (h:(dIns k (dN x).2).2.Ok) (hn:(dN x).1≤64) (hk:(k:Int)<(dN x).1) (hl:(dIns k (dN x).2).1.length=k):dtK x k:=by
 have h1:=hashR_ok h
 obtain ⟨n1,n2⟩:=uintR_ok h1.1 (m:=64) (by omega)
 obtain ⟨b1,b2⟩:=uintR_ok n1 (m:=8) (by omega)
 refine ⟨⟨trivial,rfl⟩,⟨⟨rfl,rfl,rfl,trivial⟩,trivial⟩,few_of b1 (by omega) (by omega),⟨rfl,rfl,rfl,rfl,trivial⟩,?_,?_,by unfold inI64; omega,k+1,?_,by omega,by omega,⟨⟨rfl,rfl,rfl,trivial⟩,⟨rfl,rfl,rfl,trivial⟩,⟨rfl,trivial,rfl,trivial⟩,trivial⟩,?_,trivial⟩
 ·rw [hl]; simp only [List.length_singleton]; omega
 ·rw [hl]; simp only [List.length_singleton]; omega
 ·show ((k+1:Nat):Int)≤(dN x).1
  omega
 ·rw [wr_small n2 (by omega),wr_small b2 (by omega)]
  rfl
theorem dtA_ok {x:List Int} {k:Nat} {P:Prop} (h:(dIns k (dN x).2).2.Ok) (hp:P):dtA x k P:=by
 have h1:=hashR_ok h
 obtain ⟨n1,_⟩:=uintR_ok h1.1 (m:=64) (by omega)
 exact ⟨⟨trivial,rfl⟩,⟨⟨rfl,rfl,rfl,trivial⟩,trivial⟩,⟨n1,by show (0:Int)≤8; omega⟩,hp⟩
theorem dtQ_ok {x:List Int} {i k:Nat} (h:(dOuts k (dM x).2).2.Ok) (hn:(dM x).1≤64) (hk:(k:Int)<(dM x).1) (hl:(dOuts k (dM x).2).1.length=k):dtQ x i k:=by
 obtain ⟨a1,a2⟩:=uintR_ok h (m:=1125899906842624) (by omega)
 refine ⟨trivial,⟨⟨rfl,rfl,rfl,trivial⟩,trivial⟩,a1,⟨rfl,rfl,trivial⟩,?_,?_,by unfold inI64; omega,k+1,?_,by omega,by omega,⟨⟨rfl,rfl,rfl,trivial⟩,⟨rfl,rfl,rfl,trivial⟩,⟨rfl,trivial,trivial,trivial⟩,rfl,trivial⟩,?_,trivial⟩
 ·rw [hl]; simp only [List.length_singleton]; omega
 ·rw [hl]; simp only [List.length_singleton]; omega
 ·show ((k+1:Nat):Int)≤(dM x).1
  omega
 ·rw [wr_small a2 (by omega)]
  rfl
theorem dtB_ok {x:List Int} {k:Nat} {P:Prop} (h:(dOuts k (dM x).2).2.Ok) (hp:P):dtB x k P:=
 ⟨⟨trivial,rfl⟩,⟨⟨rfl,rfl,rfl,trivial⟩,trivial⟩,⟨h,by show (0:Int)≤1125899906842624; omega⟩,hp⟩
theorem decTx_vc:decTxVC:=by
 intro x hx
 have h0:(Rd.mk x 0 0).Ok:=⟨hx.byt,by show (0:Int)≤0; omega,by show (0:Int)≤x.length; omega,hx.len⟩
 obtain ⟨l1,l2⟩:=uintR_ok h0 (m:=1099511627776) (by omega)
 change (dLock x).2.Ok at l1
 change 0≤(dLock x).1∧(dLock x).1≤1099511627776 at l2
 obtain ⟨c1,c2,c3⟩:=countR_ok l1 (m:=64) (by omega)
 change (dN x).2.Ok at c1
 change 0≤(dN x).1 at c2
 change (dN x).1≤64 at c3
 refine ⟨rfl,trivial,trivial,⟨trivial,rfl⟩,⟨⟨rfl,rfl,rfl,trivial⟩,trivial⟩,⟨h0,by show (0:Int)≤1099511627776; omega⟩,⟨trivial,rfl⟩,⟨⟨rfl,rfl,rfl,trivial⟩,trivial⟩,few_of l1 (by omega) (by omega),⟨0,?_,rfl,⟨⟨rfl,rfl,rfl,trivial⟩,⟨rfl,rfl,rfl,trivial⟩,⟨rfl,rfl,rfl,trivial⟩,trivial⟩,rfl,trivial⟩,fun i hi=>⟨fun h1=>?_,fun h1=>?_⟩⟩
 ·show ((0:Nat):Int)≤(dN x).1
  omega
 ·simp only [decide_eq_true_eq] at h1
  obtain ⟨i1,i2⟩:=insR_ok c1 i
  have hK:=dtK_ok i1 c3 h1 i2
  have hA:∀ {P:Prop},P→dtA x i P:=dtA_ok i1
  exact ⟨trivial,⟨⟨rfl,rfl,rfl,trivial⟩,trivial⟩,i1,⟨trivial,rfl⟩,⟨⟨rfl,rfl,rfl,trivial⟩,trivial⟩,⟨(hashR_ok i1).1,by show (0:Int)≤64; omega⟩,⟨hA hK,hA ⟨hK,hK⟩⟩,⟨hA hK,hA ⟨hK,hK⟩⟩,hA ⟨⟨hK,hK⟩,⟨hK,hK⟩,hK⟩⟩
 ·simp only [decide_eq_false_iff_not] at h1
  have hi':(i:Int)≤(dN x).1:=hi
  obtain ⟨i1,i2⟩:=insR_ok c1 i
  have ei:dIns i (dN x).2=dI x:=by
   unfold dI
   rw [show (dN x).1.toNat=i by omega]
  rw [ei] at i1 ⊢
  obtain ⟨m1,m2,m3⟩:=countR_ok i1 (m:=64) (by omega)
  change (dM x).2.Ok at m1
  change 0≤(dM x).1 at m2
  change (dM x).1≤64 at m3
  refine ⟨⟨trivial,rfl⟩,⟨⟨rfl,rfl,rfl,trivial⟩,trivial⟩,few_of i1 (by omega) (by omega),⟨0,?_,rfl,⟨⟨rfl,rfl,rfl,trivial⟩,⟨rfl,rfl,rfl,trivial⟩,⟨rfl,trivial,rfl,trivial⟩,rfl,trivial⟩,rfl,trivial⟩,fun k hk=>⟨fun h2=>?_,fun h2=>?_⟩⟩
  ·show ((0:Nat):Int)≤(dM x).1
   omega
  ·have h2':(k:Int)<(dM x).1:=of_decide_eq_true h2
   obtain ⟨o1,o2⟩:=outsR_ok m1 k
   have hQ:dtQ x i k:=dtQ_ok o1 m3 h2' o2
   exact ⟨dtB_ok o1 hQ,dtB_ok o1 ⟨hQ,hQ⟩⟩
  ·have h2':¬(k:Int)<(dM x).1:=of_decide_eq_false h2
   have hk':(k:Int)≤(dM x).1:=hk
   have ek:dOuts k (dM x).2=dU x:=by
    unfold dU
    rw [show (dM x).1.toNat=k by omega]
   rw [ek,wr_small l2 (by omega)]
   have hB:∀ b,decTxOk x=b→decTxB x=(if b then dTx x else ⟨0,[],[]⟩)∧decTxE x=(if b then 0 else 3):=fun b hb=>by
    unfold decTxB decTxE
    rw [hb]
    exact ⟨rfl,rfl⟩
   have no:decTxOk x=false→(((decTxB x).lock=(0:Int)∧(decTxB x).ins=[]∧(decTxB x).outs=[]∧True)∧decTxE x=(3:Int)∧(3:Int)≠(0:Int))∧True∧True:=fun hd=>by
    rw [(hB _ hd).1,(hB _ hd).2]
    exact ⟨⟨⟨rfl,rfl,rfl,trivial⟩,rfl,by omega⟩,trivial,trivial⟩
   refine ⟨trivial,⟨⟨rfl,rfl,rfl,trivial⟩,trivial⟩,trivial,fun h3=>no ?_,fun h3=>⟨⟨rfl,rfl,rfl,trivial⟩,trivial,trivial,fun h4=>no ?_,fun h4=>?_⟩⟩
   ·unfold decTxOk
    rw [decide_eq_false (p:=doneR (dU x).2=0) (by simpa using h3)]
    rfl
   ·unfold decTxOk
    rw [decide_eq_false (p:=checkT (dTx x)=0) (by
     have:checkT (dTx x)≠0:=by simpa [dTx] using h4
     exact this),Bool.and_false]
   ·have hd:decTxOk x=true:=by
     unfold decTxOk
     rw [decide_eq_true (p:=doneR (dU x).2=0) (by simpa using h3),decide_eq_true (p:=checkT (dTx x)=0) (by
      have:checkT (dTx x)=0:=by simpa [dTx] using h4
      exact this)]
     rfl
    rw [(hB _ hd).1,(hB _ hd).2]
    exact ⟨⟨⟨rfl,rfl,rfl,trivial⟩,rfl⟩,trivial,trivial⟩
theorem decTx_ok:Fits F168 f29 (bodyOf f29) decTxLS decTxAnn:=by
 constructor
 rw [← decTx_eq]
 exact decTx_vc
theorem decTx_has:Has prog 29 f29 (bodyOf f29):=⟨by kernel_rfl,by kernel_rfl,by kernel_rfl⟩
theorem known169:Known prog L169:=by
 unfold L169
 exact known168.lent mixed decTx_has F168_eq decTx_ok (fun _ _=>Nat.zero_le _) (fun _ _=>rfl)
end Go.Proofs.YtcglahfmnoghjaaGreatDoor

/-! What is read is told by the same bytes again. Conditions: none. -/
namespace Go.Proofs.YtcglahfmnoghjaaGreatDoor
open Go Go.Eng Go.Proofs.Tryz
theorem bigE_snoc (t:List Int) (x:Int):bigE (t++[x])=bigE t*256+x:=by
 unfold bigE
 rw [List.foldl_append]
 rfl
theorem bigE_pos:∀ (t:List Int) (c:Int),(∀ y,y∈t→0≤y∧y<256)→0<c→0<t.foldl (fun a b=>a*256+b) c
 | [],_,_,h=>h
 | x::t,c,hb,h=>by
  have:=(hb x List.mem_cons_self).1
  exact bigE_pos t (c*256+x) (fun y hy=>hb y (List.mem_cons_of_mem _ hy)) (by omega)
theorem bigE_nn {t:List Int} (hb:∀ y,y∈t→0≤y∧y<256):0≤bigE t:=by
 have:=(bigE_lt hb t.length (Nat.le_refl _)).1
 rwa [List.take_length] at this
/-- Digits with no 0 ahead are a number's own. -/
theorem digs_bigE:∀ (f:Nat) (t:List Int),t.length≤f→(∀ y,y∈t→0≤y∧y<256)→t.head?≠some 0→digsF f (bigE t).toNat=t
 | 0,t,hl,_,_=>by
  have e:t=[]:=List.eq_nil_of_length_eq_zero (by omega)
  subst e
  rfl
 | f+1,t,hl,hb,hh=>by
  rcases List.eq_nil_or_concat t with e | ⟨u,x,e⟩
  ·subst e
   rfl
  ·rw [List.concat_eq_append] at e
   subst e
   have hx:=hb x (by simp)
   have hu:∀ y,y∈u→0≤y∧y<256:=fun y hy=>hb y (by simp [hy])
   have hn:=bigE_nn hu
   rw [bigE_snoc]
   have hpos:0<bigE u*256+x:=by
    cases u with
    | nil=>
     simp only [List.nil_append,List.head?_cons,ne_eq,Option.some.injEq] at hh
     simp only [bigE,List.foldl_nil]
     omega
    | cons c u=>
     have hc:c≠0:=by simpa using hh
     have hc2:=hu c List.mem_cons_self
     have:0<bigE (c::u):=by
      unfold bigE
      rw [List.foldl_cons]
      exact bigE_pos u _ (fun y hy=>hu y (List.mem_cons_of_mem _ hy)) (by omega)
     omega
   simp only [digsF]
   rw [if_neg (by omega)]
   have e1:(bigE u*256+x).toNat / 256=(bigE u).toNat:=by omega
   have e2:(((bigE u*256+x).toNat%256:Nat):Int)=x:=by omega
   rw [e1,e2]
   have hh2:u.head?≠some 0:=by
    cases u with
    | nil=>simp
    | cons c u=>simpa using hh
   rw [digs_bigE f u (by simp at hl; omega) hu hh2]
theorem num_canon {l:List Int} {m:Int} (hb:∀ y,y∈l→0≤y∧y<256) (h:numE l m=0):l=uintB (numV l)++l.drop (numW l).toNat:=by
 cases l with
 | nil=>simp [numE] at h
 | cons c s=>
  have hc:=hb c List.mem_cons_self
  have hs:∀ y,y∈s→0≤y∧y<256:=fun y hy=>hb y (List.mem_cons_of_mem _ hy)
  simp only [numE] at h
  split at h
  ·omega
  split at h
  ·omega
  rename_i h1 h2
  have h3:=Classical.not_not.1 h2
  unfold lowE at h3
  split at h3
  ·omega
  split at h3
  ·omega
  rename_i h4 h5
  have ht:∀ y,y∈s.take c.toNat→0≤y∧y<256:=fun y hy=>hs y (List.mem_of_mem_take hy)
  have hlen:(s.take c.toNat).length=c.toNat:=by rw [List.length_take]; omega
  have hd:=digs_bigE 8 (s.take c.toNat) (by omega) ht (fun e=>by
   by_cases hz:c=0
   ·subst hz
    simp at e
   ·refine h5 ⟨by omega,?_⟩
    cases s with
    | nil=>simp at e
    | cons y s=>
     have:c.toNat=(c.toNat-1)+1:=by omega
     rw [this,List.take_succ_cons] at e
     simpa using e)
  have e1:digs (numV (c::s))=s.take c.toNat:=hd
  have e2:(1+c).toNat=c.toNat+1:=by omega
  simp only [numW]
  unfold uintB
  rw [e1,hlen,e2,List.drop_succ_cons,Int.toNat_of_nonneg hc.1]
  simp
theorem uint_canon {r:Rd} (h:r.Ok) {m:Int} (h2:(uintR r m).2.e=0):r.e=0∧r.left=uintB (uintR r m).1++(uintR r m).2.left:=by
 have he:r.e=0:=Classical.byContradiction fun he=>by
  rw [uint_dead he] at h2
  exact he h2
 refine ⟨he,?_⟩
 unfold uintR at h2 ⊢
 rw [if_neg (by simp [he])] at h2 ⊢
 split at h2
 ·rename_i h3
  exact (h3 h2).elim
 ·rename_i h3
  have h4:=Classical.not_not.1 h3
  have nf:=num_facts h h4
  rw [if_neg h3]
  show r.left=uintB (numV r.left)++(Rd.mk r.b (r.i+numW r.left) 0).left
  have e:(Rd.mk r.b (r.i+numW r.left) 0).left=r.left.drop (numW r.left).toNat:=by
   unfold Rd.left
   have:=h.lo
   show List.drop (r.i+_).toNat r.b=_
   rw [List.drop_drop,show ∀ w:Int,0≤w→(r.i+w).toNat=r.i.toNat+w.toNat from fun w hw=>by omega]
   show 0≤numW r.left
   omega
  rw [e]
  exact num_canon (left_byt h) h4
theorem scan_canon {m:Int}:∀ (n:Nat) (l out out':List Int) (i k:Nat),l.length≤n→scanB m l out i=(out',0,k)→∃ s rest,out'=out++s∧l=stuffB s++(0::0::rest)∧k=i+(stuffB s).length+2:=by
 intro n
 induction n with
 | zero=>
  intro l out out' i k hl h
  have e:l=[]:=List.eq_nil_of_length_eq_zero (by omega)
  subst e
  simp [scanB] at h
 | succ n ih=>
  intro l out out' i k hl h
  cases l with
  | nil=>simp [scanB] at h
  | cons c l=>
   simp only [List.length_cons] at hl
   by_cases hc:c=0
   ·subst hc
    cases l with
    | nil=>
     rw [scan_last] at h
     simp at h
    | cons d l=>
     simp only [List.length_cons] at hl
     rw [scan_zero] at h
     split at h
     ·rename_i h1
      subst h1
      simp only [Prod.mk.injEq,true_and] at h
      exact ⟨[],l,by rw [h.1]; simp,by simp [stuffB],by simp [stuffB]; omega⟩
     ·split at h
      ·simp at h
      ·rename_i h1 h2
       have hd:d=255:=Classical.not_not.1 h2
       subst hd
       split at h
       ·simp at h
       ·obtain ⟨s,rest,e1,e2,e3⟩:=ih l (out++[0]) out' (i+2) k (by omega) h
        exact ⟨0::s,rest,by rw [e1]; simp,by rw [e2]; simp [stuffB],by rw [e3]; simp [stuffB]; omega⟩
   ·rw [scan_byte hc] at h
    split at h
    ·simp at h
    ·obtain ⟨s,rest,e1,e2,e3⟩:=ih l (out++[c]) out' (i+1) k (by omega) h
     exact ⟨c::s,rest,by rw [e1]; simp,by rw [e2]; simp [stuffB,hc],by rw [e3]; simp [stuffB,hc]; omega⟩
end Go.Proofs.YtcglahfmnoghjaaGreatDoor

/-! A transaction that is read is told by the same bytes again, plainly. Conditions: none. -/
namespace Go.Proofs.YtcglahfmnoghjaaGreatDoor
open Go Go.Eng Go.Proofs.Tryz
theorem u64_small {x m:Int} (h:0≤x∧x≤m) (hm:m≤4503599627370496):wr .u64 x=x:=by
 rw [wr64u]
 omega
theorem count_canon {r:Rd} (h:r.Ok) {m:Int} (h2:(countR r m).2.e=0):r.e=0∧r.left=uintB (countR r m).1++(countR r m).2.left:=by
 have he:r.e=0:=Classical.byContradiction fun he=>by
  rw [count_dead he] at h2
  exact he h2
 have e:countR r m=uintR r m:=by
  unfold countR at h2 ⊢
  unfold uintR
  rw [if_neg (c:=r.e≠0) (by simp [he])] at h2
  rw [if_neg (c:=r.e≠0) (by simp [he]),if_neg (c:=r.e≠0) (by simp [he])]
  split at h2
  ·rename_i h3
   exact (h3 h2).elim
  ·rename_i h3
   rw [if_neg h3,if_neg h3]
   split at h2
   ·exact absurd h2 (by show ¬(2:Int)=0; omega)
   ·rename_i h4
    rw [if_neg h4]
 rw [e] at h2 ⊢
 exact uint_canon h h2
theorem hash_canon {r:Rd} (h:r.Ok) (h2:(hashR r).2.e=0):r.e=0∧r.left=(hashR r).1++(hashR r).2.left:=by
 have he:r.e=0:=Classical.byContradiction fun he=>by
  rw [hash_dead he] at h2
  exact he h2
 refine ⟨he,?_⟩
 unfold hashR at h2 ⊢
 rw [if_neg (by simp [he])] at h2 ⊢
 split at h2
 ·exact absurd h2 (by show ¬(12:Int)=0; omega)
 ·rename_i h3
  rw [if_neg h3]
  show r.left=r.left.take 32++(Rd.mk r.b (r.i+32) 0).left
  rw [left_step h (by omega)]
  exact (List.take_append_drop 32 r.left).symm
theorem bytes_canon {r:Rd} (h:r.Ok) {m:Int} (h2:(bytesR r m).2.e=0):r.e=0∧r.left=bytesB (bytesR r m).1++(bytesR r m).2.left:=by
 have he:r.e=0:=Classical.byContradiction fun he=>by
  rw [bytes_dead he] at h2
  exact he h2
 refine ⟨he,?_⟩
 unfold bytesR at h2 ⊢
 rw [if_neg (by simp [he])] at h2 ⊢
 split at h2
 ·rename_i h3
  exact (h3 h2).elim
 ·rename_i h3
  rw [if_neg h3]
  have h4:(scanB m r.left [] 0).2.1=0:=Classical.not_not.1 h3
  have h5:scanB m r.left [] 0=((scanB m r.left [] 0).1,0,(scanB m r.left [] 0).2.2):=by
   rw [← h4]
  obtain ⟨s,rest,e1,e2,e3⟩:=scan_canon r.left.length r.left [] _ 0 _ (Nat.le_refl _) h5
  show r.left=bytesB (scanB m r.left [] 0).1++(Rd.mk r.b (r.i+((scanB m r.left [] 0).2.2:Int)) 0).left
  rw [left_step h (by omega),e1,e3,List.nil_append,Int.toNat_natCast]
  generalize r.left=l at e2
  subst e2
  have e4:stuffB s++(0::0::rest)=bytesB s++rest:=by simp [bytesB]
  have e5:0+(stuffB s).length+2=(bytesB s).length:=by simp [bytesB]
  rw [e4,e5,List.drop_left]
theorem in_canon {r:Rd} (h:r.Ok) (h2:(dIn r).2.e=0):r.e=0∧r.left=inB (fun y=>y.secret) (dIn r).1++(dIn r).2.left:=by
 have k1:=hashR_ok h
 obtain ⟨k2,n2⟩:=uintR_ok k1.1 (m:=64) (by omega)
 obtain ⟨k3,n3⟩:=uintR_ok k2 (m:=8) (by omega)
 obtain ⟨a1,a2⟩:=bytes_canon k3 (m:=64) h2
 obtain ⟨b1,b2⟩:=uint_canon k2 a1
 obtain ⟨c1,c2⟩:=uint_canon k1.1 b1
 obtain ⟨d1,d2⟩:=hash_canon h c1
 refine ⟨d1,?_⟩
 rw [d2,c2,b2,a2]
 show _=((hashR r).1++uintB (wr .u64 (uintR (hashR r).2 64).1)++uintB (wr .u64 (uintR (uintR (hashR r).2 64).2 8).1)++bytesB (bytesR (uintR (uintR (hashR r).2 64).2 8).2 64).1)++(bytesR (uintR (uintR (hashR r).2 64).2 8).2 64).2.left
 rw [u64_small n2 (by omega),u64_small n3 (by omega)]
 simp only [List.append_assoc]
theorem ins_canon {r:Rd} (h:r.Ok):∀ k,(dIns k r).2.e=0→r.e=0∧r.left=insB (fun y=>y.secret) (dIns k r).1++(dIns k r).2.left
 | 0,h2=>⟨h2,rfl⟩
 | k+1,h2=>by
  obtain ⟨a1,a2⟩:=in_canon (insR_ok h k).1 h2
  obtain ⟨b1,b2⟩:=ins_canon h k a1
  refine ⟨b1,?_⟩
  rw [b2,a2]
  show _=insB (fun y=>y.secret) ((dIns k r).1++[(dIn (dIns k r).2).1])++(dIn (dIns k r).2).2.left
  rw [insB_app]
  simp [insB]
theorem keys_canon {r:Rd} (h:r.Ok):∀ k,(dKeys k r).2.e=0→r.e=0∧r.left=keysB (dKeys k r).1++(dKeys k r).2.left
 | 0,h2=>⟨h2,rfl⟩
 | k+1,h2=>by
  have k1:=(keysR_ok h k).1
  obtain ⟨a1,a2⟩:=uint_canon k1 (m:=16) h2
  obtain ⟨b1,b2⟩:=keys_canon h k a1
  refine ⟨b1,?_⟩
  rw [b2,a2]
  show _=keysB ((dKeys k r).1++[(uintR (dKeys k r).2 16).1])++(uintR (dKeys k r).2 16).2.left
  rw [keysB_app]
  simp only [keysB,u64_small (uintR_ok k1 (m:=16) (by omega)).2 (by omega),List.append_nil,List.append_assoc]
theorem br_canon {r:Rd} (h:r.Ok) (h2:(dBr r).2.e=0):r.e=0∧r.left=brB (dBr r).1++(dBr r).2.left:=by
 obtain ⟨c1,c2⟩:=countR_ok h (m:=16) (by omega)
 obtain ⟨k1,k2⟩:=keysR_ok c1 (countR r 16).1.toNat
 have kk:=(kR_ok h).1
 have hh:=(hR_ok h).1
 obtain ⟨aa,an⟩:=aR_ok h
 obtain ⟨oo,on⟩:=oR_ok h
 obtain ⟨a1,a2⟩:=uint_canon aa (m:=65536) h2
 obtain ⟨b1,b2⟩:=uint_canon hh (m:=1099511627776) a1
 obtain ⟨d1,d2⟩:=hash_canon kk b1
 obtain ⟨e1,e2⟩:=keys_canon c1 _ d1
 obtain ⟨f1,f2⟩:=count_canon h e1
 refine ⟨f1,?_⟩
 have hl:wr .u64 ((dK r).1.length:Int)=(countR r 16).1:=by
  have:(dK r).1.length=(countR r 16).1.toNat:=k2
  rw [this,u64_small (m:=16) ⟨by omega,by omega⟩ (by omega)]
  omega
 rw [f2,e2]
 show uintB _++(keysB (dK r).1++(dK r).2.left)=(uintB (wr .u64 ((dK r).1.length:Int))++keysB (dK r).1++(dH r).1++uintB (wr .u64 (dA r).1)++uintB (wr .u64 (dO r).1))++(dO r).2.left
 rw [hl,u64_small an (by omega),u64_small on (by omega),show (dK r).2.left=(dH r).1++(dH r).2.left from d2,show (dH r).2.left=uintB (dA r).1++(dA r).2.left from b2,show (dA r).2.left=uintB (dO r).1++(dO r).2.left from a2]
 simp only [List.append_assoc]
theorem brs_canon {r:Rd} (h:r.Ok):∀ k,(dBrs k r).2.e=0→r.e=0∧r.left=brsB (dBrs k r).1++(dBrs k r).2.left
 | 0,h2=>⟨h2,rfl⟩
 | k+1,h2=>by
  obtain ⟨a1,a2⟩:=br_canon (brsR_ok h k).1 h2
  obtain ⟨b1,b2⟩:=brs_canon h k a1
  refine ⟨b1,?_⟩
  rw [b2,a2]
  show _=brsB ((dBrs k r).1++[(dBr (dBrs k r).2).1])++(dBr (dBrs k r).2).2.left
  rw [brsB_app]
  simp [brsB]
theorem dC_canon {r:Rd} (h:r.Ok) (h2:(dC r).2.e=0):r.e=0∧r.left=putB (dC r).1++(dC r).2.left:=by
 obtain ⟨c1,c2⟩:=countR_ok h (m:=8) (by omega)
 obtain ⟨a1,a2⟩:=brs_canon c1 _ h2
 obtain ⟨b1,b2⟩:=count_canon h a1
 refine ⟨b1,?_⟩
 have hl:wr .u64 ((dC r).1.length:Int)=(countR r 8).1:=by
  have:(dC r).1.length=(countR r 8).1.toNat:=(brsR_ok c1 _).2
  rw [this,u64_small (m:=8) ⟨by omega,by omega⟩ (by omega)]
  omega
 rw [b2,a2]
 show _=(uintB (wr .u64 ((dC r).1.length:Int))++brsB (dC r).1)++(dC r).2.left
 rw [hl,List.append_assoc]
 rfl
theorem out_canon {r:Rd} (h:r.Ok) (h2:(dOut r).2.e=0):r.e=0∧r.left=toutB (dOut r).1++(dOut r).2.left:=by
 obtain ⟨k1,n1⟩:=uintR_ok h (m:=1125899906842624) (by omega)
 obtain ⟨a1,a2⟩:=dC_canon k1 h2
 obtain ⟨b1,b2⟩:=uint_canon h a1
 refine ⟨b1,?_⟩
 rw [b2,a2]
 show _=(uintB (wr .u64 (uintR r 1125899906842624).1)++putB (dC (uintR r 1125899906842624).2).1)++(dC (uintR r 1125899906842624).2).2.left
 rw [u64_small n1 (by omega),List.append_assoc]
theorem outs_canon {r:Rd} (h:r.Ok):∀ k,(dOuts k r).2.e=0→r.e=0∧r.left=toutsB (dOuts k r).1++(dOuts k r).2.left
 | 0,h2=>⟨h2,rfl⟩
 | k+1,h2=>by
  obtain ⟨a1,a2⟩:=out_canon (outsR_ok h k).1 h2
  obtain ⟨b1,b2⟩:=outs_canon h k a1
  refine ⟨b1,?_⟩
  rw [b2,a2]
  show _=toutsB ((dOuts k r).1++[(dOut (dOuts k r).2).1])++(dOut (dOuts k r).2).2.left
  rw [toutsB_app]
  simp [toutsB]
/-- What is read of bytes, all of them, tells these bytes. -/
theorem tx_canon {b:List Int} (hb:DecIn b) (h:decTxOk b=true):putTx (fun y=>y.secret) (dTx b)=b:=by
 have h0:(Rd.mk b 0 0).Ok:=⟨hb.byt,by show (0:Int)≤0; omega,by show (0:Int)≤b.length; omega,hb.len⟩
 obtain ⟨l1,l2⟩:=uintR_ok h0 (m:=1099511627776) (by omega)
 change (dLock b).2.Ok at l1
 obtain ⟨n1,n2⟩:=countR_ok l1 (m:=64) (by omega)
 obtain ⟨i1,i2⟩:=insR_ok n1 (dN b).1.toNat
 obtain ⟨m1,m2⟩:=countR_ok i1 (m:=64) (by omega)
 obtain ⟨o1,o2⟩:=outsR_ok m1 (dM b).1.toNat
 change (dN b).2.Ok at n1
 change (dI b).2.Ok at i1
 change (dM b).2.Ok at m1
 change (dU b).2.Ok at o1
 unfold decTxOk at h
 have hd:doneR (dU b).2=0:=of_decide_eq_true (Bool.and_eq_true_iff.1 h).1
 have he:(dU b).2.e=0:=Classical.byContradiction fun he=>by
  unfold doneR at hd
  rw [if_pos he] at hd
  exact he hd
 have hleft:(dU b).2.left=[]:=by
  unfold doneR at hd
  rw [if_neg (by simp [he])] at hd
  split at hd
  ·omega
  ·have:=left_len _ o1
   exact List.eq_nil_of_length_eq_zero (by omega)
 obtain ⟨a1,a2⟩:=outs_canon m1 (dM b).1.toNat he
 obtain ⟨b1,b2⟩:=count_canon i1 a1
 obtain ⟨c1,c2⟩:=ins_canon n1 (dN b).1.toNat b1
 obtain ⟨d1,d2⟩:=count_canon l1 c1
 obtain ⟨e1,e2⟩:=uint_canon h0 d1
 have hn:wr .u64 ((dI b).1.length:Int)=(dN b).1:=by
  have:(dI b).1.length=(dN b).1.toNat:=i2
  have n3:0≤(dN b).1∧(dN b).1≤64:=n2
  rw [this,u64_small (m:=64) ⟨by omega,by omega⟩ (by omega)]
  omega
 have hm:wr .u64 ((dU b).1.length:Int)=(dM b).1:=by
  have:(dU b).1.length=(dM b).1.toNat:=o2
  have n3:0≤(dM b).1∧(dM b).1≤64:=m2
  rw [this,u64_small (m:=64) ⟨by omega,by omega⟩ (by omega)]
  omega
 have hall:b=uintB (dLock b).1++(uintB (dN b).1++(insB (fun y=>y.secret) (dI b).1++(uintB (dM b).1++(toutsB (dU b).1++[])))):=by
  rw [← hleft]
  refine Eq.trans (show b=(Rd.mk b 0 0).left from rfl) ?_
  refine e2.trans (congrArg _ ?_)
  refine d2.trans (congrArg _ ?_)
  refine c2.trans (congrArg _ ?_)
  refine b2.trans (congrArg _ ?_)
  exact a2
 refine Eq.trans ?_ hall.symm
 show uintB (wr .u64 (dLock b).1)++uintB (wr .u64 ((dI b).1.length:Int))++insB (fun y=>y.secret) (dI b).1++uintB (wr .u64 ((dU b).1.length:Int))++toutsB (dU b).1=_
 have l3:wr .u64 (dLock b).1=(dLock b).1:=u64_small l2 (by omega)
 rw [hn,hm,l3]
 simp only [List.append_assoc,List.append_nil]
theorem hash_byt {r:Rd} (h:r.Ok):Byt (hashR r).1:=by
 unfold hashR
 split
 ·intro y hy
  rw [List.mem_replicate] at hy
  omega
 split
 ·intro y hy
  rw [List.mem_replicate] at hy
  omega
 ·exact fun y hy=>left_byt h y (List.mem_of_mem_take hy)
theorem ins_small {r:Rd} (h:r.Ok):∀ k,∀ x,x∈(dIns k r).1→x.tx.length=32∧Byt x.tx
 | 0,x,hx=>by cases hx
 | k+1,x,hx=>by
  change x∈(dIns k r).1++[(dIn (dIns k r).2).1] at hx
  rcases List.mem_append.1 hx with h1 | h1
  ·exact ins_small h k x h1
  ·rw [List.mem_singleton.1 h1]
   exact ⟨(hashR_ok (insR_ok h k).1).2,hash_byt (insR_ok h k).1⟩
theorem brs_small {r:Rd} (h:r.Ok):∀ k,(∀ b,b∈(dBrs k r).1→b.lock.length=32∧Byt b.lock)∧weight (dBrs k r).1≤17*k
 | 0=>⟨fun b hb=>(List.not_mem_nil hb).elim,Nat.le_refl _⟩
 | k+1=>by
  obtain ⟨h1,h2⟩:=brs_small h k
  have k1:=(brsR_ok h k).1
  refine ⟨fun b hb=>?_,?_⟩
  ·change b∈(dBrs k r).1++[(dBr (dBrs k r).2).1] at hb
   rcases List.mem_append.1 hb with h3 | h3
   ·exact h1 b h3
   ·rw [List.mem_singleton.1 h3]
    exact ⟨(hR_ok k1).2,hash_byt (kR_ok k1).1⟩
  ·show weight ((dBrs k r).1++[(dBr (dBrs k r).2).1])≤17*(k+1)
   have h3:(dBr (dBrs k r).2).1.keys.length≤16:=(kR_ok k1).2
   have h4:∀ l:List Br,∀ b:Br,weight (l++[b])=weight l+1+b.keys.length:=fun l b=>by
    induction l with
    | nil=>simp [weight,sumK]
    | cons c l ih=>
     simp only [weight,List.cons_append,List.length_cons,sumK] at ih ⊢
     omega
   rw [h4]
   omega
theorem outs_small {r:Rd} (h:r.Ok):∀ k,(∀ o,o∈(dOuts k r).1→o.cond.length≤8∧Locks o.cond∧∀ b,b∈o.cond→Byt b.lock)∧sumW (dOuts k r).1≤136*k
 | 0=>⟨fun o ho=>(List.not_mem_nil ho).elim,Nat.le_refl _⟩
 | k+1=>by
  obtain ⟨h1,h2⟩:=outs_small h k
  have k1:=(outsR_ok h k).1
  obtain ⟨u1,_⟩:=uintR_ok k1 (m:=1125899906842624) (by omega)
  obtain ⟨c1,c2,c3⟩:=countR_ok u1 (m:=8) (by omega)
  obtain ⟨s1,s2⟩:=brs_small c1 (countR (uintR (dOuts k r).2 1125899906842624).2 8).1.toNat
  have s3:=(brsR_ok c1 (countR (uintR (dOuts k r).2 1125899906842624).2 8).1.toNat).2
  change (∀ b,b∈(dOut (dOuts k r).2).1.cond→_) at s1
  change weight (dOut (dOuts k r).2).1.cond≤_ at s2
  change (dOut (dOuts k r).2).1.cond.length=_ at s3
  refine ⟨fun o ho=>?_,?_⟩
  ·change o∈(dOuts k r).1++[(dOut (dOuts k r).2).1] at ho
   rcases List.mem_append.1 ho with h3 | h3
   ·exact h1 o h3
   ·rw [List.mem_singleton.1 h3]
    exact ⟨by omega,fun b hb=>(s1 b hb).1,fun b hb=>(s1 b hb).2⟩
  ·show sumW ((dOuts k r).1++[(dOut (dOuts k r).2).1])≤136*(k+1)
   have h4:∀ l:List TOut,∀ o:TOut,sumW (l++[o])=sumW l+weight o.cond:=fun l o=>by
    induction l with
    | nil=>simp [sumW]
    | cons c l ih=>
     simp only [List.cons_append,sumW] at ih ⊢
     omega
   rw [h4]
   omega
theorem tx_lens {b:List Int} (hb:DecIn b):Lens (dTx b)∧TxOk (dTx b):=by
 have h0:(Rd.mk b 0 0).Ok:=⟨hb.byt,by show (0:Int)≤0; omega,by show (0:Int)≤b.length; omega,hb.len⟩
 obtain ⟨l1,l2⟩:=uintR_ok h0 (m:=1099511627776) (by omega)
 change (dLock b).2.Ok at l1
 obtain ⟨n1,n2⟩:=countR_ok l1 (m:=64) (by omega)
 obtain ⟨i1,i2⟩:=insR_ok n1 (dN b).1.toNat
 obtain ⟨m1,m2⟩:=countR_ok i1 (m:=64) (by omega)
 obtain ⟨o1,o2⟩:=outsR_ok m1 (dM b).1.toNat
 have n3:0≤(dN b).1∧(dN b).1≤64:=n2
 have m3:0≤(dM b).1∧(dM b).1≤64:=m2
 have i3:(dTx b).ins.length=(dN b).1.toNat:=i2
 have o3:(dTx b).outs.length=(dM b).1.toNat:=o2
 obtain ⟨s1,s2⟩:=outs_small m1 (dM b).1.toNat
 have s4:sumW (dTx b).outs≤136*(dM b).1.toNat:=s2
 have s3:∀ o,o∈(dTx b).outs→o.cond.length≤8∧Locks o.cond∧∀ b,b∈o.cond→Byt b.lock:=s1
 exact ⟨⟨by omega,by omega,fun o ho=>by have:=(s3 o ho).1; omega⟩,⟨by omega,by omega,by omega,ins_small n1 _,fun o ho=>(s3 o ho).2⟩⟩
theorem sumS_of:∀ {l:List TIn},(∀ x,x∈l→x.secret.length≤64)→sumS l≤64*l.length
 | [],_=>Nat.le_refl _
 | x::l,h=>by
  have h1:=h x List.mem_cons_self
  have h2:=sumS_of fun y hy=>h y (List.mem_cons_of_mem _ hy)
  simp only [sumS,List.length_cons]
  omega
theorem check_ins {t:TxD} (h:checkT t=0) {x:TIn} (hx:x∈t.ins):x.secret.length≤64:=by
 cases e:inOk x with
 | true=>
  have:=inOk_of e
  omega
 | false=>exact (check_four (.inr (.inr (.inr (.inr (badIn_of hx e 0))))) h).elim
structure DecFine (t:TxD):Prop where
 lens:Lens t
 ok:TxOk t
 s:∀ x,x∈t.ins→x.secret.length≤64
 sum:sumS t.ins≤1000000
theorem dec_fine {b:List Int} (hb:DecIn b):DecFine (decTxB b):=by
 unfold decTxB
 cases h:decTxOk b with
 | false=>exact ⟨⟨Nat.zero_le _,Nat.zero_le _,fun o ho=>(List.not_mem_nil ho).elim⟩,⟨Nat.zero_le _,Nat.zero_le _,Nat.zero_le _,fun o ho=>(List.not_mem_nil ho).elim,fun o ho=>(List.not_mem_nil ho).elim⟩,fun o ho=>(List.not_mem_nil ho).elim,Nat.zero_le _⟩
 | true=>
  obtain ⟨a,c⟩:=tx_lens hb
  have h2:=h
  unfold decTxOk at h2
  have hc:checkT (dTx b)=0:=of_decide_eq_true (Bool.and_eq_true_iff.1 h2).2
  have hs:∀ x,x∈(dTx b).ins→x.secret.length≤64:=fun x hx=>check_ins hc hx
  have:=sumS_of hs
  have:=c.n
  refine ⟨a,c,hs,?_⟩
  have h3:someB ((dTx b).ins.length:Int)=true:=by
   cases e:someB ((dTx b).ins.length:Int) with
   | true=>rfl
   | false=>exact (check_four (.inr (.inr (.inl e))) hc).elim
  unfold someB at h3
  have h4:((dTx b).ins.length:Int)≤64:=of_decide_eq_true (Bool.and_eq_true_iff.1 h3).2
  show sumS (dTx b).ins≤1000000
  omega
end Go.Proofs.YtcglahfmnoghjaaGreatDoor
