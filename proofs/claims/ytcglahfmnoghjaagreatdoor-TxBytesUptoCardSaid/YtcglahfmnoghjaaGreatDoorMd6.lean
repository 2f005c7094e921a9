/- Part 6 of the texts behind the last one: what they say stands ahead of each. Conditions: none. -/
import Derived.Test.YtcglahfmnoghjaaGreatDoorMd5
import Derived.Laws.Externs
/-! A transaction's bytes: the walk holds. Conditions: none. -/
namespace Go.Proofs.YtcglahfmnoghjaaGreatDoor
open Go Go.Eng Go.Proofs.Tryz
def shownVC:Prop:=∀ (x:TIn),True→x.secret=x.secret∧True∧True
theorem shown_eq:shownVC=fnS F99 f77 (bodyOf f77) shownLS noAnn:=by kernel_rfl
theorem shown_ok:Fits F99 f77 (bodyOf f77) shownLS noAnn:=by
 constructor
 rw [← shown_eq]
 exact fun _ _=>⟨rfl,trivial,trivial⟩
theorem f72_has:Has prog 77 f77 (bodyOf f77):=⟨by kernel_rfl,by kernel_rfl,by kernel_rfl⟩
theorem known110:Known prog L110:=by
 unfold L110
 exact known99.lent mixed f72_has F99_eq shown_ok (fun _ _=>Nat.le_refl _) (fun _ _=>rfl)
theorem known111:Known prog L111:=by
 unfold L111
 exact known110.inl mixed f70_has F110_eq (by rfl)
def eA2 (x:TxD) (k:Nat):List Int:=tA1 x++insB (secOf (77:Nat)) (List.take k x.ins)
def eA3 (x:TxD) (k:Nat) (y:TIn):List Int:=eA2 x k++y.tx
def eA4 (x:TxD) (k:Nat) (y:TIn):List Int:=eA3 x k y++uintB (wr IntKind.u64 y.n)
def eA5 (x:TxD) (k:Nat) (y:TIn):List Int:=eA4 x k y++uintB (wr IntKind.u64 y.branch)
def eA6 (x:TxD) (k:Nat):List Int:=eA2 x k++uintB (wr IntKind.u64 (x.outs.length:Int))
def eA7 (x:TxD) (k i:Nat):List Int:=eA6 x k++toutsB (List.take i x.outs)
def eH (x:TxD):Prop:=((x.lock=x.lock∧x.ins=x.ins∧x.outs=x.outs∧True)∧(x.lock=x.lock∧x.ins=x.ins∧x.outs=x.outs∧True)∧(True∧True)∧True)
def eH2 (x:TxD) (k:Nat):Prop:=((x.lock=x.lock∧x.ins=x.ins∧x.outs=x.outs∧True)∧(x.lock=x.lock∧x.ins=x.ins∧x.outs=x.outs∧True)∧(True∧True)∧eA6 x k=eA6 x k∧True)
theorem eH_ok (x:TxD):eH x:=⟨⟨rfl,rfl,rfl,trivial⟩,⟨rfl,rfl,rfl,trivial⟩,⟨trivial,trivial⟩,trivial⟩
theorem eH2_ok (x:TxD) (k:Nat):eH2 x k:=⟨⟨rfl,rfl,rfl,trivial⟩,⟨rfl,rfl,rfl,trivial⟩,⟨trivial,trivial⟩,rfl,trivial⟩
def eF (x:TxD) (k:Nat) (y:TIn):Prop:=inI64 ((k:Int)+(1:Int))∧∃ y_1,Nat.le y_1 x.ins.length∧x.ins.length-y_1<x.ins.length-k∧(y_1:Int)=(k:Int)+(1:Int)∧eH x∧tA1 x++insB (secOf (77:Nat)) (List.take y_1 x.ins)=eA5 x k y++bytesB y.secret∧True
def eG (x:TxD) (k:Nat) (y:TIn):Prop:=(y.tx=y.tx∧y.n=y.n∧y.branch=y.branch∧y.secret=y.secret∧True)∧True∧True∧(True∧y.secret=y.secret)∧((True∧True)∧eA5 x k y=eA5 x k y∧True)∧(BB.mk (eA5 x k y) y.secret).Ok∧eF x k y
def eK (x:TxD) (k:Nat) (y:TIn):Prop:=(True∧wr IntKind.u64 y.branch=wr IntKind.u64 y.branch)∧((True∧True)∧eA4 x k y=eA4 x k y∧True)∧(BN.mk (eA4 x k y) (wr IntKind.u64 y.branch)).Low∧eG x k y
def eL (x:TxD) (k:Nat) (y:TIn):Prop:=(True∧wr IntKind.u64 y.n=wr IntKind.u64 y.n)∧((True∧True)∧eA3 x k y=eA3 x k y∧True)∧(BN.mk (eA3 x k y) (wr IntKind.u64 y.n)).Low∧eK x k y
def eM (x:TxD) (k i:Nat) (y:TOut):Prop:=((eA7 x k i).length+(tA8 y).length)*(1:Nat)≤(140737488355328:Nat)∧(eA7 x k i).length+(tA8 y).length≤(1152921504606846976:Nat)∧(eA7 x k i++(tA8 y)=eA7 x k i++(tA8 y)∧y.cond=y.cond∧True)∧True∧(PutX.mk (eA7 x k i++(tA8 y)) y.cond).Ok∧inI64 ((i:Int)+(1:Int))∧∃ y_1,Nat.le y_1 x.outs.length∧x.outs.length-y_1<x.outs.length-i∧((y_1:Int)=(i:Int)+(1:Int)∧True)∧eH2 x k∧eA6 x k++toutsB (List.take y_1 x.outs)=eA7 x k i++(tA8 y)++putB y.cond∧True
def eBody (x:TxD):Prop:=((x.ins.length:Int)≤(9223372036854775807:Int)→(∃ x_1,Nat.le x_1 x.ins.length∧(x_1:Int)=(0:Int)∧eH x∧eA2 x x_1=tA1 x∧True) ∧
 ∀ (x_1:Nat),x_1.le x.ins.length→(decide ((x_1:Int)<(x.ins.length:Int))=true→(0:Int)≤(x_1:Int)∧(x_1:Int)<(↑x.ins.length :
 Int)∧∀ (y:AA (87:Nat)),x.ins[(x_1:Int).toNat]?=some y→((True∧y.tx=y.tx∧True)∧((True∧True)∧eA2 x x_1=eA2 x x_1∧True) ∧
 (BH.mk (eA2 x x_1) y.tx).Ok∧((True∧wr IntKind.u64 y.n=wr IntKind.u64 y.n)∧((True∧True)∧eA3 x x_1 y=eA3 x x_1 y∧True)∧(BN.mk (eA3 x
 x_1 y) (wr IntKind.u64 y.n)).Low∧(eK x x_1 y)∧eK x x_1 y)∧(((True∧wr IntKind.u64 y.n=wr IntKind.u64 y.n)∧((True∧True)∧eA3 x x_1 y=eA3
 x x_1 y∧True)∧(BN.mk (eA3 x x_1 y) (wr IntKind.u64 y.n)).Low∧(eK x x_1 y)∧eK x x_1 y)∧eL x x_1 y)∧(eL x x_1 y)∧eL x x_1 y)∧(((True ∧
 y.tx=y.tx∧True)∧((True∧True)∧eA2 x x_1=eA2 x x_1∧True)∧(BH.mk (eA2 x x_1) y.tx).Ok∧((True∧wr IntKind.u64 y.n=wr IntKind.u64 y.n)
 ∧ ((True∧True)∧eA3 x x_1 y=eA3 x x_1 y∧True)∧(BN.mk (eA3 x x_1 y) (wr IntKind.u64 y.n)).Low∧(eK x x_1 y)∧eK x x_1 y)∧(((True∧wr
 IntKind.u64 y.n=wr IntKind.u64 y.n)∧((True∧True)∧eA3 x x_1 y=eA3 x x_1 y∧True)∧(BN.mk (eA3 x x_1 y) (wr IntKind.u64 y.n)).Low∧(eK x x_1
 y)∧eK x x_1 y)∧eL x x_1 y)∧(eL x x_1 y)∧eL x x_1 y)∧(((True∧y.tx=y.tx∧True)∧((True∧True)∧eA2 x x_1=eA2 x x_1∧True)∧(BH.mk
 (eA2 x x_1) y.tx).Ok∧((True∧wr IntKind.u64 y.n=wr IntKind.u64 y.n)∧((True∧True)∧eA3 x x_1 y=eA3 x x_1 y∧True)∧(BN.mk (eA3 x x_1 y)
 (wr IntKind.u64 y.n)).Low∧(eK x x_1 y)∧eK x x_1 y)∧eL x x_1 y)∧(True∧y.tx=y.tx∧True)∧((True∧True)∧eA2 x x_1=eA2 x x_1∧True) ∧
 (BH.mk (eA2 x x_1) y.tx).Ok∧eL x x_1 y)∧((True∧y.tx=y.tx∧True)∧((True∧True)∧eA2 x x_1=eA2 x x_1∧True)∧(BH.mk (eA2 x x_1) y.tx).Ok
 ∧ (eL x x_1 y)∧eL x x_1 y)∧(True∧y.tx=y.tx∧True)∧((True∧True)∧eA2 x x_1=eA2 x x_1∧True)∧(BH.mk (eA2 x x_1) y.tx).Ok∧eL x x_1 y)
 ∧ (((True∧y.tx=y.tx∧True)∧((True∧True)∧eA2 x x_1=eA2 x x_1∧True)∧(BH.mk (eA2 x x_1) y.tx).Ok∧((True∧wr IntKind.u64 y.n=wr
 IntKind.u64 y.n)∧((True∧True)∧eA3 x x_1 y=eA3 x x_1 y∧True)∧(BN.mk (eA3 x x_1 y) (wr IntKind.u64 y.n)).Low∧(eK x x_1 y)∧eK x x_1 y) ∧
 eL x x_1 y)∧(((True∧y.tx=y.tx∧True)∧((True∧True)∧eA2 x x_1=eA2 x x_1∧True)∧(BH.mk (eA2 x x_1) y.tx).Ok∧((True∧wr IntKind.u64
 y.n=wr IntKind.u64 y.n)∧((True∧True)∧eA3 x x_1 y=eA3 x x_1 y∧True)∧(BN.mk (eA3 x x_1 y) (wr IntKind.u64 y.n)).Low∧(eK x x_1 y)∧eK x
 x_1 y)∧eL x x_1 y)∧(True∧y.tx=y.tx∧True)∧((True∧True)∧eA2 x x_1=eA2 x x_1∧True)∧(BH.mk (eA2 x x_1) y.tx).Ok∧eL x x_1 y) ∧
 ((True∧y.tx=y.tx∧True)∧((True∧True)∧eA2 x x_1=eA2 x x_1∧True)∧(BH.mk (eA2 x x_1) y.tx).Ok∧eL x x_1 y)∧(True∧y.tx=y.tx∧True)
 ∧ ((True∧True)∧eA2 x x_1=eA2 x x_1∧True)∧(BH.mk (eA2 x x_1) y.tx).Ok∧eL x x_1 y)∧((True∧y.tx=y.tx∧True)∧((True∧True)∧eA2 x
 x_1=eA2 x x_1∧True)∧(BH.mk (eA2 x x_1) y.tx).Ok∧(eL x x_1 y)∧eL x x_1 y)∧(((True∧y.tx=y.tx∧True)∧((True∧True)∧eA2 x x_1=eA2 x
 x_1∧True)∧(BH.mk (eA2 x x_1) y.tx).Ok∧(eL x x_1 y)∧eL x x_1 y)∧(True∧y.tx=y.tx∧True)∧((True∧True)∧eA2 x x_1=eA2 x x_1∧True) ∧
 (BH.mk (eA2 x x_1) y.tx).Ok∧eL x x_1 y)∧((True∧y.tx=y.tx∧True)∧((True∧True)∧eA2 x x_1=eA2 x x_1∧True)∧(BH.mk (eA2 x x_1) y.tx).Ok
 ∧ eL x x_1 y)∧(True∧y.tx=y.tx∧True)∧((True∧True)∧eA2 x x_1=eA2 x x_1∧True)∧(BH.mk (eA2 x x_1) y.tx).Ok∧eL x x_1 y)∧(decide
 ((x_1:Int)<(x.ins.length:Int))=false→(x.outs.length:Int)≤(9223372036854775807:Int)→(True∧wr IntKind.u64 (x.outs.length:Int) =
 wr IntKind.u64 (x.outs.length:Int))∧((True∧True)∧eA2 x x_1=eA2 x x_1∧True)∧(BN.mk (eA2 x x_1) (wr IntKind.u64 (↑x.outs.length :
 Int))).Low∧True∧((True∧True)∧eA6 x x_1=eA6 x x_1∧True)∧(eA6 x x_1).length.le (1099511627776:Nat)∧((x.outs.length:Int) ≤
 (9223372036854775807:Int)→(∃ x_2,Nat.le x_2 x.outs.length∧((x_2:Int)=(0:Int)∧True)∧eH2 x x_1∧eA7 x x_1 x_2=eA6 x x_1∧True)∧∀
 (x_2:Nat),x_2.le x.outs.length→(decide ((x_2:Int)<(x.outs.length:Int))=true→(0:Int)≤(x_2:Int)∧(x_2:Int)<(↑x.outs.length
 : Int)∧∀ (y:AA (90:Nat)),x.outs[(x_2:Int).toNat]?=some y→(True∧True∧True∧((True∧wr IntKind.u64 y.amount=wr IntKind.u64
 y.amount)∧((SV.val (A:=AA) (Value.slice none (0:Nat) (0:Nat))=SV.val (A:=AA) (Value.slice none (0:Nat) (0:Nat))∧True)∧([]:List
 Int)=[]∧True)∧(BN.mk [] (wr IntKind.u64 y.amount)).Low∧(True∧((True∧True)∧tA8 y=tA8 y∧True)∧(tA8 y).length.le (1099511627776:Nat)
 ∧ (eM x x_1 x_2 y)∧eM x x_1 x_2 y)∧True∧((True∧True)∧tA8 y=tA8 y∧True)∧(tA8 y).length.le (1099511627776:Nat)∧eM x x_1 x_2 y) ∧
 (True∧wr IntKind.u64 y.amount=wr IntKind.u64 y.amount)∧((SV.val (A:=AA) (Value.slice none (0:Nat) (0:Nat))=SV.val (A:=AA) (Value.slice
 none (0:Nat) (0:Nat))∧True)∧([]:List Int)=[]∧True)∧(BN.mk [] (wr IntKind.u64 y.amount)).Low∧True∧((True∧True)∧tA8 y=tA8 y ∧
 True)∧(tA8 y).length.le (1099511627776:Nat)∧eM x x_1 x_2 y)∧True∧True∧True∧(True∧wr IntKind.u64 y.amount=wr IntKind.u64 y.amount) ∧
 ((SV.val (A:=AA) (Value.slice none (0:Nat) (0:Nat))=SV.val (A:=AA) (Value.slice none (0:Nat) (0:Nat))∧True)∧([]:List Int)=[] ∧
 True)∧(BN.mk [] (wr IntKind.u64 y.amount)).Low∧True∧((True∧True)∧tA8 y=tA8 y∧True)∧(tA8 y).length.le (1099511627776:Nat)∧eM x x_1
 x_2 y)∧(decide ((x_2:Int)<(x.outs.length:Int))=false→True∧True∧putTx (fun x=>x.secret) x=eA7 x x_1 x_2∧True))))
def tencVC:Prop:=∀ (x:TxD),EncOk x→(True∧True∧True∧((True∧wr IntKind.u64 x.lock=wr IntKind.u64 x.lock)∧(((SV.val (A:=AA) (Value.slice none (0:Nat)
 (0:Nat)):SV AA)=SV.val (A:=AA) (Value.slice none (0:Nat) (0:Nat))∧True)∧([]:List Int)=[]∧True)∧(BN.mk [] (wr IntKind.u64
 x.lock)).Low∧((x.ins.length:Int)≤(9223372036854775807:Int)→(True∧wr IntKind.u64 (x.ins.length:Int)=wr IntKind.u64 (↑x.ins.length :
 Int))∧((True∧True)∧tA0 x=tA0 x∧True)∧(BN.mk (tA0 x) (wr IntKind.u64 (x.ins.length:Int))).Low∧eBody x))∧((x.ins.length:Int) ≤
 (9223372036854775807:Int)→(True∧wr IntKind.u64 x.lock=wr IntKind.u64 x.lock)∧(((SV.val (A:=AA) (Value.slice none (0:Nat) (0:Nat)):SV
 AA)=SV.val (A:=AA) (Value.slice none (0:Nat) (0:Nat))∧True)∧([]:List Int)=[]∧True)∧(BN.mk [] (wr IntKind.u64 x.lock)).Low∧(True ∧
 wr IntKind.u64 (x.ins.length:Int)=wr IntKind.u64 (x.ins.length:Int))∧((True∧True)∧tA0 x=tA0 x∧True)∧(BN.mk (tA0 x) (wr IntKind.u64
 (x.ins.length:Int))).Low∧eBody x))∧((x.ins.length:Int)≤(9223372036854775807:Int)→True∧True∧True∧(True∧wr IntKind.u64 x.lock =
 wr IntKind.u64 x.lock)∧(((SV.val (A:=AA) (Value.slice none (0:Nat) (0:Nat)):SV AA)=SV.val (A:=AA) (Value.slice none (0:Nat) (0:Nat))
 ∧ True)∧([]:List Int)=[]∧True)∧(BN.mk [] (wr IntKind.u64 x.lock)).Low∧(True∧wr IntKind.u64 (x.ins.length:Int)=wr IntKind.u64
 (x.ins.length:Int))∧((True∧True)∧tA0 x=tA0 x∧True)∧(BN.mk (tA0 x) (wr IntKind.u64 (x.ins.length:Int))).Low∧eBody x)
theorem tenc_eq:tencVC=fnS F111 f32 (bodyOf f32) encLS noAnn:=by kernel_rfl
theorem insS_le:∀ {l:List TIn},(∀ x,x∈l→x.tx.length=32)→(insB (secOf 77) l).length≤52*l.length+2*sumS l
 | [],_=>by simp [insB]
 | x::l,h=>by
  have h1:=insS_le (l:=l) (fun y hy=>h y (List.mem_cons_of_mem _ hy))
  have h2:=h x List.mem_cons_self
  have h3:=uintB_le x.n
  have h4:=uintB_le x.branch
  have h5:=stuffB_le x.secret
  have e:secOf 77 x=x.secret:=rfl
  simp only [insB,inB,bytesB,e,sumS,List.length_append,List.length_cons,List.length_nil]
  omega
theorem insS_take_le {l:List TIn} (h:∀ x,x∈l→x.tx.length=32) (i:Nat):(insB (secOf 77) (l.take i)).length≤52*l.length+2*sumS l:=by
 have h1:=insS_le h
 have h2:=congrArg (fun x=>(insB (secOf 77) x).length) (List.take_append_drop i l)
 simp only [insB_app,List.length_append] at h2
 omega
theorem sec_le:∀ {l:List TIn} {x:TIn},x∈l→x.secret.length≤sumS l
 | y::l,x,h=>by
  simp only [sumS]
  rcases List.mem_cons.1 h with rfl | h
  ·omega
  ·have:=sec_le h; omega
theorem eA2_le {x:TxD} (h:EncOk x) (k:Nat):(eA2 x k).length≤18+(52*x.ins.length+2*sumS x.ins):=by
 have h1:=tA1_le x
 have h2:=insS_take_le (fun y hy=>(h.tx y hy).1) k
 simp only [eA2,List.length_append]
 omega
theorem eA6_le {x:TxD} (h:EncOk x) (k:Nat):(eA6 x k).length≤27+(52*x.ins.length+2*sumS x.ins):=by
 have h1:=eA2_le h k
 have h2:=uintB_le (x.outs.length:Int)
 simp only [eA6,List.length_append]
 omega
theorem eA7_le {x:TxD} (h:EncOk x) (k i:Nat):(eA7 x k i).length≤27+(52*x.ins.length+2*sumS x.ins)+18*x.outs.length+59*sumW x.outs:=by
 have h1:=eA6_le h k
 have h2:=toutsB_take_le (fun o ho=>(h.locks o ho).1) i
 simp only [eA7,List.length_append]
 omega
theorem eF_ok {x:TxD} (hx:EncOk x) {k:Nat} (hk:k<x.ins.length) {y:TIn} (hy:x.ins[k]?=some y):eF x k y:=by
 have h1:=hx.n
 refine ⟨by unfold inI64; omega,k+1,hk,by omega,by omega,eH_ok x,?_,trivial⟩
 rw [insB_up hy]
 simp only [eA5,eA4,eA3,eA2,inB,List.append_assoc]
 rfl
theorem eG_ok {x:TxD} (hx:EncOk x) {k:Nat} (hk:k<x.ins.length) {y:TIn} (hy:x.ins[k]?=some y):eG x k y:=by
 have h1:=hx.n
 have h2:=eA2_le hx k
 have h3:=(hx.tx y (List.mem_of_getElem? hy)).1
 have h4:=uintB_le y.n
 have h5:=uintB_le y.branch
 have h6:=hx.s
 have h7:=sec_le (List.mem_of_getElem? hy)
 refine ⟨⟨rfl,rfl,rfl,rfl,trivial⟩,trivial,trivial,⟨trivial,rfl⟩,⟨⟨trivial,trivial⟩,rfl,trivial⟩,⟨?_,show y.secret.length≤1000000000 by omega⟩,eF_ok hx hk hy⟩
 simp only [eA5,eA4,eA3,List.length_append]
 omega
theorem eK_ok {x:TxD} (hx:EncOk x) {k:Nat} (hk:k<x.ins.length) {y:TIn} (hy:x.ins[k]?=some y):eK x k y:=by
 have h1:=hx.n
 have h2:=eA2_le hx k
 have h3:=(hx.tx y (List.mem_of_getElem? hy)).1
 have h4:=uintB_le y.n
 have h6:=hx.s
 refine ⟨⟨trivial,rfl⟩,⟨⟨trivial,trivial⟩,rfl,trivial⟩,low_of ?_,eG_ok hx hk hy⟩
 simp only [eA4,eA3,List.length_append]
 omega
theorem eL_ok {x:TxD} (hx:EncOk x) {k:Nat} (hk:k<x.ins.length) {y:TIn} (hy:x.ins[k]?=some y):eL x k y:=by
 have h1:=hx.n
 have h2:=eA2_le hx k
 have h3:=(hx.tx y (List.mem_of_getElem? hy)).1
 have h6:=hx.s
 refine ⟨⟨trivial,rfl⟩,⟨⟨trivial,trivial⟩,rfl,trivial⟩,low_of ?_,eK_ok hx hk hy⟩
 simp only [eA3,List.length_append]
 omega
theorem eM_ok {x:TxD} (hx:EncOk x) (k:Nat) {i:Nat} (hi:i<x.outs.length) {y:TOut} (hy:x.outs[i]?=some y):eM x k i y:=by
 have h1:=hx.n
 have h2:=hx.m
 have h3:=hx.w
 have h4:=eA7_le hx k i
 have h5:=uintB_le y.amount
 have h6:=weight_sum (List.mem_of_getElem? hy)
 have h8:=hx.s
 have h7:(tA8 y).length≤9:=by simp only [tA8,List.nil_append]; exact h5
 refine ⟨by omega,by omega,⟨rfl,rfl,trivial⟩,trivial,⟨?_,show weight y.cond≤2000000 by omega,(hx.locks y (List.mem_of_getElem? hy)).1⟩,by unfold inI64; omega,i+1,hi,by omega,⟨by omega,trivial⟩,eH2_ok x k,?_,trivial⟩
 ·simp only [List.length_append]
  omega
 ·rw [toutsB_up hy]
  simp only [eA7,tA8,toutB,List.nil_append,List.append_assoc]
theorem eA7_all {x:TxD} {k i:Nat} (hk:x.ins.length≤k) (hi:x.outs.length≤i):eA7 x k i=putTx (fun y=>y.secret) x:=by
 simp only [eA7,eA6,eA2,tA1,putTx,List.take_of_length_le hk,List.take_of_length_le hi,List.nil_append]
 rfl
theorem eBody_ok {x:TxD} (hx:EncOk x):eBody x:=by
 have h1:=hx.n
 have h2:=hx.m
 have h3:=hx.w
 have h0:=hx.s
 unfold eBody
 simp only [true_and,and_true,decide_eq_true_eq,decide_eq_false_iff_not,Int.toNat_natCast,eH_ok,eH2_ok]
 refine fun _=>⟨⟨0,Nat.zero_le _,rfl,by simp [eA2,insB]⟩,fun k hk=>⟨fun h=>?_,fun h _=>?_⟩⟩
 ·have hk':k<x.ins.length:=by omega
  refine ⟨by omega,h,fun y hy=>?_⟩
  have p1:=eL_ok hx hk' (y:=y) hy
  have p2:=eK_ok hx hk' (y:=y) hy
  have p3:=eA2_le hx k
  have p4:y.tx.length=32:=(hx.tx y (List.mem_of_getElem? hy)).1
  have p5:(BH.mk (eA2 x k) y.tx).Ok:=⟨show (eA2 x k).length≤1099511627776 by omega,p4⟩
  have p6:(BN.mk (eA3 x k y) (wr .u64 y.n)).Low:=p1.2.2.1
  simp only [p1,p2,p5,p6,and_self]
 ·have q1:=eA2_le hx k
  have q2:=eA6_le hx k
  refine ⟨low_of (by omega),show (eA6 x k).length≤1099511627776 by omega,fun _=>⟨⟨0,Nat.zero_le _,rfl,by simp [eA7,toutsB]⟩,fun i hi=>⟨fun h4=>?_,fun h4=>?_⟩⟩⟩
  ·have hi':i<x.outs.length:=by omega
   refine ⟨by omega,h4,fun y hy=>?_⟩
   have p1:=eM_ok hx k hi' (y:=y) hy
   have p2:(BN.mk [] (wr .u64 y.amount)).Low:=low_of (by simp)
   have p3:(tA8 y).length.le 1099511627776:=by
    have:=uintB_le y.amount
    show (tA8 y).length≤1099511627776
    simp only [tA8,List.nil_append]
    omega
   simp only [p1,p2,p3,and_self]
  ·rw [eA7_all (by omega) (by omega)]
theorem tenc_vc:tencVC:=by
 intro x hx
 have h1:=eBody_ok hx
 have h2:(BN.mk [] (wr .u64 x.lock)).Low:=low_of (by simp)
 have h3:(BN.mk (tA0 x) (wr .u64 (x.ins.length:Int))).Low:=low_of (by
  have:=uintB_le x.lock
  simp only [tA0,List.nil_append]
  omega)
 simp only [h1,h2,h3,and_self,implies_true]
theorem tenc_ok:Fits F111 f32 (bodyOf f32) encLS noAnn:=by
 constructor
 rw [← tenc_eq]
 exact tenc_vc
theorem f38_has:Has prog 32 f32 (bodyOf f32):=⟨by kernel_rfl,by kernel_rfl,by kernel_rfl⟩
theorem known112:Known prog L112:=by
 unfold L112
 exact known111.lent mixed f38_has F111_eq tenc_ok (fun _ _=>Nat.zero_le _) (fun _ _=>rfl)
end Go.Proofs.YtcglahfmnoghjaaGreatDoor

/-! A transaction of bytes; TxBack: what is said of them. Conditions: none. -/
namespace Go.Proofs.YtcglahfmnoghjaaGreatDoor
open Go Go.Eng Go.Proofs.Tryz
noncomputable def L162:List (Nat×SpecT AA):=(48,tLent readLS bytesGet1)::L112
theorem read_at:ttOf L161 48=tLent readLS bytesGet1:=by
 unfold L161
 rfl
theorem known162:Known prog L162:=by
 unfold L162
 exact known161.over _ _ read_at known112
noncomputable def L163:List (Nat×SpecT AA):=(50,tLent rUintLS2 rdnGet)::L162
theorem uint_here:ttOf L161 50=tLent rUintLS2 rdnGet:=by
 unfold L161
 rfl
theorem known163:Known prog L163:=by
 unfold L163
 exact known161.over _ _ uint_here known162
noncomputable def L164:List (Nat×SpecT AA):=(49,tLent countLS rdiGet)::L163
theorem count_here:ttOf L161 49=tLent countLS rdiGet:=by
 unfold L161
 rfl
theorem known164:Known prog L164:=by
 unfold L164
 exact known161.over _ _ count_here known163
noncomputable def L165:List (Nat×SpecT AA):=(51,tLent rHashLS2 rdGet)::L164
theorem hash_here:ttOf L161 51=tLent rHashLS2 rdGet:=by
 unfold L161
 rfl
theorem known165:Known prog L165:=by
 unfold L165
 exact known161.over _ _ hash_here known164
noncomputable def L166:List (Nat×SpecT AA):=(52,tLent rDoneLS rdGet)::L165
theorem done_here:ttOf L161 52=tLent rDoneLS rdGet:=by
 unfold L161
 rfl
theorem known166:Known prog L166:=by
 unfold L166
 exact known161.over _ _ done_here known165
noncomputable def L167:List (Nat×SpecT AA):=(67,tLent rdBytesLS rdiGet)::L166
theorem bytes_here:ttOf L161 67=tLent rdBytesLS rdiGet:=by
 unfold L161
 rfl
theorem known167:Known prog L167:=by
 unfold L167
 exact known161.over _ _ bytes_here known166
noncomputable def L168:List (Nat×SpecT AA):=(68,tLent takesLS rdGet)::L167
theorem takes_here:ttOf L161 68=tLent takesLS rdGet:=by
 unfold L161
 rfl
theorem known168:Known prog L168:=by
 unfold L168
 exact known161.over _ _ takes_here known167
noncomputable def F168:Eng AA:=EF prog L168
theorem F168_eq:F168=EF prog L168:=by
 unfold F168
 rfl
def dIn (r:Rd):TIn×Rd:=(⟨(hashR r).1,(uintR (hashR r).2 64).1,(uintR (uintR (hashR r).2 64).2 8).1,(bytesR (uintR (uintR (hashR r).2 64).2 8).2 64).1⟩,(bytesR (uintR (uintR (hashR r).2 64).2 8).2 64).2)
def dIns:Nat→Rd→List TIn×Rd
 | 0,r=>([],r)
 | k+1,r=>((dIns k r).1++[(dIn (dIns k r).2).1],(dIn (dIns k r).2).2)
def dOut (r:Rd):TOut×Rd:=(⟨(uintR r 1125899906842624).1,(dC (uintR r 1125899906842624).2).1⟩,(dC (uintR r 1125899906842624).2).2)
def dOuts:Nat→Rd→List TOut×Rd
 | 0,r=>([],r)
 | k+1,r=>((dOuts k r).1++[(dOut (dOuts k r).2).1],(dOut (dOuts k r).2).2)
def dLock (b:List Int):Int×Rd:=uintR ⟨b,0,0⟩ 1099511627776
def dN (b:List Int):Int×Rd:=countR (dLock b).2 64
def dI (b:List Int):List TIn×Rd:=dIns (dN b).1.toNat (dN b).2
def dM (b:List Int):Int×Rd:=countR (dI b).2 64
def dU (b:List Int):List TOut×Rd:=dOuts (dM b).1.toNat (dM b).2
def dTx (b:List Int):TxD:=⟨(dLock b).1,(dI b).1,(dU b).1⟩
noncomputable def decTxOk (b:List Int):Bool:=decide (doneR (dU b).2=0)&&decide (checkT (dTx b)=0)
noncomputable def decTxB (b:List Int):TxD:=if decTxOk b then dTx b else ⟨0,[],[]⟩
noncomputable def decTxE (b:List Int):Int:=if decTxOk b then 0 else 3
noncomputable def decTxLS:LS AA where
 X:=List Int
 pre:=DecIn
 args:=fun b=>[.rints .u8 b]
 hin:=fun _=>[]
 res:=fun b=>[.agg (txSL (decTxB b)),.err 111 (decTxE b)]
 hout:=fun _=>[]
def decTxAnn (b:List Int):Anns AA:=fun k ts sh=>match nth ts 5 with
 | some (.ptr j _)=>(match nth sh j with
  | some (.cells t (.cell lk (.cell ins rest)))=>if k=5 then some {
    X:=Nat
    inv:=fun i=>(i:Int)≤(dN b).1
    meas:=fun i=>(dN b).1.toNat-i
    slots:=fun i=>[(15,.int .i64 i)]
    heap:=fun i=>[(1,rcell (dIns i (dN b).2).2),(j,.cells t (.cell lk (.cell (.vec (cnt sh)) rest)))]
    more:=fun i=>[.svec 87 (show List (AA 87) from (dIns i (dN b).2).1)] }
   else some {
    X:=Nat
    inv:=fun i=>(i:Int)≤(dM b).1
    meas:=fun i=>(dM b).1.toNat-i
    slots:=fun i=>[(38,.int .i64 i)]
    heap:=fun i=>[(1,rcell (dOuts i (dM b).2).2),(j,.cells t (.cell lk (.cell ins (.cell (.vec (cnt sh)) .nil))))]
    more:=fun i=>[.svec 90 (show List (AA 90) from (dOuts i (dM b).2).1)] }
  | _=>none)
 | _=>none
noncomputable def L169:List (Nat×SpecT AA):=(29,tLent decTxLS bytesGet1)::L168
end Go.Proofs.YtcglahfmnoghjaaGreatDoor

/-! A transaction made of its own bytes, plainly. Conditions: none. -/
namespace Go.Proofs.YtcglahfmnoghjaaGreatDoor
open Go Go.Eng Go.Proofs.Tryz
theorem bytes_dead {r:Rd} {m:Int} (h:r.e≠0):(bytesR r m).2=r:=by unfold bytesR; rw [if_pos h]
theorem in_dead1 {r:Rd} (h:(uintR (hashR r).2 64).2.e≠0):(dIn r).2.e≠0:=by
 show (bytesR (uintR (uintR (hashR r).2 64).2 8).2 64).2.e≠0
 rw [uint_dead h,bytes_dead h]; exact h
theorem in_dead {r:Rd} (h:r.e≠0):(dIn r).2.e≠0:=in_dead1 (by rw [hash_dead h,uint_dead h]; exact h)
theorem inOk_of {x:TIn} (h:inOk x=true):0≤x.n∧x.n<64∧0≤x.branch∧x.branch<8∧(x.secret.length:Int)≤64:=by
 simpa [inOk,Bool.and_eq_true,decide_eq_true_eq] using h
theorem brs_dead {r:Rd} (h:r.e≠0):∀ k,(dBrs k r).2.e≠0
 | 0=>h
 | k+1=>br_dead (brs_dead h k)
theorem dC_dead {r:Rd} (h:r.e≠0):(dC r).2.e≠0:=by
 unfold dC
 rw [count_dead h]
 exact brs_dead h _
theorem out_dead1 {r:Rd} (h:(uintR r 1125899906842624).2.e≠0):(dOut r).2.e≠0:=dC_dead h
theorem out_dead {r:Rd} (h:r.e≠0):(dOut r).2.e≠0:=out_dead1 (by rw [uint_dead h]; exact h)
theorem badIn_of:∀ {l:List TIn} {x:TIn},x∈l→inOk x=false→∀ k,badIn l k≥0
 | y::l,x,h,hx,k=>by
  simp only [badIn]
  split
  ·rename_i hy
   rcases List.mem_cons.1 h with e | e
   ·rw [e] at hx
    rw [hx] at hy
    cases hy
   ·exact badIn_of e hx (k+1)
  ·omega
theorem check_four {t:TxD} (h:t.lock<0∨t.lock>1099511627776∨someB t.ins.length=false∨someB t.outs.length=false∨badIn t.ins 0≥0):checkT t≠0:=by
 unfold checkT
 rw [if_pos h]
 omega
theorem outs_dead {r:Rd} (h:r.e≠0):∀ k,(dOuts k r).2.e≠0
 | 0=>h
 | k+1=>out_dead (outs_dead h k)
theorem dU_dead3 {b:List Int} (h:(dM b).2.e≠0):(dU b).2.e≠0:=outs_dead h _
theorem dU_dead2 {b:List Int} (h:(dI b).2.e≠0):(dU b).2.e≠0:=dU_dead3 (by unfold dM; rw [count_dead h]; exact h)
end Go.Proofs.YtcglahfmnoghjaaGreatDoor

/-! A transaction of bytes; TxBack: the walks. Conditions: none. -/
namespace Go.Proofs.YtcglahfmnoghjaaGreatDoor
open Go Go.Eng Go.Proofs.Tryz
theorem scan_le {m:Int}:∀ (n:Nat) (l out:List Int) (i:Nat),l.length≤n→(scanB m l out i).2.1=0→(scanB m l out i).2.2≤i+l.length:=by
 intro n
 induction n with
 | zero=>
  intro l out i hl h
  have e:l=[]:=List.eq_nil_of_length_eq_zero (by omega)
  subst e
  simp [scanB] at h
 | succ n ih=>
  intro l out i hl h
  cases l with
  | nil=>simp [scanB] at h
  | cons c l=>
   simp only [List.length_cons] at hl ⊢
   by_cases hc:c=0
   ·subst hc
    cases l with
    | nil=>
     rw [scan_last] at h
     simp at h
    | cons d l=>
     simp only [List.length_cons] at hl ⊢
     rw [scan_zero] at h ⊢
     split
     ·simp only; omega
     ·rename_i h1
      rw [if_neg h1] at h
      split
      ·simp only; omega
      ·rename_i h2
       rw [if_neg h2] at h
       split
       ·simp only; omega
       ·rename_i h3
        rw [if_neg h3] at h
        have:=ih l (out++[0]) (i+2) (by omega) h
        omega
   ·rw [scan_byte hc] at h ⊢
    split
    ·simp only; omega
    ·rename_i h3
     rw [if_neg h3] at h
     have:=ih l (out++[c]) (i+1) (by omega) h
     omega
theorem bytesR_ok {r:Rd} (h:r.Ok) {m:Int}:(bytesR r m).2.Ok:=by
 unfold bytesR
 split
 ·exact h
 split
 ·exact ⟨h.byt,h.lo,h.hi,h.len⟩
 ·rename_i h2
  have h3:=scan_le (m:=m) _ r.left [] 0 (Nat.le_refl _) (Classical.not_not.1 h2)
  have hl:=left_len r h
  have:=h.lo
  exact ⟨h.byt,by show 0≤r.i+((scanB m r.left [] 0).2.2:Int); omega,by show r.i+((scanB m r.left [] 0).2.2:Int)≤r.b.length; omega,h.len⟩
theorem inR_ok {r:Rd} (h:r.Ok):(dIn r).2.Ok:=bytesR_ok (uintR_ok (uintR_ok (hashR_ok h).1 (by omega)).1 (by omega)).1
theorem insR_ok {r:Rd} (h:r.Ok):∀ k,(dIns k r).2.Ok∧(dIns k r).1.length=k
 | 0=>⟨h,rfl⟩
 | k+1=>by
  obtain ⟨h1,h2⟩:=insR_ok h k
  refine ⟨inR_ok h1,?_⟩
  show ((dIns k r).1++[(dIn (dIns k r).2).1]).length=k+1
  rw [List.length_append,h2]
  rfl
theorem cR_ok {r:Rd} (h:r.Ok):(dC r).2.Ok:=(brsR_ok (countR_ok h (m:=8) (by omega)).1 _).1
theorem outsR_ok {r:Rd} (h:r.Ok):∀ k,(dOuts k r).2.Ok∧(dOuts k r).1.length=k
 | 0=>⟨h,rfl⟩
 | k+1=>by
  obtain ⟨h1,h2⟩:=outsR_ok h k
  refine ⟨cR_ok (uintR_ok h1 (by omega)).1,?_⟩
  show ((dOuts k r).1++[(dOut (dOuts k r).2).1]).length=k+1
  rw [List.length_append,h2]
  rfl
theorem few_of {r:Rd} (hr:r.Ok) {m:Int} (h1:0≤m) (h2:m≤1000):(RdN.mk r m).Few:=⟨⟨hr,h1⟩,by show m≤1000000; omega⟩
def dtK (x:List Int) (x_1:Nat):Prop:=(True∧(64:Int)=(64:Int))∧(((uintR (uintR (hashR (dIns x_1 (dN x).snd).snd).snd (64:Int)).snd (8:Int)).snd.b=(uintR (uintR (hashR (dIns
 x_1 (dN x).snd).snd).snd (64:Int)).snd (8:Int)).snd.b∧(uintR (uintR (hashR (dIns x_1 (dN x).snd).snd).snd (64:Int)).snd (8:Int)).snd.i =
 (uintR (uintR (hashR (dIns x_1 (dN x).snd).snd).snd (64:Int)).snd (8:Int)).snd.i∧(uintR (uintR (hashR (dIns x_1 (dN x).snd).snd).snd (64 :
 Int)).snd (8:Int)).snd.e=(uintR (uintR (hashR (dIns x_1 (dN x).snd).snd).snd (64:Int)).snd (8:Int)).snd.e∧True)∧True)∧(RdN.mk (uintR
 (uintR (hashR (dIns x_1 (dN x).snd).snd).snd (64:Int)).snd (8:Int)).snd (64:Int)).Few∧((hashR (dIns x_1 (dN x).snd).snd).fst=(hashR (dIns x_1
 (dN x).snd).snd).fst∧wr IntKind.i64 (uintR (hashR (dIns x_1 (dN x).snd).snd).snd (64:Int)).fst=wr IntKind.i64 (uintR (hashR (dIns x_1 (dN
 x).snd).snd).snd (64:Int)).fst∧wr IntKind.i64 (uintR (uintR (hashR (dIns x_1 (dN x).snd).snd).snd (64:Int)).snd (8:Int)).fst=wr IntKind.i64
 (uintR (uintR (hashR (dIns x_1 (dN x).snd).snd).snd (64:Int)).snd (8:Int)).fst∧(bytesR (uintR (uintR (hashR (dIns x_1 (dN x).snd).snd).snd (64 :
 Int)).snd (8:Int)).snd (64:Int)).fst=(bytesR (uintR (uintR (hashR (dIns x_1 (dN x).snd).snd).snd (64:Int)).snd (8:Int)).snd (64:Int)).fst ∧
 True)∧((dIns x_1 (dN x).snd).fst.length+[TIn.mk (hashR (dIns x_1 (dN x).snd).snd).fst (wr IntKind.i64 (uintR (hashR (dIns x_1 (dN x).snd).snd).snd
 (64:Int)).fst) (wr IntKind.i64 (uintR (uintR (hashR (dIns x_1 (dN x).snd).snd).snd (64:Int)).snd (8:Int)).fst) (bytesR (uintR (uintR (hashR (dIns
 x_1 (dN x).snd).snd).snd (64:Int)).snd (8:Int)).snd (64:Int)).fst].length)*(72:Nat)≤(140737488355328:Nat)∧(dIns x_1 (dN
 x).snd).fst.length+[TIn.mk (hashR (dIns x_1 (dN x).snd).snd).fst (wr IntKind.i64 (uintR (hashR (dIns x_1 (dN x).snd).snd).snd (64:Int)).fst) (wr
 IntKind.i64 (uintR (uintR (hashR (dIns x_1 (dN x).snd).snd).snd (64:Int)).snd (8:Int)).fst) (bytesR (uintR (uintR (hashR (dIns x_1 (dN
 x).snd).snd).snd (64:Int)).snd (8:Int)).snd (64:Int)).fst].length≤(1152921504606846976:Nat)∧inI64 ((x_1:Int)+(1:Int))∧∃ (y:Nat),
 ((dN x).fst-(y:Int)).NonNeg∧(dN x).fst.toNat-y<(dN x).fst.toNat-x_1∧(y:Int)=(x_1:Int)+(1:Int)∧(((0:Int)=(0:Int) ∧
 SV.val (A:=AA) (Value.slice none (0:Nat) (0:Nat))=SV.val (A:=AA) (Value.slice none (0:Nat) (0:Nat))∧SV.val (A:=AA) (Value.slice none
 (0:Nat) (0:Nat))=SV.val (A:=AA) (Value.slice none (0:Nat) (0:Nat))∧True)∧((dIns y (dN x).snd).snd.b=(bytesR (uintR (uintR (hashR
 (dIns x_1 (dN x).snd).snd).snd (64:Int)).snd (8:Int)).snd (64:Int)).snd.b∧(dIns y (dN x).snd).snd.i=(bytesR (uintR (uintR (hashR (dIns x_1
 (dN x).snd).snd).snd (64:Int)).snd (8:Int)).snd (64:Int)).snd.i∧(dIns y (dN x).snd).snd.e=(bytesR (uintR (uintR (hashR (dIns x_1 (dN
 x).snd).snd).snd (64:Int)).snd (8:Int)).snd (64:Int)).snd.e∧True)∧(wr IntKind.i64 (dLock x).fst=wr IntKind.i64 (dLock x).fst∧True ∧
 SV.val (A:=AA) (Value.slice none (0:Nat) (0:Nat))=SV.val (A:=AA) (Value.slice none (0:Nat) (0:Nat))∧True)∧True)∧(dIns y (dN
 x).snd).fst=(dIns x_1 (dN x).snd).fst++[TIn.mk (hashR (dIns x_1 (dN x).snd).snd).fst (wr IntKind.i64 (uintR (hashR (dIns x_1 (dN x).snd).snd).snd
 (64:Int)).fst) (wr IntKind.i64 (uintR (uintR (hashR (dIns x_1 (dN x).snd).snd).snd (64:Int)).snd (8:Int)).fst) (bytesR (uintR (uintR (hashR (dIns
 x_1 (dN x).snd).snd).snd (64:Int)).snd (8:Int)).snd (64:Int)).fst]∧True
def dtA (x:List Int) (x_1:Nat) (P:Prop):Prop:=(True∧(8:Int)=(8:Int))∧(((uintR (hashR (dIns x_1 (dN x).snd).snd).snd (64:Int)).snd.b=(uintR (hashR (dIns x_1 (dN x).snd).snd).snd (64 :
 Int)).snd.b∧(uintR (hashR (dIns x_1 (dN x).snd).snd).snd (64:Int)).snd.i=(uintR (hashR (dIns x_1 (dN x).snd).snd).snd (64:Int)).snd.i∧(uintR
 (hashR (dIns x_1 (dN x).snd).snd).snd (64:Int)).snd.e=(uintR (hashR (dIns x_1 (dN x).snd).snd).snd (64:Int)).snd.e∧True)∧True)∧(RdN.mk
 (uintR (hashR (dIns x_1 (dN x).snd).snd).snd (64:Int)).snd (8:Int)).Ok∧P
def dtQ (x:List Int) (x_1 x_2:Nat):Prop:=True∧(((uintR (dOuts x_2 (dM x).snd).snd (1125899906842624:Int)).snd.b=(uintR (dOuts x_2 (dM x).snd).snd (1125899906842624:Int)).snd.b∧(uintR
 (dOuts x_2 (dM x).snd).snd (1125899906842624:Int)).snd.i=(uintR (dOuts x_2 (dM x).snd).snd (1125899906842624:Int)).snd.i∧(uintR (dOuts x_2 (dM
 x).snd).snd (1125899906842624:Int)).snd.e=(uintR (dOuts x_2 (dM x).snd).snd (1125899906842624:Int)).snd.e∧True)∧True)∧(uintR (dOuts x_2 (dM
 x).snd).snd (1125899906842624:Int)).snd.Ok∧(wr IntKind.i64 (uintR (dOuts x_2 (dM x).snd).snd (1125899906842624:Int)).fst=wr IntKind.i64 (uintR
 (dOuts x_2 (dM x).snd).snd (1125899906842624:Int)).fst∧(dC (uintR (dOuts x_2 (dM x).snd).snd (1125899906842624:Int)).snd).fst=(dC (uintR (dOuts
 x_2 (dM x).snd).snd (1125899906842624:Int)).snd).fst∧True)∧((dOuts x_2 (dM x).snd).fst.length+[TOut.mk (wr IntKind.i64 (uintR (dOuts x_2 (dM
 x).snd).snd (1125899906842624:Int)).fst) (dC (uintR (dOuts x_2 (dM x).snd).snd (1125899906842624:Int)).snd).fst].length)*(32:Nat) ≤
 (140737488355328:Nat)∧(dOuts x_2 (dM x).snd).fst.length+[TOut.mk (wr IntKind.i64 (uintR (dOuts x_2 (dM x).snd).snd (1125899906842624:Int)).fst)
 (dC (uintR (dOuts x_2 (dM x).snd).snd (1125899906842624:Int)).snd).fst].length≤(1152921504606846976:Nat)∧inI64 ((x_2:Int)+(1:Int))∧∃
 (y:Nat),((dM x).fst-(y:Int)).NonNeg∧(dM x).fst.toNat-y<(dM x).fst.toNat-x_2∧(y:Int)=(x_2:Int)+(1:Int)∧(((0:Int)=(0
 : Int)∧SV.val (A:=AA) (Value.slice none (0:Nat) (0:Nat))=SV.val (A:=AA) (Value.slice none (0:Nat) (0:Nat))∧SV.val (A:=AA)
 (Value.slice none (0:Nat) (0:Nat))=SV.val (A:=AA) (Value.slice none (0:Nat) (0:Nat))∧True)∧((dOuts y (dM x).snd).snd.b=(dC (uintR
 (dOuts x_2 (dM x).snd).snd (1125899906842624:Int)).snd).snd.b∧(dOuts y (dM x).snd).snd.i=(dC (uintR (dOuts x_2 (dM x).snd).snd (1125899906842624
 : Int)).snd).snd.i∧(dOuts y (dM x).snd).snd.e=(dC (uintR (dOuts x_2 (dM x).snd).snd (1125899906842624:Int)).snd).snd.e∧True)∧(wr IntKind.i64
 (dLock x).fst=wr IntKind.i64 (dLock x).fst∧True∧True∧True)∧(dIns x_1 (dN x).snd).fst=(dIns x_1 (dN x).snd).fst∧True)∧(dOuts y (dM
 x).snd).fst=(dOuts x_2 (dM x).snd).fst++[TOut.mk (wr IntKind.i64 (uintR (dOuts x_2 (dM x).snd).snd (1125899906842624:Int)).fst) (dC (uintR (dOuts
 x_2 (dM x).snd).snd (1125899906842624:Int)).snd).fst]∧True
def dtB (x:List Int) (x_2:Nat) (P:Prop):Prop:=(True∧(1125899906842624:Int)=(1125899906842624:Int))∧(((dOuts x_2 (dM x).snd).snd.b=(dOuts x_2 (dM x).snd).snd.b∧(dOuts x_2 (dM
 x).snd).snd.i=(dOuts x_2 (dM x).snd).snd.i∧(dOuts x_2 (dM x).snd).snd.e=(dOuts x_2 (dM x).snd).snd.e∧True)∧True)∧(RdN.mk (dOuts x_2 (dM
 x).snd).snd (1125899906842624:Int)).Ok∧P
def decTxVC:Prop:=∀ (x:List Int),DecIn x→x=x∧True∧True∧(True∧(1099511627776:Int)=(1099511627776:Int))∧((x=x∧(0:Int)=(0:Int)∧(0:Int)
 = (0:Int)∧True)∧True)∧(RdN.mk (Rd.mk x (0:Int) (0:Int)) (1099511627776:Int)).Ok∧(True∧(64:Int)=(64:Int))∧(((dLock x).snd.b =
 (dLock x).snd.b∧(dLock x).snd.i=(dLock x).snd.i∧(dLock x).snd.e=(dLock x).snd.e∧True)∧True)∧(RdN.mk (dLock x).snd (64:Int)).Few∧(∃
 (x_1:Nat),((dN x).fst-(x_1:Int)).NonNeg∧(x_1:Int)=(0:Int)∧(((0:Int)=(0:Int)∧(SV.val (A:=AA) (Value.slice none (0:Nat) (0
 : Nat)):SV AA)=SV.val (A:=AA) (Value.slice none (0:Nat) (0:Nat))∧(SV.val (A:=AA) (Value.slice none (0:Nat) (0:Nat)):SV AA)=SV.val
 (A:=AA) (Value.slice none (0:Nat) (0:Nat))∧True)∧((dIns x_1 (dN x).snd).snd.b=(dN x).snd.b∧(dIns x_1 (dN x).snd).snd.i=(dN x).snd.i ∧
 (dIns x_1 (dN x).snd).snd.e=(dN x).snd.e∧True)∧(wr IntKind.i64 (dLock x).fst=wr IntKind.i64 (dLock x).fst∧(SV.val (A:=AA) (Value.slice none
 (0:Nat) (0:Nat)):SV AA)=SV.val (A:=AA) (Value.slice none (0:Nat) (0:Nat))∧(SV.val (A:=AA) (Value.slice none (0:Nat) (0:Nat)):SV
 AA)=SV.val (A:=AA) (Value.slice none (0:Nat) (0:Nat))∧True)∧True)∧(dIns x_1 (dN x).snd).fst=[]∧True)∧∀ (x_1:Nat),((dN x).fst -
 (x_1:Int)).NonNeg→(decide ((x_1:Int)<(dN x).fst)=true→True∧(((dIns x_1 (dN x).snd).snd.b=(dIns x_1 (dN x).snd).snd.b∧(dIns x_1 (dN
 x).snd).snd.i=(dIns x_1 (dN x).snd).snd.i∧(dIns x_1 (dN x).snd).snd.e=(dIns x_1 (dN x).snd).snd.e∧True)∧True)∧(dIns x_1 (dN x).snd).snd.Ok
 ∧ (True∧(64:Int)=(64:Int))∧(((hashR (dIns x_1 (dN x).snd).snd).snd.b=(hashR (dIns x_1 (dN x).snd).snd).snd.b∧(hashR (dIns x_1 (dN
 x).snd).snd).snd.i=(hashR (dIns x_1 (dN x).snd).snd).snd.i∧(hashR (dIns x_1 (dN x).snd).snd).snd.e=(hashR (dIns x_1 (dN x).snd).snd).snd.e ∧
 True)∧True)∧(RdN.mk (hashR (dIns x_1 (dN x).snd).snd).snd (64:Int)).Ok∧((dtA x x_1 (dtK x x_1))∧dtA x x_1 ((dtK x x_1)∧dtK x x_1))∧((dtA
 x x_1 (dtK x x_1))∧dtA x x_1 ((dtK x x_1)∧dtK x x_1))∧dtA x x_1 (((dtK x x_1)∧dtK x x_1)∧((dtK x x_1)∧dtK x x_1)∧dtK x x_1))∧(decide
 ((x_1:Int)<(dN x).fst)=false→(True∧(64:Int)=(64:Int))∧(((dIns x_1 (dN x).snd).snd.b=(dIns x_1 (dN x).snd).snd.b∧(dIns x_1 (dN
 x).snd).snd.i=(dIns x_1 (dN x).snd).snd.i∧(dIns x_1 (dN x).snd).snd.e=(dIns x_1 (dN x).snd).snd.e∧True)∧True)∧(RdN.mk (dIns x_1 (dN
 x).snd).snd (64:Int)).Few∧(∃ (x_2:Nat),((dM x).fst-(x_2:Int)).NonNeg∧(x_2:Int)=(0:Int)∧(((0:Int)=(0:Int)∧(SV.val (A:=
 AA) (Value.slice none (0:Nat) (0:Nat)):SV AA)=SV.val (A:=AA) (Value.slice none (0:Nat) (0:Nat))∧(SV.val (A:=AA) (Value.slice none (0
 : Nat) (0:Nat)):SV AA)=SV.val (A:=AA) (Value.slice none (0:Nat) (0:Nat))∧True)∧((dOuts x_2 (dM x).snd).snd.b=(countR (dIns x_1 (dN
 x).snd).snd (64:Int)).snd.b∧(dOuts x_2 (dM x).snd).snd.i=(countR (dIns x_1 (dN x).snd).snd (64:Int)).snd.i∧(dOuts x_2 (dM x).snd).snd.e =
 (countR (dIns x_1 (dN x).snd).snd (64:Int)).snd.e∧True)∧(wr IntKind.i64 (dLock x).fst=wr IntKind.i64 (dLock x).fst∧True∧(SV.val (A:=AA)
 (Value.slice none (0:Nat) (0:Nat)):SV AA)=SV.val (A:=AA) (Value.slice none (0:Nat) (0:Nat))∧True)∧(dIns x_1 (dN x).snd).fst=(dIns
 x_1 (dN x).snd).fst∧True)∧(dOuts x_2 (dM x).snd).fst=[]∧True)∧∀ (x_2:Nat),((dM x).fst-(x_2:Int)).NonNeg→(decide ((x_2:Int) <
 (countR (dIns x_1 (dN x).snd).snd (64:Int)).fst)=true→(dtB x x_2 (dtQ x x_1 x_2))∧dtB x x_2 ((dtQ x x_1 x_2)∧dtQ x x_1 x_2))∧(decide ((↑x_2
 : Int)<(countR (dIns x_1 (dN x).snd).snd (64:Int)).fst)=false→True∧(((dOuts x_2 (dM x).snd).snd.b=(dOuts x_2 (dM x).snd).snd.b∧(dOuts x_2
 (dM x).snd).snd.i=(dOuts x_2 (dM x).snd).snd.i∧(dOuts x_2 (dM x).snd).snd.e=(dOuts x_2 (dM x).snd).snd.e∧True)∧True)∧True∧((!doneR (dOuts
 x_2 (dM x).snd).snd==(0:Int))=true→(((decTxB x).lock=(0:Int)∧(decTxB x).ins=[]∧(decTxB x).outs=[]∧True)∧decTxE x=(3:Int) ∧
 (3:Int)≠(0:Int))∧True∧True)∧((!doneR (dOuts x_2 (dM x).snd).snd==(0:Int))=false→(wr IntKind.i64 (dLock x).fst=wr IntKind.i64
 (dLock x).fst∧(dIns x_1 (dN x).snd).fst=(dIns x_1 (dN x).snd).fst∧(dOuts x_2 (dM x).snd).fst=(dOuts x_2 (dM x).snd).fst∧True)∧True∧True ∧
 ((!checkT (TxD.mk (wr IntKind.i64 (dLock x).fst) (dIns x_1 (dN x).snd).fst (dOuts x_2 (dM x).snd).fst)==(0:Int))=true→(((decTxB x).lock=(0 :
 Int)∧(decTxB x).ins=[]∧(decTxB x).outs=[]∧True)∧decTxE x=(3:Int)∧(3:Int)≠(0:Int))∧True∧True)∧((!checkT (TxD.mk (wr
 IntKind.i64 (dLock x).fst) (dIns x_1 (dN x).snd).fst (dOuts x_2 (dM x).snd).fst)==(0:Int))=false→(((decTxB x).lock=wr IntKind.i64 (dLock
 x).fst∧(decTxB x).ins=(dIns x_1 (dN x).snd).fst∧(decTxB x).outs=(dOuts x_2 (dM x).snd).fst∧True)∧decTxE x=(0:Int))∧True∧True))))
theorem decTx_eq:decTxVC=fnS F168 f29 (bodyOf f29) decTxLS decTxAnn:=by kernel_rfl
theorem dtK_ok {x:List Int} {k:Nat} (h:(dIns k (dN x).2).2.Ok) (hn:(dN x).1≤64) (hk:(k:Int)<(dN x).1) (hl:(dIns k (dN x).2).1.length=k):dtK x k:=by
 have h1:=hashR_ok h
 obtain ⟨n1,n2⟩:=uintR_ok h1.1 (m:=64) (by omega)
 obtain ⟨b1,b2⟩:=uintR_ok n1 (m:=8) (by omega)
 refine ⟨⟨trivial,rfl⟩,⟨⟨rfl,rfl,rfl,trivial⟩,trivial⟩,few_of b1 (by omega) (by omega),⟨rfl,rfl,rfl,rfl,trivial⟩,?_,?_,by unfold inI64; omega,k+1,?_,by omega,by omega,⟨⟨rfl,rfl,rfl,trivial⟩,⟨rfl,rfl,rfl,trivial⟩,⟨rfl,trivial,rfl,trivial⟩,trivial⟩,?_,trivial⟩
 ·rw [hl]; simp only [List.length_singleton]; omega
 ·rw [hl]; simp only [List.length_singleton]; omega
 ·show ((k+1:Nat):Int)≤(dN x).1
  omega
 ·rw [wr_small n2 (by omega),wr_small b2 (by omega)]
  rfl
theorem dtA_ok {x:List Int} {k:Nat} {P:Prop} (h:(dIns k (dN x).2).2.Ok) (hp:P):dtA x k P:=by
 have h1:=hashR_ok h
 obtain ⟨n1,_⟩:=uintR_ok h1.1 (m:=64) (by omega)
 exact ⟨⟨trivial,rfl⟩,⟨⟨rfl,rfl,rfl,trivial⟩,trivial⟩,⟨n1,by show (0:Int)≤8; omega⟩,hp⟩
theorem dtQ_ok {x:List Int} {i k:Nat} (h:(dOuts k (dM x).2).2.Ok) (hn:(dM x).1≤64) (hk:(k:Int)<(dM x).1) (hl:(dOuts k (dM x).2).1.length=k):dtQ x i k:=by
 obtain ⟨a1,a2⟩:=uintR_ok h (m:=1125899906842624) (by omega)
 refine ⟨trivial,⟨⟨rfl,rfl,rfl,trivial⟩,trivial⟩,a1,⟨rfl,rfl,trivial⟩,?_,?_,by unfold inI64; omega,k+1,?_,by omega,by omega,⟨⟨rfl,rfl,rfl,trivial⟩,⟨rfl,rfl,rfl,trivial⟩,⟨rfl,trivial,trivial,trivial⟩,rfl,trivial⟩,?_,trivial⟩
 ·rw [hl]; simp only [List.length_singleton]; omega
 ·rw [hl]; simp only [List.length_singleton]; omega
 ·show ((k+1:Nat):Int)≤(dM x).1
  omega
 ·rw [wr_small a2 (by omega)]
  rfl
theorem dtB_ok {x:List Int} {k:Nat} {P:Prop} (h:(dOuts k (dM x).2).2.Ok) (hp:P):dtB x k P:=
 ⟨⟨trivial,rfl⟩,⟨⟨rfl,rfl,rfl,trivial⟩,trivial⟩,⟨h,by show (0:Int)≤1125899906842624; omega⟩,hp⟩
theorem decTx_vc:decTxVC:=by
 intro x hx
 have h0:(Rd.mk x 0 0).Ok:=⟨hx.byt,by show (0:Int)≤0; omega,by show (0:Int)≤x.length; omega,hx.len⟩
 obtain ⟨l1,l2⟩:=uintR_ok h0 (m:=1099511627776) (by omega)
 change (dLock x).2.Ok at l1
 change 0≤(dLock x).1∧(dLock x).1≤1099511627776 at l2
 obtain ⟨c1,c2,c3⟩:=countR_ok l1 (m:=64) (by omega)
 change (dN x).2.Ok at c1
 change 0≤(dN x).1 at c2
 change (dN x).1≤64 at c3
 refine ⟨rfl,trivial,trivial,⟨trivial,rfl⟩,⟨⟨rfl,rfl,rfl,trivial⟩,trivial⟩,⟨h0,by show (0:Int)≤1099511627776; omega⟩,⟨trivial,rfl⟩,⟨⟨rfl,rfl,rfl,trivial⟩,trivial⟩,few_of l1 (by omega) (by omega),⟨0,?_,rfl,⟨⟨rfl,rfl,rfl,trivial⟩,⟨rfl,rfl,rfl,trivial⟩,⟨rfl,rfl,rfl,trivial⟩,trivial⟩,rfl,trivial⟩,fun i hi=>⟨fun h1=>?_,fun h1=>?_⟩⟩
 ·show ((0:Nat):Int)≤(dN x).1
  omega
 ·simp only [decide_eq_true_eq] at h1
  obtain ⟨i1,i2⟩:=insR_ok c1 i
  have hK:=dtK_ok i1 c3 h1 i2
  have hA:∀ {P:Prop},P→dtA x i P:=dtA_ok i1
  exact ⟨trivial,⟨⟨rfl,rfl,rfl,trivial⟩,trivial⟩,i1,⟨trivial,rfl⟩,⟨⟨rfl,rfl,rfl,trivial⟩,trivial⟩,⟨(hashR_ok i1).1,by show (0:Int)≤64; omega⟩,⟨hA hK,hA ⟨hK,hK⟩⟩,⟨hA hK,hA ⟨hK,hK⟩⟩,hA ⟨⟨hK,hK⟩,⟨hK,hK⟩,hK⟩⟩
 ·simp only [decide_eq_false_iff_not] at h1
  have hi':(i:Int)≤(dN x).1:=hi
  obtain ⟨i1,i2⟩:=insR_ok c1 i
  have ei:dIns i (dN x).2=dI x:=by
   unfold dI
   rw [show (dN x).1.toNat=i by omega]
  rw [ei] at i1 ⊢
  obtain ⟨m1,m2,m3⟩:=countR_ok i1 (m:=64) (by omega)
  change (dM x).2.Ok at m1
  change 0≤(dM x).1 at m2
  change (dM x).1≤64 at m3
  refine ⟨⟨trivial,rfl⟩,⟨⟨rfl,rfl,rfl,trivial⟩,trivial⟩,few_of i1 (by omega) (by omega),⟨0,?_,rfl,⟨⟨rfl,rfl,rfl,trivial⟩,⟨rfl,rfl,rfl,trivial⟩,⟨rfl,trivial,rfl,trivial⟩,rfl,trivial⟩,rfl,trivial⟩,fun k hk=>⟨fun h2=>?_,fun h2=>?_⟩⟩
  ·show ((0:Nat):Int)≤(dM x).1
   omega
  ·have h2':(k:Int)<(dM x).1:=of_decide_eq_true h2
   obtain ⟨o1,o2⟩:=outsR_ok m1 k
   have hQ:dtQ x i k:=dtQ_ok o1 m3 h2' o2
   exact ⟨dtB_ok o1 hQ,dtB_ok o1 ⟨hQ,hQ⟩⟩
  ·have h2':¬(k:Int)<(dM x).1:=of_decide_eq_false h2
   have hk':(k:Int)≤(dM x).1:=hk
   have ek:dOuts k (dM x).2=dU x:=by
    unfold dU
    rw [show (dM x).1.toNat=k by omega]
   rw [ek,wr_small l2 (by omega)]
   have hB:∀ b,decTxOk x=b→decTxB x=(if b then dTx x else ⟨0,[],[]⟩)∧decTxE x=(if b then 0 else 3):=fun b hb=>by
    unfold decTxB decTxE
    rw [hb]
    exact ⟨rfl,rfl⟩
   have no:decTxOk x=false→(((decTxB x).lock=(0:Int)∧(decTxB x).ins=[]∧(decTxB x).outs=[]∧True)∧decTxE x=(3:Int)∧(3:Int)≠(0:Int))∧True∧True:=fun hd=>by
    rw [(hB _ hd).1,(hB _ hd).2]
    exact ⟨⟨⟨rfl,rfl,rfl,trivial⟩,rfl,by omega⟩,trivial,trivial⟩
   refine ⟨trivial,⟨⟨rfl,rfl,rfl,trivial⟩,trivial⟩,trivial,fun h3=>no ?_,fun h3=>⟨⟨rfl,rfl,rfl,trivial⟩,trivial,trivial,fun h4=>no ?_,fun h4=>?_⟩⟩
   ·unfold decTxOk
    rw [decide_eq_false (p:=doneR (dU x).2=0) (by simpa using h3)]
    rfl
   ·unfold decTxOk
    rw [decide_eq_false (p:=checkT (dTx x)=0) (by
     have:checkT (dTx x)≠0:=by simpa [dTx] using h4
     exact this),Bool.and_false]
   ·have hd:decTxOk x=true:=by
     unfold decTxOk
     rw [decide_eq_true (p:=doneR (dU x).2=0) (by simpa using h3),decide_eq_true (p:=checkT (dTx x)=0) (by
      have:checkT (dTx x)=0:=by simpa [dTx] using h4
      exact this)]
     rfl
    rw [(hB _ hd).1,(hB _ hd).2]
    exact ⟨⟨⟨rfl,rfl,rfl,trivial⟩,rfl⟩,trivial,trivial⟩
theorem decTx_ok:Fits F168 f29 (bodyOf f29) decTxLS decTxAnn:=by
 constructor
 rw [← decTx_eq]
 exact decTx_vc
theorem decTx_has:Has prog 29 f29 (bodyOf f29):=⟨by kernel_rfl,by kernel_rfl,by kernel_rfl⟩
theorem known169:Known prog L169:=by
 unfold L169
 exact known168.lent mixed decTx_has F168_eq decTx_ok (fun _ _=>Nat.zero_le _) (fun _ _=>rfl)
end Go.Proofs.YtcglahfmnoghjaaGreatDoor

/-! What is read is told by the same bytes again. Conditions: none. -/
namespace Go.Proofs.YtcglahfmnoghjaaGreatDoor
open Go Go.Eng Go.Proofs.Tryz
end Go.Proofs.YtcglahfmnoghjaaGreatDoor

/-! A transaction that is read is told by the same bytes again, plainly. Conditions: none. -/
namespace Go.Proofs.YtcglahfmnoghjaaGreatDoor
open Go Go.Eng Go.Proofs.Tryz
theorem hash_byt {r:Rd} (h:r.Ok):Byt (hashR r).1:=by
 unfold hashR
 split
 ·intro y hy
  rw [List.mem_replicate] at hy
  omega
 split
 ·intro y hy
  rw [List.mem_replicate] at hy
  omega
 ·exact fun y hy=>left_byt h y (List.mem_of_mem_take hy)
theorem ins_small {r:Rd} (h:r.Ok):∀ k,∀ x,x∈(dIns k r).1→x.tx.length=32∧Byt x.tx
 | 0,x,hx=>by cases hx
 | k+1,x,hx=>by
  change x∈(dIns k r).1++[(dIn (dIns k r).2).1] at hx
  rcases List.mem_append.1 hx with h1 | h1
  ·exact ins_small h k x h1
  ·rw [List.mem_singleton.1 h1]
   exact ⟨(hashR_ok (insR_ok h k).1).2,hash_byt (insR_ok h k).1⟩
theorem brs_small {r:Rd} (h:r.Ok):∀ k,(∀ b,b∈(dBrs k r).1→b.lock.length=32∧Byt b.lock)∧weight (dBrs k r).1≤17*k
 | 0=>⟨fun b hb=>(List.not_mem_nil hb).elim,Nat.le_refl _⟩
 | k+1=>by
  obtain ⟨h1,h2⟩:=brs_small h k
  have k1:=(brsR_ok h k).1
  refine ⟨fun b hb=>?_,?_⟩
  ·change b∈(dBrs k r).1++[(dBr (dBrs k r).2).1] at hb
   rcases List.mem_append.1 hb with h3 | h3
   ·exact h1 b h3
   ·rw [List.mem_singleton.1 h3]
    exact ⟨(hR_ok k1).2,hash_byt (kR_ok k1).1⟩
  ·show weight ((dBrs k r).1++[(dBr (dBrs k r).2).1])≤17*(k+1)
   have h3:(dBr (dBrs k r).2).1.keys.length≤16:=(kR_ok k1).2
   have h4:∀ l:List Br,∀ b:Br,weight (l++[b])=weight l+1+b.keys.length:=fun l b=>by
    induction l with
    | nil=>simp [weight,sumK]
    | cons c l ih=>
     simp only [weight,List.cons_append,List.length_cons,sumK] at ih ⊢
     omega
   rw [h4]
   omega
theorem outs_small {r:Rd} (h:r.Ok):∀ k,(∀ o,o∈(dOuts k r).1→o.cond.length≤8∧Locks o.cond∧∀ b,b∈o.cond→Byt b.lock)∧sumW (dOuts k r).1≤136*k
 | 0=>⟨fun o ho=>(List.not_mem_nil ho).elim,Nat.le_refl _⟩
 | k+1=>by
  obtain ⟨h1,h2⟩:=outs_small h k
  have k1:=(outsR_ok h k).1
  obtain ⟨u1,_⟩:=uintR_ok k1 (m:=1125899906842624) (by omega)
  obtain ⟨c1,c2,c3⟩:=countR_ok u1 (m:=8) (by omega)
  obtain ⟨s1,s2⟩:=brs_small c1 (countR (uintR (dOuts k r).2 1125899906842624).2 8).1.toNat
  have s3:=(brsR_ok c1 (countR (uintR (dOuts k r).2 1125899906842624).2 8).1.toNat).2
  change (∀ b,b∈(dOut (dOuts k r).2).1.cond→_) at s1
  change weight (dOut (dOuts k r).2).1.cond≤_ at s2
  change (dOut (dOuts k r).2).1.cond.length=_ at s3
  refine ⟨fun o ho=>?_,?_⟩
  ·change o∈(dOuts k r).1++[(dOut (dOuts k r).2).1] at ho
   rcases List.mem_append.1 ho with h3 | h3
   ·exact h1 o h3
   ·rw [List.mem_singleton.1 h3]
    exact ⟨by omega,fun b hb=>(s1 b hb).1,fun b hb=>(s1 b hb).2⟩
  ·show sumW ((dOuts k r).1++[(dOut (dOuts k r).2).1])≤136*(k+1)
   have h4:∀ l:List TOut,∀ o:TOut,sumW (l++[o])=sumW l+weight o.cond:=fun l o=>by
    induction l with
    | nil=>simp [sumW]
    | cons c l ih=>
     simp only [List.cons_append,sumW] at ih ⊢
     omega
   rw [h4]
   omega
theorem tx_lens {b:List Int} (hb:DecIn b):Lens (dTx b)∧TxOk (dTx b):=by
 have h0:(Rd.mk b 0 0).Ok:=⟨hb.byt,by show (0:Int)≤0; omega,by show (0:Int)≤b.length; omega,hb.len⟩
 obtain ⟨l1,l2⟩:=uintR_ok h0 (m:=1099511627776) (by omega)
 change (dLock b).2.Ok at l1
 obtain ⟨n1,n2⟩:=countR_ok l1 (m:=64) (by omega)
 obtain ⟨i1,i2⟩:=insR_ok n1 (dN b).1.toNat
 obtain ⟨m1,m2⟩:=countR_ok i1 (m:=64) (by omega)
 obtain ⟨o1,o2⟩:=outsR_ok m1 (dM b).1.toNat
 have n3:0≤(dN b).1∧(dN b).1≤64:=n2
 have m3:0≤(dM b).1∧(dM b).1≤64:=m2
 have i3:(dTx b).ins.length=(dN b).1.toNat:=i2
 have o3:(dTx b).outs.length=(dM b).1.toNat:=o2
 obtain ⟨s1,s2⟩:=outs_small m1 (dM b).1.toNat
 have s4:sumW (dTx b).outs≤136*(dM b).1.toNat:=s2
 have s3:∀ o,o∈(dTx b).outs→o.cond.length≤8∧Locks o.cond∧∀ b,b∈o.cond→Byt b.lock:=s1
 exact ⟨⟨by omega,by omega,fun o ho=>by have:=(s3 o ho).1; omega⟩,⟨by omega,by omega,by omega,ins_small n1 _,fun o ho=>(s3 o ho).2⟩⟩
theorem sumS_of:∀ {l:List TIn},(∀ x,x∈l→x.secret.length≤64)→sumS l≤64*l.length
 | [],_=>Nat.le_refl _
 | x::l,h=>by
  have h1:=h x List.mem_cons_self
  have h2:=sumS_of fun y hy=>h y (List.mem_cons_of_mem _ hy)
  simp only [sumS,List.length_cons]
  omega
theorem check_ins {t:TxD} (h:checkT t=0) {x:TIn} (hx:x∈t.ins):x.secret.length≤64:=by
 cases e:inOk x with
 | true=>
  have:=inOk_of e
  omega
 | false=>exact (check_four (.inr (.inr (.inr (.inr (badIn_of hx e 0))))) h).elim
structure DecFine (t:TxD):Prop where
 lens:Lens t
 ok:TxOk t
 s:∀ x,x∈t.ins→x.secret.length≤64
 sum:sumS t.ins≤1000000
theorem dec_fine {b:List Int} (hb:DecIn b):DecFine (decTxB b):=by
 unfold decTxB
 cases h:decTxOk b with
 | false=>exact ⟨⟨Nat.zero_le _,Nat.zero_le _,fun o ho=>(List.not_mem_nil ho).elim⟩,⟨Nat.zero_le _,Nat.zero_le _,Nat.zero_le _,fun o ho=>(List.not_mem_nil ho).elim,fun o ho=>(List.not_mem_nil ho).elim⟩,fun o ho=>(List.not_mem_nil ho).elim,Nat.zero_le _⟩
 | true=>
  obtain ⟨a,c⟩:=tx_lens hb
  have h2:=h
  unfold decTxOk at h2
  have hc:checkT (dTx b)=0:=of_decide_eq_true (Bool.and_eq_true_iff.1 h2).2
  have hs:∀ x,x∈(dTx b).ins→x.secret.length≤64:=fun x hx=>check_ins hc hx
  have:=sumS_of hs
  have:=c.n
  refine ⟨a,c,hs,?_⟩
  have h3:someB ((dTx b).ins.length:Int)=true:=by
   cases e:someB ((dTx b).ins.length:Int) with
   | true=>rfl
   | false=>exact (check_four (.inr (.inr (.inl e))) hc).elim
  unfold someB at h3
  have h4:((dTx b).ins.length:Int)≤64:=of_decide_eq_true (Bool.and_eq_true_iff.1 h3).2
  show sumS (dTx b).ins≤1000000
  omega
end Go.Proofs.YtcglahfmnoghjaaGreatDoor

/-! The document's condition, and transaction, of bytes: the same as the program's. Conditions: none. -/
namespace Go.Proofs.YtcglahfmnoghjaaGreatDoor
open Go Go.Eng Go.Proofs.Tryz
theorem stop_same {g g':Nat→Rd} (h:∀ i,(g i).e=(g' i).e):∀ n,stopN g n=stopN g' n
 | 0=>rfl
 | n+1=>by
  simp only [stopN]
  rw [stop_same h n,h n]
theorem rK_same {r r':Rd} (h:r.Ok) (h':r'.Ok) (e:toR r=toR r'):(rK r).1=(rK r').1∧toR (rK r).2=toR (rK r').2:=by
 obtain ⟨c1,c2⟩:=count_same h h' e (m:=16) (by omega)
 have k:=(countR_ok h (m:=16) (by omega)).1
 have k':=(countR_ok h' (m:=16) (by omega)).1
 unfold rK rKeys
 rw [c1,stop_same (g':=fun i=>(dKeys i (countR r' 16).2).2) fun i=>to_e (keys_same k k' c2 i).2]
 exact keys_same k k' c2 _
theorem rK_two (r:Rd):(rK r).2=(dK r).2:=(rKeys_two _ _).1
theorem rBr_same {r r':Rd} (h:r.Ok) (h':r'.Ok) (e:toR r=toR r'):(rBr r).1=(rBr r').1∧toR (rBr r).2=toR (rBr r').2:=by
 obtain ⟨k1,k2⟩:=rK_same h h' e
 have kk:(rK r).2.Ok:=by rw [rK_two]; exact (kR_ok h).1
 have kk':(rK r').2.Ok:=by rw [rK_two]; exact (kR_ok h').1
 obtain ⟨h1,h2⟩:=hash_same kk kk' k2
 have hh:=hashR_ok kk
 have hh':=hashR_ok kk'
 obtain ⟨a1,a2⟩:=uint_same hh.1 hh'.1 h2 (m:=1099511627776) (by omega)
 have aa:=uintR_ok hh.1 (m:=1099511627776) (by omega)
 have aa':=uintR_ok hh'.1 (m:=1099511627776) (by omega)
 obtain ⟨o1,o2⟩:=uint_same aa.1 aa'.1 a2 (m:=65536) (by omega)
 refine ⟨?_,o2⟩
 show Br.mk (rK r).1 (rH r).1 (rA r).1 (rO r).1=Br.mk (rK r').1 (rH r').1 (rA r').1 (rO r').1
 rw [k1,show (rH r).1=(rH r').1 from h1,show (rA r).1=(rA r').1 from a1,show (rO r).1=(rO r').1 from o1]
theorem rBrs_ok {r:Rd} (h:r.Ok) (k:Nat):(rBrs k r).2.Ok∧(rBrs k r).1.length=k:=by
 refine ⟨by rw [(rBrs_two r k).1]; exact (brsR_ok h k).1,?_⟩
 induction k with
 | zero=>rfl
 | succ k ih=>
  show ((rBrs k r).1++[(rBr (rBrs k r).2).1]).length=k+1
  rw [List.length_append,ih]
  rfl
theorem rBrs_same {r r':Rd} (h:r.Ok) (h':r'.Ok) (e:toR r=toR r'):∀ k,(rBrs k r).1=(rBrs k r').1∧toR (rBrs k r).2=toR (rBrs k r').2
 | 0=>⟨rfl,e⟩
 | k+1=>by
  obtain ⟨h1,h2⟩:=rBrs_same h h' e k
  obtain ⟨h3,h4⟩:=rBr_same (rBrs_ok h k).1 (rBrs_ok h' k).1 h2
  refine ⟨?_,h4⟩
  show (rBrs k r).1++[(rBr (rBrs k r).2).1]=(rBrs k r').1++[(rBr (rBrs k r').2).1]
  rw [h1,h3]
theorem rC_same {r r':Rd} (h:r.Ok) (h':r'.Ok) (e:toR r=toR r'):(rC r).1=(rC r').1∧toR (rC r).2=toR (rC r').2:=by
 obtain ⟨c1,c2⟩:=count_same h h' e (m:=8) (by omega)
 have k:=(countR_ok h (m:=8) (by omega)).1
 have k':=(countR_ok h' (m:=8) (by omega)).1
 unfold rC
 rw [c1,stop_same (g':=fun i=>(rBrs i (countR r' 8).2).2) fun i=>to_e (rBrs_same k k' c2 i).2]
 exact rBrs_same k k' c2 _
theorem rC_ok {r:Rd} (h:r.Ok):(rC r).2.Ok:=(rBrs_ok (countR_ok h (m:=8) (by omega)).1 _).1
theorem rC_to {r:Rd} (h:r.Ok):(rC (ofR (toR r))).1=(rC r).1∧toR (rC (ofR (toR r))).2=toR (rC r).2:=rC_same (Rd.Ok.to h).of h (to_of _)
theorem rC_dead {r:Rd} (h:r.e≠0):(rC r).2.e≠0:=by
 rcases rC_two r with ⟨h1,h2⟩ | ⟨h1,_⟩
 ·rw [h2] at h1
  exact (dC_dead h h1).elim
 ·exact h1
def rI (b:List Int):List TIn×Rd:=dIns (stopN (fun i=>(dIns i (dN b).2).2) (dN b).1.toNat) (dN b).2
def rM (b:List Int):Int×Rd:=countR (rI b).2 64
def rOut (r:Rd):TOut×Rd:=(⟨(uintR r 1125899906842624).1,(rC (uintR r 1125899906842624).2).1⟩,(rC (uintR r 1125899906842624).2).2)
def rOuts:Nat→Rd→List TOut×Rd
 | 0,r=>([],r)
 | k+1,r=>((rOuts k r).1++[(rOut (rOuts k r).2).1],(rOut (rOuts k r).2).2)
def rU (b:List Int):List TOut×Rd:=rOuts (stopN (fun i=>(rOuts i (rM b).2).2) (rM b).1.toNat) (rM b).2
def rTx (b:List Int):TxD:=⟨(dLock b).1,(rI b).1,(rU b).1⟩
theorem rOut_two (r:Rd):((rOut r).2.e=0∧rOut r=dOut r)∨((rOut r).2.e≠0∧(dOut r).2.e≠0):=by
 rcases rC_two (uintR r 1125899906842624).2 with ⟨h1,h2⟩ | ⟨h1,h2⟩
 ·refine .inl ⟨h1,?_⟩
  unfold rOut dOut
  rw [h2]
 ·exact .inr ⟨h1,h2⟩
theorem rOut_dead {r:Rd} (h:r.e≠0):(rOut r).2.e≠0:=rC_dead (by rw [uint_dead h]; exact h)
theorem rOuts_dead {r:Rd} (h:r.e≠0):∀ k,(rOuts k r).2.e≠0
 | 0=>h
 | k+1=>rOut_dead (rOuts_dead h k)
theorem rOuts_two (r:Rd):∀ k,((rOuts k r).2.e=0∧rOuts k r=dOuts k r)∨((rOuts k r).2.e≠0∧(dOuts k r).2.e≠0)
 | 0=>by
  by_cases h:r.e=0
  ·exact .inl ⟨h,rfl⟩
  ·exact .inr ⟨h,h⟩
 | k+1=>by
  rcases rOuts_two r k with ⟨h1,h2⟩ | ⟨h1,h2⟩
  ·rcases rOut_two (rOuts k r).2 with ⟨h3,h4⟩ | ⟨h3,h4⟩
   ·refine .inl ⟨h3,?_⟩
    show ((rOuts k r).1++[(rOut (rOuts k r).2).1],(rOut (rOuts k r).2).2)=((dOuts k r).1++[(dOut (dOuts k r).2).1],(dOut (dOuts k r).2).2)
    rw [h4,h2]
   ·refine .inr ⟨h3,?_⟩
    show (dOut (dOuts k r).2).2.e≠0
    rw [← h2]
    exact h4
  ·exact .inr ⟨rOut_dead h1,out_dead h2⟩
theorem rOuts_ok {r:Rd} (h:r.Ok):∀ k,(rOuts k r).2.Ok∧(rOuts k r).1.length=k
 | 0=>⟨h,rfl⟩
 | k+1=>by
  obtain ⟨h1,h2⟩:=rOuts_ok h k
  refine ⟨rC_ok (uintR_ok h1 (m:=1125899906842624) (by omega)).1,?_⟩
  show ((rOuts k r).1++[(rOut (rOuts k r).2).1]).length=k+1
  rw [List.length_append,h2]
  rfl
theorem dIns_more {r:Rd} {k:Nat} (h:(dIns k r).2.e≠0):∀ m,k≤m→(dIns m r).2.e≠0
 | 0,hm=>by
  have e:k=0:=by omega
  subst e
  exact h
 | m+1,hm=>by
  rcases Nat.lt_or_ge m k with h1 | h1
  ·have e:k=m+1:=by omega
   subst e
   exact h
  ·exact in_dead (dIns_more h m h1)
theorem dOuts_more {r:Rd} {k:Nat} (h:(dOuts k r).2.e≠0):∀ m,k≤m→(dOuts m r).2.e≠0
 | 0,hm=>by
  have e:k=0:=by omega
  subst e
  exact h
 | m+1,hm=>by
  rcases Nat.lt_or_ge m k with h1 | h1
  ·have e:k=m+1:=by omega
   subst e
   exact h
  ·exact out_dead (dOuts_more h m h1)
theorem rU_two (b:List Int):((rU b).2.e=0∧rI b=dI b∧rU b=dU b)∨((rU b).2.e≠0∧(dU b).2.e≠0):=by
 rcases stop_end (fun i=>(dIns i (dN b).2).2) (dN b).1.toNat with h | h
 ·have e:rI b=dI b:=by unfold rI dI; rw [h]
  have e2:rM b=dM b:=by unfold rM dM; rw [e]
  unfold rU dU
  rw [e2]
  rcases stop_end (fun i=>(rOuts i (dM b).2).2) (dM b).1.toNat with h2 | h2
  ·rw [h2]
   rcases rOuts_two (dM b).2 (dM b).1.toNat with ⟨h3,h4⟩ | ⟨h3,h4⟩
   ·exact .inl ⟨h3,e,h4⟩
   ·exact .inr ⟨h3,h4⟩
  ·refine .inr ⟨h2,?_⟩
   rcases rOuts_two (dM b).2 (stopN (fun i=>(rOuts i (dM b).2).2) (dM b).1.toNat) with ⟨h3,_⟩ | ⟨_,h4⟩
   ·exact (h2 h3).elim
   ·exact dOuts_more h4 _ (stop_le _ _)
 ·have h2:(rI b).2.e≠0:=h
  have h3:(dI b).2.e≠0:=dIns_more h _ (stop_le _ _)
  exact .inr ⟨rOuts_dead (by unfold rM; rw [count_dead h2]; exact h2) _,dU_dead2 h3⟩
/-- So it comes to the same. -/
theorem rDec_same {b:List Int}:(doneR (rU b).2=0∧doneR (dU b).2=0∧rTx b=dTx b)∨(doneR (rU b).2≠0∧doneR (dU b).2≠0):=by
 rcases rU_two b with ⟨h1,h2,h3⟩ | ⟨h1,h2⟩
 ·have e:rTx b=dTx b:=by unfold rTx dTx; rw [h2,h3]
  rw [h3]
  by_cases hd:doneR (dU b).2=0
  ·exact .inl ⟨hd,hd,e⟩
  ·exact .inr ⟨hd,hd⟩
 ·refine .inr ⟨?_,?_⟩
  ·unfold doneR
   rw [if_pos h1]
   exact h1
  ·unfold doneR
   rw [if_pos h2]
   exact h2
end Go.Proofs.YtcglahfmnoghjaaGreatDoor

/-! The document's condition off what is read: the walk. Conditions: none. -/
namespace Go.Proofs.YtcglahfmnoghjaaGreatDoor
open Go Go.Eng Go.Proofs.Tryz
def rt1 (x:RR):Int×Rd:=countR (ofR x) (8:Int)
def rt2 (x:RR) (i:Nat):List Br×Rd:=rBrs i (rt1 x).snd
def rt3 (x:RR) (i:Nat):Int×Rd:=countR (ofR (toR (rt2 x i).snd)) (16:Int)
def rt4 (x:RR) (i j:Nat):List Int×Rd:=dKeys j (ofR (toR (rt3 x i).snd))
def rt5 (x:RR) (i j:Nat):List Int×Rd:=hashR (ofR (toR (rt4 x i j).snd))
def rt6 (x:RR) (i j:Nat):Int×Rd:=uintR (ofR (toR (rt5 x i j).snd)) (1099511627776:Int)
def rt7 (x:RR) (i j:Nat):Int×Rd:=uintR (ofR (toR (rt6 x i j).snd)) (65536:Int)
def rt8 (x:RR) (i j:Nat):Int×Rd:=uintR (ofR (toR (rt4 x i j).snd)) (16:Int)
def nilP:Prop:=(SV.val (A:=AA) (Value.slice none (0:Nat) (0:Nat)):SV AA)=SV.val (A:=AA) (Value.slice none (0:Nat) (0:Nat))
theorem nilP_ok:nilP:=rfl
theorem fewR {r:RR} (h:r.Ok) {m:Int} (h1:0≤m) (h2:m≤1000):(RRn.mk r m).Few:=⟨⟨h,h1⟩,by show m≤1000000; omega⟩
theorem rt_end {x:RR} {i j:Nat} (h:(rt2 x i).2.Ok) (hj:(j:Int)≤(rt3 x i).1∧stopN (fun k=>(dKeys k (ofR (toR (rt3 x i).2))).2) j=j) (hd:(j:Int)<(rt3 x i).1→(rt4 x i j).2.e≠0) :
  (rt4 x i j).1=(rK (rt2 x i).2).1∧toR (rt4 x i j).2=toR (rK (rt2 x i).2).2:=by
 obtain ⟨c1,c2⟩:=count_to h (m:=16) (by omega)
 change (rt3 x i).1=_ at c1
 change toR (rt3 x i).2=_ at c2
 obtain ⟨k1,k2,k3⟩:=countR_ok h (m:=16) (by omega)
 have k':(ofR (toR (rt3 x i).2)).Ok:=(Rd.Ok.to (countR_ok (Rd.Ok.to h).of (m:=16) (by omega)).1).of
 have same:=keys_same k' k1 ((to_of _).trans c2)
 have s1:stopN (fun k=>(dKeys k (countR (rt2 x i).2 16).2).2) j=j:=by
  rw [← stop_same (g:=fun k=>(dKeys k (ofR (toR (rt3 x i).2))).2) fun k=>to_e (same k).2]
  exact hj.2
 have hj1:=hj.1
 have st:stopN (fun k=>(dKeys k (countR (rt2 x i).2 16).2).2) (countR (rt2 x i).2 16).1.toNat=j:=by
  by_cases hlt:(j:Int)<(rt3 x i).1
  ·have h0:=hd hlt
   refine stop_here s1 ?_ _ (by omega)
   rw [← to_e (same j).2]
   exact h0
  ·rw [show (countR (rt2 x i).2 16).1.toNat=j by omega]
   exact s1
 unfold rK rKeys
 rw [st]
 exact same j
theorem rK_ok {r:Rd} (h:r.Ok):(rK r).2.Ok:=by
 rw [rK_two]
 exact (kR_ok h).1
theorem rt_br {x:RR} {i j:Nat} (h:(rt2 x i).2.Ok) (e:(rt4 x i j).1=(rK (rt2 x i).2).1∧toR (rt4 x i j).2=toR (rK (rt2 x i).2).2) :
  Br.mk (rt4 x i j).1 (rt5 x i j).1 (wr .i64 (rt6 x i j).1) (wr .i64 (rt7 x i j).1)=(rBr (rt2 x i).2).1∧toR (rt7 x i j).2=toR (rBr (rt2 x i).2).2:=by
 have kk:=rK_ok h
 obtain ⟨h1,h2⟩:=hash_to kk
 rw [← e.2] at h1 h2
 change (rt5 x i j).1=(rH (rt2 x i).2).1 at h1
 change toR (rt5 x i j).2=toR (rH (rt2 x i).2).2 at h2
 have hh:(rH (rt2 x i).2).2.Ok:=(hashR_ok kk).1
 obtain ⟨a1,a2⟩:=uint_to hh (m:=1099511627776) (by omega)
 rw [← h2] at a1 a2
 change (rt6 x i j).1=(rA (rt2 x i).2).1 at a1
 change toR (rt6 x i j).2=toR (rA (rt2 x i).2).2 at a2
 obtain ⟨aa,an⟩:=uintR_ok hh (m:=1099511627776) (by omega)
 change (rA (rt2 x i).2).2.Ok at aa
 change 0≤(rA (rt2 x i).2).1∧(rA (rt2 x i).2).1≤1099511627776 at an
 obtain ⟨o1,o2⟩:=uint_to aa (m:=65536) (by omega)
 rw [← a2] at o1 o2
 change (rt7 x i j).1=(rO (rt2 x i).2).1 at o1
 change toR (rt7 x i j).2=toR (rO (rt2 x i).2).2 at o2
 obtain ⟨oo,on⟩:=uintR_ok aa (m:=65536) (by omega)
 change 0≤(rO (rt2 x i).2).1∧(rO (rt2 x i).2).1≤65536 at on
 refine ⟨?_,o2⟩
 rw [e.1,h1,a1,o1,wr_small an (by omega),wr_small on (by omega)]
 rfl
theorem rt_fin {x:RR} {i:Nat} (hi:(i:Int)≤(rt1 x).1∧stopN (fun k=>(rBrs k (rt1 x).2).2) i=i) (hd:(i:Int)<(rt1 x).1→(rt2 x i).2.e≠0):rC (ofR x)=rt2 x i:=by
 have h1:=hi.1
 have st:stopN (fun k=>(rBrs k (rt1 x).2).2) (rt1 x).1.toNat=i:=by
  by_cases hlt:(i:Int)<(rt1 x).1
  ·exact stop_here hi.2 (hd hlt) _ (by omega)
  ·rw [show (rt1 x).1.toNat=i by omega]
   exact hi.2
 show rBrs (stopN (fun k=>(rBrs k (rt1 x).2).2) (rt1 x).1.toNat) (rt1 x).2=_
 rw [st]
 rfl
def rtQ (x:RR) (x_1 x_2:Nat):Prop:=((rt4 x x_1 x_2).snd.left=(rt4 x x_1 x_2).snd.left∧(rt4 x x_1 x_2).snd.e=(rt4 x x_1 x_2).snd.e∧True)∧True∧(toR (rt4 x x_1 x_2).snd).Ok∧(((rt5 x x_1 x_2).snd.left=(rt5 x x_1 x_2).snd.left∧(rt5 x x_1 x_2).snd.e=(rt5 x x_1 x_2).snd.e∧True)∧(1099511627776:Int)=(1099511627776:Int))∧True∧(RRn.mk (toR (rt5 x x_1 x_2).snd) (1099511627776:Int)).Ok∧(((rt6 x x_1 x_2).snd.left=(rt6 x x_1 x_2).snd.left∧(rt6 x x_1 x_2).snd.e=(rt6 x x_1 x_2).snd.e∧True)∧(65536:Int)=(65536:Int))∧True∧(RRn.mk (toR (rt6 x x_1 x_2).snd) (65536:Int)).Ok∧((rt4 x x_1 x_2).fst=(rt4 x x_1 x_2).fst∧(rt5 x x_1 x_2).fst=(rt5 x x_1 x_2).fst∧wr IntKind.i64 (rt6 x x_1 x_2).fst=wr IntKind.i64 (rt6 x x_1 x_2).fst∧wr IntKind.i64 (rt7 x x_1 x_2).fst=wr IntKind.i64 (rt7 x x_1 x_2).fst∧True)∧((rt2 x x_1).fst.length+[Br.mk (rt4 x x_1 x_2).fst (rt5 x x_1 x_2).fst (wr IntKind.i64 (rt6 x x_1 x_2).fst) (wr IntKind.i64 (rt7 x x_1 x_2).fst)].length)*(72:Nat)≤(140737488355328:Nat)∧(rt2 x x_1).fst.length+[Br.mk (rt4 x x_1 x_2).fst (rt5 x x_1 x_2).fst (wr IntKind.i64 (rt6 x x_1 x_2).fst) (wr IntKind.i64 (rt7 x x_1 x_2).fst)].length≤(1152921504606846976:Nat)∧inI64 ((x_1:Int)+(1:Int))∧∃ (y:Nat),((y:Int)≤(rt1 x).fst∧stopN (fun i=>(rBrs i (rt1 x).snd).snd) y=y)∧(rt1 x).fst.toNat-y<(rt1 x).fst.toNat-x_1∧(y:Int)=(x_1:Int)+(1:Int)∧(((rBrs y (rt1 x).snd).snd.left=(rt7 x x_1 x_2).snd.left∧(rBrs y (rt1 x).snd).snd.e=(rt7 x x_1 x_2).snd.e∧True)∧(nilP∧(0:Int)=(0:Int)∧True)∧(nilP∧True)∧(True∧True)∧True)∧(rBrs y (rt1 x).snd).fst=(rt2 x x_1).fst++[Br.mk (rt4 x x_1 x_2).fst (rt5 x x_1 x_2).fst (wr IntKind.i64 (rt6 x x_1 x_2).fst) (wr IntKind.i64 (rt7 x x_1 x_2).fst)]∧True
def rTakeVC:Prop:=∀ (x:RR),x.Ok→((x.l=x.l∧x.e=x.e∧True)∧(8:Int)=(8:Int))∧True∧(RRn.mk x (8:Int)).Few∧(∃ (x_1:Nat),((x_1:Int)≤(rt1 x).fst∧stopN (fun i=>(rBrs i (rt1 x).snd).snd) x_1=x_1)∧(x_1:Int)=(0:Int)∧(((rt2 x x_1).snd.left=(rt1 x).snd.left∧(rt2 x x_1).snd.e=(rt1 x).snd.e∧True)∧(nilP∧(0:Int)=(0:Int)∧True)∧(nilP∧True)∧(nilP∧True)∧True)∧(rt2 x x_1).fst=[]∧True)∧∀ (x_1:Nat),(x_1:Int)≤(rt1 x).fst∧stopN (fun i=>(rBrs i (rt1 x).snd).snd) x_1=x_1→(decide ((x_1:Int)<(rt1 x).fst)=true→(((rt2 x x_1).snd.e==(0:Int))=true→(((rt2 x x_1).snd.left=(rt2 x x_1).snd.left∧(rt2 x x_1).snd.e=(rt2 x x_1).snd.e∧True)∧(16:Int)=(16:Int))∧True∧(RRn.mk (toR (rt2 x x_1).snd) (16:Int)).Few∧(∃ (x_2:Nat),((x_2:Int)≤(rt3 x x_1).fst∧stopN (fun i=>(dKeys i (ofR (toR (rt3 x x_1).snd))).snd) x_2=x_2)∧(x_2:Int)=(0:Int)∧(((rt4 x x_1 x_2).snd.left=(rt3 x x_1).snd.left∧(rt4 x x_1 x_2).snd.e=(rt3 x x_1).snd.e∧True)∧(nilP∧(0:Int)=(0:Int)∧True)∧(nilP∧True)∧(True∧True)∧(rt2 x x_1).fst=(rt2 x x_1).fst∧(nilP∧List.replicate (32:Nat) (0:Int)=List.replicate (32:Nat) (0:Int)∧(0:Int)=(0:Int)∧(0:Int)=(0:Int)∧True)∧True)∧(rt4 x x_1 x_2).fst=[]∧True)∧∀ (x_2:Nat),(x_2:Int)≤(rt3 x x_1).fst∧stopN (fun i=>(dKeys i (ofR (toR (rt3 x x_1).snd))).snd) x_2=x_2→(decide ((x_2:Int)<(rt3 x x_1).fst)=true→(((rt4 x x_1 x_2).snd.e==(0:Int))=true→(((rt4 x x_1 x_2).snd.left=(rt4 x x_1 x_2).snd.left∧(rt4 x x_1 x_2).snd.e=(rt4 x x_1 x_2).snd.e∧True)∧(16:Int)=(16:Int))∧True∧(RRn.mk (toR (rt4 x x_1 x_2).snd) (16:Int)).Ok∧((rt4 x x_1 x_2).fst.length+[wr IntKind.i64 (rt8 x x_1 x_2).fst].length)*(8:Nat)≤(140737488355328:Nat)∧(rt4 x x_1 x_2).fst.length+[wr IntKind.i64 (rt8 x x_1 x_2).fst].length≤(1152921504606846976:Nat)∧inI64 ((x_2:Int)+(1:Int))∧∃ (y:Nat),((y:Int)≤(rt3 x x_1).fst∧stopN (fun i=>(dKeys i (ofR (toR (rt3 x x_1).snd))).snd) y=y)∧(rt3 x x_1).fst.toNat-y<(rt3 x x_1).fst.toNat-x_2∧(y:Int)=(x_2:Int)+(1:Int)∧(((dKeys y (ofR (toR (rt3 x x_1).snd))).snd.left=(rt8 x x_1 x_2).snd.left∧(dKeys y (ofR (toR (rt3 x x_1).snd))).snd.e=(rt8 x x_1 x_2).snd.e∧True)∧(nilP∧(0:Int)=(0:Int)∧True)∧(nilP∧True)∧(True∧True)∧(rt2 x x_1).fst=(rt2 x x_1).fst∧(True∧List.replicate (32:Nat) (0:Int)=List.replicate (32:Nat) (0:Int)∧(0:Int)=(0:Int)∧(0:Int)=(0:Int)∧True)∧True)∧(dKeys y (ofR (toR (rt3 x x_1).snd))).fst=(rt4 x x_1 x_2).fst++[wr IntKind.i64 (rt8 x x_1 x_2).fst]∧True)∧(((rt4 x x_1 x_2).snd.e==(0:Int))=false→rtQ x x_1 x_2))∧(decide ((x_2:Int)<(rt3 x x_1).fst)=false→rtQ x x_1 x_2))∧(((rt2 x x_1).snd.e==(0:Int))=false→((((rC (ofR x)).snd.left=(rt2 x x_1).snd.left∧(rC (ofR x)).snd.e=(rt2 x x_1).snd.e∧True)∧(rC (ofR x)).fst=(rt2 x x_1).fst∧True)∧True∧True)∧(((rC (ofR x)).snd.left=(rt2 x x_1).snd.left∧(rC (ofR x)).snd.e=(rt2 x x_1).snd.e∧True)∧(rC (ofR x)).fst=(rt2 x x_1).fst∧True)∧True∧True))∧(decide ((x_1:Int)<(rt1 x).fst)=false→((((rC (ofR x)).snd.left=(rt2 x x_1).snd.left∧(rC (ofR x)).snd.e=(rt2 x x_1).snd.e∧True)∧(rC (ofR x)).fst=(rt2 x x_1).fst∧True)∧True∧True)∧(((rC (ofR x)).snd.left=(rt2 x x_1).snd.left∧(rC (ofR x)).snd.e=(rt2 x x_1).snd.e∧True)∧(rC (ofR x)).fst=(rt2 x x_1).fst∧True)∧True∧True)
theorem rTake_eq:rTakeVC=fnS F186 f54 (bodyOf f54) rTakeLS rTakeAnn:=by kernel_rfl
theorem rtQ_ok {x:RR} (h0:x.Ok) {i j:Nat} (hi:(i:Int)≤(rt1 x).1∧stopN (fun k=>(rBrs k (rt1 x).2).2) i=i) (hlt:(i:Int)<(rt1 x).1) (h2:(rt2 x i).2.e=0)
  (hj:(j:Int)≤(rt3 x i).1∧stopN (fun k=>(dKeys k (ofR (toR (rt3 x i).2))).2) j=j) (hd:(j:Int)<(rt3 x i).1→(rt4 x i j).2.e≠0):rtQ x i j:=by
 obtain ⟨c1,c2,c3⟩:=countR_ok h0.of (m:=8) (by omega)
 change (rt1 x).2.Ok at c1
 change (rt1 x).1≤8 at c3
 obtain ⟨b1,b2⟩:=rBrs_ok c1 i
 change (rt2 x i).2.Ok at b1
 change (rt2 x i).1.length=i at b2
 obtain ⟨e1,e2⟩:=rt_br b1 (rt_end b1 hj hd)
 have k4:(toR (rt4 x i j).2).Ok:=Rd.Ok.to (keysR_ok (Rd.Ok.to (countR_ok (Rd.Ok.to b1).of (m:=16) (by omega)).1).of j).1
 have k5:(toR (rt5 x i j).2).Ok:=Rd.Ok.to (hashR_ok k4.of).1
 have k6:(toR (rt6 x i j).2).Ok:=Rd.Ok.to (uintR_ok k5.of (m:=1099511627776) (by omega)).1
 refine ⟨⟨rfl,rfl,trivial⟩,trivial,k4,⟨⟨rfl,rfl,trivial⟩,rfl⟩,trivial,⟨k5,by show (0:Int)≤1099511627776; omega⟩,⟨⟨rfl,rfl,trivial⟩,rfl⟩,trivial,⟨k6,by show (0:Int)≤65536; omega⟩,⟨rfl,rfl,rfl,rfl,trivial⟩,?_,?_,by unfold inI64; omega,i+1,⟨?_,?_⟩,by omega,by omega,⟨⟨?_,?_,trivial⟩,⟨nilP_ok,rfl,trivial⟩,⟨nilP_ok,trivial⟩,⟨trivial,trivial⟩,trivial⟩,?_,trivial⟩
 ·rw [b2]; simp only [List.length_singleton]; omega
 ·rw [b2]; simp only [List.length_singleton]; omega
 ·omega
 ·exact stop_up hi.2 h2
 ·show (rBr (rt2 x i).2).2.left=_
  exact (congrArg RR.l e2).symm
 ·show (rBr (rt2 x i).2).2.e=_
  exact (congrArg RR.e e2).symm
 ·rw [e1]
  rfl
theorem rTake_vc:rTakeVC:=by
 intro x h0
 obtain ⟨c1,c2,c3⟩:=countR_ok h0.of (m:=8) (by omega)
 change (rt1 x).2.Ok at c1
 change 0≤(rt1 x).1 at c2
 change (rt1 x).1≤8 at c3
 refine ⟨⟨⟨rfl,rfl,trivial⟩,rfl⟩,trivial,fewR h0 (by omega) (by omega),⟨0,⟨c2,rfl⟩,rfl,⟨⟨rfl,rfl,trivial⟩,⟨nilP_ok,rfl,trivial⟩,⟨nilP_ok,trivial⟩,⟨nilP_ok,trivial⟩,trivial⟩,rfl,trivial⟩,fun i hi=>⟨fun h1=>⟨fun h2=>?_,fun h2=>?_⟩,fun h1=>?_⟩⟩
 ·have h1':(i:Int)<(rt1 x).1:=of_decide_eq_true h1
  have h2':(rt2 x i).2.e=0:=by simpa using h2
  obtain ⟨b1,b2⟩:=rBrs_ok c1 i
  change (rt2 x i).2.Ok at b1
  change (rt2 x i).1.length=i at b2
  obtain ⟨d1,d2,d3⟩:=countR_ok (Rd.Ok.to b1).of (m:=16) (by omega)
  change (rt3 x i).2.Ok at d1
  change 0≤(rt3 x i).1 at d2
  change (rt3 x i).1≤16 at d3
  refine ⟨⟨⟨rfl,rfl,trivial⟩,rfl⟩,trivial,fewR (Rd.Ok.to b1) (by omega) (by omega),⟨0,⟨d2,rfl⟩,rfl,⟨⟨rfl,rfl,trivial⟩,⟨nilP_ok,rfl,trivial⟩,⟨nilP_ok,trivial⟩,⟨trivial,trivial⟩,rfl,⟨nilP_ok,rfl,rfl,rfl,trivial⟩,trivial⟩,rfl,trivial⟩,fun j hj=>⟨fun h3=>⟨fun h4=>?_,fun h4=>?_⟩,fun h3=>?_⟩⟩
  ·have h3':(j:Int)<(rt3 x i).1:=of_decide_eq_true h3
   have h4':(rt4 x i j).2.e=0:=by simpa using h4
   obtain ⟨k1,k2⟩:=keysR_ok (Rd.Ok.to d1).of j
   change (rt4 x i j).2.Ok at k1
   change (rt4 x i j).1.length=j at k2
   obtain ⟨u1,u2⟩:=uint_to k1 (m:=16) (by omega)
   change (rt8 x i j).1=_ at u1
   change toR (rt8 x i j).2=_ at u2
   have un:=(uintR_ok k1 (m:=16) (by omega)).2
   refine ⟨⟨⟨rfl,rfl,trivial⟩,rfl⟩,trivial,⟨Rd.Ok.to k1,by show (0:Int)≤16; omega⟩,?_,?_,by unfold inI64; omega,j+1,⟨?_,stop_up hj.2 h4'⟩,by omega,by omega,⟨⟨?_,?_,trivial⟩,⟨nilP_ok,rfl,trivial⟩,⟨nilP_ok,trivial⟩,⟨trivial,trivial⟩,rfl,⟨trivial,rfl,rfl,rfl,trivial⟩,trivial⟩,?_,trivial⟩
   ·rw [k2]; simp only [List.length_singleton]; omega
   ·rw [k2]; simp only [List.length_singleton]; omega
   ·omega
   ·exact (congrArg RR.l u2).symm
   ·exact (congrArg RR.e u2).symm
   ·rw [u1,wr_small un (by omega)]
    rfl
  ·exact rtQ_ok h0 hi h1' h2' hj (fun _=>by simpa using h4)
  ·have h3':¬(j:Int)<(rt3 x i).1:=of_decide_eq_false h3
   exact rtQ_ok h0 hi h1' h2' hj (fun h=>(h3' h).elim)
 ·have e:=rt_fin hi (fun _=>by simpa using h2)
  rw [e]
  exact ⟨⟨⟨⟨rfl,rfl,trivial⟩,rfl,trivial⟩,trivial,trivial⟩,⟨⟨rfl,rfl,trivial⟩,rfl,trivial⟩,trivial,trivial⟩
 ·have h1':¬(i:Int)<(rt1 x).1:=of_decide_eq_false h1
  have e:=rt_fin hi (fun h=>(h1' h).elim)
  rw [e]
  exact ⟨⟨⟨⟨rfl,rfl,trivial⟩,rfl,trivial⟩,trivial,trivial⟩,⟨⟨rfl,rfl,trivial⟩,rfl,trivial⟩,trivial,trivial⟩
theorem rTake_ok:Fits F186 f54 (bodyOf f54) rTakeLS rTakeAnn:=by
 constructor
 rw [← rTake_eq]
 exact rTake_vc
theorem rTake_has:Has prog 54 f54 (bodyOf f54):=⟨by kernel_rfl,by kernel_rfl,by kernel_rfl⟩
theorem known187:Known prog L187:=by
 unfold L187
 exact known186.lent mixed rTake_has F186_eq rTake_ok (fun _ _=>Nat.zero_le _) (fun _ _=>rfl)
end Go.Proofs.YtcglahfmnoghjaaGreatDoor

/-! Bytes held against bytes, by their order; points: what is said of them. Conditions: none. -/
namespace Go.Proofs.YtcglahfmnoghjaaGreatDoor
open Go Go.Eng Go.Proofs.Tryz
/-- Bytes, as they are held against others by the run time. -/
def cmpB (xs ys:List Int):Int:=Extern.BytealgCompare.cmp (strOfNums xs) (strOfNums ys)
def cmpT:SpecT AA:=fun args sh K=>match args with
 | [a,b]=>match intsOfS sh a,intsOfS sh b with
  | some (k,xs),some (k',ys)=>if Go.Eng.kindOk k .u8 then (if Go.Eng.kindOk k' .u8 then K (.int .i64 (cmpB xs ys)) sh else False) else False
  | _,_=>False
 | _=>False
structure OrdX where
 p:Pt
 q:Pt
 r:Pt
def PtOk (p:Pt):Prop:=p.tx.length=32∧Byt p.tx
structure OrdX.Ok (x:OrdX):Prop where
 p:PtOk x.p
 q:PtOk x.q
 r:PtOk x.r
end Go.Proofs.YtcglahfmnoghjaaGreatDoor

/-! Points, by their order: plain laws; the walks hold. Conditions: none. -/
namespace Go.Proofs.YtcglahfmnoghjaaGreatDoor
open Go Go.Eng Go.Proofs.Tryz
end Go.Proofs.YtcglahfmnoghjaaGreatDoor

/-! Which points transactions spend, whether they clash; the document's answers; TxPoints: what is said of them. Conditions: none. -/
namespace Go.Proofs.YtcglahfmnoghjaaGreatDoor
open Go Go.Eng Go.Proofs.Tryz
theorem put_at:ttOf L75 25=tLent rPutLS rPutGet:=by
 unfold L75
 rfl
structure PP where
 p:Pt
 q:Pt
structure PP.Ok (x:PP):Prop where
 p:PtOk x.p
 q:PtOk x.q
def rBytesLS:LS AA where
 X:=BB
 pre:=BB.Ok
 args:=fun x=>[.rints .u8 x.xs,.rints .u8 x.b]
 hin:=fun _=>[]
 res:=fun _=>[.vec 0]
 hout:=fun x=>[.ivec 5 .u8 (x.xs++bytesB x.b)]
def rBytesGet (args:List (SV AA)) (sh:List (SO AA)):Option BB:=match args with
 | [s,t]=>match gI .u8 sh s,gI .u8 sh t with
  | some a,some b=>some ⟨a,b⟩
  | _,_=>none
 | _=>none
def rBytesAnn (x:BB):Anns AA:=fun _ _ _=>some {
 X:=Nat
 inv:=fun n=>n≤x.b.length
 meas:=fun n=>x.b.length-n
 slots:=fun n=>[(6,.int .i64 n),(5,.vec 1)]
 heap:=fun _=>[(0,.dead)]
 more:=fun n=>[.ivec 5 .u8 (x.xs++stuffB (x.b.take n))] }
structure EncR (t:TxD):Prop extends TxOk t where
 s:∀ y,y∈t.ins→y.secret.length≤2000000
 sum:sumS t.ins≤2000000
def secR (s:Bool) (x:TIn):List Int:=bif s then x.secret else []
def rputTxLS (s:Bool):LS AA where
 X:=TxD
 pre:=EncR
 args:=fun t=>[.agg (txRSL t),.bl s]
 hin:=fun _=>[]
 res:=fun t=>[.rints .u8 (putTx (secR s) t)]
 hout:=fun _=>[]
def rputTxGet (s:Bool) (args:List (SV AA)) (sh:List (SO AA)):Option TxD:=match args with
 | [t,.bl b]=>bif b==s then decTxR sh t else none
 | _=>none
def rputTxAnn (s:Bool) (x:TxD):Anns AA:=fun k ts sh=>match nth ts 5 with
 | some v=>match gI .u8 sh v with
  | some xs=>if k=4 then some {
    X:=Nat
    inv:=fun n=>n≤x.ins.length
    meas:=fun n=>x.ins.length-n
    slots:=fun n=>[(6,.int .i64 n),(5,.rints .u8 (xs++insB (secR s) (x.ins.take n)))]
    heap:=fun _=>deadOf v }
   else some {
    X:=Nat
    inv:=fun n=>n≤x.outs.length
    meas:=fun n=>x.outs.length-n
    slots:=fun n=>[(8,.int .i64 n),(5,.rints .u8 (xs++toutsB (x.outs.take n)))]
    heap:=fun _=>deadOf v }
  | none=>none
 | none=>none
noncomputable def rIdLS:LS AA where
 X:=TxD
 pre:=EncR
 args:=fun t=>[.agg (txRSL t)]
 hin:=fun _=>[]
 res:=fun t=>[hashV (idB t)]
 hout:=fun _=>[]
structure PtsX where
 t:TxD
 u:TxD
 p:Pt
 q:Pt
structure PtsX.Ok (x:PtsX):Prop where
 t:EncR x.t
 st:Small x.t
 u:EncR x.u
 su:Small x.u
 p:PtOk x.p
 q:PtOk x.q
end Go.Proofs.YtcglahfmnoghjaaGreatDoor

/-! Points that are spent, clashes, the document's answers: the walks. Conditions: none. -/
namespace Go.Proofs.YtcglahfmnoghjaaGreatDoor
open Go Go.Eng Go.Proofs.Tryz
def rBytesVC:Prop:=∀ (x:BB),x.Ok→x.xs=x.xs∧True∧x.xs.length.le (1099511627776:Nat)∧(∃ x_1,Nat.le x_1 x.b.length∧((x_1:Int)=(0:Int)∧True)∧True
 ∧ x.xs++stuffB (List.take x_1 x.b)=x.xs∧True)∧∀ (x_1:Nat),x_1.le x.b.length→(x.b.length:Int)≤(9223372036854775807:Int)→(decide
 ((x_1:Int)<(x.b.length:Int))=true→(0:Int)≤(x_1:Int)∧(x_1:Int)<(x.b.length:Int)∧(x_1:Int).toNat<x.b.length∧((x.xs
 ++ stuffB (List.take x_1 x.b)).length+[x.b.getD (x_1:Int).toNat (0:Int)].length)*(1:Nat)≤(140737488355328:Nat)∧(x.xs++stuffB
 (List.take x_1 x.b)).length+[x.b.getD (x_1:Int).toNat (0:Int)].length≤(1152921504606846976:Nat)∧(0:Int)≤(x_1:Int)∧(x_1:Int) <
 (x.b.length:Int)∧(x_1:Int).toNat<x.b.length∧((x.b.getD (x_1:Int).toNat (0:Int)==(0:Int))=true→((x.xs++stuffB (List.take x_1
 x.b)++[x.b.getD (x_1:Int).toNat (0:Int)]).length+[(255:Int)].length)*(1:Nat)≤(140737488355328:Nat)∧(x.xs++stuffB (List.take x_1
 x.b)++[x.b.getD (x_1:Int).toNat (0:Int)]).length+[(255:Int)].length≤(1152921504606846976:Nat)∧inI64 ((x_1:Int)+(1:Int))∧∃ y,
 Nat.le y x.b.length∧x.b.length-y<x.b.length-x_1∧((y:Int)=(x_1:Int)+(1:Int)∧True)∧True∧x.xs++stuffB (List.take y x.b) =
 x.xs++stuffB (List.take x_1 x.b)++[x.b.getD (x_1:Int).toNat (0:Int)]++[(255:Int)]∧True)∧((x.b.getD (x_1:Int).toNat (0:Int)==(0
 : Int))=false→inI64 ((x_1:Int)+(1:Int))∧∃ y,Nat.le y x.b.length∧x.b.length-y<x.b.length-x_1∧((y:Int)=(x_1:Int)+(1 :
 Int)∧True)∧True∧x.xs++stuffB (List.take y x.b)=x.xs++stuffB (List.take x_1 x.b)++[x.b.getD (x_1:Int).toNat (0:Int)]∧True)) ∧
 (decide ((x_1:Int)<(x.b.length:Int))=false→((x.xs++stuffB (List.take x_1 x.b)).length+[(0:Int),(0:Int)].length)*(1:Nat) ≤
 (140737488355328:Nat)∧(x.xs++stuffB (List.take x_1 x.b)).length+[(0:Int),(0:Int)].length≤(1152921504606846976:Nat)∧True∧True ∧
 x.xs++bytesB x.b=x.xs++stuffB (List.take x_1 x.b)++[(0:Int),(0:Int)]∧True)
theorem rBytes_vc:rBytesVC:=by
 rintro ⟨xs,b⟩ ⟨hl,hb⟩
 simp only at hl hb
 simp only [true_and,and_true,decide_eq_true_eq,decide_eq_false_iff_not,Int.toNat_natCast,List.length_append,List.length_cons,List.length_nil,beq_iff_eq,beq_eq_false_iff_ne,ne_eq]
 refine ⟨by show xs.length≤1099511627776; omega,⟨0,Nat.zero_le _,rfl,by simp [stuffB]⟩,fun i hi _=>⟨fun h=>?_,fun h=>?_⟩⟩
 ·have hi':i<b.length:=by omega
  have p1:=stuffB_take_le b i
  have hup:=take_up hi' rfl
  refine ⟨by omega,h,hi',by omega,by omega,by omega,h,hi',fun h0=>⟨by omega,by omega,by unfold inI64; omega,i+1,hi',by omega,by omega,?_⟩,fun h0=>⟨by unfold inI64; omega,i+1,hi',by omega,by omega,?_⟩⟩
  ·rw [hup,stuffB_app,h0]
   simp [stuffB]
  ·rw [hup,stuffB_app]
   simp only [stuffB,if_neg h0,List.append_assoc]
 ·have p1:=stuffB_take_le b i
  refine ⟨by omega,by omega,?_⟩
  rw [List.take_of_length_le (by omega)]
  simp [bytesB]
theorem rBytes_has:Has prog 90 f90 (bodyOf f90):=⟨by kernel_rfl,by kernel_rfl,by kernel_rfl⟩
end Go.Proofs.YtcglahfmnoghjaaGreatDoor

/-! The document's transaction of bytes; its bytes; TxReads: what is said of them. Conditions: none. -/
namespace Go.Proofs.YtcglahfmnoghjaaGreatDoor
open Go Go.Eng Go.Proofs.Tryz
noncomputable def L188:List (Nat×SpecT AA):=(73,tLent rcheckLS txRGet)::L187
theorem rcheck_at:ttOf L99 73=tLent rcheckLS txRGet:=by
 unfold L99
 rfl
noncomputable def F188:Eng AA:=EF prog L188
theorem F188_eq:F188=EF prog L188:=by
 unfold F188
 rfl
noncomputable def rDecTxLS:LS AA where
 X:=List Int
 pre:=DecIn
 args:=fun b=>[.rints .u8 b]
 hin:=fun _=>[]
 res:=fun b=>[.agg (txRSL (decTxB b)),.int .i64 (decTxE b)]
 hout:=fun _=>[]
def rDecTxAnn (b:List Int):Anns AA:=fun k ts sh=>match nth ts 4,nth ts 5 with
 | some (.ptr j4 _),some (.ptr j5 _)=>(match nth sh j4 with
  | some (.cells t (.cell lk (.cell ins rest)))=>if k=8 then some {
    X:=Nat
    inv:=fun i=>(i:Int)≤(dN b).1∧stopN (fun i=>(dIns i (dN b).2).2) i=i
    meas:=fun i=>(dN b).1.toNat-i
    slots:=fun i=>[(8,.int .i64 i)]
    heap:=fun i=>[(j5,.cells 113 (rrSL (toR (dIns i (dN b).2).2))),(j4,.cells t (.cell lk (.cell (.vec (cnt sh)) rest)))]
    more:=fun i=>[.svec 80 (show List (AA 80) from (dIns i (dN b).2).1)] }
   else some {
    X:=Nat
    inv:=fun i=>(i:Int)≤(rM b).1∧stopN (fun i=>(rOuts i (rM b).2).2) i=i
    meas:=fun i=>(rM b).1.toNat-i
    slots:=fun i=>[(11,.int .i64 i)]
    heap:=fun i=>[(j5,.cells 113 (rrSL (toR (rOuts i (rM b).2).2))),(j4,.cells t (.cell lk (.cell ins (.cell (.vec (cnt sh)) .nil))))]
    more:=fun i=>[.svec 82 (show List (AA 82) from (rOuts i (rM b).2).1)] }
  | _=>none)
 | _,_=>none
noncomputable def L189:List (Nat×SpecT AA):=(30,tLent rDecTxLS bytesGet1)::L188
noncomputable def L200:List (Nat×SpecT AA):=(25,tLent rPutLS rPutGet)::L99
theorem known200:Known prog L200:=by
 unfold L200
 exact known75.over _ _ put_at known99
noncomputable def F200:Eng AA:=EF prog L200
theorem F200_eq:F200=EF prog L200:=by
 unfold F200
 rfl
noncomputable def L201:List (Nat×SpecT AA):=(90,tLent rBytesLS rBytesGet)::L200
noncomputable def F201:Eng AA:=EF prog L201
theorem F201_eq:F201=EF prog L201:=by
 unfold F201
 rfl
noncomputable def L202:List (Nat×SpecT AA):=(45,tLent (rputTxLS true) (rputTxGet true))::L201
noncomputable def F202:Eng AA:=EF prog L202
theorem F202_eq:F202=EF prog L202:=by
 unfold F202
 rfl
noncomputable def rEncLS:LS AA where
 X:=TxD
 pre:=EncR
 args:=fun t=>[.agg (txRSL t)]
 hin:=fun _=>[]
 res:=fun t=>[.rints .u8 (putTx (fun x=>x.secret) t)]
 hout:=fun _=>[]
noncomputable def L203:List (Nat×SpecT AA):=(33,tLent rEncLS txRGet)::L202
noncomputable def L190:List (Nat×SpecT AA):=(30,tLent rDecTxLS bytesGet1)::L169
noncomputable def L191:List (Nat×SpecT AA):=(33,tLent rEncLS txRGet)::L190
end Go.Proofs.YtcglahfmnoghjaaGreatDoor

/-! The document's transaction of bytes: the walk. Conditions: none. -/
namespace Go.Proofs.YtcglahfmnoghjaaGreatDoor
open Go Go.Eng Go.Proofs.Tryz
def rl (x:List Int):Int×Rd:=uintR (ofR (RR.mk x (0:Int))) (1099511627776:Int)
def rn (x:List Int):Int×Rd:=countR (ofR (toR (rl x).snd)) (64:Int)
def rd1 (x:List Int) (i:Nat):Rd:=(dIns i (dN x).snd).snd
def rd2 (x:List Int) (i:Nat):List Int×Rd:=hashR (ofR (toR (rd1 x i)))
def rd3 (x:List Int) (i:Nat):Int×Rd:=uintR (ofR (toR (rd2 x i).snd)) (64:Int)
def rd4 (x:List Int) (i:Nat):Int×Rd:=uintR (ofR (toR (rd3 x i).snd)) (8:Int)
def rd5 (x:List Int) (i:Nat):List Int×Rd:=bytesR (ofR (toR (rd4 x i).snd)) (64:Int)
def rm (x:List Int) (i:Nat):Int×Rd:=countR (ofR (toR (rd1 x i))) (64:Int)
def rd6 (x:List Int) (i:Nat):Rd:=(rOuts i (rM x).snd).snd
def rd7 (x:List Int) (i:Nat):Int×Rd:=uintR (ofR (toR (rd6 x i))) (1125899906842624:Int)
def rd8 (x:List Int) (i:Nat):List Br×Rd:=rC (ofR (toR (rd7 x i).snd))
theorem rd_in {x:List Int} {i:Nat} (h:(rd1 x i).Ok) :
  TIn.mk (rd2 x i).1 (wr .i64 (rd3 x i).1) (wr .i64 (rd4 x i).1) (rd5 x i).1=(dIn (rd1 x i)).1∧toR (rd5 x i).2=toR (dIn (rd1 x i)).2:=by
 obtain ⟨h1,h2⟩:=hash_to h
 change (rd2 x i).1=_ at h1
 change toR (rd2 x i).2=_ at h2
 have hh:=(hashR_ok h).1
 obtain ⟨n1,n2⟩:=uint_to hh (m:=64) (by omega)
 rw [← h2] at n1 n2
 change (rd3 x i).1=_ at n1
 change toR (rd3 x i).2=_ at n2
 obtain ⟨nn,nr⟩:=uintR_ok hh (m:=64) (by omega)
 obtain ⟨b1,b2⟩:=uint_to nn (m:=8) (by omega)
 rw [← n2] at b1 b2
 change (rd4 x i).1=_ at b1
 change toR (rd4 x i).2=_ at b2
 obtain ⟨bb,br⟩:=uintR_ok nn (m:=8) (by omega)
 obtain ⟨s1,s2⟩:=bytes_to bb (m:=64)
 rw [← b2] at s1 s2
 change (rd5 x i).1=_ at s1
 refine ⟨?_,s2⟩
 rw [h1,n1,b1,s1,wr_small nr (by omega),wr_small br (by omega)]
 rfl
theorem rd_out {x:List Int} {i:Nat} (h:(rd6 x i).Ok) :
  TOut.mk (wr .i64 (rd7 x i).1) (rd8 x i).1=(rOut (rd6 x i)).1∧toR (rd8 x i).2=toR (rOut (rd6 x i)).2:=by
 obtain ⟨n1,n2⟩:=uint_to h (m:=1125899906842624) (by omega)
 change (rd7 x i).1=_ at n1
 change toR (rd7 x i).2=_ at n2
 obtain ⟨nn,nr⟩:=uintR_ok h (m:=1125899906842624) (by omega)
 obtain ⟨c1,c2⟩:=rC_to nn
 rw [← n2] at c1 c2
 change (rd8 x i).1=_ at c1
 refine ⟨?_,c2⟩
 rw [n1,c1,wr_small nr (by omega)]
 rfl
def rdR (x:List Int) (x_1 x_2:Nat):Prop:=((rd6 x x_2).left=(rd6 x x_2).left∧(rd6 x x_2).e=(rd6 x x_2).e∧True)∧True∧True∧((doneL (toR (rd6 x x_2)) != (0:Int))=true→(((decTxB x).lock=(0:Int)∧(decTxB x).ins=[]∧(decTxB x).outs=[]∧True)∧decTxE x=(3:Int))∧True∧True)∧((doneL (toR (rd6 x x_2)) != (0:Int))=false→(wr IntKind.i64 (rl x).fst=wr IntKind.i64 (rl x).fst∧(dIns x_1 (dN x).snd).fst=(dIns x_1 (dN x).snd).fst∧(rOuts x_2 (rM x).snd).fst=(rOuts x_2 (rM x).snd).fst∧True)∧True∧Lens (TxD.mk (wr IntKind.i64 (rl x).fst) (dIns x_1 (dN x).snd).fst (rOuts x_2 (rM x).snd).fst)∧((checkT (TxD.mk (wr IntKind.i64 (rl x).fst) (dIns x_1 (dN x).snd).fst (rOuts x_2 (rM x).snd).fst) != (0:Int))=true→(((decTxB x).lock=(0:Int)∧(decTxB x).ins=[]∧(decTxB x).outs=[]∧True)∧decTxE x=(3:Int))∧True∧True)∧((checkT (TxD.mk (wr IntKind.i64 (rl x).fst) (dIns x_1 (dN x).snd).fst (rOuts x_2 (rM x).snd).fst) != (0:Int))=false→(((decTxB x).lock=wr IntKind.i64 (rl x).fst∧(decTxB x).ins=(dIns x_1 (dN x).snd).fst∧(decTxB x).outs=(rOuts x_2 (rM x).snd).fst∧True)∧decTxE x=(0:Int))∧True∧True))
def rdP (x:List Int) (x_1:Nat):Prop:=(((rd1 x x_1).left=(rd1 x x_1).left∧(rd1 x x_1).e=(rd1 x x_1).e∧True)∧(64:Int)=(64:Int))∧True∧(RRn.mk (toR (rd1 x x_1)) (64:Int)).Few∧(∃ (x_2:Nat),((x_2:Int)≤(rM x).fst∧stopN (fun i=>(rOuts i (rM x).snd).snd) x_2=x_2)∧(x_2:Int)=(0:Int)∧(((0:Int)=(0:Int)∧nilP∧nilP∧True)∧(wr IntKind.i64 (rl x).fst=wr IntKind.i64 (rl x).fst∧True∧nilP∧True)∧((rd6 x x_2).left=(rm x x_1).snd.left∧(rd6 x x_2).e=(rm x x_1).snd.e∧True)∧(dIns x_1 (dN x).snd).fst=(dIns x_1 (dN x).snd).fst∧True)∧(rOuts x_2 (rM x).snd).fst=[]∧True)∧∀ (x_2:Nat),(x_2:Int)≤(rM x).fst∧stopN (fun i=>(rOuts i (rM x).snd).snd) x_2=x_2→(decide ((x_2:Int)<(rm x x_1).fst)=true→(((rd6 x x_2).e==(0:Int))=true→(((rd6 x x_2).left=(rd6 x x_2).left∧(rd6 x x_2).e=(rd6 x x_2).e∧True)∧(1125899906842624:Int)=(1125899906842624:Int))∧True∧(RRn.mk (toR (rd6 x x_2)) (1125899906842624:Int)).Ok∧((rd7 x x_2).snd.left=(rd7 x x_2).snd.left∧(rd7 x x_2).snd.e=(rd7 x x_2).snd.e∧True)∧True∧(toR (rd7 x x_2).snd).Ok∧(wr IntKind.i64 (rd7 x x_2).fst=wr IntKind.i64 (rd7 x x_2).fst∧(rd8 x x_2).fst=(rd8 x x_2).fst∧True)∧((rOuts x_2 (rM x).snd).fst.length+[TOut.mk (wr IntKind.i64 (rd7 x x_2).fst) (rd8 x x_2).fst].length)*(32:Nat)≤(140737488355328:Nat)∧(rOuts x_2 (rM x).snd).fst.length+[TOut.mk (wr IntKind.i64 (rd7 x x_2).fst) (rd8 x x_2).fst].length≤(1152921504606846976:Nat)∧inI64 ((x_2:Int)+(1:Int))∧∃ (y:Nat),((y:Int)≤(rM x).fst∧stopN (fun i=>(rOuts i (rM x).snd).snd) y=y)∧(rM x).fst.toNat-y<(rM x).fst.toNat-x_2∧(y:Int)=(x_2:Int)+(1:Int)∧(((0:Int)=(0:Int)∧nilP∧nilP∧True)∧(wr IntKind.i64 (rl x).fst=wr IntKind.i64 (rl x).fst∧True∧True∧True)∧((rOuts y (rM x).snd).snd.left=(rd8 x x_2).snd.left∧(rOuts y (rM x).snd).snd.e=(rd8 x x_2).snd.e∧True)∧(dIns x_1 (dN x).snd).fst=(dIns x_1 (dN x).snd).fst∧True)∧(rOuts y (rM x).snd).fst=(rOuts x_2 (rM x).snd).fst++[TOut.mk (wr IntKind.i64 (rd7 x x_2).fst) (rd8 x x_2).fst]∧True)∧(((rd6 x x_2).e==(0:Int))=false→rdR x x_1 x_2))∧(decide ((x_2:Int)<(rm x x_1).fst)=false→rdR x x_1 x_2)
def rDecTxVC:Prop:=∀ (x:List Int),DecIn x→((x=x∧(0:Int)=(0:Int)∧True)∧(1099511627776:Int)=(1099511627776:Int))∧True∧(RRn.mk (RR.mk x (0:Int)) (1099511627776:Int)).Ok∧(((rl x).snd.left=(rl x).snd.left∧(rl x).snd.e=(rl x).snd.e∧True)∧(64:Int)=(64:Int))∧True∧(RRn.mk (toR (rl x).snd) (64:Int)).Few∧(∃ (x_1:Nat),((x_1:Int)≤(dN x).fst∧stopN (fun i=>(dIns i (dN x).snd).snd) x_1=x_1)∧(x_1:Int)=(0:Int)∧(((0:Int)=(0:Int)∧nilP∧nilP∧True)∧(wr IntKind.i64 (rl x).fst=wr IntKind.i64 (rl x).fst∧nilP∧nilP∧True)∧((rd1 x x_1).left=(rn x).snd.left∧(rd1 x x_1).e=(rn x).snd.e∧True)∧True)∧(dIns x_1 (dN x).snd).fst=[]∧True)∧∀ (x_1:Nat),(x_1:Int)≤(dN x).fst∧stopN (fun i=>(dIns i (dN x).snd).snd) x_1=x_1→(decide ((x_1:Int)<(rn x).fst)=true→(((rd1 x x_1).e==(0:Int))=true→((rd1 x x_1).left=(rd1 x x_1).left∧(rd1 x x_1).e=(rd1 x x_1).e∧True)∧True∧(toR (rd1 x x_1)).Ok∧(((rd2 x x_1).snd.left=(rd2 x x_1).snd.left∧(rd2 x x_1).snd.e=(rd2 x x_1).snd.e∧True)∧(64:Int)=(64:Int))∧True∧(RRn.mk (toR (rd2 x x_1).snd) (64:Int)).Ok∧(((rd3 x x_1).snd.left=(rd3 x x_1).snd.left∧(rd3 x x_1).snd.e=(rd3 x x_1).snd.e∧True)∧(8:Int)=(8:Int))∧True∧(RRn.mk (toR (rd3 x x_1).snd) (8:Int)).Ok∧(((rd4 x x_1).snd.left=(rd4 x x_1).snd.left∧(rd4 x x_1).snd.e=(rd4 x x_1).snd.e∧True)∧(64:Int)=(64:Int))∧True∧(RRn.mk (toR (rd4 x x_1).snd) (64:Int)).Few∧((rd2 x x_1).fst=(rd2 x x_1).fst∧wr IntKind.i64 (rd3 x x_1).fst=wr IntKind.i64 (rd3 x x_1).fst∧wr IntKind.i64 (rd4 x x_1).fst=wr IntKind.i64 (rd4 x x_1).fst∧(rd5 x x_1).fst=(rd5 x x_1).fst∧True)∧((dIns x_1 (dN x).snd).fst.length+[TIn.mk (rd2 x x_1).fst (wr IntKind.i64 (rd3 x x_1).fst) (wr IntKind.i64 (rd4 x x_1).fst) (rd5 x x_1).fst].length)*(72:Nat)≤(140737488355328:Nat)∧(dIns x_1 (dN x).snd).fst.length+[TIn.mk (rd2 x x_1).fst (wr IntKind.i64 (rd3 x x_1).fst) (wr IntKind.i64 (rd4 x x_1).fst) (rd5 x x_1).fst].length≤(1152921504606846976:Nat)∧inI64 ((x_1:Int)+(1:Int))∧∃ (y:Nat),((y:Int)≤(dN x).fst∧stopN (fun i=>(dIns i (dN x).snd).snd) y=y)∧(dN x).fst.toNat-y<(dN x).fst.toNat-x_1∧(y:Int)=(x_1:Int)+(1:Int)∧(((0:Int)=(0:Int)∧nilP∧nilP∧True)∧(wr IntKind.i64 (rl x).fst=wr IntKind.i64 (rl x).fst∧True∧nilP∧True)∧((dIns y (dN x).snd).snd.left=(rd5 x x_1).snd.left∧(dIns y (dN x).snd).snd.e=(rd5 x x_1).snd.e∧True)∧True)∧(dIns y (dN x).snd).fst=(dIns x_1 (dN x).snd).fst++[TIn.mk (rd2 x x_1).fst (wr IntKind.i64 (rd3 x x_1).fst) (wr IntKind.i64 (rd4 x x_1).fst) (rd5 x x_1).fst]∧True)∧(((rd1 x x_1).e==(0:Int))=false→rdP x x_1))∧(decide ((x_1:Int)<(rn x).fst)=false→rdP x x_1)
theorem rDecTx_eq:rDecTxVC=fnS F188 f30 (bodyOf f30) rDecTxLS rDecTxAnn:=by kernel_rfl
structure DecOk (x:List Int):Prop where
 d:DecIn x
 l:(dLock x).2.Ok
 lr:0≤(dLock x).1∧(dLock x).1≤1099511627776
 n:(dN x).2.Ok
 nr:0≤(dN x).1∧(dN x).1≤64
 i:(rI x).2.Ok
 m:(rM x).2.Ok
 mr:0≤(rM x).1∧(rM x).1≤64
theorem DecOk.of {x:List Int} (hx:DecIn x):DecOk x:=by
 have h0:(Rd.mk x 0 0).Ok:=⟨hx.byt,by show (0:Int)≤0; omega,by show (0:Int)≤x.length; omega,hx.len⟩
 obtain ⟨l1,l2⟩:=uintR_ok h0 (m:=1099511627776) (by omega)
 change (dLock x).2.Ok at l1
 obtain ⟨n1,n2,n3⟩:=countR_ok l1 (m:=64) (by omega)
 change (dN x).2.Ok at n1
 have i1:(rI x).2.Ok:=(insR_ok n1 _).1
 obtain ⟨m1,m2,m3⟩:=countR_ok i1 (m:=64) (by omega)
 exact ⟨hx,l1,l2,n1,⟨n2,n3⟩,i1,m1,⟨m2,m3⟩⟩
theorem rdR_ok {x:List Int} (hx:DecOk x) {i k:Nat} (e1:dIns i (dN x).2=rI x) (e2:rOuts k (rM x).2=rU x):rdR x i k:=by
 have hok:(rU x).2.Ok:=(rOuts_ok hx.m _).1
 have el:wr .i64 (rl x).1=(dLock x).1:=wr_small hx.lr (by omega)
 have hB:∀ b,decTxOk x=b→decTxB x=(if b then dTx x else ⟨0,[],[]⟩)∧decTxE x=(if b then 0 else 3):=fun b hb=>by
  unfold decTxB decTxE
  rw [hb]
  exact ⟨rfl,rfl⟩
 have no:decTxOk x=false→(((decTxB x).lock=(0:Int)∧(decTxB x).ins=[]∧(decTxB x).outs=[]∧True)∧decTxE x=(3:Int))∧True∧True:=fun hd=>by
  rw [(hB _ hd).1,(hB _ hd).2]
  exact ⟨⟨⟨rfl,rfl,rfl,trivial⟩,rfl⟩,trivial,trivial⟩
 unfold rdR rd6
 rw [e1,e2,done_to hok,el]
 change _∧_∧_∧_∧(_→_∧_∧Lens (rTx x)∧((checkT (rTx x) != 0)=true→_)∧((checkT (rTx x) != 0)=false→_))
 rcases rDec_same (b:=x) with ⟨d1,d2,d3⟩ | ⟨d1,d2⟩
 ·rw [d1,d3]
  have ok:decTxOk x=decide (checkT (dTx x)=0):=by
   unfold decTxOk
   rw [d2]
   rfl
  refine ⟨⟨rfl,rfl,trivial⟩,trivial,trivial,fun h=>by simp at h,fun _=>⟨⟨rfl,rfl,rfl,trivial⟩,trivial,(tx_lens hx.d).1,fun h=>no ?_,fun h=>?_⟩⟩
  ·rw [ok]
   exact decide_eq_false (by simpa using h)
  ·have hd:decTxOk x=true:=by
    rw [ok]
    exact decide_eq_true (by simpa using h)
   rw [(hB _ hd).1,(hB _ hd).2]
   have d4:dTx x=⟨(dLock x).1,(rI x).1,(rU x).1⟩:=d3.symm
   rw [if_pos rfl,if_pos rfl,d4]
   exact ⟨⟨⟨rfl,rfl,rfl,trivial⟩,rfl⟩,trivial,trivial⟩
 ·have hd:decTxOk x=false:=by
   unfold decTxOk
   rw [decide_eq_false d2]
   rfl
  exact ⟨⟨rfl,rfl,trivial⟩,trivial,trivial,fun _=>no hd,fun h=>absurd (by simpa using h) d1⟩
theorem rdP_ok {x:List Int} (hx:DecOk x) {i:Nat} (e1:dIns i (dN x).2=rI x):rdP x i:=by
 have e3:rd1 x i=(rI x).2:=by unfold rd1; rw [e1]
 obtain ⟨m1,m2⟩:=count_to hx.i (m:=64) (by omega)
 rw [← e3] at m1 m2
 change (rm x i).1=_ at m1
 change toR (rm x i).2=_ at m2
 have m3:(rm x i).1=(rM x).1:=by rw [m1,e3]; rfl
 have m4:toR (rm x i).2=toR (rM x).2:=by rw [m2,e3]; rfl
 have mr:=hx.mr
 have k1:(toR (rd1 x i)).Ok:=Rd.Ok.to (by rw [e3]; exact hx.i)
 refine ⟨⟨⟨rfl,rfl,trivial⟩,rfl⟩,trivial,fewR k1 (by omega) (by omega),⟨0,⟨by omega,rfl⟩,rfl,⟨⟨rfl,nilP_ok,nilP_ok,trivial⟩,⟨rfl,trivial,nilP_ok,trivial⟩,⟨(congrArg RR.l m4).symm,(congrArg RR.e m4).symm,trivial⟩,rfl,trivial⟩,rfl,trivial⟩,fun k hk=>?_⟩
 have hk1:=hk.1
 have stop:((k:Int)<(rm x i).1→(rd6 x k).e≠0)→rdR x i k:=fun hd=>by
  refine rdR_ok hx e1 ?_
  have st:stopN (fun i=>(rOuts i (rM x).2).2) (rM x).1.toNat=k:=by
   by_cases hlt:(k:Int)<(rm x i).1
   ·exact stop_here hk.2 (hd hlt) _ (by omega)
   ·rw [show (rM x).1.toNat=k by omega]
    exact hk.2
  unfold rU
  rw [st]
 obtain ⟨o1,o2⟩:=rOuts_ok hx.m k
 change (rd6 x k).Ok at o1
 refine ⟨fun h3=>⟨fun h4=>?_,fun h4=>stop fun _=>by simpa using h4⟩,fun h3=>stop fun h=>((of_decide_eq_false h3) h).elim⟩
 have h3':(k:Int)<(rm x i).1:=of_decide_eq_true h3
 have h4':(rd6 x k).e=0:=by simpa using h4
 obtain ⟨r1,r2⟩:=rd_out o1
 have k7:(toR (rd7 x k).2).Ok:=Rd.Ok.to (uintR_ok (Rd.Ok.to o1).of (m:=1125899906842624) (by omega)).1
 refine ⟨⟨⟨rfl,rfl,trivial⟩,rfl⟩,trivial,⟨Rd.Ok.to o1,by show (0:Int)≤1125899906842624; omega⟩,⟨rfl,rfl,trivial⟩,trivial,k7,⟨rfl,rfl,trivial⟩,?_,?_,by unfold inI64; omega,k+1,⟨?_,stop_up hk.2 h4'⟩,by omega,by omega,⟨⟨rfl,nilP_ok,nilP_ok,trivial⟩,⟨rfl,trivial,trivial,trivial⟩,⟨(congrArg RR.l r2).symm,(congrArg RR.e r2).symm,trivial⟩,rfl,trivial⟩,?_,trivial⟩
 ·rw [o2]; simp only [List.length_singleton]; omega
 ·rw [o2]; simp only [List.length_singleton]; omega
 ·omega
 ·rw [r1]
  rfl
theorem rDecTx_vc:rDecTxVC:=by
 intro x hd
 have hx:=DecOk.of hd
 have e0:rl x=dLock x:=rfl
 obtain ⟨n1,n2⟩:=count_to hx.l (m:=64) (by omega)
 change (rn x).1=(dN x).1 at n1
 change toR (rn x).2=toR (dN x).2 at n2
 have nr:=hx.nr
 have kl:(toR (rl x).2).Ok:=Rd.Ok.to hx.l
 refine ⟨⟨⟨rfl,rfl,trivial⟩,rfl⟩,trivial,⟨⟨hd.byt,hd.len⟩,by show (0:Int)≤1099511627776; omega⟩,⟨⟨rfl,rfl,trivial⟩,rfl⟩,trivial,fewR kl (by omega) (by omega),⟨0,⟨by omega,rfl⟩,rfl,⟨⟨rfl,nilP_ok,nilP_ok,trivial⟩,⟨rfl,nilP_ok,nilP_ok,trivial⟩,⟨(congrArg RR.l n2).symm,(congrArg RR.e n2).symm,trivial⟩,trivial⟩,rfl,trivial⟩,fun i hi=>?_⟩
 have hi1:=hi.1
 have stop:((i:Int)<(rn x).1→(rd1 x i).e≠0)→rdP x i:=fun h0=>by
  refine rdP_ok hx ?_
  have st:stopN (fun i=>(dIns i (dN x).2).2) (dN x).1.toNat=i:=by
   by_cases hlt:(i:Int)<(rn x).1
   ·exact stop_here hi.2 (h0 hlt) _ (by omega)
   ·rw [show (dN x).1.toNat=i by omega]
    exact hi.2
  unfold rI
  rw [st]
 obtain ⟨o1,o2⟩:=insR_ok hx.n i
 change (rd1 x i).Ok at o1
 refine ⟨fun h3=>⟨fun h4=>?_,fun h4=>stop fun _=>by simpa using h4⟩,fun h3=>stop fun h=>((of_decide_eq_false h3) h).elim⟩
 have h3':(i:Int)<(rn x).1:=of_decide_eq_true h3
 have h4':(rd1 x i).e=0:=by simpa using h4
 obtain ⟨r1,r2⟩:=rd_in o1
 have k2:(toR (rd2 x i).2).Ok:=Rd.Ok.to (hashR_ok (Rd.Ok.to o1).of).1
 have k3:(toR (rd3 x i).2).Ok:=Rd.Ok.to (uintR_ok k2.of (m:=64) (by omega)).1
 have k4:(toR (rd4 x i).2).Ok:=Rd.Ok.to (uintR_ok k3.of (m:=8) (by omega)).1
 refine ⟨⟨rfl,rfl,trivial⟩,trivial,Rd.Ok.to o1,⟨⟨rfl,rfl,trivial⟩,rfl⟩,trivial,⟨k2,by show (0:Int)≤64; omega⟩,⟨⟨rfl,rfl,trivial⟩,rfl⟩,trivial,⟨k3,by show (0:Int)≤8; omega⟩,⟨⟨rfl,rfl,trivial⟩,rfl⟩,trivial,fewR k4 (by omega) (by omega),⟨rfl,rfl,rfl,rfl,trivial⟩,?_,?_,by unfold inI64; omega,i+1,⟨?_,stop_up hi.2 h4'⟩,by omega,by omega,⟨⟨rfl,nilP_ok,nilP_ok,trivial⟩,⟨rfl,trivial,nilP_ok,trivial⟩,⟨(congrArg RR.l r2).symm,(congrArg RR.e r2).symm,trivial⟩,trivial⟩,?_,trivial⟩
 ·rw [o2]; simp only [List.length_singleton]; omega
 ·rw [o2]; simp only [List.length_singleton]; omega
 ·omega
 ·rw [r1]
  rfl
theorem rDecTx_ok:Fits F188 f30 (bodyOf f30) rDecTxLS rDecTxAnn:=by
 constructor
 rw [← rDecTx_eq]
 exact rDecTx_vc
theorem rDecTx_has:Has prog 30 f30 (bodyOf f30):=⟨by kernel_rfl,by kernel_rfl,by kernel_rfl⟩
theorem known188:Known prog L188:=by
 unfold L188
 exact known99.over _ _ rcheck_at known187
theorem known189:Known prog L189:=by
 unfold L189
 exact known188.lent mixed rDecTx_has F188_eq rDecTx_ok (fun _ _=>Nat.zero_le _) (fun _ _=>rfl)
end Go.Proofs.YtcglahfmnoghjaaGreatDoor

/-! The document's bytes of a transaction, with its secrets; TxReads: the walks. Conditions: none. -/
namespace Go.Proofs.YtcglahfmnoghjaaGreatDoor
open Go Go.Eng Go.Proofs.Tryz
theorem rBytes_ok2:Fits F200 f90 (bodyOf f90) rBytesLS rBytesAnn:=by
 constructor
 rw [← (show rBytesVC=fnS F200 f90 (bodyOf f90) rBytesLS rBytesAnn by kernel_rfl)]
 exact rBytes_vc
theorem known201:Known prog L201:=by
 unfold L201
 exact known200.lent mixed rBytes_has F200_eq rBytes_ok2 (fun _ _=>Nat.zero_le _) (fun _ _=>rfl)
def rputTxTVC:Prop:=∀ (x:TxD),EncR x→(x.ins.length:Int)≤(9223372036854775807:Int)→(([]:List Int)=[]∧wr IntKind.u64 x.lock=wr IntKind.u64 x.lock) ∧
 True∧(BN.mk [] (wr IntKind.u64 x.lock)).Low∧([]++uintB (wr IntKind.u64 x.lock)=[]++uintB (wr IntKind.u64 x.lock)∧wr IntKind.u64
 (x.ins.length:Int)=wr IntKind.u64 (x.ins.length:Int))∧True∧(BN.mk ([]++uintB (wr IntKind.u64 x.lock)) (wr IntKind.u64 (↑x.ins.length :
 Int))).Low∧(∃ x_1,Nat.le x_1 x.ins.length∧((x_1:Int)=(0:Int)∧[]++uintB (wr IntKind.u64 x.lock)++uintB (wr IntKind.u64 (↑x.ins.length
 : Int))++insB (secR true) (List.take x_1 x.ins)=[]++uintB (wr IntKind.u64 x.lock)++uintB (wr IntKind.u64 (x.ins.length:Int)))∧((x.lock =
 x.lock∧x.ins=x.ins∧x.outs=x.outs∧True)∧[]++uintB (wr IntKind.u64 x.lock)=[]++uintB (wr IntKind.u64 x.lock)∧True)∧True)∧∀ (x_1 :
 Nat),x_1.le x.ins.length→(x.ins.length:Int)≤(9223372036854775807:Int)→(decide ((x_1:Int)<(x.ins.length:Int))=true→(0:Int) ≤
 (x_1:Int)∧(x_1:Int)<(x.ins.length:Int)∧∀ (y:AA (80:Nat)),x.ins[(x_1:Int).toNat]?=some y→([]++uintB (wr IntKind.u64 x.lock)
 ++ uintB (wr IntKind.u64 (x.ins.length:Int))++insB (secR true) (List.take x_1 x.ins)=[]++uintB (wr IntKind.u64 x.lock)++uintB (wr
 IntKind.u64 (x.ins.length:Int))++insB (secR true) (List.take x_1 x.ins)∧y.tx=y.tx∧True)∧True∧(BH.mk ([]++uintB (wr IntKind.u64 x.lock)
 ++ uintB (wr IntKind.u64 (x.ins.length:Int))++insB (secR true) (List.take x_1 x.ins)) y.tx).Ok∧([]++uintB (wr IntKind.u64 x.lock)++uintB (wr
 IntKind.u64 (x.ins.length:Int))++insB (secR true) (List.take x_1 x.ins)++y.tx=[]++uintB (wr IntKind.u64 x.lock)++uintB (wr IntKind.u64
 (x.ins.length:Int))++insB (secR true) (List.take x_1 x.ins)++y.tx∧wr IntKind.u64 y.n=wr IntKind.u64 y.n)∧True∧(BN.mk ([]++uintB (wr
 IntKind.u64 x.lock)++uintB (wr IntKind.u64 (x.ins.length:Int))++insB (secR true) (List.take x_1 x.ins)++y.tx) (wr IntKind.u64 y.n)).Low∧([]
 ++ uintB (wr IntKind.u64 x.lock)++uintB (wr IntKind.u64 (x.ins.length:Int))++insB (secR true) (List.take x_1 x.ins)++y.tx++uintB (wr
 IntKind.u64 y.n)=[]++uintB (wr IntKind.u64 x.lock)++uintB (wr IntKind.u64 (x.ins.length:Int))++insB (secR true) (List.take x_1 x.ins) ++
 y.tx++uintB (wr IntKind.u64 y.n)∧wr IntKind.u64 y.branch=wr IntKind.u64 y.branch)∧True∧(BN.mk ([]++uintB (wr IntKind.u64 x.lock)++uintB
 (wr IntKind.u64 (x.ins.length:Int))++insB (secR true) (List.take x_1 x.ins)++y.tx++uintB (wr IntKind.u64 y.n)) (wr IntKind.u64 y.branch)).Low
 ∧ ([]++uintB (wr IntKind.u64 x.lock)++uintB (wr IntKind.u64 (x.ins.length:Int))++insB (secR true) (List.take x_1 x.ins)++y.tx++uintB (wr
 IntKind.u64 y.n)++uintB (wr IntKind.u64 y.branch)=[]++uintB (wr IntKind.u64 x.lock)++uintB (wr IntKind.u64 (x.ins.length:Int))++insB (secR
 true) (List.take x_1 x.ins)++y.tx++uintB (wr IntKind.u64 y.n)++uintB (wr IntKind.u64 y.branch)∧y.secret=y.secret)∧True∧(BB.mk ([] ++
 uintB (wr IntKind.u64 x.lock)++uintB (wr IntKind.u64 (x.ins.length:Int))++insB (secR true) (List.take x_1 x.ins)++y.tx++uintB (wr
 IntKind.u64 y.n)++uintB (wr IntKind.u64 y.branch)) y.secret).Ok∧inI64 ((x_1:Int)+(1:Int))∧∃ y_1,Nat.le y_1 x.ins.length∧x.ins.length -
 y_1<x.ins.length-x_1∧((y_1:Int)=(x_1:Int)+(1:Int)∧[]++uintB (wr IntKind.u64 x.lock)++uintB (wr IntKind.u64 (↑x.ins.length :
 Int))++insB (secR true) (List.take y_1 x.ins)=[]++uintB (wr IntKind.u64 x.lock)++uintB (wr IntKind.u64 (x.ins.length:Int))++insB (secR
 true) (List.take x_1 x.ins)++y.tx++uintB (wr IntKind.u64 y.n)++uintB (wr IntKind.u64 y.branch)++bytesB y.secret)∧((x.lock=x.lock∧x.ins =
 x.ins∧x.outs=x.outs∧True)∧[]++uintB (wr IntKind.u64 x.lock)=[]++uintB (wr IntKind.u64 x.lock)∧True)∧True)∧(decide ((x_1:Int) <
 (x.ins.length:Int))=false→(x.outs.length:Int)≤(9223372036854775807:Int)→([]++uintB (wr IntKind.u64 x.lock)++uintB (wr IntKind.u64
 (x.ins.length:Int))++insB (secR true) (List.take x_1 x.ins)=[]++uintB (wr IntKind.u64 x.lock)++uintB (wr IntKind.u64 (x.ins.length:Int))
 ++ insB (secR true) (List.take x_1 x.ins)∧wr IntKind.u64 (x.outs.length:Int)=wr IntKind.u64 (x.outs.length:Int))∧True∧(BN.mk ([]++uintB
 (wr IntKind.u64 x.lock)++uintB (wr IntKind.u64 (x.ins.length:Int))++insB (secR true) (List.take x_1 x.ins)) (wr IntKind.u64 (↑x.outs.length :
 Int))).Low∧(∃ x_2,Nat.le x_2 x.outs.length∧((x_2:Int)=(0:Int)∧[]++uintB (wr IntKind.u64 x.lock)++uintB (wr IntKind.u64 (↑x.ins.length
 : Int))++insB (secR true) (List.take x_1 x.ins)++uintB (wr IntKind.u64 (x.outs.length:Int))++toutsB (List.take x_2 x.outs)=[]++uintB (wr
 IntKind.u64 x.lock)++uintB (wr IntKind.u64 (x.ins.length:Int))++insB (secR true) (List.take x_1 x.ins)++uintB (wr IntKind.u64 (↑x.outs.length
 : Int)))∧((x.lock=x.lock∧x.ins=x.ins∧x.outs=x.outs∧True)∧[]++uintB (wr IntKind.u64 x.lock)=[]++uintB (wr IntKind.u64 x.lock) ∧
 True)∧True)∧∀ (x_2:Nat),x_2.le x.outs.length→(x.outs.length:Int)≤(9223372036854775807:Int)→(decide ((x_2:Int)<(↑x.outs.length :
 Int))=true→(0:Int)≤(x_2:Int)∧(x_2:Int)<(x.outs.length:Int)∧∀ (y:AA (82:Nat)),x.outs[(x_2:Int).toNat]?=some y→(0 :
 Int)≤(x_2:Int)∧(x_2:Int)<(x.outs.length:Int)∧∀ (y_1:AA (82:Nat)),x.outs[(x_2:Int).toNat]?=some y_1→([]++uintB (wr
 IntKind.u64 x.lock)++uintB (wr IntKind.u64 (x.ins.length:Int))++insB (secR true) (List.take x_1 x.ins)++uintB (wr IntKind.u64 (↑x.outs.length
 : Int))++toutsB (List.take x_2 x.outs)=[]++uintB (wr IntKind.u64 x.lock)++uintB (wr IntKind.u64 (x.ins.length:Int))++insB (secR true)
 (List.take x_1 x.ins)++uintB (wr IntKind.u64 (x.outs.length:Int))++toutsB (List.take x_2 x.outs)∧wr IntKind.u64 y.amount=wr IntKind.u64
 y.amount)∧True∧(BN.mk ([]++uintB (wr IntKind.u64 x.lock)++uintB (wr IntKind.u64 (x.ins.length:Int))++insB (secR true) (List.take x_1
 x.ins)++uintB (wr IntKind.u64 (x.outs.length:Int))++toutsB (List.take x_2 x.outs)) (wr IntKind.u64 y.amount)).Low∧([]++uintB (wr IntKind.u64
 x.lock)++uintB (wr IntKind.u64 (x.ins.length:Int))++insB (secR true) (List.take x_1 x.ins)++uintB (wr IntKind.u64 (x.outs.length:Int)) ++
 toutsB (List.take x_2 x.outs)++uintB (wr IntKind.u64 y.amount)=[]++uintB (wr IntKind.u64 x.lock)++uintB (wr IntKind.u64 (x.ins.length:Int))
 ++ insB (secR true) (List.take x_1 x.ins)++uintB (wr IntKind.u64 (x.outs.length:Int))++toutsB (List.take x_2 x.outs)++uintB (wr IntKind.u64
 y.amount)∧y_1.cond=y_1.cond∧True)∧True∧(PutX.mk ([]++uintB (wr IntKind.u64 x.lock)++uintB (wr IntKind.u64 (x.ins.length:Int))++insB
 (secR true) (List.take x_1 x.ins)++uintB (wr IntKind.u64 (x.outs.length:Int))++toutsB (List.take x_2 x.outs)++uintB (wr IntKind.u64 y.amount))
 y_1.cond).Ok∧inI64 ((x_2:Int)+(1:Int))∧∃ y_2,Nat.le y_2 x.outs.length∧x.outs.length-y_2<x.outs.length-x_2∧((y_2:Int)=(↑x_2 :
 Int)+(1:Int)∧[]++uintB (wr IntKind.u64 x.lock)++uintB (wr IntKind.u64 (x.ins.length:Int))++insB (secR true) (List.take x_1 x.ins) ++
 uintB (wr IntKind.u64 (x.outs.length:Int))++toutsB (List.take y_2 x.outs)=[]++uintB (wr IntKind.u64 x.lock)++uintB (wr IntKind.u64
 (x.ins.length:Int))++insB (secR true) (List.take x_1 x.ins)++uintB (wr IntKind.u64 (x.outs.length:Int))++toutsB (List.take x_2 x.outs) ++
 uintB (wr IntKind.u64 y.amount)++putB y_1.cond)∧((x.lock=x.lock∧x.ins=x.ins∧x.outs=x.outs∧True)∧[]++uintB (wr IntKind.u64 x.lock) =
 []++uintB (wr IntKind.u64 x.lock)∧True)∧True)∧(decide ((x_2:Int)<(x.outs.length:Int))=false→putTx (secR true) x=[]++uintB (wr
 IntKind.u64 x.lock)++uintB (wr IntKind.u64 (x.ins.length:Int))++insB (secR true) (List.take x_1 x.ins)++uintB (wr IntKind.u64 (↑x.outs.length
 : Int))++toutsB (List.take x_2 x.outs)∧True∧True))
theorem rputTxT_eq:rputTxTVC=fnS F201 f45 (bodyOf f45) (rputTxLS true) (rputTxAnn true):=by kernel_rfl
theorem EncR.enc {t:TxD} (h:EncR t):EncOk t:={ h.toTxOk with s:=Nat.le_trans h.sum (by omega) }
theorem rputTxT_vc:rputTxTVC:=by
 intro x hx
 have hs:secR true=secOf 77:=by
  funext y
  rfl
 have he:=hx.enc
 have ht:=hx.toTxOk
 have h1:=ht.n
 have h2:=ht.m
 have h3:=ht.w
 have hq:=he.s
 have q1:=tA1_le x
 rw [hs]
 simp only [true_and,and_true,decide_eq_true_eq,decide_eq_false_iff_not,Int.toNat_natCast]
 refine fun _=>⟨low_of (by simp),low_of (by
  have:=uintB_le x.lock
  simp only [List.nil_append]
  omega),⟨0,Nat.zero_le _,rfl,by simp [insB]⟩,fun k hk _=>⟨fun h=>?_,fun h _=>?_⟩⟩
 ·have hk':k<x.ins.length:=by omega
  refine ⟨by omega,h,fun y hy=>?_⟩
  have p3:=eA2_le he k
  have hm:=List.mem_of_getElem? hy
  have p4:y.tx.length=32:=(ht.tx y hm).1
  have p5:=uintB_le y.n
  have p6:=uintB_le y.branch
  have p7:=hx.s y hm
  refine ⟨⟨show (eA2 x k).length≤1099511627776 by omega,p4⟩,low_of ?_,low_of ?_,⟨?_,show y.secret.length≤1000000000 by omega⟩,by unfold inI64; omega,k+1,hk',by omega,by omega,?_⟩
  ·show (eA2 x k++y.tx).length≤1000000000000
   rw [List.length_append]; omega
  ·show (eA2 x k++y.tx++uintB (wr .u64 y.n)).length≤1000000000000
   rw [List.length_append,List.length_append]; omega
  ·show (eA2 x k++y.tx++uintB (wr .u64 y.n)++uintB (wr .u64 y.branch)).length≤1000000000000
   rw [List.length_append,List.length_append,List.length_append]; omega
  ·rw [insB_up (y:=y) hy]
   simp only [inB,List.append_assoc]
   rfl
 ·have p3:=eA2_le he k
  have p6:=eA6_le he k
  refine ⟨low_of (show (eA2 x k).length≤1000000000000 by omega),⟨0,Nat.zero_le _,rfl,by simp [toutsB]⟩,fun i hi _=>⟨fun h4=>?_,fun h4=>?_⟩⟩
  ·have hi':i<x.outs.length:=by omega
   refine ⟨by omega,h4,fun y hy=>⟨by omega,h4,fun z hz=>?_⟩⟩
   have e:z=y:=Option.some.inj (hz.symm.trans hy)
   subst e
   have p7:=eA7_le he k i
   have p8:=uintB_le z.amount
   have p9:=weight_sum (List.mem_of_getElem? hy)
   refine ⟨low_of (show (eA7 x k i).length≤1000000000000 by omega),⟨?_,show weight z.cond≤2000000 by omega,(ht.locks z (List.mem_of_getElem? hy)).1⟩,by unfold inI64; omega,i+1,hi',by omega,by omega,?_⟩
   ·show (eA7 x k i++uintB (wr .u64 z.amount)).length≤10000000000
    rw [List.length_append]; omega
   ·rw [toutsB_up (y:=z) hy]
    simp only [toutB,List.append_assoc]
  ·rw [List.take_of_length_le (by omega),List.take_of_length_le (by omega)]
   simp only [putTx,List.nil_append]
theorem rputTxT_ok:Fits F201 f45 (bodyOf f45) (rputTxLS true) (rputTxAnn true):=by
 constructor
 rw [← rputTxT_eq]
 exact rputTxT_vc
theorem rputTxT_has:Has prog 45 f45 (bodyOf f45):=⟨by kernel_rfl,by kernel_rfl,by kernel_rfl⟩
theorem known202:Known prog L202:=by
 unfold L202
 exact known201.lent mixed rputTxT_has F201_eq rputTxT_ok (fun _ _=>Nat.le_refl _) (fun _ _=>rfl)
def rEncVC:Prop:=∀ (x:TxD),EncR x→((x.lock=x.lock∧x.ins=x.ins∧x.outs=x.outs∧True)∧true=true)∧True∧EncR x∧putTx (fun x=>x.secret) x=putTx
 (secR true) x∧True∧True
theorem rEnc_eq:rEncVC=fnS F202 f33 (bodyOf f33) rEncLS noAnn:=by kernel_rfl
theorem rEnc_vc:rEncVC:=fun _ hx=>⟨⟨⟨rfl,rfl,rfl,trivial⟩,rfl⟩,trivial,hx,rfl,trivial,trivial⟩
theorem rEnc_ok:Fits F202 f33 (bodyOf f33) rEncLS noAnn:=by
 constructor
 rw [← rEnc_eq]
 exact rEnc_vc
theorem rEnc_has:Has prog 33 f33 (bodyOf f33):=⟨by kernel_rfl,by kernel_rfl,by kernel_rfl⟩
theorem known203:Known prog L203:=by
 unfold L203
 exact known202.lent mixed rEnc_has F202_eq rEnc_ok (fun _ _=>Nat.zero_le _) (fun _ _=>rfl)
theorem rdec_at:ttOf L189 30=tLent rDecTxLS bytesGet1:=by
 unfold L189
 rfl
theorem renc_at:ttOf L203 33=tLent rEncLS txRGet:=by
 unfold L203
 rfl
theorem known190:Known prog L190:=by
 unfold L190
 exact known189.over _ _ rdec_at known169
theorem known191:Known prog L191:=by
 unfold L191
 exact known203.over _ _ renc_at known190
theorem DecFine.encOk {t:TxD} (h:DecFine t):EncOk t:={ h.ok with s:=Nat.le_trans h.sum (by omega) }
theorem DecFine.encR {t:TxD} (h:DecFine t):EncR t:={ h.ok with s:=fun y hy=>Nat.le_trans (h.s y hy) (by omega),sum:=Nat.le_trans h.sum (by omega) }
end Go.Proofs.YtcglahfmnoghjaaGreatDoor

/-! TxReads' call. Conditions: none. -/
namespace Go.Proofs.YtcglahfmnoghjaaGreatDoor
open Go Go.Eng Go.Proofs.Tryz Go.ChangeShapes Go.WideShapes Go.RowKit
theorem rd_byt {H:Type} {enc:TypeId×Value→H} {w:World} {sp:Nat→Bool} {held:Bool}:RdT enc prog w sp held CC 51 fun sl d=>∃ xs:List Int,sl = .cell (.rints .u8 xs) .nil∧Byt xs∧xs.length≤Rows.uptoBulk d:=by
 refine RdT.mono (rd_ints underlying51 underlying5 cells5) ?_
 rintro sl d ⟨xs,rfl,h3,h4⟩
 have:=delems_le d
 exact ⟨xs,rfl,fun y hy=>wf8 (h4 y hy),by omega⟩
theorem slice_of_ok4 {P:Program} {W:World} {r:Reach} {base:Nat} {t e:TypeId} (ht:P.underlying t=some (.slice e)) {v:Value} (h:Value.okWide P W r base t v):∃ a n c,v = .slice a n c:=by
 unfold Value.okWide at h
 rw [ht] at h
 change Cell.okWide P W r base t v at h
 cases v with
 | slice a n c=>exact ⟨a,n,c,rfl⟩
 | _=>simp [Cell.okWide,Cell.ok,ht] at h
end Go.Proofs.YtcglahfmnoghjaaGreatDoor

/-! The document's sum of a transaction; TxPoints: the walks. Conditions: none. -/
namespace Go.Proofs.YtcglahfmnoghjaaGreatDoor
open Go Go.Eng Go.Proofs.Tryz
def rputTxVC:Prop:=∀ (x:TxD),EncR x→(x.ins.length:Int)≤(9223372036854775807:Int)→(([]:List Int)=[]∧wr IntKind.u64 x.lock=wr IntKind.u64 x.lock) ∧
 True∧(BN.mk [] (wr IntKind.u64 x.lock)).Low∧([]++uintB (wr IntKind.u64 x.lock)=[]++uintB (wr IntKind.u64 x.lock)∧wr IntKind.u64
 (x.ins.length:Int)=wr IntKind.u64 (x.ins.length:Int))∧True∧(BN.mk ([]++uintB (wr IntKind.u64 x.lock)) (wr IntKind.u64 (↑x.ins.length :
 Int))).Low∧(∃ x_1,Nat.le x_1 x.ins.length∧((x_1:Int)=(0:Int)∧[]++uintB (wr IntKind.u64 x.lock)++uintB (wr IntKind.u64 (↑x.ins.length
 : Int))++insB (secR false) (List.take x_1 x.ins)=[]++uintB (wr IntKind.u64 x.lock)++uintB (wr IntKind.u64 (x.ins.length:Int)))∧((x.lock =
 x.lock∧x.ins=x.ins∧x.outs=x.outs∧True)∧[]++uintB (wr IntKind.u64 x.lock)=[]++uintB (wr IntKind.u64 x.lock)∧True)∧True)∧∀ (x_1 :
 Nat),x_1.le x.ins.length→(x.ins.length:Int)≤(9223372036854775807:Int)→(decide ((x_1:Int)<(x.ins.length:Int))=true→(0:Int) ≤
 (x_1:Int)∧(x_1:Int)<(x.ins.length:Int)∧∀ (y:AA (80:Nat)),x.ins[(x_1:Int).toNat]?=some y→([]++uintB (wr IntKind.u64 x.lock)
 ++ uintB (wr IntKind.u64 (x.ins.length:Int))++insB (secR false) (List.take x_1 x.ins)=[]++uintB (wr IntKind.u64 x.lock)++uintB (wr
 IntKind.u64 (x.ins.length:Int))++insB (secR false) (List.take x_1 x.ins)∧y.tx=y.tx∧True)∧True∧(BH.mk ([]++uintB (wr IntKind.u64
 x.lock)++uintB (wr IntKind.u64 (x.ins.length:Int))++insB (secR false) (List.take x_1 x.ins)) y.tx).Ok∧([]++uintB (wr IntKind.u64 x.lock) ++
 uintB (wr IntKind.u64 (x.ins.length:Int))++insB (secR false) (List.take x_1 x.ins)++y.tx=[]++uintB (wr IntKind.u64 x.lock)++uintB (wr
 IntKind.u64 (x.ins.length:Int))++insB (secR false) (List.take x_1 x.ins)++y.tx∧wr IntKind.u64 y.n=wr IntKind.u64 y.n)∧True∧(BN.mk ([] ++
 uintB (wr IntKind.u64 x.lock)++uintB (wr IntKind.u64 (x.ins.length:Int))++insB (secR false) (List.take x_1 x.ins)++y.tx) (wr IntKind.u64
 y.n)).Low∧([]++uintB (wr IntKind.u64 x.lock)++uintB (wr IntKind.u64 (x.ins.length:Int))++insB (secR false) (List.take x_1 x.ins)++y.tx ++
 uintB (wr IntKind.u64 y.n)=[]++uintB (wr IntKind.u64 x.lock)++uintB (wr IntKind.u64 (x.ins.length:Int))++insB (secR false) (List.take x_1
 x.ins)++y.tx++uintB (wr IntKind.u64 y.n)∧wr IntKind.u64 y.branch=wr IntKind.u64 y.branch)∧True∧(BN.mk ([]++uintB (wr IntKind.u64 x.lock)
 ++ uintB (wr IntKind.u64 (x.ins.length:Int))++insB (secR false) (List.take x_1 x.ins)++y.tx++uintB (wr IntKind.u64 y.n)) (wr IntKind.u64
 y.branch)).Low∧([]++uintB (wr IntKind.u64 x.lock)++uintB (wr IntKind.u64 (x.ins.length:Int))++insB (secR false) (List.take x_1 x.ins) ++
 y.tx++uintB (wr IntKind.u64 y.n)++uintB (wr IntKind.u64 y.branch)=[]++uintB (wr IntKind.u64 x.lock)++uintB (wr IntKind.u64 (↑x.ins.length :
 Int))++insB (secR false) (List.take x_1 x.ins)++y.tx++uintB (wr IntKind.u64 y.n)++uintB (wr IntKind.u64 y.branch)∧([]:List Int)=[]) ∧
 True∧(BB.mk ([]++uintB (wr IntKind.u64 x.lock)++uintB (wr IntKind.u64 (x.ins.length:Int))++insB (secR false) (List.take x_1 x.ins)++y.tx
 ++ uintB (wr IntKind.u64 y.n)++uintB (wr IntKind.u64 y.branch)) []).Ok∧inI64 ((x_1:Int)+(1:Int))∧∃ y_1,Nat.le y_1 x.ins.length ∧
 x.ins.length-y_1<x.ins.length-x_1∧((y_1:Int)=(x_1:Int)+(1:Int)∧[]++uintB (wr IntKind.u64 x.lock)++uintB (wr IntKind.u64
 (x.ins.length:Int))++insB (secR false) (List.take y_1 x.ins)=[]++uintB (wr IntKind.u64 x.lock)++uintB (wr IntKind.u64 (x.ins.length:Int))
 ++ insB (secR false) (List.take x_1 x.ins)++y.tx++uintB (wr IntKind.u64 y.n)++uintB (wr IntKind.u64 y.branch)++bytesB [])∧((x.lock=x.lock ∧
 x.ins=x.ins∧x.outs=x.outs∧True)∧[]++uintB (wr IntKind.u64 x.lock)=[]++uintB (wr IntKind.u64 x.lock)∧True)∧True)∧(decide ((↑x_1 :
 Int)<(x.ins.length:Int))=false→(x.outs.length:Int)≤(9223372036854775807:Int)→([]++uintB (wr IntKind.u64 x.lock)++uintB (wr
 IntKind.u64 (x.ins.length:Int))++insB (secR false) (List.take x_1 x.ins)=[]++uintB (wr IntKind.u64 x.lock)++uintB (wr IntKind.u64
 (x.ins.length:Int))++insB (secR false) (List.take x_1 x.ins)∧wr IntKind.u64 (x.outs.length:Int)=wr IntKind.u64 (x.outs.length:Int)) ∧
 True∧(BN.mk ([]++uintB (wr IntKind.u64 x.lock)++uintB (wr IntKind.u64 (x.ins.length:Int))++insB (secR false) (List.take x_1 x.ins)) (wr
 IntKind.u64 (x.outs.length:Int))).Low∧(∃ x_2,Nat.le x_2 x.outs.length∧((x_2:Int)=(0:Int)∧[]++uintB (wr IntKind.u64 x.lock)++uintB
 (wr IntKind.u64 (x.ins.length:Int))++insB (secR false) (List.take x_1 x.ins)++uintB (wr IntKind.u64 (x.outs.length:Int))++toutsB (List.take
 x_2 x.outs)=[]++uintB (wr IntKind.u64 x.lock)++uintB (wr IntKind.u64 (x.ins.length:Int))++insB (secR false) (List.take x_1 x.ins)++uintB
 (wr IntKind.u64 (x.outs.length:Int)))∧((x.lock=x.lock∧x.ins=x.ins∧x.outs=x.outs∧True)∧[]++uintB (wr IntKind.u64 x.lock)=[] ++
 uintB (wr IntKind.u64 x.lock)∧True)∧True)∧∀ (x_2:Nat),x_2.le x.outs.length→(x.outs.length:Int)≤(9223372036854775807:Int)→(decide
 ((x_2:Int)<(x.outs.length:Int))=true→(0:Int)≤(x_2:Int)∧(x_2:Int)<(x.outs.length:Int)∧∀ (y:AA (82:Nat)),x.outs[(↑x_2
 : Int).toNat]?=some y→(0:Int)≤(x_2:Int)∧(x_2:Int)<(x.outs.length:Int)∧∀ (y_1:AA (82:Nat)),x.outs[(x_2:Int).toNat]? =
 some y_1→([]++uintB (wr IntKind.u64 x.lock)++uintB (wr IntKind.u64 (x.ins.length:Int))++insB (secR false) (List.take x_1 x.ins)++uintB (wr
 IntKind.u64 (x.outs.length:Int))++toutsB (List.take x_2 x.outs)=[]++uintB (wr IntKind.u64 x.lock)++uintB (wr IntKind.u64 (↑x.ins.length :
 Int))++insB (secR false) (List.take x_1 x.ins)++uintB (wr IntKind.u64 (x.outs.length:Int))++toutsB (List.take x_2 x.outs)∧wr IntKind.u64
 y.amount=wr IntKind.u64 y.amount)∧True∧(BN.mk ([]++uintB (wr IntKind.u64 x.lock)++uintB (wr IntKind.u64 (x.ins.length:Int))++insB (secR
 false) (List.take x_1 x.ins)++uintB (wr IntKind.u64 (x.outs.length:Int))++toutsB (List.take x_2 x.outs)) (wr IntKind.u64 y.amount)).Low∧([] ++
 uintB (wr IntKind.u64 x.lock)++uintB (wr IntKind.u64 (x.ins.length:Int))++insB (secR false) (List.take x_1 x.ins)++uintB (wr IntKind.u64
 (x.outs.length:Int))++toutsB (List.take x_2 x.outs)++uintB (wr IntKind.u64 y.amount)=[]++uintB (wr IntKind.u64 x.lock)++uintB (wr
 IntKind.u64 (x.ins.length:Int))++insB (secR false) (List.take x_1 x.ins)++uintB (wr IntKind.u64 (x.outs.length:Int))++toutsB (List.take x_2
 x.outs)++uintB (wr IntKind.u64 y.amount)∧y_1.cond=y_1.cond∧True)∧True∧(PutX.mk ([]++uintB (wr IntKind.u64 x.lock)++uintB (wr
 IntKind.u64 (x.ins.length:Int))++insB (secR false) (List.take x_1 x.ins)++uintB (wr IntKind.u64 (x.outs.length:Int))++toutsB (List.take x_2
 x.outs)++uintB (wr IntKind.u64 y.amount)) y_1.cond).Ok∧inI64 ((x_2:Int)+(1:Int))∧∃ y_2,Nat.le y_2 x.outs.length∧x.outs.length-y_2 <
 x.outs.length-x_2∧((y_2:Int)=(x_2:Int)+(1:Int)∧[]++uintB (wr IntKind.u64 x.lock)++uintB (wr IntKind.u64 (x.ins.length:Int)) ++
 insB (secR false) (List.take x_1 x.ins)++uintB (wr IntKind.u64 (x.outs.length:Int))++toutsB (List.take y_2 x.outs)=[]++uintB (wr IntKind.u64
 x.lock)++uintB (wr IntKind.u64 (x.ins.length:Int))++insB (secR false) (List.take x_1 x.ins)++uintB (wr IntKind.u64 (x.outs.length:Int)) ++
 toutsB (List.take x_2 x.outs)++uintB (wr IntKind.u64 y.amount)++putB y_1.cond)∧((x.lock=x.lock∧x.ins=x.ins∧x.outs=x.outs∧True)∧[]
 ++ uintB (wr IntKind.u64 x.lock)=[]++uintB (wr IntKind.u64 x.lock)∧True)∧True)∧(decide ((x_2:Int)<(x.outs.length:Int))=false →
 putTx (secR false) x=[]++uintB (wr IntKind.u64 x.lock)++uintB (wr IntKind.u64 (x.ins.length:Int))++insB (secR false) (List.take x_1 x.ins)
 ++ uintB (wr IntKind.u64 (x.outs.length:Int))++toutsB (List.take x_2 x.outs)∧True∧True))
theorem rputTx_vc:rputTxVC:=by
 intro x hx
 have hs:secR false=secOf 76:=by
  funext y
  rfl
 have ht:=hx.toTxOk
 have h1:=ht.n
 have h2:=ht.m
 have h3:=ht.w
 have q1:=tA1_le x
 rw [hs]
 simp only [true_and,and_true,decide_eq_true_eq,decide_eq_false_iff_not,Int.toNat_natCast]
 refine fun _=>⟨low_of (by simp),low_of (by
  have:=uintB_le x.lock
  simp only [List.nil_append]
  omega),⟨0,Nat.zero_le _,rfl,by simp [insB]⟩,fun k hk _=>⟨fun h=>?_,fun h _=>?_⟩⟩
 ·have hk':k<x.ins.length:=by omega
  refine ⟨by omega,h,fun y hy=>?_⟩
  have p3:=tA2_le ht k
  have p4:y.tx.length=32:=(ht.tx y (List.mem_of_getElem? hy)).1
  have p5:=uintB_le y.n
  have p6:=uintB_le y.branch
  refine ⟨⟨show (tA2 x k).length≤1099511627776 by omega,p4⟩,low_of ?_,low_of ?_,⟨?_,by simp⟩,by unfold inI64; omega,k+1,hk',by omega,by omega,?_⟩
  ·show (tA2 x k++y.tx).length≤1000000000000
   rw [List.length_append]; omega
  ·show (tA2 x k++y.tx++uintB (wr .u64 y.n)).length≤1000000000000
   rw [List.length_append,List.length_append]; omega
  ·show (tA2 x k++y.tx++uintB (wr .u64 y.n)++uintB (wr .u64 y.branch)).length≤1000000000000
   rw [List.length_append,List.length_append,List.length_append]; omega
  ·rw [insB_up (y:=y) hy]
   simp only [inB,List.append_assoc]
   rfl
 ·have p3:=tA2_le ht k
  have p6:=tA6_le ht k
  refine ⟨low_of (show (tA2 x k).length≤1000000000000 by omega),⟨0,Nat.zero_le _,rfl,by simp [toutsB]⟩,fun i hi _=>⟨fun h4=>?_,fun h4=>?_⟩⟩
  ·have hi':i<x.outs.length:=by omega
   refine ⟨by omega,h4,fun y hy=>⟨by omega,h4,fun z hz=>?_⟩⟩
   have e:z=y:=Option.some.inj (hz.symm.trans hy)
   subst e
   have p7:=tA7_le ht k i
   have p8:=uintB_le z.amount
   have p9:=weight_sum (List.mem_of_getElem? hy)
   refine ⟨low_of (show (tA7 x k i).length≤1000000000000 by omega),⟨?_,show weight z.cond≤2000000 by omega,(ht.locks z (List.mem_of_getElem? hy)).1⟩,by unfold inI64; omega,i+1,hi',by omega,by omega,?_⟩
   ·show (tA7 x k i++uintB (wr .u64 z.amount)).length≤10000000000
    rw [List.length_append]; omega
   ·rw [toutsB_up (y:=z) hy]
    simp only [toutB,List.append_assoc]
  ·rw [List.take_of_length_le (by omega),List.take_of_length_le (by omega)]
   simp only [putTx,List.nil_append]
theorem rputTx_has:Has prog 45 f45 (bodyOf f45):=⟨by kernel_rfl,by kernel_rfl,by kernel_rfl⟩
def rIdVC:Prop:=∀ (x:TxD),EncR x→((x.lock=x.lock∧x.ins=x.ins∧x.outs=x.outs∧True)∧false=false)∧True∧EncR x∧putTx (secR false) x=putTx (secR
 false) x∧True∧Bytes (putTx (secR false) x)∧(idB x=sumB orderL (putTx (secR false) x)∧True)∧True∧True
theorem rId_vc:rIdVC:=by
 intro x hx
 have ht:=hx.toTxOk
 have hl:=tA7_le ht x.ins.length x.outs.length
 have h1:=ht.n
 have h2:=ht.m
 have h3:=ht.w
 rw [tA7_all (Nat.le_refl _) (Nat.le_refl _)] at hl
 have hs:secR false=fun _=>[]:=by
  funext y
  rfl
 rw [hs]
 exact ⟨⟨⟨rfl,rfl,rfl,trivial⟩,rfl⟩,trivial,hx,rfl,trivial,⟨putTx_byt ht,by omega⟩,⟨rfl,trivial⟩,trivial,trivial⟩
theorem rId_has:Has prog 18 f18 (bodyOf f18):=⟨by kernel_rfl,by kernel_rfl,by kernel_rfl⟩
end Go.Proofs.YtcglahfmnoghjaaGreatDoor

/-! The document's sum of a transaction, once more; TxBytes: what is said of it. Conditions: none. -/
namespace Go.Proofs.YtcglahfmnoghjaaGreatDoor
open Go Go.Eng Go.Proofs.Tryz
noncomputable def L205:List (Nat×SpecT AA):=(45,tLent (rputTxLS false) (rputTxGet false))::L201
noncomputable def F205:Eng AA:=EF prog L205
theorem F205_eq:F205=EF prog L205:=by
 unfold F205
 rfl
theorem rputTx_ok2:Fits F201 f45 (bodyOf f45) (rputTxLS false) (rputTxAnn false):=by
 constructor
 rw [← (show rputTxVC=fnS F201 f45 (bodyOf f45) (rputTxLS false) (rputTxAnn false) by kernel_rfl)]
 exact rputTx_vc
theorem known205:Known prog L205:=by
 unfold L205
 exact known201.lent mixed rputTx_has F201_eq rputTx_ok2 (fun _ _=>Nat.le_refl _) (fun _ _=>rfl)
noncomputable def L206:List (Nat×SpecT AA):=(18,tLent rIdLS txRGet)::L205
theorem rId_ok2:Fits F205 f18 (bodyOf f18) rIdLS noAnn:=by
 constructor
 rw [← (show rIdVC=fnS F205 f18 (bodyOf f18) rIdLS noAnn by kernel_rfl)]
 exact rId_vc
theorem known206:Known prog L206:=by
 unfold L206
 exact known205.lent mixed rId_has F205_eq rId_ok2 (fun _ _=>Nat.le_refl _) (fun _ _=>rfl)
theorem rid_at:ttOf L206 18=tLent rIdLS txRGet:=by
 unfold L206
 rfl
noncomputable def L207:List (Nat×SpecT AA):=(18,tLent rIdLS txRGet)::L191
theorem known207:Known prog L207:=by
 unfold L207
 exact known206.over _ _ rid_at known191
noncomputable def F207:Eng AA:=EF prog L207
theorem F207_eq:F207=EF prog L207:=by
 unfold F207
 rfl
structure TxB where
 t:TxD
 b:List Int
structure TxB.Ok (x:TxB):Prop where
 t:EncR x.t
 st:Small x.t
 b:DecIn x.b
noncomputable def txBytesLS:LS AA where
 X:=TxB
 pre:=TxB.Ok
 args:=fun x=>[.agg (txRSL x.t),.rints .u8 x.b]
 hin:=fun _=>[]
 res:=fun _=>[.sb 0 true]
 hout:=fun _=>[]
end Go.Proofs.YtcglahfmnoghjaaGreatDoor

/-! TxBytes: the walk. Conditions: none. -/
namespace Go.Proofs.YtcglahfmnoghjaaGreatDoor
open Go Go.Eng Go.Proofs.Tryz
def txBytesVC:Prop:=∀ (x:TxB),x.Ok→(x.t.lock=x.t.lock∧x.t.ins=x.t.ins∧x.t.outs=x.t.outs∧True)∧True∧Small x.t∧(longB x.t=true→True∧True∧True
 ∧ true=true∧True∧True)∧(longB x.t=false→x.b.length*(1:Nat)≤(140737488355328:Nat)∧x.b.length≤(1152921504606846976:Nat)∧x.b =
 x.b∧True∧DecIn x.b∧x.b=x.b∧True∧DecIn x.b∧(x.t.lock=x.t.lock∧x.t.ins=x.t.ins∧x.t.outs=x.t.outs∧True)∧True∧Small x.t ∧
 (x.t.lock=x.t.lock∧x.t.ins=x.t.ins∧x.t.outs=x.t.outs∧True)∧True∧TxOk x.t∧(x.t.lock=x.t.lock∧x.t.ins=x.t.ins∧x.t.outs =
 x.t.outs∧True)∧True∧EncR x.t∧((idB x.t==idB x.t)=true→(x.t.lock=x.t.lock∧x.t.ins=x.t.ins∧x.t.outs=x.t.outs∧True)∧True ∧
 Small x.t∧(x.t.lock=x.t.lock∧x.t.ins=x.t.ins∧x.t.outs=x.t.outs∧True)∧True∧EncOk x.t∧((x.t.lock=x.t.lock∧x.t.ins=x.t.ins ∧
 x.t.outs=x.t.outs∧True)∧True∧EncR x.t∧(((strOfNums (putTx (fun x=>x.secret) x.t)).toList==(strOfNums (putTx (fun x=>x.secret)
 x.t)).toList)=true→((decTxE x.b==decTxE x.b)=true→((decTxB x.b).lock=(decTxB x.b).lock∧(decTxB x.b).ins=(decTxB x.b).ins∧(decTxB
 x.b).outs=(decTxB x.b).outs∧True)∧True∧EncOk (decTxB x.b)∧(((decTxB x.b).lock=(decTxB x.b).lock∧(decTxB x.b).ins=(decTxB x.b).ins ∧
 (decTxB x.b).outs=(decTxB x.b).outs∧True)∧True∧EncR (decTxB x.b)∧(((strOfNums (putTx (fun x=>x.secret) (decTxB x.b))).toList==(strOfNums
 (putTx (fun x=>x.secret) (decTxB x.b))).toList)=true→((((strOfNums x.b).toList==(strOfNums x.b).toList)=true→True∧True∧True∧true =
 true∧True∧True)∧(((strOfNums x.b).toList==(strOfNums x.b).toList)=false→true=false∧True∧True))∧(((strOfNums x.b).toList ==
 (strOfNums x.b).toList)=true→True∧True∧True∧true=true∧True∧True)∧(((strOfNums x.b).toList==(strOfNums x.b).toList)=false→true =
 false∧True∧True))∧(((strOfNums (putTx (fun x=>x.secret) (decTxB x.b))).toList==(strOfNums (putTx (fun x=>x.secret) (decTxB x.b))).toList) =
 false→(true=false∧True∧True)∧true=false∧True∧True))∧((decTxB x.b).lock=(decTxB x.b).lock∧(decTxB x.b).ins=(decTxB x.b).ins ∧
 (decTxB x.b).outs=(decTxB x.b).outs∧True)∧True∧EncR (decTxB x.b)∧((((strOfNums (putTx (fun x=>x.secret) (decTxB x.b))).toList==(strOfNums
 (putTx (fun x=>x.secret) (decTxB x.b))).toList)=true→((((strOfNums x.b).toList==(strOfNums x.b).toList)=true→True∧True∧True∧true =
 true∧True∧True)∧(((strOfNums x.b).toList==(strOfNums x.b).toList)=false→true=false∧True∧True))∧(((strOfNums x.b).toList ==
 (strOfNums x.b).toList)=true→True∧True∧True∧true=true∧True∧True)∧(((strOfNums x.b).toList==(strOfNums x.b).toList)=false→true =
 false∧True∧True))∧(((strOfNums (putTx (fun x=>x.secret) (decTxB x.b))).toList==(strOfNums (putTx (fun x=>x.secret) (decTxB x.b))).toList) =
 false→(true=false∧True∧True)∧true=false∧True∧True))∧(((strOfNums (putTx (fun x=>x.secret) (decTxB x.b))).toList==(strOfNums
 (putTx (fun x=>x.secret) (decTxB x.b))).toList)=true→((((strOfNums x.b).toList==(strOfNums x.b).toList)=true→True∧True∧True∧true =
 true∧True∧True)∧(((strOfNums x.b).toList==(strOfNums x.b).toList)=false→true=false∧True∧True))∧(((strOfNums x.b).toList ==
 (strOfNums x.b).toList)=true→True∧True∧True∧true=true∧True∧True)∧(((strOfNums x.b).toList==(strOfNums x.b).toList)=false→true =
 false∧True∧True))∧(((strOfNums (putTx (fun x=>x.secret) (decTxB x.b))).toList==(strOfNums (putTx (fun x=>x.secret) (decTxB x.b))).toList) =
 false→(true=false∧True∧True)∧true=false∧True∧True))∧((decTxE x.b==decTxE x.b)=false→((true=false∧True∧True)∧true =
 false∧True∧True)∧((true=false∧True∧True)∧true=false∧True∧True)∧(true=false∧True∧True)∧true=false∧True∧True)) ∧
 (((strOfNums (putTx (fun x=>x.secret) x.t)).toList==(strOfNums (putTx (fun x=>x.secret) x.t)).toList)=false→((true=false∧True∧True) ∧
 true=false∧True∧True)∧((true=false∧True∧True)∧true=false∧True∧True)∧(true=false∧True∧True)∧true=false∧True∧True))
 ∧ (x.t.lock=x.t.lock∧x.t.ins=x.t.ins∧x.t.outs=x.t.outs∧True)∧True∧EncR x.t∧((((strOfNums (putTx (fun x=>x.secret) x.t)).toList ==
 (strOfNums (putTx (fun x=>x.secret) x.t)).toList)=true→((decTxE x.b==decTxE x.b)=true→((decTxB x.b).lock=(decTxB x.b).lock∧(decTxB
 x.b).ins=(decTxB x.b).ins∧(decTxB x.b).outs=(decTxB x.b).outs∧True)∧True∧EncOk (decTxB x.b)∧(((decTxB x.b).lock=(decTxB x.b).lock ∧
 (decTxB x.b).ins=(decTxB x.b).ins∧(decTxB x.b).outs=(decTxB x.b).outs∧True)∧True∧EncR (decTxB x.b)∧(((strOfNums (putTx (fun x=>
 x.secret) (decTxB x.b))).toList==(strOfNums (putTx (fun x=>x.secret) (decTxB x.b))).toList)=true→((((strOfNums x.b).toList==(strOfNums
 x.b).toList)=true→True∧True∧True∧true=true∧True∧True)∧(((strOfNums x.b).toList==(strOfNums x.b).toList)=false→true=false ∧
 True∧True))∧(((strOfNums x.b).toList==(strOfNums x.b).toList)=true→True∧True∧True∧true=true∧True∧True)∧(((strOfNums x.b).toList
 == (strOfNums x.b).toList)=false→true=false∧True∧True))∧(((strOfNums (putTx (fun x=>x.secret) (decTxB x.b))).toList==(strOfNums (putTx
 (fun x=>x.secret) (decTxB x.b))).toList)=false→(true=false∧True∧True)∧true=false∧True∧True))∧((decTxB x.b).lock=(decTxB
 x.b).lock∧(decTxB x.b).ins=(decTxB x.b).ins∧(decTxB x.b).outs=(decTxB x.b).outs∧True)∧True∧EncR (decTxB x.b)∧((((strOfNums (putTx (fun
 x=>x.secret) (decTxB x.b))).toList==(strOfNums (putTx (fun x=>x.secret) (decTxB x.b))).toList)=true→((((strOfNums x.b).toList==(strOfNums
 x.b).toList)=true→True∧True∧True∧true=true∧True∧True)∧(((strOfNums x.b).toList==(strOfNums x.b).toList)=false→true=false ∧
 True∧True))∧(((strOfNums x.b).toList==(strOfNums x.b).toList)=true→True∧True∧True∧true=true∧True∧True)∧(((strOfNums x.b).toList
 == (strOfNums x.b).toList)=false→true=false∧True∧True))∧(((strOfNums (putTx (fun x=>x.secret) (decTxB x.b))).toList==(strOfNums (putTx
 (fun x=>x.secret) (decTxB x.b))).toList)=false→(true=false∧True∧True)∧true=false∧True∧True))∧(((strOfNums (putTx (fun x=>
 x.secret) (decTxB x.b))).toList==(strOfNums (putTx (fun x=>x.secret) (decTxB x.b))).toList)=true→((((strOfNums x.b).toList==(strOfNums
 x.b).toList)=true→True∧True∧True∧true=true∧True∧True)∧(((strOfNums x.b).toList==(strOfNums x.b).toList)=false→true=false ∧
 True∧True))∧(((strOfNums x.b).toList==(strOfNums x.b).toList)=true→True∧True∧True∧true=true∧True∧True)∧(((strOfNums x.b).toList
 == (strOfNums x.b).toList)=false→true=false∧True∧True))∧(((strOfNums (putTx (fun x=>x.secret) (decTxB x.b))).toList==(strOfNums (putTx
 (fun x=>x.secret) (decTxB x.b))).toList)=false→(true=false∧True∧True)∧true=false∧True∧True))∧((decTxE x.b==decTxE x.b)=false
 → ((true=false∧True∧True)∧true=false∧True∧True)∧((true=false∧True∧True)∧true=false∧True∧True)∧(true=false∧True ∧
 True)∧true=false∧True∧True))∧(((strOfNums (putTx (fun x=>x.secret) x.t)).toList==(strOfNums (putTx (fun x=>x.secret) x.t)).toList) =
 false→((true=false∧True∧True)∧true=false∧True∧True)∧((true=false∧True∧True)∧true=false∧True∧True)∧(true=false ∧
 True∧True)∧true=false∧True∧True))∧(((strOfNums (putTx (fun x=>x.secret) x.t)).toList==(strOfNums (putTx (fun x=>x.secret)
 x.t)).toList)=true→((decTxE x.b==decTxE x.b)=true→((decTxB x.b).lock=(decTxB x.b).lock∧(decTxB x.b).ins=(decTxB x.b).ins∧(decTxB
 x.b).outs=(decTxB x.b).outs∧True)∧True∧EncOk (decTxB x.b)∧(((decTxB x.b).lock=(decTxB x.b).lock∧(decTxB x.b).ins=(decTxB x.b).ins ∧
 (decTxB x.b).outs=(decTxB x.b).outs∧True)∧True∧EncR (decTxB x.b)∧(((strOfNums (putTx (fun x=>x.secret) (decTxB x.b))).toList==(strOfNums
 (putTx (fun x=>x.secret) (decTxB x.b))).toList)=true→((((strOfNums x.b).toList==(strOfNums x.b).toList)=true→True∧True∧True∧true =
 true∧True∧True)∧(((strOfNums x.b).toList==(strOfNums x.b).toList)=false→true=false∧True∧True))∧(((strOfNums x.b).toList ==
 (strOfNums x.b).toList)=true→True∧True∧True∧true=true∧True∧True)∧(((strOfNums x.b).toList==(strOfNums x.b).toList)=false→true =
 false∧True∧True))∧(((strOfNums (putTx (fun x=>x.secret) (decTxB x.b))).toList==(strOfNums (putTx (fun x=>x.secret) (decTxB x.b))).toList) =
 false→(true=false∧True∧True)∧true=false∧True∧True))∧((decTxB x.b).lock=(decTxB x.b).lock∧(decTxB x.b).ins=(decTxB x.b).ins ∧
 (decTxB x.b).outs=(decTxB x.b).outs∧True)∧True∧EncR (decTxB x.b)∧((((strOfNums (putTx (fun x=>x.secret) (decTxB x.b))).toList==(strOfNums
 (putTx (fun x=>x.secret) (decTxB x.b))).toList)=true→((((strOfNums x.b).toList==(strOfNums x.b).toList)=true→True∧True∧True∧true =
 true∧True∧True)∧(((strOfNums x.b).toList==(strOfNums x.b).toList)=false→true=false∧True∧True))∧(((strOfNums x.b).toList ==
 (strOfNums x.b).toList)=true→True∧True∧True∧true=true∧True∧True)∧(((strOfNums x.b).toList==(strOfNums x.b).toList)=false→true =
 false∧True∧True))∧(((strOfNums (putTx (fun x=>x.secret) (decTxB x.b))).toList==(strOfNums (putTx (fun x=>x.secret) (decTxB x.b))).toList) =
 false→(true=false∧True∧True)∧true=false∧True∧True))∧(((strOfNums (putTx (fun x=>x.secret) (decTxB x.b))).toList==(strOfNums
 (putTx (fun x=>x.secret) (decTxB x.b))).toList)=true→((((strOfNums x.b).toList==(strOfNums x.b).toList)=true→True∧True∧True∧true =
 true∧True∧True)∧(((strOfNums x.b).toList==(strOfNums x.b).toList)=false→true=false∧True∧True))∧(((strOfNums x.b).toList ==
 (strOfNums x.b).toList)=true→True∧True∧True∧true=true∧True∧True)∧(((strOfNums x.b).toList==(strOfNums x.b).toList)=false→true =
 false∧True∧True))∧(((strOfNums (putTx (fun x=>x.secret) (decTxB x.b))).toList==(strOfNums (putTx (fun x=>x.secret) (decTxB x.b))).toList) =
 false→(true=false∧True∧True)∧true=false∧True∧True))∧((decTxE x.b==decTxE x.b)=false→((true=false∧True∧True)∧true =
 false∧True∧True)∧((true=false∧True∧True)∧true=false∧True∧True)∧(true=false∧True∧True)∧true=false∧True∧True)) ∧
 (((strOfNums (putTx (fun x=>x.secret) x.t)).toList==(strOfNums (putTx (fun x=>x.secret) x.t)).toList)=false→((true=false∧True∧True) ∧
 true=false∧True∧True)∧((true=false∧True∧True)∧true=false∧True∧True)∧(true=false∧True∧True)∧true=false∧True∧True))
 ∧ ((idB x.t==idB x.t)=false→(((true=false∧True∧True)∧true=false∧True∧True)∧((true=false∧True∧True)∧true=false∧True ∧
 True)∧(true=false∧True∧True)∧true=false∧True∧True)∧(((true=false∧True∧True)∧true=false∧True∧True)∧((true=false ∧
 True∧True)∧true=false∧True∧True)∧(true=false∧True∧True)∧true=false∧True∧True)∧((true=false∧True∧True)∧true=false
 ∧ True∧True)∧((true=false∧True∧True)∧true=false∧True∧True)∧(true=false∧True∧True)∧true=false∧True∧True))
theorem txBytes_eq:txBytesVC=fnS F207 f5 (bodyOf f5) txBytesLS noAnn:=by kernel_rfl
theorem txBytes_vc:txBytesVC:=by
 intro x hx
 have f:=dec_fine hx.b
 have h1:=hx.t
 have h2:=hx.st
 have h3:=hx.t.enc
 have h4:=hx.t.toTxOk
 have h5:=f.encOk
 have h6:=f.encR
 have h7:=hx.b
 have hl:=hx.b.len
 have l1:x.b.length≤140737488355328:=by omega
 have l2:x.b.length≤1152921504606846976:=by omega
 simp only [h1,h2,h3,h4,h5,h6,h7,l1,l2,Nat.mul_one,beq_self_eq_true,and_self,implies_true,Bool.true_eq_false,false_implies]
theorem txBytes_ok:Fits F207 f5 (bodyOf f5) txBytesLS noAnn:=by
 constructor
 rw [← txBytes_eq]
 exact txBytes_vc
theorem txBytes_has:Has prog 5 f5 (bodyOf f5):=⟨by kernel_rfl,by kernel_rfl,by kernel_rfl⟩
end Go.Proofs.YtcglahfmnoghjaaGreatDoor

/-! TxBytes' call. Conditions: none. -/
namespace Go.Proofs.YtcglahfmnoghjaaGreatDoor
open Go Go.Eng Go.Proofs.Tryz Go.ChangeShapes Go.WideShapes Go.RowKit
theorem TxIs.encR {t:TxD} {n:Nat} (h:TxIs t n) (hn:n≤1048576):EncR t:={ h.ok hn with
 s:=fun y hy=>Nat.le_trans (h.i y hy).2.1 (by omega)
 sum:=Nat.le_trans h.sum (by omega) }
theorem txBytes_calls {W:World} {vs:List Value} {x:TxB} (hx:x.Ok) (ha:ArgsR NoO [] W CC [.agg (txRSL x.t),.rints .u8 x.b] vs) (hg:Glob GG NoO [] W CC) :
  Calls prog 5 vs.toArray W fun e W'=>e = .returned (.bool true)∧Below W.heap.size W W':=by
 have hS:Sound F207:=by rw [F207_eq]; exact sound mixed known207
 exact law_calls (ee_P F207_eq) hS txBytes_has txBytes_ok x hx rfl rfl (fun _ _=>Nat.le_refl _) (by rw [ee_C F207_eq]; exact ha) (by rw [ee_GL F207_eq,ee_C F207_eq]; exact hg)
end Go.Proofs.YtcglahfmnoghjaaGreatDoor
